/-
  distafflaw06.ReaderDeep, part P: what is read: the scanner. No conditions.
-/
import Derived.Test.YtfcpiamdmbliaaaGreatDoorEvZw
import Derived.Test.YtfcpiamdmbliaaaGreatDoorEvZe
import Derived.Test.YtfcpiamdmbliaaaGreatDoorRows
set_option linter.unusedSimpArgs false
set_option linter.unusedVariables false
namespace Go.Proofs.YtfcpiamdmbliaaaGreatDoor.rd
open Go Go.Proofs Go.Proofs.YtfcpiamdmbliaaaGreatDoor.Ev

noncomputable section
variable {X : FuncId → List Value → Mem → Option (Value × Mem)}

theorem i3 : Tryz.prog.info? 3 = some Tryz.t3 := by kernel_rfl
theorem i4 : Tryz.prog.info? 4 = some Tryz.t4 := by kernel_rfl
theorem i5 : Tryz.prog.info? 5 = some Tryz.t5 := by kernel_rfl
theorem i9 : Tryz.prog.info? 9 = some Tryz.t9 := by kernel_rfl
theorem i22 : Tryz.prog.info? 22 = some Tryz.t22 := by kernel_rfl
theorem i24 : Tryz.prog.info? 24 = some Tryz.t24 := by kernel_rfl
theorem i25 : Tryz.prog.info? 25 = some Tryz.t25 := by kernel_rfl
theorem i27 : Tryz.prog.info? 27 = some Tryz.t27 := by kernel_rfl
theorem i30 : Tryz.prog.info? 30 = some Tryz.t30 := by kernel_rfl
theorem i37 : Tryz.prog.info? 37 = some Tryz.t37 := by kernel_rfl
theorem i39 : Tryz.prog.info? 39 = some Tryz.t39 := by kernel_rfl
theorem i43 : Tryz.prog.info? 43 = some Tryz.t43 := by kernel_rfl
theorem i45 : Tryz.prog.info? 45 = some Tryz.t45 := by kernel_rfl
theorem i46 : Tryz.prog.info? 46 = some Tryz.t46 := by kernel_rfl
theorem i47 : Tryz.prog.info? 47 = some Tryz.t47 := by kernel_rfl
theorem i49 : Tryz.prog.info? 49 = some Tryz.t49 := by kernel_rfl
theorem i51 : Tryz.prog.info? 51 = some Tryz.t51 := by kernel_rfl
theorem i56 : Tryz.prog.info? 56 = some Tryz.t56 := by kernel_rfl
theorem i57 : Tryz.prog.info? 57 = some Tryz.t57 := by kernel_rfl
theorem i59 : Tryz.prog.info? 59 = some Tryz.t59 := by kernel_rfl
theorem i61 : Tryz.prog.info? 61 = some Tryz.t61 := by kernel_rfl
theorem fa45_0 (ρ : Operand → Value) (x : Operand) : aFieldAddr Tryz.prog ρ 45 x 0 = (match ρ x with | .pointer (some a) => some (.pointer (some (a.add 0))) | _ => none) := fieldAddr_at (ft := 30) (off := 0) Tryz.underlying45 rfl i30 rfl ρ x
theorem fa45_1 (ρ : Operand → Value) (x : Operand) : aFieldAddr Tryz.prog ρ 45 x 1 = (match ρ x with | .pointer (some a) => some (.pointer (some (a.add 1))) | _ => none) := fieldAddr_at (ft := 3) (off := 1) Tryz.underlying45 rfl i3 rfl ρ x
theorem fa49_0 (ρ : Operand → Value) (x : Operand) : aFieldAddr Tryz.prog ρ 49 x 0 = (match ρ x with | .pointer (some a) => some (.pointer (some (a.add 0))) | _ => none) := fieldAddr_at (ft := 47) (off := 0) Tryz.underlying49 rfl i47 rfl ρ x
theorem fa49_1 (ρ : Operand → Value) (x : Operand) : aFieldAddr Tryz.prog ρ 49 x 1 = (match ρ x with | .pointer (some a) => some (.pointer (some (a.add 1))) | _ => none) := fieldAddr_at (ft := 3) (off := 1) Tryz.underlying49 rfl i3 rfl ρ x
theorem fa49_2 (ρ : Operand → Value) (x : Operand) : aFieldAddr Tryz.prog ρ 49 x 2 = (match ρ x with | .pointer (some a) => some (.pointer (some (a.add 2))) | _ => none) := fieldAddr_at (ft := 24) (off := 2) Tryz.underlying49 rfl i24 rfl ρ x
theorem fa51_0 (ρ : Operand → Value) (x : Operand) : aFieldAddr Tryz.prog ρ 51 x 0 = (match ρ x with | .pointer (some a) => some (.pointer (some (a.add 0))) | _ => none) := fieldAddr_at (ft := 3) (off := 0) Tryz.underlying51 rfl i3 rfl ρ x
theorem fa51_1 (ρ : Operand → Value) (x : Operand) : aFieldAddr Tryz.prog ρ 51 x 1 = (match ρ x with | .pointer (some a) => some (.pointer (some (a.add 1))) | _ => none) := fieldAddr_at (ft := 3) (off := 1) Tryz.underlying51 rfl i3 rfl ρ x
theorem fa51_2 (ρ : Operand → Value) (x : Operand) : aFieldAddr Tryz.prog ρ 51 x 2 = (match ρ x with | .pointer (some a) => some (.pointer (some (a.add 2))) | _ => none) := fieldAddr_at (ft := 9) (off := 2) Tryz.underlying51 rfl i9 rfl ρ x
theorem fa51_3 (ρ : Operand → Value) (x : Operand) : aFieldAddr Tryz.prog ρ 51 x 3 = (match ρ x with | .pointer (some a) => some (.pointer (some (a.add 3))) | _ => none) := fieldAddr_at (ft := 39) (off := 3) Tryz.underlying51 rfl i39 rfl ρ x
theorem fa56_0 (ρ : Operand → Value) (x : Operand) : aFieldAddr Tryz.prog ρ 56 x 0 = (match ρ x with | .pointer (some a) => some (.pointer (some (a.add 0))) | _ => none) := fieldAddr_at (ft := 51) (off := 0) Tryz.underlying56 rfl i51 rfl ρ x
theorem fa56_1 (ρ : Operand → Value) (x : Operand) : aFieldAddr Tryz.prog ρ 56 x 1 = (match ρ x with | .pointer (some a) => some (.pointer (some (a.add 11))) | _ => none) := fieldAddr_at (ft := 24) (off := 11) Tryz.underlying56 rfl i24 rfl ρ x
theorem fa56_2 (ρ : Operand → Value) (x : Operand) : aFieldAddr Tryz.prog ρ 56 x 2 = (match ρ x with | .pointer (some a) => some (.pointer (some (a.add 12))) | _ => none) := fieldAddr_at (ft := 4) (off := 12) Tryz.underlying56 rfl i4 rfl ρ x
theorem fa56_3 (ρ : Operand → Value) (x : Operand) : aFieldAddr Tryz.prog ρ 56 x 3 = (match ρ x with | .pointer (some a) => some (.pointer (some (a.add 13))) | _ => none) := fieldAddr_at (ft := 4) (off := 13) Tryz.underlying56 rfl i4 rfl ρ x
theorem fa39_0 (ρ : Operand → Value) (x : Operand) : aFieldAddr Tryz.prog ρ 39 x 0 = (match ρ x with | .pointer (some a) => some (.pointer (some (a.add 0))) | _ => none) := fieldAddr_at (ft := 3) (off := 0) Tryz.underlying39 rfl i3 rfl ρ x
theorem fa39_1 (ρ : Operand → Value) (x : Operand) : aFieldAddr Tryz.prog ρ 39 x 1 = (match ρ x with | .pointer (some a) => some (.pointer (some (a.add 1))) | _ => none) := fieldAddr_at (ft := 3) (off := 1) Tryz.underlying39 rfl i3 rfl ρ x
theorem fa39_2 (ρ : Operand → Value) (x : Operand) : aFieldAddr Tryz.prog ρ 39 x 2 = (match ρ x with | .pointer (some a) => some (.pointer (some (a.add 2))) | _ => none) := fieldAddr_at (ft := 37) (off := 2) Tryz.underlying39 rfl i37 rfl ρ x
theorem fa39_3 (ρ : Operand → Value) (x : Operand) : aFieldAddr Tryz.prog ρ 39 x 3 = (match ρ x with | .pointer (some a) => some (.pointer (some (a.add 6))) | _ => none) := fieldAddr_at (ft := 9) (off := 6) Tryz.underlying39 rfl i9 rfl ρ x
theorem fa39_4 (ρ : Operand → Value) (x : Operand) : aFieldAddr Tryz.prog ρ 39 x 4 = (match ρ x with | .pointer (some a) => some (.pointer (some (a.add 7))) | _ => none) := fieldAddr_at (ft := 24) (off := 7) Tryz.underlying39 rfl i24 rfl ρ x
theorem fa27_0 (ρ : Operand → Value) (x : Operand) : aFieldAddr Tryz.prog ρ 27 x 0 = (match ρ x with | .pointer (some a) => some (.pointer (some (a.add 0))) | _ => none) := fieldAddr_at (ft := 25) (off := 0) Tryz.underlying27 rfl i25 rfl ρ x
theorem fa27_1 (ρ : Operand → Value) (x : Operand) : aFieldAddr Tryz.prog ρ 27 x 1 = (match ρ x with | .pointer (some a) => some (.pointer (some (a.add 1))) | _ => none) := fieldAddr_at (ft := 3) (off := 1) Tryz.underlying27 rfl i3 rfl ρ x
theorem fa61_0 (ρ : Operand → Value) (x : Operand) : aFieldAddr Tryz.prog ρ 61 x 0 = (match ρ x with | .pointer (some a) => some (.pointer (some (a.add 0))) | _ => none) := fieldAddr_at (ft := 3) (off := 0) Tryz.underlying61 rfl i3 rfl ρ x
theorem ld3 (μ : Mem) (i o : Nat) : aLoad Tryz.prog μ 3 (.pointer (some ⟨i, o, none⟩)) = cellsAt μ i o := load_at Tryz.underlying3 rfl μ i o
theorem ld4 (μ : Mem) (i o : Nat) : aLoad Tryz.prog μ 4 (.pointer (some ⟨i, o, none⟩)) = cellsAt μ i o := load_at Tryz.underlying4 rfl μ i o
theorem ld5 (μ : Mem) (i o : Nat) : aLoad Tryz.prog μ 5 (.pointer (some ⟨i, o, none⟩)) = cellsAt μ i o := load_at Tryz.underlying5 rfl μ i o
theorem ld9 (μ : Mem) (i o : Nat) : aLoad Tryz.prog μ 9 (.pointer (some ⟨i, o, none⟩)) = cellsAt μ i o := load_at Tryz.underlying9 rfl μ i o
theorem ld24 (μ : Mem) (i o : Nat) : aLoad Tryz.prog μ 24 (.pointer (some ⟨i, o, none⟩)) = cellsAt μ i o := load_at Tryz.underlying24 rfl μ i o
theorem ld25 (μ : Mem) (i o : Nat) : aLoad Tryz.prog μ 25 (.pointer (some ⟨i, o, none⟩)) = cellsAt μ i o := load_at Tryz.underlying25 rfl μ i o
theorem ld30 (μ : Mem) (i o : Nat) : aLoad Tryz.prog μ 30 (.pointer (some ⟨i, o, none⟩)) = cellsAt μ i o := load_at Tryz.underlying30 rfl μ i o
theorem ld47 (μ : Mem) (i o : Nat) : aLoad Tryz.prog μ 47 (.pointer (some ⟨i, o, none⟩)) = cellsAt μ i o := load_at Tryz.underlying47 rfl μ i o
theorem ld59 (μ : Mem) (i o : Nat) : aLoad Tryz.prog μ 59 (.pointer (some ⟨i, o, none⟩)) = cellsAt μ i o := load_at Tryz.underlying59 rfl μ i o
theorem lds27 {μ : Mem} {i o : Nat} {l : List Value} (h : Has μ i o l) (hl : Tryz.t27.size = l.length) : aLoad Tryz.prog μ 27 (.pointer (some ⟨i, o, none⟩)) = some (.agg l.toArray) := h.load Tryz.underlying27 i27 hl
theorem lds37 {μ : Mem} {i o : Nat} {l : List Value} (h : Has μ i o l) (hl : Tryz.t37.size = l.length) : aLoad Tryz.prog μ 37 (.pointer (some ⟨i, o, none⟩)) = some (.agg l.toArray) := h.load Tryz.underlying37 i37 hl
theorem lds39 {μ : Mem} {i o : Nat} {l : List Value} (h : Has μ i o l) (hl : Tryz.t39.size = l.length) : aLoad Tryz.prog μ 39 (.pointer (some ⟨i, o, none⟩)) = some (.agg l.toArray) := h.load Tryz.underlying39 i39 hl
theorem lds51 {μ : Mem} {i o : Nat} {l : List Value} (h : Has μ i o l) (hl : Tryz.t51.size = l.length) : aLoad Tryz.prog μ 51 (.pointer (some ⟨i, o, none⟩)) = some (.agg l.toArray) := h.load Tryz.underlying51 i51 hl
theorem lds56 {μ : Mem} {i o : Nat} {l : List Value} (h : Has μ i o l) (hl : Tryz.t56.size = l.length) : aLoad Tryz.prog μ 56 (.pointer (some ⟨i, o, none⟩)) = some (.agg l.toArray) := h.load Tryz.underlying56 i56 hl

/-! ### the data -/
def dat (k : Nat) (tx : List UInt8) (it : Value) : List Value := [.int .i64 (.ofNat k), .int .i64 0, .bool false, .float .f64 0, .bool false, .slice none 0 0, .string ⟨tx.toArray⟩, it]
def dat0 : List Value := dat 0 [] (.slice none 0 0)
def num0 : Value := .agg #[.bool false, .float .f64 0, .bool false, .slice none 0 0]
def tok (k p : Nat) (tx : List UInt8) (d : List Value) : List Value := .int .i64 (.ofNat k) :: .int .i64 (.ofNat p) :: .string ⟨tx.toArray⟩ :: d
def opn (k p : Nat) (tx : List UInt8) (it : Value) (tail : Bool) : List Value := tok k p tx dat0 ++ [it, .bool false, .bool tail]

/-! ### what small functions return -/
def xT : List UInt8 := [120]
def quoteT : List UInt8 := [113, 117, 111, 116, 101]
def symx : List Value := dat 4 xT (.slice none 0 0)
def fBlank : List Value → Option Value
  | [.int .u8 (.ofNat n)] => if n = 40 ∨ n = 41 ∨ n = 35 ∨ n = 39 ∨ n = 120 then some (.bool false) else none
  | _ => none
def fDelim : List Value → Option Value
  | [.int .u8 (.ofNat n)] => if n = 120 then some (.bool false) else if n = 41 then some (.bool true) else none
  | _ => none
def fWord : List Value → Option Value
  | [.string s] => if s = ⟨xT.toArray⟩ then some (.tuple #[.agg symx.toArray, .int .i64 0]) else none
  | _ => none
def fName : List Value → Option Value
  | [.string s] => if s = ⟨xT.toArray⟩ ∨ s = ⟨quoteT.toArray⟩ then some (.bool true) else none
  | _ => none
def fRight (l : List Value) : Option Value := if veq.veqs 5 l [num0] then some (.bool true) else none
def fSame (l : List Value) : Option Value := if veq.veqs 5 l [num0, num0] then some (.bool true) else none
/-- what is known ahead -/
abbrev S0 : List (FuncId × LK) := [(4, .alive []), (32, .plain fBlank), (39, .plain fDelim), (18, .plain fWord), (41, .plain fName), (23, .plain fRight), (52, .plain fSame)]
end

noncomputable section
variable {X : FuncId → List Value → Mem → Option (Value × Mem)}

/-! ### calls of what is known -/
theorem kBlank {k n : Nat} {μ : Mem} (h : n = 40 ∨ n = 41 ∨ n = 35 ∨ n = 39 ∨ n = 120) : aCallS Tryz.prog (aCode Tryz.prog X S0 k) S0 32 [.int .u8 (.ofNat n)] μ = some (.bool false, μ) := call_plain (f := fBlank) rfl (by unfold fBlank; simp only [if_pos h]) rfl rfl
theorem kDelimX {k : Nat} {μ : Mem} : aCallS Tryz.prog (aCode Tryz.prog X S0 k) S0 39 [.int .u8 (.ofNat 120)] μ = some (.bool false, μ) := call_plain (f := fDelim) rfl rfl rfl rfl
theorem kDelimC {k : Nat} {μ : Mem} : aCallS Tryz.prog (aCode Tryz.prog X S0 k) S0 39 [.int .u8 (.ofNat 41)] μ = some (.bool true, μ) := call_plain (f := fDelim) rfl rfl rfl rfl
theorem kWord {k : Nat} {μ : Mem} : aCallS Tryz.prog (aCode Tryz.prog X S0 k) S0 18 [.string ⟨xT.toArray⟩] μ = some (.tuple #[.agg symx.toArray, .int .i64 0], μ) := call_plain (f := fWord) rfl rfl rfl rfl

/-! ### the scanner -/
structure Scan (μ : Mem) (sc tb : Nat) (bs : List UInt8) (p : Nat) : Prop where
  tx : cellsAt μ sc 0 = some (.slice (some ⟨tb, 0, none⟩) bs.length 3)
  tob : ∃ te z ov lo hi fx sh, μ.obs.get tb = some (.cells bs.length te z ov lo hi fx sh)
  at_ : cellsAt μ sc 1 = some (.int .i64 (.ofNat p))
  blk : Blk μ sc 2 45
  txt : ∀ k (h : k < bs.length), cellsAt μ tb k = some (.int .u8 (.ofNat bs[k].toNat))
  ne : sc ≠ tb
  n1 : sc < μ.next
  n2 : tb < μ.next
  len : bs.length < 100000
theorem Scan.grow {μ μ' : Mem} {sc tb p : Nat} {bs : List UInt8} (h : Scan μ sc tb bs p) (g : Grow μ μ') : Scan μ' sc tb bs p := by
  have e : ∀ i, i < μ.next → ∀ k, cellsAt μ' i k = cellsAt μ i k := fun i hi k => by unfold cellsAt; rw [g.2 i hi]
  exact ⟨(e sc h.n1 0).trans h.tx, by rw [g.2 tb h.n2]; exact h.tob, (e sc h.n1 1).trans h.at_, by unfold Blk; rw [g.2 sc h.n1]; exact h.blk, fun k hk => (e tb h.n2 k).trans (h.txt k hk), h.ne, Nat.lt_of_lt_of_le h.n1 g.1, Nat.lt_of_lt_of_le h.n2 g.1, h.len⟩
theorem Scan.step {μ : Mem} {sc tb p q : Nat} {bs : List UInt8} (h : Scan μ sc tb bs p) : Scan (putL μ sc 1 [.int .i64 (.ofNat q)]) sc tb bs q := by
  have hc := h.tx
  refine ⟨?_, by rw [putL_get _ _ _ _ (Ne.symm h.ne)]; exact h.tob, ?_, h.blk.put _ _, fun k hk => ?_, h.ne, by rw [putL_next]; exact h.n1, by rw [putL_next]; exact h.n2, h.len⟩
  · rw [cells_put h.blk (by show 1 + 1 ≤ 2; decide), dif_neg (by rintro ⟨_, g, _⟩; omega)]; exact hc
  · rw [cells_put h.blk (by show 1 + 1 ≤ 2; decide), dif_pos ⟨rfl, Nat.le_refl _, Nat.lt_succ_self _⟩]; rfl
  · rw [cells_off (Ne.symm h.ne)]; exact h.txt k hk
/-- only the scanner is turned -/
def Turns (μ μ' : Mem) (sc : Nat) : Prop := μ.next ≤ μ'.next ∧ ∀ i, i < μ.next → i ≠ sc → μ'.obs.get i = μ.obs.get i
theorem Turns.grow {μ μ' : Mem} {sc : Nat} (h : Grow μ μ') : Turns μ μ' sc := ⟨h.1, fun i hi _ => h.2 i hi⟩
theorem Turns.trans {a b c : Mem} {sc : Nat} (h : Turns a b sc) (g : Turns b c sc) : Turns a c sc := ⟨Nat.le_trans h.1 g.1, fun i hi hn => (g.2 i (Nat.lt_of_lt_of_le hi h.1) hn).trans (h.2 i hi hn)⟩
theorem Turns.put (μ : Mem) (sc o : Nat) (vs : List Value) : Turns μ (putL μ sc o vs) sc := ⟨by rw [putL_next]; exact Nat.le_refl _, fun i _ hn => putL_get _ _ _ _ hn⟩

theorem idx30 {bs : List UInt8} {tb c p : Nat} (hp : p < bs.length) : ∀ ρ : Operand → Value, ∀ a b, ρ a = .slice (some ⟨tb, 0, none⟩) bs.length c → ρ b = .int .i64 (.ofNat p) → aIndexAddr Tryz.prog ρ 30 a b = some (.pointer (some ⟨tb, p, none⟩)) := fun ρ a b g1 g2 => by
  rw [indexAddr_slice (P := Tryz.prog) Tryz.underlying30 i5 rfl g1 g2 hp, Nat.zero_add]

set_option maxHeartbeats 4000000 in
theorem skip_end {k sc tb p : Nat} {bs : List UInt8} {μ : Mem} (hS : Scan μ sc tb bs p) (hp : bs.length ≤ p) (hp2 : p < 1000000) :
    EndsF (aFun Tryz.prog (aCode Tryz.prog X S0 (k + 30)) 13 [.pointer (some ⟨sc, 0, none⟩)] μ) fun v μ' => v = .tuple #[] ∧ Grow μ μ' := by
  obtain ⟨c, hc⟩ : ∃ c, cellsAt μ sc 0 = some (.slice (some ⟨tb, 0, none⟩) bs.length c) := ⟨3, hS.tx⟩
  have hc : ∀ y, cellsAt ⟨μ.obs, y⟩ sc 0 = some (.slice (some ⟨tb, 0, none⟩) bs.length c) := fun y => hc
  have ha : ∀ y, cellsAt ⟨μ.obs, y⟩ sc 1 = some (.int .i64 (.ofNat p)) := fun y => hS.at_
  have e1 : decide (p < bs.length) = false := decide_eq_false (by omega)
  refine fun_enter Tryz.func13 rfl rfl (Nat.le_of_ble_eq_true rfl) ?_
  simp only [T.lay, Nat.zero_add, Tryz.ntmps13, Nat.reduceAdd]
  refine code_block ?_
  refine code_loop ?_
  refine code_seq ?_
  refine code_seq ?_
  refine code_draw (n := 10) (ms := [0, 1, 3, 7, 0, 16, 48, 112, 240, 511]) (ord := [0, 1, 2, 3, 4, 5, 6, 7, 8, 9]) (ds := ?_) ?_ ?_ ?_ ?_ ?_ ?_
  rotate_left
  · kernel_rfl
  · kernel_rfl
  · kernel_rfl
  · rfl
  · rfl
  simp only [dRun, wanted, aDrawOne, heavy, aReads, bef, aOne, aP, aR, aA, aT, aCall, aCallVal, aev, regAt_set, aput_mk, aput_none, plainV, aNilCheck, aExtract, aBin, aInt, Addr.add, Nat.zero_add, ends_some, Nat.reduceLT, Nat.reduceAdd, if_true, then_normal, Nat.reduceEqDiff, if_false, reduceIte, reduceCtorEq, decide_true, decide_false, Bool.not_true, Bool.not_false, beq_self_eq_true, beq_tf, beq_ft, aPick, List.map_cons, List.map_nil, List.nil_append, List.append_nil, List.getElem?_cons_zero, List.getElem?_cons_succ, endsD_some, eqVal_self, aBuiltin, aLen, Tryz.underlying30, cast_nat, fa45_0, fa45_1, Nat.add_zero, ld3, ld30, hc, ha, ilt_nat, e1]
  refine code_cond_false ?_ ?_
  · simp only [aev, regAt_set, Nat.reduceEqDiff, reduceIte]
  refine code_exit ?_
  simp only [then_exit]
  simp only [blockC, reduceIte]
  exact ⟨rfl, .tuple #[], rfl, rfl, grow_up μ 10⟩

set_option maxHeartbeats 4000000 in
theorem skip_at {k sc tb p b : Nat} {bs : List UInt8} {μ : Mem} (hS : Scan μ sc tb bs p) (hp : p < bs.length) (hb : bs[p].toNat = b) (h : b = 40 ∨ b = 41 ∨ b = 35 ∨ b = 39 ∨ b = 120) :
    EndsF (aFun Tryz.prog (aCode Tryz.prog X S0 (k + 30)) 13 [.pointer (some ⟨sc, 0, none⟩)] μ) fun v μ' => v = .tuple #[] ∧ Grow μ μ' := by
  obtain ⟨c, hc⟩ : ∃ c, cellsAt μ sc 0 = some (.slice (some ⟨tb, 0, none⟩) bs.length c) := ⟨3, hS.tx⟩
  have hc : ∀ y, cellsAt ⟨μ.obs, y⟩ sc 0 = some (.slice (some ⟨tb, 0, none⟩) bs.length c) := fun y => hc
  have ha : ∀ y, cellsAt ⟨μ.obs, y⟩ sc 1 = some (.int .i64 (.ofNat p)) := fun y => hS.at_
  have ht : ∀ y, cellsAt ⟨μ.obs, y⟩ tb p = some (.int .u8 (.ofNat b)) := fun y => by rw [← hb]; exact hS.txt p hp
  have e2 : ieq (.ofNat b) 59 = false := (ieq_nat b 59).trans (decide_eq_false (by omega))
  have hi := idx30 (tb := tb) (c := c) hp
  refine fun_enter Tryz.func13 rfl rfl (Nat.le_of_ble_eq_true rfl) ?_
  simp only [T.lay, Nat.zero_add, Tryz.ntmps13, Nat.reduceAdd]
  refine code_block ?_
  refine code_loop ?_
  refine code_seq ?_
  refine code_seq ?_
  refine code_draw (n := 10) (ms := [0, 1, 3, 7, 0, 16, 48, 112, 240, 511]) (ord := [0, 1, 2, 3, 4, 5, 6, 7, 8, 9]) (ds := ?_) ?_ ?_ ?_ ?_ ?_ ?_
  rotate_left
  · kernel_rfl
  · kernel_rfl
  · kernel_rfl
  · rfl
  · rfl
  simp only [dRun, wanted, aDrawOne, heavy, aReads, bef, aOne, aP, aR, aA, aT, aCall, aCallVal, aev, regAt_set, aput_mk, aput_none, plainV, aNilCheck, aExtract, aBin, aInt, Addr.add, Nat.zero_add, ends_some, Nat.reduceLT, Nat.reduceAdd, if_true, then_normal, Nat.reduceEqDiff, if_false, reduceIte, reduceCtorEq, decide_true, decide_false, Bool.not_true, Bool.not_false, beq_self_eq_true, beq_tf, beq_ft, aPick, List.map_cons, List.map_nil, List.nil_append, List.append_nil, List.getElem?_cons_zero, List.getElem?_cons_succ, endsD_some, eqVal_self, aBuiltin, aLen, Tryz.underlying30, cast_nat, fa45_0, fa45_1, Nat.add_zero, ld3, ld30, hc, ha, ilt_nat, hp]
  refine code_cond_true ?_ ?_
  · simp only [aev, regAt_set, Nat.reduceEqDiff, reduceIte]
  refine code_skip ?_
  simp only [then_normal]
  refine code_block ?_
  refine code_seq ?_
  refine code_draw (n := 11) (ms := [0, 1, 3, 7, 0, 16, 48, 112, 255, 511, 1023]) (ord := [0, 1, 2, 3, 4, 5, 6, 7, 8, 9, 10]) (ds := ?_) ?_ ?_ ?_ ?_ ?_ ?_
  rotate_left
  · kernel_rfl
  · kernel_rfl
  · kernel_rfl
  · rfl
  · rfl
  simp only [dRun, wanted, aDrawOne, heavy, aReads, bef, aOne, aP, aR, aA, aT, aCall, aCallVal, aev, regAt_set, aput_mk, aput_none, plainV, aNilCheck, aExtract, aBin, aInt, Addr.add, Nat.zero_add, ends_some, Nat.reduceLT, Nat.reduceAdd, if_true, then_normal, Nat.reduceEqDiff, if_false, reduceIte, reduceCtorEq, decide_true, decide_false, Bool.not_true, Bool.not_false, beq_self_eq_true, beq_tf, beq_ft, aPick, List.map_cons, List.map_nil, List.nil_append, List.append_nil, List.getElem?_cons_zero, List.getElem?_cons_succ, endsD_some, eqVal_self, fa45_0, fa45_1, Nat.add_zero, ld3, ld5, ld30, hc, ha, hi, ht]
  refine code_block ?_
  refine code_seq ?_
  refine code_region ?_ ?_
  · rfl
  simp only [run1, aOne, aP, aR, aA, aT, aCall, aCallVal, aev, regAt_set, aput_mk, aput_none, plainV, aNilCheck, aExtract, aBin, aInt, Addr.add, Nat.zero_add, ends_some, Nat.reduceLT, Nat.reduceAdd, if_true, then_normal, Nat.reduceEqDiff, if_false, reduceIte, reduceCtorEq, decide_true, decide_false, Bool.not_true, Bool.not_false, beq_self_eq_true, beq_tf, beq_ft, aPick, List.map_cons, List.map_nil, List.nil_append, List.append_nil, List.getElem?_cons_zero, List.getElem?_cons_succ, go_body (P := Tryz.prog) Tryz.func32 rfl, kBlank h]
  refine code_cond_false ?_ ?_
  · simp only [aev, regAt_set, Nat.reduceEqDiff, reduceIte]
  refine code_seq ?_
  refine code_region ?_ ?_
  · rfl
  simp only [run1, aOne, aP, aR, aA, aT, aCall, aCallVal, aev, regAt_set, aput_mk, aput_none, plainV, aNilCheck, aExtract, aBin, aInt, Addr.add, Nat.zero_add, ends_some, Nat.reduceLT, Nat.reduceAdd, if_true, then_normal, Nat.reduceEqDiff, if_false, reduceIte, reduceCtorEq, decide_true, decide_false, Bool.not_true, Bool.not_false, beq_self_eq_true, beq_tf, beq_ft, aPick, List.map_cons, List.map_nil, List.nil_append, List.append_nil, List.getElem?_cons_zero, List.getElem?_cons_succ, e2]
  refine code_cond_false ?_ ?_
  · simp only [aev, regAt_set, Nat.reduceEqDiff, reduceIte]
  refine code_ret ?_
  simp only [blockC, then_ret]
  exact ⟨rfl, .tuple #[], rfl, rfl, (grow_up μ 10).trans (grow_up ⟨μ.obs, μ.next + 10⟩ 11)⟩
end

noncomputable section
variable {X : FuncId → List Value → Mem → Option (Value × Mem)}

theorem Turns.put_new {a b : Mem} {sc : Nat} (h : Turns a b sc) {i o : Nat} {vs : List Value} (hi : a.next ≤ i) : Turns a (putL b i o vs) sc := ⟨by rw [putL_next]; exact h.1, fun j hj hn => by rw [putL_get _ _ _ _ (by omega)]; exact h.2 j hj hn⟩
theorem Scan.put {μ : Mem} {sc tb p i o : Nat} {bs : List UInt8} {vs : List Value} (h : Scan μ sc tb bs p) (h1 : i ≠ sc) (h2 : i ≠ tb) : Scan (putL μ i o vs) sc tb bs p := by
  exact ⟨(cells_off (Ne.symm h1)).trans h.tx, by rw [putL_get _ _ _ _ (Ne.symm h2)]; exact h.tob, (cells_off (Ne.symm h1)).trans h.at_, h.blk.put _ _, fun k hk => (cells_off (Ne.symm h2)).trans (h.txt k hk), h.ne, by rw [putL_next]; exact h.n1, by rw [putL_next]; exact h.n2, h.len⟩
theorem z51 : aZeroOf Tryz.prog 51 = some (.agg (tok 0 0 [] dat0).toArray) := by unfold aZeroOf; rw [i51]; rfl
theorem al51 : aAlloc Tryz.prog 51 = some (.cells 11 51 (tok 0 0 [] dat0).toArray .e 0 0 false false, fun id => .pointer (some ⟨id, 0, none⟩)) := by unfold aAlloc; rw [z51]; rfl
theorem z39 : aZeroOf Tryz.prog 39 = some (.agg dat0.toArray) := by unfold aZeroOf; rw [i39]; rfl
theorem al39 : aAlloc Tryz.prog 39 = some (.cells 8 39 dat0.toArray .e 0 0 false false, fun id => .pointer (some ⟨id, 0, none⟩)) := by unfold aAlloc; rw [z39]; rfl
theorem tok_len (k p : Nat) (tx : List UInt8) (d : List Value) (h : d.length = 8) : (tok k p tx d).length = 11 := by show d.length + 1 + 1 + 1 = 11; omega
theorem tok_one (k p : Nat) (tx : List UInt8) (d : List Value) (h : d.all one = true) : (tok k p tx d).all one = true := by
  show (true && (true && (true && d.all one))) = true
  rw [h]; rfl
theorem bd51 (ρ : Operand → Value) (a b : Operand) (k p : Nat) (h1 : ρ a = .int .i64 (.ofNat k)) (h2 : ρ b = .int .i64 (.ofNat p)) : aBuild Tryz.prog ρ 51 #[(0, a), (1, b)] = some (.agg (tok k p [] dat0).toArray) := by
  refine build_struct (pl := [(0, 1), (1, 1), (2, 1), (3, 8)]) z51 Tryz.underlying51 (by kernel_rfl) ?_
  show aFill _ (tok 0 0 [] dat0) [(0, ρ a), (1, ρ b)] = some (tok k p [] dat0)
  rw [aFill_one (off := 0) rfl (by rw [h1]; rfl) (by decide), aFill_one (off := 1) rfl (by rw [h2]; rfl) (by rw [List.length_set]; decide), h1, h2]
  rfl
end

noncomputable section
variable {X : FuncId → List Value → Mem → Option (Value × Mem)}

set_option maxHeartbeats 4000000 in
theorem next_end {k sc tb p : Nat} {bs : List UInt8} {μ : Mem} (hS : Scan μ sc tb bs p) (hp : bs.length ≤ p) (hp2 : p < 1000000) :
    EndsF (aFun Tryz.prog (aCode Tryz.prog X S0 (k + 200)) 8 [.pointer (some ⟨sc, 0, none⟩)] μ) fun v μ' => v = .tuple #[.agg (tok 0 p [] dat0).toArray, .int .i64 0] ∧ Scan μ' sc tb bs p ∧ Turns μ μ' sc := by
  have hga := grow1 μ (.cells 11 51 (tok 0 0 [] dat0).toArray .e 0 0 false false)
  obtain ⟨μa, hμa⟩ : ∃ m : Mem, m = ⟨μ.obs.set μ.next (.cells 11 51 (tok 0 0 [] dat0).toArray .e 0 0 false false), μ.next + 1⟩ := ⟨_, rfl⟩
  rw [← hμa] at hga
  have hμa' : (⟨μ.obs.set μ.next (.cells 11 51 (tok 0 0 [] dat0).toArray .e 0 0 false false), Nat.add μ.next 1⟩ : Mem) = μa := hμa.symm
  have ha2 : Blk μa μ.next 11 51 := ⟨_, _, _, _, by rw [hμa]; show T.get _ _ = _; rw [T.get_set, if_pos rfl]⟩
  have hna : μa.next = μ.next + 1 := by rw [hμa]
  obtain ⟨vs, μb, hsk, hvs, hgb⟩ := skip_end (X := X) (k := k + 167) (hS.grow hga) hp hp2
  subst hvs
  have hsk : aFun Tryz.prog (aCode Tryz.prog X S0 (k + 197)) 13 [.pointer (some ⟨sc, 0, none⟩)] μa = some (.tuple #[], μb) := hsk
  have hgab := hga.trans hgb
  have hSb := hS.grow hgab
  have hnb : μ.next < μb.next := by have := hgb.1; omega
  have hgc := grow1 μb (.cells 11 51 (tok 0 0 [] dat0).toArray .e 0 0 false false)
  have hc4 : Blk ⟨μb.obs.set μb.next (.cells 11 51 (tok 0 0 [] dat0).toArray .e 0 0 false false), Nat.add μb.next 1⟩ μb.next 11 51 := ⟨_, _, _, _, by show T.get _ _ = _; rw [T.get_set, if_pos rfl]⟩
  have hst1 := store_puts (P := Tryz.prog) (t := 51) (vs := tok 6 p [] dat0) (o := 0) i51 rfl rfl hc4 (Nat.le_refl _)
  obtain ⟨μd, hμd⟩ : ∃ m : Mem, m = putL ⟨μb.obs.set μb.next (.cells 11 51 (tok 0 0 [] dat0).toArray .e 0 0 false false), Nat.add μb.next 1⟩ μb.next 0 (tok 6 p [] dat0) := ⟨_, rfl⟩
  rw [← hμd] at hst1
  have hgbd : Grow μb μd := by rw [hμd]; exact hgc.put_new (Nat.le_refl _)
  have hgd := hgab.trans hgbd
  have hSd := hS.grow hgd
  have hd4 : Blk μd μb.next 11 51 := by rw [hμd]; exact hc4.put _ _
  have hd2 : Blk μd μ.next 11 51 := (ha2.of_get (hgb.2 _ (by omega))).of_get (hgbd.2 _ (by omega))
  have ht4 : Has μd μb.next 0 (tok 6 p [] dat0) := by rw [hμd]; exact Has.of_put hc4 (Nat.le_refl _)
  have hnd : μd.next = μb.next + 1 := by rw [hμd, putL_next]
  have h4sc : μb.next ≠ sc := by have := hSb.n1; omega
  have h4tb : μb.next ≠ tb := by have := hSb.n2; omega
  have h2sc : μ.next ≠ sc := by have := hS.n1; omega
  have h2tb : μ.next ≠ tb := by have := hS.n2; omega
  obtain ⟨cc, hc0⟩ : ∃ cc, cellsAt μd sc 0 = some (.slice (some ⟨tb, 0, none⟩) bs.length cc) := ⟨3, hSd.tx⟩
  have hcb : cellsAt μb sc 1 = some (.int .i64 (.ofNat p)) := hSb.at_
  have hc : ∀ y, cellsAt ⟨μd.obs, y⟩ sc 0 = some (.slice (some ⟨tb, 0, none⟩) bs.length cc) := fun y => hc0
  have ha : ∀ y, cellsAt ⟨μd.obs, y⟩ sc 1 = some (.int .i64 (.ofNat p)) := fun y => hSd.at_
  have e1 : decide (p < bs.length) = false := decide_eq_false (by omega)
  have hst2 := store_put (P := Tryz.prog) (t := 3) (v := .int .i64 0) (μ := ⟨μd.obs, μd.next + 10⟩) i3 rfl rfl (show Blk ⟨μd.obs, μd.next + 10⟩ μb.next 11 51 from hd4) (show 0 < 11 by decide)
  obtain ⟨μh, hμh⟩ : ∃ m : Mem, m = putL ⟨μd.obs, μd.next + 10⟩ μb.next 0 [.int .i64 0] := ⟨_, rfl⟩
  rw [← hμh] at hst2
  have hg1 := hgd.trans (grow_up μd 10)
  have hgh : Grow μ μh := by rw [hμh]; exact hg1.put_new (by omega)
  have hh4 : Has μh μb.next 0 (tok 0 p [] dat0) := by rw [hμh]; exact Has.set (o := 0) (k := 0) (l := tok 6 p [] dat0) (show Has ⟨μd.obs, μd.next + 10⟩ μb.next 0 (tok 6 p [] dat0) from ht4) (show Blk ⟨μd.obs, μd.next + 10⟩ μb.next 11 51 from hd4) (Nat.zero_lt_succ _)
  have hh2 : Blk μh μ.next 11 51 := by rw [hμh]; exact Blk.put _ _ (show Blk ⟨μd.obs, μd.next + 10⟩ μ.next 11 51 from hd2)
  have hl := lds51 hh4 rfl
  have hst3 := store_puts (P := Tryz.prog) (t := 51) (vs := tok 0 p [] dat0) (o := 0) i51 rfl rfl hh2 (Nat.le_refl _)
  have hl2 := lds51 (Has.of_put (o := 0) (vs := tok 0 p [] dat0) hh2 (Nat.le_refl _)) rfl
  have hbd : ∀ (r : Rg) (b : Operand), aev Tryz.prog r b = .int .i64 (.ofNat p) → aBuild Tryz.prog (aev Tryz.prog r) 51 #[(0, .const (.int .i64 6)), (1, b)] = some (.agg (tok 6 p [] dat0).toArray) := fun r b h => bd51 _ _ _ 6 p rfl h
  refine fun_enter Tryz.func8 rfl rfl (Nat.le_of_ble_eq_true rfl) ?_
  simp only [T.lay, Nat.zero_add, Tryz.ntmps8, Nat.reduceAdd]
  refine code_seq ?_
  refine code_region ?_ ?_
  · rfl
  simp only [run1, aOne, aP, aR, aA, aT, aCall, aCallVal, aev, regAt_set, aput_mk, aput_none, plainV, aNilCheck, aExtract, aBin, aInt, Addr.add, Nat.zero_add, ends_some, Nat.reduceLT, Nat.reduceAdd, if_true, then_normal, Nat.reduceEqDiff, if_false, reduceIte, reduceCtorEq, decide_true, decide_false, Bool.not_true, Bool.not_false, beq_self_eq_true, beq_tf, beq_ft, aPick, List.map_cons, List.map_nil, List.nil_append, List.append_nil, List.getElem?_cons_zero, List.getElem?_cons_succ, al51, hμa']
  refine code_seq ?_
  refine code_region ?_ ?_
  · rfl
  simp only [run1, aOne, aP, aR, aA, aT, aCall, aCallVal, aev, regAt_set, aput_mk, aput_none, plainV, aNilCheck, aExtract, aBin, aInt, Addr.add, Nat.zero_add, ends_some, Nat.reduceLT, Nat.reduceAdd, if_true, then_normal, Nat.reduceEqDiff, if_false, reduceIte, reduceCtorEq, decide_true, decide_false, Bool.not_true, Bool.not_false, beq_self_eq_true, beq_tf, beq_ft, aPick, List.map_cons, List.map_nil, List.nil_append, List.append_nil, List.getElem?_cons_zero, List.getElem?_cons_succ, go_call (P := Tryz.prog) (X := X) (S := S0) Tryz.func13 rfl rfl, hsk]
  refine code_seq ?_
  refine code_region ?_ ?_
  · rfl
  simp only [run1, aOne, aP, aR, aA, aT, aCall, aCallVal, aev, regAt_set, aput_mk, aput_none, plainV, aNilCheck, aExtract, aBin, aInt, Addr.add, Nat.zero_add, ends_some, Nat.reduceLT, Nat.reduceAdd, if_true, then_normal, Nat.reduceEqDiff, if_false, reduceIte, reduceCtorEq, decide_true, decide_false, Bool.not_true, Bool.not_false, beq_self_eq_true, beq_tf, beq_ft, aPick, List.map_cons, List.map_nil, List.nil_append, List.append_nil, List.getElem?_cons_zero, List.getElem?_cons_succ, fa45_1, ld3, hcb, hbd, al51, hst1]
  refine code_seq ?_
  refine code_seq ?_
  refine code_draw (n := 10) (ms := [0, 1, 3, 7, 0, 16, 48, 112, 240, 511]) (ord := [0, 1, 2, 3, 4, 5, 6, 7, 8, 9]) (ds := ?_) ?_ ?_ ?_ ?_ ?_ ?_
  rotate_left
  · kernel_rfl
  · kernel_rfl
  · kernel_rfl
  · rfl
  · rfl
  simp only [dRun, wanted, aDrawOne, heavy, aReads, bef, aOne, aP, aR, aA, aT, aCall, aCallVal, aev, regAt_set, aput_mk, aput_none, plainV, aNilCheck, aExtract, aBin, aInt, Addr.add, Nat.zero_add, ends_some, Nat.reduceLT, Nat.reduceAdd, if_true, then_normal, Nat.reduceEqDiff, if_false, reduceIte, reduceCtorEq, decide_true, decide_false, Bool.not_true, Bool.not_false, beq_self_eq_true, beq_tf, beq_ft, aPick, List.map_cons, List.map_nil, List.nil_append, List.append_nil, List.getElem?_cons_zero, List.getElem?_cons_succ, endsD_some, eqVal_self, aBuiltin, aLen, Tryz.underlying30, cast_nat, fa45_0, fa45_1, Nat.add_zero, ld3, ld30, hc, ha, ilt_nat, e1]
  refine code_cond_true ?_ ?_
  · simp only [aev, regAt_set, Nat.reduceEqDiff, reduceIte]
  refine code_seq ?_
  refine code_region ?_ ?_
  · rfl
  simp only [run1, aOne, aP, aR, aA, aT, aCall, aCallVal, aev, regAt_set, aput_mk, aput_none, plainV, aNilCheck, aExtract, aBin, aInt, Addr.add, Nat.zero_add, ends_some, Nat.reduceLT, Nat.reduceAdd, if_true, then_normal, Nat.reduceEqDiff, if_false, reduceIte, reduceCtorEq, decide_true, decide_false, Bool.not_true, Bool.not_false, beq_self_eq_true, beq_tf, beq_ft, aPick, List.map_cons, List.map_nil, List.nil_append, List.append_nil, List.getElem?_cons_zero, List.getElem?_cons_succ, fa51_0, hst2]
  refine code_seq ?_
  refine code_region ?_ ?_
  · rfl
  simp only [run1, aOne, aP, aR, aA, aT, aCall, aCallVal, aev, regAt_set, aput_mk, aput_none, plainV, aNilCheck, aExtract, aBin, aInt, Addr.add, Nat.zero_add, ends_some, Nat.reduceLT, Nat.reduceAdd, if_true, then_normal, Nat.reduceEqDiff, if_false, reduceIte, reduceCtorEq, decide_true, decide_false, Bool.not_true, Bool.not_false, beq_self_eq_true, beq_tf, beq_ft, aPick, List.map_cons, List.map_nil, List.nil_append, List.append_nil, List.getElem?_cons_zero, List.getElem?_cons_succ, hl, hst3]
  refine code_ret ?_
  have hgi := hgh.put_new (i := μ.next) (o := 0) (vs := tok 0 p [] dat0) (Nat.le_refl _)
  refine ⟨rfl, .tuple #[.agg (tok 0 p [] dat0).toArray, .int .i64 0], ?_, rfl, hS.grow hgi, Turns.grow hgi⟩
  simp only [aResults, Tryz.results8, aRes, regAt_set, Nat.reduceEqDiff, reduceIte, hl2]

theorem quotes_q {k sc : Nat} {μ : Mem} : aFun Tryz.prog (aCode Tryz.prog X S0 (k + 20)) 15 [.pointer (some ⟨sc, 0, none⟩), .int .u8 (.ofNat 39)] μ = some (.string ⟨quoteT.toArray⟩, μ) := by
  refine ends_eq ?_
  have e1 : ieq (.ofNat 39) 39 = true := rfl
  refine fun_enter Tryz.func15 rfl rfl (Nat.le_of_ble_eq_true rfl) ?_
  simp only [T.lay, Nat.zero_add, Tryz.ntmps15, Nat.reduceAdd]
  refine code_seq ?_
  refine code_region ?_ ?_
  · rfl
  simp only [run1, aOne, aP, aR, aA, aT, aCall, aCallVal, aev, regAt_set, aput_mk, aput_none, plainV, aNilCheck, aExtract, aBin, aInt, Addr.add, Nat.zero_add, ends_some, Nat.reduceLT, Nat.reduceAdd, if_true, then_normal, Nat.reduceEqDiff, if_false, reduceIte, reduceCtorEq, decide_true, decide_false, Bool.not_true, Bool.not_false, beq_self_eq_true, beq_tf, beq_ft, aPick, List.map_cons, List.map_nil, List.nil_append, List.append_nil, List.getElem?_cons_zero, List.getElem?_cons_succ]
  refine code_seq ?_
  refine code_block ?_
  refine code_seq ?_
  refine code_region ?_ ?_
  · rfl
  simp only [run1, aOne, aP, aR, aA, aT, aCall, aCallVal, aev, regAt_set, aput_mk, aput_none, plainV, aNilCheck, aExtract, aBin, aInt, Addr.add, Nat.zero_add, ends_some, Nat.reduceLT, Nat.reduceAdd, if_true, then_normal, Nat.reduceEqDiff, if_false, reduceIte, reduceCtorEq, decide_true, decide_false, Bool.not_true, Bool.not_false, beq_self_eq_true, beq_tf, beq_ft, aPick, List.map_cons, List.map_nil, List.nil_append, List.append_nil, List.getElem?_cons_zero, List.getElem?_cons_succ, e1]
  refine code_cond_true ?_ ?_
  · simp only [aev, regAt_set, Nat.reduceEqDiff, reduceIte]
  refine code_seq ?_
  refine code_region ?_ ?_
  · rfl
  simp only [run1, aOne, aP, aR, aA, aT, aCall, aCallVal, aev, regAt_set, aput_mk, aput_none, plainV, aNilCheck, aExtract, aBin, aInt, Addr.add, Nat.zero_add, ends_some, Nat.reduceLT, Nat.reduceAdd, if_true, then_normal, Nat.reduceEqDiff, if_false, reduceIte, reduceCtorEq, decide_true, decide_false, Bool.not_true, Bool.not_false, beq_self_eq_true, beq_tf, beq_ft, aPick, List.map_cons, List.map_nil, List.nil_append, List.append_nil, List.getElem?_cons_zero, List.getElem?_cons_succ]
  refine code_ret ?_
  simp only [blockC, then_ret]
  exact ⟨rfl, .string ⟨quoteT.toArray⟩, rfl, rfl, rfl⟩

set_option maxHeartbeats 4000000 in
theorem next_open {k sc tb p : Nat} {bs : List UInt8} {μ : Mem} (hS : Scan μ sc tb bs p) (hp : p < bs.length) (hb : bs[p].toNat = 40) :
    EndsF (aFun Tryz.prog (aCode Tryz.prog X S0 (k + 200)) 8 [.pointer (some ⟨sc, 0, none⟩)] μ) fun v μ' => v = .tuple #[.agg (tok 1 p [] dat0).toArray, .int .i64 0] ∧ Scan μ' sc tb bs (p + 1) ∧ Turns μ μ' sc := by
  have hga := grow1 μ (.cells 11 51 (tok 0 0 [] dat0).toArray .e 0 0 false false)
  obtain ⟨μa, hμa⟩ : ∃ m : Mem, m = ⟨μ.obs.set μ.next (.cells 11 51 (tok 0 0 [] dat0).toArray .e 0 0 false false), μ.next + 1⟩ := ⟨_, rfl⟩
  rw [← hμa] at hga
  have hμa' : (⟨μ.obs.set μ.next (.cells 11 51 (tok 0 0 [] dat0).toArray .e 0 0 false false), Nat.add μ.next 1⟩ : Mem) = μa := hμa.symm
  have ha2 : Blk μa μ.next 11 51 := ⟨_, _, _, _, by rw [hμa]; show T.get _ _ = _; rw [T.get_set, if_pos rfl]⟩
  have hna : μa.next = μ.next + 1 := by rw [hμa]
  obtain ⟨vs, μb, hsk, hvs, hgb⟩ := skip_at (X := X) (k := k + 167) (hS.grow hga) hp hb (by decide)
  subst hvs
  have hsk : aFun Tryz.prog (aCode Tryz.prog X S0 (k + 197)) 13 [.pointer (some ⟨sc, 0, none⟩)] μa = some (.tuple #[], μb) := hsk
  have hgab := hga.trans hgb
  have hSb := hS.grow hgab
  have hnb : μ.next < μb.next := by have := hgb.1; omega
  have hgc := grow1 μb (.cells 11 51 (tok 0 0 [] dat0).toArray .e 0 0 false false)
  have hc4 : Blk ⟨μb.obs.set μb.next (.cells 11 51 (tok 0 0 [] dat0).toArray .e 0 0 false false), Nat.add μb.next 1⟩ μb.next 11 51 := ⟨_, _, _, _, by show T.get _ _ = _; rw [T.get_set, if_pos rfl]⟩
  have hst1 := store_puts (P := Tryz.prog) (t := 51) (vs := tok 6 p [] dat0) (o := 0) i51 rfl rfl hc4 (Nat.le_refl _)
  obtain ⟨μd, hμd⟩ : ∃ m : Mem, m = putL ⟨μb.obs.set μb.next (.cells 11 51 (tok 0 0 [] dat0).toArray .e 0 0 false false), Nat.add μb.next 1⟩ μb.next 0 (tok 6 p [] dat0) := ⟨_, rfl⟩
  rw [← hμd] at hst1
  have hgbd : Grow μb μd := by rw [hμd]; exact hgc.put_new (Nat.le_refl _)
  have hgd := hgab.trans hgbd
  have hSd := hS.grow hgd
  have hd4 : Blk μd μb.next 11 51 := by rw [hμd]; exact hc4.put _ _
  have hd2 : Blk μd μ.next 11 51 := (ha2.of_get (hgb.2 _ (by omega))).of_get (hgbd.2 _ (by omega))
  have ht4 : Has μd μb.next 0 (tok 6 p [] dat0) := by rw [hμd]; exact Has.of_put hc4 (Nat.le_refl _)
  have hnd : μd.next = μb.next + 1 := by rw [hμd, putL_next]
  have h4sc : μb.next ≠ sc := by have := hSb.n1; omega
  have h4tb : μb.next ≠ tb := by have := hSb.n2; omega
  have h2sc : μ.next ≠ sc := by have := hS.n1; omega
  have h2tb : μ.next ≠ tb := by have := hS.n2; omega
  obtain ⟨cc, hc0⟩ : ∃ cc, cellsAt μd sc 0 = some (.slice (some ⟨tb, 0, none⟩) bs.length cc) := ⟨3, hSd.tx⟩
  have hcb : cellsAt μb sc 1 = some (.int .i64 (.ofNat p)) := hSb.at_
  have hc : ∀ y, cellsAt ⟨μd.obs, y⟩ sc 0 = some (.slice (some ⟨tb, 0, none⟩) bs.length cc) := fun y => hc0
  have ha : ∀ y, cellsAt ⟨μd.obs, y⟩ sc 1 = some (.int .i64 (.ofNat p)) := fun y => hSd.at_
  have ht : ∀ y, cellsAt ⟨μd.obs, y⟩ tb p = some (.int .u8 (.ofNat 40)) := fun y => by rw [← hb]; exact hSd.txt p hp
  have hi := idx30 (tb := tb) (c := cc) hp
  have e1 : decide (p < bs.length) = true := decide_eq_true hp
  have hf : Grow μ ⟨μd.obs, μd.next + 10 + 11⟩ := (hgd.trans (grow_up μd 10)).trans (grow_up ⟨μd.obs, μd.next + 10⟩ 11)
  have hSf := hS.grow hf
  have a1 : qwrap .i64 (Int.add (.ofNat p) 1) = .ofNat (p + 1) := add_nat p 1 (by have := hS.len; omega)
  have hst9 := store_put (P := Tryz.prog) (t := 3) (v := .int .i64 (.ofNat (p + 1))) i3 rfl rfl hSf.blk (show 1 < 2 by decide)
  have hSg := hSf.step (q := p + 1)
  obtain ⟨μg, hμg⟩ : ∃ m : Mem, m = putL ⟨μd.obs, μd.next + 10 + 11⟩ sc 1 [.int .i64 (.ofNat (p + 1))] := ⟨_, rfl⟩
  rw [← hμg] at hst9 hSg
  have hTg : Turns μ μg sc := by rw [hμg]; exact (Turns.grow hf).trans (Turns.put _ _ _ _)
  have hg4 : Has μg μb.next 0 (tok 6 p [] dat0) := by rw [hμg]; exact ht4.keep (putL_get _ _ _ _ h4sc)
  have hg4b : Blk μg μb.next 11 51 := by rw [hμg]; exact Blk.put _ _ (show Blk ⟨μd.obs, μd.next + 10 + 11⟩ μb.next 11 51 from hd4)
  have hg2b : Blk μg μ.next 11 51 := by rw [hμg]; exact Blk.put _ _ (show Blk ⟨μd.obs, μd.next + 10 + 11⟩ μ.next 11 51 from hd2)
  have hng : μg.next = μd.next + 21 := by rw [hμg, putL_next]
  have q35 : ieq (.ofNat 40) 35 = false := rfl
  have q40 : ieq (.ofNat 40) 40 = true := rfl
  have hst2 := store_put (P := Tryz.prog) (t := 3) (v := .int .i64 1) i3 rfl rfl hg4b (show 0 < 11 by decide)
  obtain ⟨μh, hμh⟩ : ∃ m : Mem, m = putL μg μb.next 0 [.int .i64 1] := ⟨_, rfl⟩
  rw [← hμh] at hst2
  have hTh : Turns μ μh sc := by rw [hμh]; exact hTg.put_new (by omega)
  have hSh : Scan μh sc tb bs (p + 1) := by rw [hμh]; exact hSg.put h4sc h4tb
  have hh4 : Has μh μb.next 0 (tok 1 p [] dat0) := by rw [hμh]; exact Has.set (o := 0) (k := 0) (l := tok 6 p [] dat0) hg4 hg4b (Nat.zero_lt_succ _)
  have hh4b : Blk μh μb.next 11 51 := by rw [hμh]; exact hg4b.put _ _
  have hh2 : Blk μh μ.next 11 51 := by rw [hμh]; exact hg2b.put _ _
  have hl := lds51 hh4 rfl
  have hst3 := store_puts (P := Tryz.prog) (t := 51) (vs := tok 1 p [] dat0) (o := 0) i51 rfl rfl hh2 (Nat.le_refl _)
  have hl2 := lds51 (Has.of_put (o := 0) (vs := tok 1 p [] dat0) hh2 (Nat.le_refl _)) rfl
  have hbd : ∀ (r : Rg) (b : Operand), aev Tryz.prog r b = .int .i64 (.ofNat p) → aBuild Tryz.prog (aev Tryz.prog r) 51 #[(0, .const (.int .i64 6)), (1, b)] = some (.agg (tok 6 p [] dat0).toArray) := fun r b h => bd51 _ _ _ 6 p rfl h
  refine fun_enter Tryz.func8 rfl rfl (Nat.le_of_ble_eq_true rfl) ?_
  simp only [T.lay, Nat.zero_add, Tryz.ntmps8, Nat.reduceAdd]
  refine code_seq ?_
  refine code_region ?_ ?_
  · rfl
  simp only [run1, aOne, aP, aR, aA, aT, aCall, aCallVal, aev, regAt_set, aput_mk, aput_none, plainV, aNilCheck, aExtract, aBin, aInt, Addr.add, Nat.zero_add, ends_some, Nat.reduceLT, Nat.reduceAdd, if_true, then_normal, Nat.reduceEqDiff, if_false, reduceIte, reduceCtorEq, decide_true, decide_false, Bool.not_true, Bool.not_false, beq_self_eq_true, beq_tf, beq_ft, aPick, List.map_cons, List.map_nil, List.nil_append, List.append_nil, List.getElem?_cons_zero, List.getElem?_cons_succ, al51, hμa']
  refine code_seq ?_
  refine code_region ?_ ?_
  · rfl
  simp only [run1, aOne, aP, aR, aA, aT, aCall, aCallVal, aev, regAt_set, aput_mk, aput_none, plainV, aNilCheck, aExtract, aBin, aInt, Addr.add, Nat.zero_add, ends_some, Nat.reduceLT, Nat.reduceAdd, if_true, then_normal, Nat.reduceEqDiff, if_false, reduceIte, reduceCtorEq, decide_true, decide_false, Bool.not_true, Bool.not_false, beq_self_eq_true, beq_tf, beq_ft, aPick, List.map_cons, List.map_nil, List.nil_append, List.append_nil, List.getElem?_cons_zero, List.getElem?_cons_succ, go_call (P := Tryz.prog) (X := X) (S := S0) Tryz.func13 rfl rfl, hsk]
  refine code_seq ?_
  refine code_region ?_ ?_
  · rfl
  simp only [run1, aOne, aP, aR, aA, aT, aCall, aCallVal, aev, regAt_set, aput_mk, aput_none, plainV, aNilCheck, aExtract, aBin, aInt, Addr.add, Nat.zero_add, ends_some, Nat.reduceLT, Nat.reduceAdd, if_true, then_normal, Nat.reduceEqDiff, if_false, reduceIte, reduceCtorEq, decide_true, decide_false, Bool.not_true, Bool.not_false, beq_self_eq_true, beq_tf, beq_ft, aPick, List.map_cons, List.map_nil, List.nil_append, List.append_nil, List.getElem?_cons_zero, List.getElem?_cons_succ, fa45_1, ld3, hcb, hbd, al51, hst1]
  refine code_seq ?_
  refine code_seq ?_
  refine code_draw (n := 10) (ms := [0, 1, 3, 7, 0, 16, 48, 112, 240, 511]) (ord := [0, 1, 2, 3, 4, 5, 6, 7, 8, 9]) (ds := ?_) ?_ ?_ ?_ ?_ ?_ ?_
  rotate_left
  · kernel_rfl
  · kernel_rfl
  · kernel_rfl
  · rfl
  · rfl
  simp only [dRun, wanted, aDrawOne, heavy, aReads, bef, aOne, aP, aR, aA, aT, aCall, aCallVal, aev, regAt_set, aput_mk, aput_none, plainV, aNilCheck, aExtract, aBin, aInt, Addr.add, Nat.zero_add, ends_some, Nat.reduceLT, Nat.reduceAdd, if_true, then_normal, Nat.reduceEqDiff, if_false, reduceIte, reduceCtorEq, decide_true, decide_false, Bool.not_true, Bool.not_false, beq_self_eq_true, beq_tf, beq_ft, aPick, List.map_cons, List.map_nil, List.nil_append, List.append_nil, List.getElem?_cons_zero, List.getElem?_cons_succ, endsD_some, eqVal_self, aBuiltin, aLen, Tryz.underlying30, cast_nat, fa45_0, fa45_1, Nat.add_zero, ld3, ld30, hc, ha, ilt_nat, e1]
  refine code_cond_false ?_ ?_
  · simp only [aev, regAt_set, Nat.reduceEqDiff, reduceIte]
  refine code_skip ?_
  simp only [then_normal]
  refine code_seq ?_
  refine code_draw (n := 11) (ms := [0, 1, 3, 7, 0, 16, 48, 112, 255, 511, 1023]) (ord := [0, 1, 2, 3, 4, 5, 6, 7, 8, 9, 10]) (ds := ?_) ?_ ?_ ?_ ?_ ?_ ?_
  rotate_left
  · kernel_rfl
  · kernel_rfl
  · kernel_rfl
  · rfl
  · rfl
  simp only [dRun, wanted, aDrawOne, heavy, aReads, bef, aOne, aP, aR, aA, aT, aCall, aCallVal, aev, regAt_set, aput_mk, aput_none, plainV, aNilCheck, aExtract, aBin, aInt, Addr.add, Nat.zero_add, ends_some, Nat.reduceLT, Nat.reduceAdd, if_true, then_normal, Nat.reduceEqDiff, if_false, reduceIte, reduceCtorEq, decide_true, decide_false, Bool.not_true, Bool.not_false, beq_self_eq_true, beq_tf, beq_ft, aPick, List.map_cons, List.map_nil, List.nil_append, List.append_nil, List.getElem?_cons_zero, List.getElem?_cons_succ, endsD_some, eqVal_self, fa45_0, fa45_1, Nat.add_zero, ld3, ld5, ld30, hc, ha, hi, ht]
  refine code_seq ?_
  refine code_seq ?_
  refine code_region ?_ ?_
  · rfl
  simp only [run1, aOne, aP, aR, aA, aT, aCall, aCallVal, aev, regAt_set, aput_mk, aput_none, plainV, aNilCheck, aExtract, aBin, aInt, Addr.add, Nat.zero_add, ends_some, Nat.reduceLT, Nat.reduceAdd, if_true, then_normal, Nat.reduceEqDiff, if_false, reduceIte, reduceCtorEq, decide_true, decide_false, Bool.not_true, Bool.not_false, beq_self_eq_true, beq_tf, beq_ft, aPick, List.map_cons, List.map_nil, List.nil_append, List.append_nil, List.getElem?_cons_zero, List.getElem?_cons_succ, q35]
  refine code_cond_false ?_ ?_
  · simp only [aev, regAt_set, Nat.reduceEqDiff, reduceIte]
  refine code_skip ?_
  simp only [then_normal]
  refine code_seq ?_
  refine code_region ?_ ?_
  · rfl
  simp only [run1, aOne, aP, aR, aA, aT, aCall, aCallVal, aev, regAt_set, aput_mk, aput_none, plainV, aNilCheck, aExtract, aBin, aInt, Addr.add, Nat.zero_add, ends_some, Nat.reduceLT, Nat.reduceAdd, if_true, then_normal, Nat.reduceEqDiff, if_false, reduceIte, reduceCtorEq, decide_true, decide_false, Bool.not_true, Bool.not_false, beq_self_eq_true, beq_tf, beq_ft, aPick, List.map_cons, List.map_nil, List.nil_append, List.append_nil, List.getElem?_cons_zero, List.getElem?_cons_succ, fa45_1, ld3, ha, a1, hst9]
  refine code_seq ?_
  refine code_region ?_ ?_
  · rfl
  simp only [run1, aOne, aP, aR, aA, aT, aCall, aCallVal, aev, regAt_set, aput_mk, aput_none, plainV, aNilCheck, aExtract, aBin, aInt, Addr.add, Nat.zero_add, ends_some, Nat.reduceLT, Nat.reduceAdd, if_true, then_normal, Nat.reduceEqDiff, if_false, reduceIte, reduceCtorEq, decide_true, decide_false, Bool.not_true, Bool.not_false, beq_self_eq_true, beq_tf, beq_ft, aPick, List.map_cons, List.map_nil, List.nil_append, List.append_nil, List.getElem?_cons_zero, List.getElem?_cons_succ]
  refine code_seq ?_
  refine code_seq ?_
  refine code_region ?_ ?_
  · rfl
  simp only [run1, aOne, aP, aR, aA, aT, aCall, aCallVal, aev, regAt_set, aput_mk, aput_none, plainV, aNilCheck, aExtract, aBin, aInt, Addr.add, Nat.zero_add, ends_some, Nat.reduceLT, Nat.reduceAdd, if_true, then_normal, Nat.reduceEqDiff, if_false, reduceIte, reduceCtorEq, decide_true, decide_false, Bool.not_true, Bool.not_false, beq_self_eq_true, beq_tf, beq_ft, aPick, List.map_cons, List.map_nil, List.nil_append, List.append_nil, List.getElem?_cons_zero, List.getElem?_cons_succ]
  refine code_block ?_
  refine code_seq ?_
  refine code_region ?_ ?_
  · rfl
  simp only [run1, aOne, aP, aR, aA, aT, aCall, aCallVal, aev, regAt_set, aput_mk, aput_none, plainV, aNilCheck, aExtract, aBin, aInt, Addr.add, Nat.zero_add, ends_some, Nat.reduceLT, Nat.reduceAdd, if_true, then_normal, Nat.reduceEqDiff, if_false, reduceIte, reduceCtorEq, decide_true, decide_false, Bool.not_true, Bool.not_false, beq_self_eq_true, beq_tf, beq_ft, aPick, List.map_cons, List.map_nil, List.nil_append, List.append_nil, List.getElem?_cons_zero, List.getElem?_cons_succ, q40]
  refine code_cond_true ?_ ?_
  · simp only [aev, regAt_set, Nat.reduceEqDiff, reduceIte]
  refine code_region ?_ ?_
  · rfl
  simp only [run1, aOne, aP, aR, aA, aT, aCall, aCallVal, aev, regAt_set, aput_mk, aput_none, plainV, aNilCheck, aExtract, aBin, aInt, Addr.add, Nat.zero_add, ends_some, Nat.reduceLT, Nat.reduceAdd, if_true, then_normal, Nat.reduceEqDiff, if_false, reduceIte, reduceCtorEq, decide_true, decide_false, Bool.not_true, Bool.not_false, beq_self_eq_true, beq_tf, beq_ft, aPick, List.map_cons, List.map_nil, List.nil_append, List.append_nil, List.getElem?_cons_zero, List.getElem?_cons_succ, fa51_0, hst2]
  simp only [blockC, then_normal]
  refine code_seq ?_
  refine code_region ?_ ?_
  · rfl
  simp only [run1, aOne, aP, aR, aA, aT, aCall, aCallVal, aev, regAt_set, aput_mk, aput_none, plainV, aNilCheck, aExtract, aBin, aInt, Addr.add, Nat.zero_add, ends_some, Nat.reduceLT, Nat.reduceAdd, if_true, then_normal, Nat.reduceEqDiff, if_false, reduceIte, reduceCtorEq, decide_true, decide_false, Bool.not_true, Bool.not_false, beq_self_eq_true, beq_tf, beq_ft, aPick, List.map_cons, List.map_nil, List.nil_append, List.append_nil, List.getElem?_cons_zero, List.getElem?_cons_succ, hl, hst3]
  refine code_ret ?_
  refine ⟨rfl, .tuple #[.agg (tok 1 p [] dat0).toArray, .int .i64 0], ?_, rfl, hSh.put h2sc h2tb, hTh.put_new (Nat.le_refl _)⟩
  simp only [aResults, Tryz.results8, aRes, regAt_set, Nat.reduceEqDiff, reduceIte, hl2]

set_option maxHeartbeats 4000000 in
theorem next_close {k sc tb p : Nat} {bs : List UInt8} {μ : Mem} (hS : Scan μ sc tb bs p) (hp : p < bs.length) (hb : bs[p].toNat = 41) :
    EndsF (aFun Tryz.prog (aCode Tryz.prog X S0 (k + 200)) 8 [.pointer (some ⟨sc, 0, none⟩)] μ) fun v μ' => v = .tuple #[.agg (tok 3 p [] dat0).toArray, .int .i64 0] ∧ Scan μ' sc tb bs (p + 1) ∧ Turns μ μ' sc := by
  have hga := grow1 μ (.cells 11 51 (tok 0 0 [] dat0).toArray .e 0 0 false false)
  obtain ⟨μa, hμa⟩ : ∃ m : Mem, m = ⟨μ.obs.set μ.next (.cells 11 51 (tok 0 0 [] dat0).toArray .e 0 0 false false), μ.next + 1⟩ := ⟨_, rfl⟩
  rw [← hμa] at hga
  have hμa' : (⟨μ.obs.set μ.next (.cells 11 51 (tok 0 0 [] dat0).toArray .e 0 0 false false), Nat.add μ.next 1⟩ : Mem) = μa := hμa.symm
  have ha2 : Blk μa μ.next 11 51 := ⟨_, _, _, _, by rw [hμa]; show T.get _ _ = _; rw [T.get_set, if_pos rfl]⟩
  have hna : μa.next = μ.next + 1 := by rw [hμa]
  obtain ⟨vs, μb, hsk, hvs, hgb⟩ := skip_at (X := X) (k := k + 167) (hS.grow hga) hp hb (by decide)
  subst hvs
  have hsk : aFun Tryz.prog (aCode Tryz.prog X S0 (k + 197)) 13 [.pointer (some ⟨sc, 0, none⟩)] μa = some (.tuple #[], μb) := hsk
  have hgab := hga.trans hgb
  have hSb := hS.grow hgab
  have hnb : μ.next < μb.next := by have := hgb.1; omega
  have hgc := grow1 μb (.cells 11 51 (tok 0 0 [] dat0).toArray .e 0 0 false false)
  have hc4 : Blk ⟨μb.obs.set μb.next (.cells 11 51 (tok 0 0 [] dat0).toArray .e 0 0 false false), Nat.add μb.next 1⟩ μb.next 11 51 := ⟨_, _, _, _, by show T.get _ _ = _; rw [T.get_set, if_pos rfl]⟩
  have hst1 := store_puts (P := Tryz.prog) (t := 51) (vs := tok 6 p [] dat0) (o := 0) i51 rfl rfl hc4 (Nat.le_refl _)
  obtain ⟨μd, hμd⟩ : ∃ m : Mem, m = putL ⟨μb.obs.set μb.next (.cells 11 51 (tok 0 0 [] dat0).toArray .e 0 0 false false), Nat.add μb.next 1⟩ μb.next 0 (tok 6 p [] dat0) := ⟨_, rfl⟩
  rw [← hμd] at hst1
  have hgbd : Grow μb μd := by rw [hμd]; exact hgc.put_new (Nat.le_refl _)
  have hgd := hgab.trans hgbd
  have hSd := hS.grow hgd
  have hd4 : Blk μd μb.next 11 51 := by rw [hμd]; exact hc4.put _ _
  have hd2 : Blk μd μ.next 11 51 := (ha2.of_get (hgb.2 _ (by omega))).of_get (hgbd.2 _ (by omega))
  have ht4 : Has μd μb.next 0 (tok 6 p [] dat0) := by rw [hμd]; exact Has.of_put hc4 (Nat.le_refl _)
  have hnd : μd.next = μb.next + 1 := by rw [hμd, putL_next]
  have h4sc : μb.next ≠ sc := by have := hSb.n1; omega
  have h4tb : μb.next ≠ tb := by have := hSb.n2; omega
  have h2sc : μ.next ≠ sc := by have := hS.n1; omega
  have h2tb : μ.next ≠ tb := by have := hS.n2; omega
  obtain ⟨cc, hc0⟩ : ∃ cc, cellsAt μd sc 0 = some (.slice (some ⟨tb, 0, none⟩) bs.length cc) := ⟨3, hSd.tx⟩
  have hcb : cellsAt μb sc 1 = some (.int .i64 (.ofNat p)) := hSb.at_
  have hc : ∀ y, cellsAt ⟨μd.obs, y⟩ sc 0 = some (.slice (some ⟨tb, 0, none⟩) bs.length cc) := fun y => hc0
  have ha : ∀ y, cellsAt ⟨μd.obs, y⟩ sc 1 = some (.int .i64 (.ofNat p)) := fun y => hSd.at_
  have ht : ∀ y, cellsAt ⟨μd.obs, y⟩ tb p = some (.int .u8 (.ofNat 41)) := fun y => by rw [← hb]; exact hSd.txt p hp
  have hi := idx30 (tb := tb) (c := cc) hp
  have e1 : decide (p < bs.length) = true := decide_eq_true hp
  have hf : Grow μ ⟨μd.obs, μd.next + 10 + 11⟩ := (hgd.trans (grow_up μd 10)).trans (grow_up ⟨μd.obs, μd.next + 10⟩ 11)
  have hSf := hS.grow hf
  have a1 : qwrap .i64 (Int.add (.ofNat p) 1) = .ofNat (p + 1) := add_nat p 1 (by have := hS.len; omega)
  have hst9 := store_put (P := Tryz.prog) (t := 3) (v := .int .i64 (.ofNat (p + 1))) i3 rfl rfl hSf.blk (show 1 < 2 by decide)
  have hSg := hSf.step (q := p + 1)
  obtain ⟨μg, hμg⟩ : ∃ m : Mem, m = putL ⟨μd.obs, μd.next + 10 + 11⟩ sc 1 [.int .i64 (.ofNat (p + 1))] := ⟨_, rfl⟩
  rw [← hμg] at hst9 hSg
  have hTg : Turns μ μg sc := by rw [hμg]; exact (Turns.grow hf).trans (Turns.put _ _ _ _)
  have hg4 : Has μg μb.next 0 (tok 6 p [] dat0) := by rw [hμg]; exact ht4.keep (putL_get _ _ _ _ h4sc)
  have hg4b : Blk μg μb.next 11 51 := by rw [hμg]; exact Blk.put _ _ (show Blk ⟨μd.obs, μd.next + 10 + 11⟩ μb.next 11 51 from hd4)
  have hg2b : Blk μg μ.next 11 51 := by rw [hμg]; exact Blk.put _ _ (show Blk ⟨μd.obs, μd.next + 10 + 11⟩ μ.next 11 51 from hd2)
  have hng : μg.next = μd.next + 21 := by rw [hμg, putL_next]
  have q35 : ieq (.ofNat 41) 35 = false := rfl
  have q40 : ieq (.ofNat 41) 40 = false := rfl
  have q41 : ieq (.ofNat 41) 41 = true := rfl
  have hst2 := store_put (P := Tryz.prog) (t := 3) (v := .int .i64 3) i3 rfl rfl hg4b (show 0 < 11 by decide)
  obtain ⟨μh, hμh⟩ : ∃ m : Mem, m = putL μg μb.next 0 [.int .i64 3] := ⟨_, rfl⟩
  rw [← hμh] at hst2
  have hTh : Turns μ μh sc := by rw [hμh]; exact hTg.put_new (by omega)
  have hSh : Scan μh sc tb bs (p + 1) := by rw [hμh]; exact hSg.put h4sc h4tb
  have hh4 : Has μh μb.next 0 (tok 3 p [] dat0) := by rw [hμh]; exact Has.set (o := 0) (k := 0) (l := tok 6 p [] dat0) hg4 hg4b (Nat.zero_lt_succ _)
  have hh4b : Blk μh μb.next 11 51 := by rw [hμh]; exact hg4b.put _ _
  have hh2 : Blk μh μ.next 11 51 := by rw [hμh]; exact hg2b.put _ _
  have hl := lds51 hh4 rfl
  have hst3 := store_puts (P := Tryz.prog) (t := 51) (vs := tok 3 p [] dat0) (o := 0) i51 rfl rfl hh2 (Nat.le_refl _)
  have hl2 := lds51 (Has.of_put (o := 0) (vs := tok 3 p [] dat0) hh2 (Nat.le_refl _)) rfl
  have hbd : ∀ (r : Rg) (b : Operand), aev Tryz.prog r b = .int .i64 (.ofNat p) → aBuild Tryz.prog (aev Tryz.prog r) 51 #[(0, .const (.int .i64 6)), (1, b)] = some (.agg (tok 6 p [] dat0).toArray) := fun r b h => bd51 _ _ _ 6 p rfl h
  refine fun_enter Tryz.func8 rfl rfl (Nat.le_of_ble_eq_true rfl) ?_
  simp only [T.lay, Nat.zero_add, Tryz.ntmps8, Nat.reduceAdd]
  refine code_seq ?_
  refine code_region ?_ ?_
  · rfl
  simp only [run1, aOne, aP, aR, aA, aT, aCall, aCallVal, aev, regAt_set, aput_mk, aput_none, plainV, aNilCheck, aExtract, aBin, aInt, Addr.add, Nat.zero_add, ends_some, Nat.reduceLT, Nat.reduceAdd, if_true, then_normal, Nat.reduceEqDiff, if_false, reduceIte, reduceCtorEq, decide_true, decide_false, Bool.not_true, Bool.not_false, beq_self_eq_true, beq_tf, beq_ft, aPick, List.map_cons, List.map_nil, List.nil_append, List.append_nil, List.getElem?_cons_zero, List.getElem?_cons_succ, al51, hμa']
  refine code_seq ?_
  refine code_region ?_ ?_
  · rfl
  simp only [run1, aOne, aP, aR, aA, aT, aCall, aCallVal, aev, regAt_set, aput_mk, aput_none, plainV, aNilCheck, aExtract, aBin, aInt, Addr.add, Nat.zero_add, ends_some, Nat.reduceLT, Nat.reduceAdd, if_true, then_normal, Nat.reduceEqDiff, if_false, reduceIte, reduceCtorEq, decide_true, decide_false, Bool.not_true, Bool.not_false, beq_self_eq_true, beq_tf, beq_ft, aPick, List.map_cons, List.map_nil, List.nil_append, List.append_nil, List.getElem?_cons_zero, List.getElem?_cons_succ, go_call (P := Tryz.prog) (X := X) (S := S0) Tryz.func13 rfl rfl, hsk]
  refine code_seq ?_
  refine code_region ?_ ?_
  · rfl
  simp only [run1, aOne, aP, aR, aA, aT, aCall, aCallVal, aev, regAt_set, aput_mk, aput_none, plainV, aNilCheck, aExtract, aBin, aInt, Addr.add, Nat.zero_add, ends_some, Nat.reduceLT, Nat.reduceAdd, if_true, then_normal, Nat.reduceEqDiff, if_false, reduceIte, reduceCtorEq, decide_true, decide_false, Bool.not_true, Bool.not_false, beq_self_eq_true, beq_tf, beq_ft, aPick, List.map_cons, List.map_nil, List.nil_append, List.append_nil, List.getElem?_cons_zero, List.getElem?_cons_succ, fa45_1, ld3, hcb, hbd, al51, hst1]
  refine code_seq ?_
  refine code_seq ?_
  refine code_draw (n := 10) (ms := [0, 1, 3, 7, 0, 16, 48, 112, 240, 511]) (ord := [0, 1, 2, 3, 4, 5, 6, 7, 8, 9]) (ds := ?_) ?_ ?_ ?_ ?_ ?_ ?_
  rotate_left
  · kernel_rfl
  · kernel_rfl
  · kernel_rfl
  · rfl
  · rfl
  simp only [dRun, wanted, aDrawOne, heavy, aReads, bef, aOne, aP, aR, aA, aT, aCall, aCallVal, aev, regAt_set, aput_mk, aput_none, plainV, aNilCheck, aExtract, aBin, aInt, Addr.add, Nat.zero_add, ends_some, Nat.reduceLT, Nat.reduceAdd, if_true, then_normal, Nat.reduceEqDiff, if_false, reduceIte, reduceCtorEq, decide_true, decide_false, Bool.not_true, Bool.not_false, beq_self_eq_true, beq_tf, beq_ft, aPick, List.map_cons, List.map_nil, List.nil_append, List.append_nil, List.getElem?_cons_zero, List.getElem?_cons_succ, endsD_some, eqVal_self, aBuiltin, aLen, Tryz.underlying30, cast_nat, fa45_0, fa45_1, Nat.add_zero, ld3, ld30, hc, ha, ilt_nat, e1]
  refine code_cond_false ?_ ?_
  · simp only [aev, regAt_set, Nat.reduceEqDiff, reduceIte]
  refine code_skip ?_
  simp only [then_normal]
  refine code_seq ?_
  refine code_draw (n := 11) (ms := [0, 1, 3, 7, 0, 16, 48, 112, 255, 511, 1023]) (ord := [0, 1, 2, 3, 4, 5, 6, 7, 8, 9, 10]) (ds := ?_) ?_ ?_ ?_ ?_ ?_ ?_
  rotate_left
  · kernel_rfl
  · kernel_rfl
  · kernel_rfl
  · rfl
  · rfl
  simp only [dRun, wanted, aDrawOne, heavy, aReads, bef, aOne, aP, aR, aA, aT, aCall, aCallVal, aev, regAt_set, aput_mk, aput_none, plainV, aNilCheck, aExtract, aBin, aInt, Addr.add, Nat.zero_add, ends_some, Nat.reduceLT, Nat.reduceAdd, if_true, then_normal, Nat.reduceEqDiff, if_false, reduceIte, reduceCtorEq, decide_true, decide_false, Bool.not_true, Bool.not_false, beq_self_eq_true, beq_tf, beq_ft, aPick, List.map_cons, List.map_nil, List.nil_append, List.append_nil, List.getElem?_cons_zero, List.getElem?_cons_succ, endsD_some, eqVal_self, fa45_0, fa45_1, Nat.add_zero, ld3, ld5, ld30, hc, ha, hi, ht]
  refine code_seq ?_
  refine code_seq ?_
  refine code_region ?_ ?_
  · rfl
  simp only [run1, aOne, aP, aR, aA, aT, aCall, aCallVal, aev, regAt_set, aput_mk, aput_none, plainV, aNilCheck, aExtract, aBin, aInt, Addr.add, Nat.zero_add, ends_some, Nat.reduceLT, Nat.reduceAdd, if_true, then_normal, Nat.reduceEqDiff, if_false, reduceIte, reduceCtorEq, decide_true, decide_false, Bool.not_true, Bool.not_false, beq_self_eq_true, beq_tf, beq_ft, aPick, List.map_cons, List.map_nil, List.nil_append, List.append_nil, List.getElem?_cons_zero, List.getElem?_cons_succ, q35]
  refine code_cond_false ?_ ?_
  · simp only [aev, regAt_set, Nat.reduceEqDiff, reduceIte]
  refine code_skip ?_
  simp only [then_normal]
  refine code_seq ?_
  refine code_region ?_ ?_
  · rfl
  simp only [run1, aOne, aP, aR, aA, aT, aCall, aCallVal, aev, regAt_set, aput_mk, aput_none, plainV, aNilCheck, aExtract, aBin, aInt, Addr.add, Nat.zero_add, ends_some, Nat.reduceLT, Nat.reduceAdd, if_true, then_normal, Nat.reduceEqDiff, if_false, reduceIte, reduceCtorEq, decide_true, decide_false, Bool.not_true, Bool.not_false, beq_self_eq_true, beq_tf, beq_ft, aPick, List.map_cons, List.map_nil, List.nil_append, List.append_nil, List.getElem?_cons_zero, List.getElem?_cons_succ, fa45_1, ld3, ha, a1, hst9]
  refine code_seq ?_
  refine code_region ?_ ?_
  · rfl
  simp only [run1, aOne, aP, aR, aA, aT, aCall, aCallVal, aev, regAt_set, aput_mk, aput_none, plainV, aNilCheck, aExtract, aBin, aInt, Addr.add, Nat.zero_add, ends_some, Nat.reduceLT, Nat.reduceAdd, if_true, then_normal, Nat.reduceEqDiff, if_false, reduceIte, reduceCtorEq, decide_true, decide_false, Bool.not_true, Bool.not_false, beq_self_eq_true, beq_tf, beq_ft, aPick, List.map_cons, List.map_nil, List.nil_append, List.append_nil, List.getElem?_cons_zero, List.getElem?_cons_succ]
  refine code_seq ?_
  refine code_seq ?_
  refine code_region ?_ ?_
  · rfl
  simp only [run1, aOne, aP, aR, aA, aT, aCall, aCallVal, aev, regAt_set, aput_mk, aput_none, plainV, aNilCheck, aExtract, aBin, aInt, Addr.add, Nat.zero_add, ends_some, Nat.reduceLT, Nat.reduceAdd, if_true, then_normal, Nat.reduceEqDiff, if_false, reduceIte, reduceCtorEq, decide_true, decide_false, Bool.not_true, Bool.not_false, beq_self_eq_true, beq_tf, beq_ft, aPick, List.map_cons, List.map_nil, List.nil_append, List.append_nil, List.getElem?_cons_zero, List.getElem?_cons_succ]
  refine code_block ?_
  refine code_seq ?_
  refine code_region ?_ ?_
  · rfl
  simp only [run1, aOne, aP, aR, aA, aT, aCall, aCallVal, aev, regAt_set, aput_mk, aput_none, plainV, aNilCheck, aExtract, aBin, aInt, Addr.add, Nat.zero_add, ends_some, Nat.reduceLT, Nat.reduceAdd, if_true, then_normal, Nat.reduceEqDiff, if_false, reduceIte, reduceCtorEq, decide_true, decide_false, Bool.not_true, Bool.not_false, beq_self_eq_true, beq_tf, beq_ft, aPick, List.map_cons, List.map_nil, List.nil_append, List.append_nil, List.getElem?_cons_zero, List.getElem?_cons_succ, q40]
  refine code_cond_false ?_ ?_
  · simp only [aev, regAt_set, Nat.reduceEqDiff, reduceIte]
  refine code_seq ?_
  refine code_region ?_ ?_
  · rfl
  simp only [run1, aOne, aP, aR, aA, aT, aCall, aCallVal, aev, regAt_set, aput_mk, aput_none, plainV, aNilCheck, aExtract, aBin, aInt, Addr.add, Nat.zero_add, ends_some, Nat.reduceLT, Nat.reduceAdd, if_true, then_normal, Nat.reduceEqDiff, if_false, reduceIte, reduceCtorEq, decide_true, decide_false, Bool.not_true, Bool.not_false, beq_self_eq_true, beq_tf, beq_ft, aPick, List.map_cons, List.map_nil, List.nil_append, List.append_nil, List.getElem?_cons_zero, List.getElem?_cons_succ, q41]
  refine code_cond_true ?_ ?_
  · simp only [aev, regAt_set, Nat.reduceEqDiff, reduceIte]
  refine code_region ?_ ?_
  · rfl
  simp only [run1, aOne, aP, aR, aA, aT, aCall, aCallVal, aev, regAt_set, aput_mk, aput_none, plainV, aNilCheck, aExtract, aBin, aInt, Addr.add, Nat.zero_add, ends_some, Nat.reduceLT, Nat.reduceAdd, if_true, then_normal, Nat.reduceEqDiff, if_false, reduceIte, reduceCtorEq, decide_true, decide_false, Bool.not_true, Bool.not_false, beq_self_eq_true, beq_tf, beq_ft, aPick, List.map_cons, List.map_nil, List.nil_append, List.append_nil, List.getElem?_cons_zero, List.getElem?_cons_succ, fa51_0, hst2]
  simp only [blockC, then_normal]
  refine code_seq ?_
  refine code_region ?_ ?_
  · rfl
  simp only [run1, aOne, aP, aR, aA, aT, aCall, aCallVal, aev, regAt_set, aput_mk, aput_none, plainV, aNilCheck, aExtract, aBin, aInt, Addr.add, Nat.zero_add, ends_some, Nat.reduceLT, Nat.reduceAdd, if_true, then_normal, Nat.reduceEqDiff, if_false, reduceIte, reduceCtorEq, decide_true, decide_false, Bool.not_true, Bool.not_false, beq_self_eq_true, beq_tf, beq_ft, aPick, List.map_cons, List.map_nil, List.nil_append, List.append_nil, List.getElem?_cons_zero, List.getElem?_cons_succ, hl, hst3]
  refine code_ret ?_
  refine ⟨rfl, .tuple #[.agg (tok 3 p [] dat0).toArray, .int .i64 0], ?_, rfl, hSh.put h2sc h2tb, hTh.put_new (Nat.le_refl _)⟩
  simp only [aResults, Tryz.results8, aRes, regAt_set, Nat.reduceEqDiff, reduceIte, hl2]

set_option maxHeartbeats 4000000 in
theorem next_quote {k sc tb p : Nat} {bs : List UInt8} {μ : Mem} (hS : Scan μ sc tb bs p) (hp : p < bs.length) (hb : bs[p].toNat = 39) :
    EndsF (aFun Tryz.prog (aCode Tryz.prog X S0 (k + 200)) 8 [.pointer (some ⟨sc, 0, none⟩)] μ) fun v μ' => v = .tuple #[.agg (tok 4 p quoteT dat0).toArray, .int .i64 0] ∧ Scan μ' sc tb bs (p + 1) ∧ Turns μ μ' sc := by
  have hga := grow1 μ (.cells 11 51 (tok 0 0 [] dat0).toArray .e 0 0 false false)
  obtain ⟨μa, hμa⟩ : ∃ m : Mem, m = ⟨μ.obs.set μ.next (.cells 11 51 (tok 0 0 [] dat0).toArray .e 0 0 false false), μ.next + 1⟩ := ⟨_, rfl⟩
  rw [← hμa] at hga
  have hμa' : (⟨μ.obs.set μ.next (.cells 11 51 (tok 0 0 [] dat0).toArray .e 0 0 false false), Nat.add μ.next 1⟩ : Mem) = μa := hμa.symm
  have ha2 : Blk μa μ.next 11 51 := ⟨_, _, _, _, by rw [hμa]; show T.get _ _ = _; rw [T.get_set, if_pos rfl]⟩
  have hna : μa.next = μ.next + 1 := by rw [hμa]
  obtain ⟨vs, μb, hsk, hvs, hgb⟩ := skip_at (X := X) (k := k + 167) (hS.grow hga) hp hb (by decide)
  subst hvs
  have hsk : aFun Tryz.prog (aCode Tryz.prog X S0 (k + 197)) 13 [.pointer (some ⟨sc, 0, none⟩)] μa = some (.tuple #[], μb) := hsk
  have hgab := hga.trans hgb
  have hSb := hS.grow hgab
  have hnb : μ.next < μb.next := by have := hgb.1; omega
  have hgc := grow1 μb (.cells 11 51 (tok 0 0 [] dat0).toArray .e 0 0 false false)
  have hc4 : Blk ⟨μb.obs.set μb.next (.cells 11 51 (tok 0 0 [] dat0).toArray .e 0 0 false false), Nat.add μb.next 1⟩ μb.next 11 51 := ⟨_, _, _, _, by show T.get _ _ = _; rw [T.get_set, if_pos rfl]⟩
  have hst1 := store_puts (P := Tryz.prog) (t := 51) (vs := tok 6 p [] dat0) (o := 0) i51 rfl rfl hc4 (Nat.le_refl _)
  obtain ⟨μd, hμd⟩ : ∃ m : Mem, m = putL ⟨μb.obs.set μb.next (.cells 11 51 (tok 0 0 [] dat0).toArray .e 0 0 false false), Nat.add μb.next 1⟩ μb.next 0 (tok 6 p [] dat0) := ⟨_, rfl⟩
  rw [← hμd] at hst1
  have hgbd : Grow μb μd := by rw [hμd]; exact hgc.put_new (Nat.le_refl _)
  have hgd := hgab.trans hgbd
  have hSd := hS.grow hgd
  have hd4 : Blk μd μb.next 11 51 := by rw [hμd]; exact hc4.put _ _
  have hd2 : Blk μd μ.next 11 51 := (ha2.of_get (hgb.2 _ (by omega))).of_get (hgbd.2 _ (by omega))
  have ht4 : Has μd μb.next 0 (tok 6 p [] dat0) := by rw [hμd]; exact Has.of_put hc4 (Nat.le_refl _)
  have hnd : μd.next = μb.next + 1 := by rw [hμd, putL_next]
  have h4sc : μb.next ≠ sc := by have := hSb.n1; omega
  have h4tb : μb.next ≠ tb := by have := hSb.n2; omega
  have h2sc : μ.next ≠ sc := by have := hS.n1; omega
  have h2tb : μ.next ≠ tb := by have := hS.n2; omega
  obtain ⟨cc, hc0⟩ : ∃ cc, cellsAt μd sc 0 = some (.slice (some ⟨tb, 0, none⟩) bs.length cc) := ⟨3, hSd.tx⟩
  have hcb : cellsAt μb sc 1 = some (.int .i64 (.ofNat p)) := hSb.at_
  have hc : ∀ y, cellsAt ⟨μd.obs, y⟩ sc 0 = some (.slice (some ⟨tb, 0, none⟩) bs.length cc) := fun y => hc0
  have ha : ∀ y, cellsAt ⟨μd.obs, y⟩ sc 1 = some (.int .i64 (.ofNat p)) := fun y => hSd.at_
  have ht : ∀ y, cellsAt ⟨μd.obs, y⟩ tb p = some (.int .u8 (.ofNat 39)) := fun y => by rw [← hb]; exact hSd.txt p hp
  have hi := idx30 (tb := tb) (c := cc) hp
  have e1 : decide (p < bs.length) = true := decide_eq_true hp
  have hf : Grow μ ⟨μd.obs, μd.next + 10 + 11⟩ := (hgd.trans (grow_up μd 10)).trans (grow_up ⟨μd.obs, μd.next + 10⟩ 11)
  have hSf := hS.grow hf
  have a1 : qwrap .i64 (Int.add (.ofNat p) 1) = .ofNat (p + 1) := add_nat p 1 (by have := hS.len; omega)
  have hst9 := store_put (P := Tryz.prog) (t := 3) (v := .int .i64 (.ofNat (p + 1))) i3 rfl rfl hSf.blk (show 1 < 2 by decide)
  have hSg := hSf.step (q := p + 1)
  obtain ⟨μg, hμg⟩ : ∃ m : Mem, m = putL ⟨μd.obs, μd.next + 10 + 11⟩ sc 1 [.int .i64 (.ofNat (p + 1))] := ⟨_, rfl⟩
  rw [← hμg] at hst9 hSg
  have hTg : Turns μ μg sc := by rw [hμg]; exact (Turns.grow hf).trans (Turns.put _ _ _ _)
  have hg4 : Has μg μb.next 0 (tok 6 p [] dat0) := by rw [hμg]; exact ht4.keep (putL_get _ _ _ _ h4sc)
  have hg4b : Blk μg μb.next 11 51 := by rw [hμg]; exact Blk.put _ _ (show Blk ⟨μd.obs, μd.next + 10 + 11⟩ μb.next 11 51 from hd4)
  have hg2b : Blk μg μ.next 11 51 := by rw [hμg]; exact Blk.put _ _ (show Blk ⟨μd.obs, μd.next + 10 + 11⟩ μ.next 11 51 from hd2)
  have hng : μg.next = μd.next + 21 := by rw [hμg, putL_next]
  have q35 : ieq (.ofNat 39) 35 = false := rfl
  have q40 : ieq (.ofNat 39) 40 = false := rfl
  have q41 : ieq (.ofNat 39) 41 = false := rfl
  have q39 : ieq (.ofNat 39) 39 = true := rfl
  have hst2 := store_put (P := Tryz.prog) (t := 3) (v := .int .i64 4) i3 rfl rfl hg4b (show 0 < 11 by decide)
  obtain ⟨μh, hμh⟩ : ∃ m : Mem, m = putL μg μb.next 0 [.int .i64 4] := ⟨_, rfl⟩
  rw [← hμh] at hst2
  have hTh : Turns μ μh sc := by rw [hμh]; exact hTg.put_new (by omega)
  have hSh : Scan μh sc tb bs (p + 1) := by rw [hμh]; exact hSg.put h4sc h4tb
  have hh4 : Has μh μb.next 0 (tok 4 p [] dat0) := by rw [hμh]; exact Has.set (o := 0) (k := 0) (l := tok 6 p [] dat0) hg4 hg4b (Nat.zero_lt_succ _)
  have hh4b : Blk μh μb.next 11 51 := by rw [hμh]; exact hg4b.put _ _
  have hh2 : Blk μh μ.next 11 51 := by rw [hμh]; exact hg2b.put _ _
  have hst2b := store_put (P := Tryz.prog) (t := 9) (v := .string ⟨quoteT.toArray⟩) i9 rfl rfl hh4b (show 2 < 11 by decide)
  obtain ⟨μj, hμj⟩ : ∃ m : Mem, m = putL μh μb.next 2 [.string ⟨quoteT.toArray⟩] := ⟨_, rfl⟩
  rw [← hμj] at hst2b
  have hTj : Turns μ μj sc := by rw [hμj]; exact hTh.put_new (by omega)
  have hSj : Scan μj sc tb bs (p + 1) := by rw [hμj]; exact hSh.put h4sc h4tb
  have hj4 : Has μj μb.next 0 (tok 4 p quoteT dat0) := by rw [hμj]; exact Has.set (o := 0) (k := 2) (l := tok 4 p [] dat0) hh4 hh4b (Nat.succ_lt_succ (Nat.succ_lt_succ (Nat.zero_lt_succ _)))
  have hj2 : Blk μj μ.next 11 51 := by rw [hμj]; exact hh2.put _ _
  have hl := lds51 hj4 rfl
  have hst3 := store_puts (P := Tryz.prog) (t := 51) (vs := tok 4 p quoteT dat0) (o := 0) i51 rfl rfl hj2 (Nat.le_refl _)
  have hl2 := lds51 (Has.of_put (o := 0) (vs := tok 4 p quoteT dat0) hj2 (Nat.le_refl _)) rfl
  have hq := quotes_q (X := X) (k := k + 162) (sc := sc) (μ := μg)
  have hq : aFun Tryz.prog (aCode Tryz.prog X S0 (k + 182)) 15 [.pointer (some ⟨sc, 0, none⟩), .int .u8 (.ofNat 39)] μg = some (.string ⟨quoteT.toArray⟩, μg) := hq
  have hbd : ∀ (r : Rg) (b : Operand), aev Tryz.prog r b = .int .i64 (.ofNat p) → aBuild Tryz.prog (aev Tryz.prog r) 51 #[(0, .const (.int .i64 6)), (1, b)] = some (.agg (tok 6 p [] dat0).toArray) := fun r b h => bd51 _ _ _ 6 p rfl h
  refine fun_enter Tryz.func8 rfl rfl (Nat.le_of_ble_eq_true rfl) ?_
  simp only [T.lay, Nat.zero_add, Tryz.ntmps8, Nat.reduceAdd]
  refine code_seq ?_
  refine code_region ?_ ?_
  · rfl
  simp only [run1, aOne, aP, aR, aA, aT, aCall, aCallVal, aev, regAt_set, aput_mk, aput_none, plainV, aNilCheck, aExtract, aBin, aInt, Addr.add, Nat.zero_add, ends_some, Nat.reduceLT, Nat.reduceAdd, if_true, then_normal, Nat.reduceEqDiff, if_false, reduceIte, reduceCtorEq, decide_true, decide_false, Bool.not_true, Bool.not_false, beq_self_eq_true, beq_tf, beq_ft, aPick, List.map_cons, List.map_nil, List.nil_append, List.append_nil, List.getElem?_cons_zero, List.getElem?_cons_succ, al51, hμa']
  refine code_seq ?_
  refine code_region ?_ ?_
  · rfl
  simp only [run1, aOne, aP, aR, aA, aT, aCall, aCallVal, aev, regAt_set, aput_mk, aput_none, plainV, aNilCheck, aExtract, aBin, aInt, Addr.add, Nat.zero_add, ends_some, Nat.reduceLT, Nat.reduceAdd, if_true, then_normal, Nat.reduceEqDiff, if_false, reduceIte, reduceCtorEq, decide_true, decide_false, Bool.not_true, Bool.not_false, beq_self_eq_true, beq_tf, beq_ft, aPick, List.map_cons, List.map_nil, List.nil_append, List.append_nil, List.getElem?_cons_zero, List.getElem?_cons_succ, go_call (P := Tryz.prog) (X := X) (S := S0) Tryz.func13 rfl rfl, hsk]
  refine code_seq ?_
  refine code_region ?_ ?_
  · rfl
  simp only [run1, aOne, aP, aR, aA, aT, aCall, aCallVal, aev, regAt_set, aput_mk, aput_none, plainV, aNilCheck, aExtract, aBin, aInt, Addr.add, Nat.zero_add, ends_some, Nat.reduceLT, Nat.reduceAdd, if_true, then_normal, Nat.reduceEqDiff, if_false, reduceIte, reduceCtorEq, decide_true, decide_false, Bool.not_true, Bool.not_false, beq_self_eq_true, beq_tf, beq_ft, aPick, List.map_cons, List.map_nil, List.nil_append, List.append_nil, List.getElem?_cons_zero, List.getElem?_cons_succ, fa45_1, ld3, hcb, hbd, al51, hst1]
  refine code_seq ?_
  refine code_seq ?_
  refine code_draw (n := 10) (ms := [0, 1, 3, 7, 0, 16, 48, 112, 240, 511]) (ord := [0, 1, 2, 3, 4, 5, 6, 7, 8, 9]) (ds := ?_) ?_ ?_ ?_ ?_ ?_ ?_
  rotate_left
  · kernel_rfl
  · kernel_rfl
  · kernel_rfl
  · rfl
  · rfl
  simp only [dRun, wanted, aDrawOne, heavy, aReads, bef, aOne, aP, aR, aA, aT, aCall, aCallVal, aev, regAt_set, aput_mk, aput_none, plainV, aNilCheck, aExtract, aBin, aInt, Addr.add, Nat.zero_add, ends_some, Nat.reduceLT, Nat.reduceAdd, if_true, then_normal, Nat.reduceEqDiff, if_false, reduceIte, reduceCtorEq, decide_true, decide_false, Bool.not_true, Bool.not_false, beq_self_eq_true, beq_tf, beq_ft, aPick, List.map_cons, List.map_nil, List.nil_append, List.append_nil, List.getElem?_cons_zero, List.getElem?_cons_succ, endsD_some, eqVal_self, aBuiltin, aLen, Tryz.underlying30, cast_nat, fa45_0, fa45_1, Nat.add_zero, ld3, ld30, hc, ha, ilt_nat, e1]
  refine code_cond_false ?_ ?_
  · simp only [aev, regAt_set, Nat.reduceEqDiff, reduceIte]
  refine code_skip ?_
  simp only [then_normal]
  refine code_seq ?_
  refine code_draw (n := 11) (ms := [0, 1, 3, 7, 0, 16, 48, 112, 255, 511, 1023]) (ord := [0, 1, 2, 3, 4, 5, 6, 7, 8, 9, 10]) (ds := ?_) ?_ ?_ ?_ ?_ ?_ ?_
  rotate_left
  · kernel_rfl
  · kernel_rfl
  · kernel_rfl
  · rfl
  · rfl
  simp only [dRun, wanted, aDrawOne, heavy, aReads, bef, aOne, aP, aR, aA, aT, aCall, aCallVal, aev, regAt_set, aput_mk, aput_none, plainV, aNilCheck, aExtract, aBin, aInt, Addr.add, Nat.zero_add, ends_some, Nat.reduceLT, Nat.reduceAdd, if_true, then_normal, Nat.reduceEqDiff, if_false, reduceIte, reduceCtorEq, decide_true, decide_false, Bool.not_true, Bool.not_false, beq_self_eq_true, beq_tf, beq_ft, aPick, List.map_cons, List.map_nil, List.nil_append, List.append_nil, List.getElem?_cons_zero, List.getElem?_cons_succ, endsD_some, eqVal_self, fa45_0, fa45_1, Nat.add_zero, ld3, ld5, ld30, hc, ha, hi, ht]
  refine code_seq ?_
  refine code_seq ?_
  refine code_region ?_ ?_
  · rfl
  simp only [run1, aOne, aP, aR, aA, aT, aCall, aCallVal, aev, regAt_set, aput_mk, aput_none, plainV, aNilCheck, aExtract, aBin, aInt, Addr.add, Nat.zero_add, ends_some, Nat.reduceLT, Nat.reduceAdd, if_true, then_normal, Nat.reduceEqDiff, if_false, reduceIte, reduceCtorEq, decide_true, decide_false, Bool.not_true, Bool.not_false, beq_self_eq_true, beq_tf, beq_ft, aPick, List.map_cons, List.map_nil, List.nil_append, List.append_nil, List.getElem?_cons_zero, List.getElem?_cons_succ, q35]
  refine code_cond_false ?_ ?_
  · simp only [aev, regAt_set, Nat.reduceEqDiff, reduceIte]
  refine code_skip ?_
  simp only [then_normal]
  refine code_seq ?_
  refine code_region ?_ ?_
  · rfl
  simp only [run1, aOne, aP, aR, aA, aT, aCall, aCallVal, aev, regAt_set, aput_mk, aput_none, plainV, aNilCheck, aExtract, aBin, aInt, Addr.add, Nat.zero_add, ends_some, Nat.reduceLT, Nat.reduceAdd, if_true, then_normal, Nat.reduceEqDiff, if_false, reduceIte, reduceCtorEq, decide_true, decide_false, Bool.not_true, Bool.not_false, beq_self_eq_true, beq_tf, beq_ft, aPick, List.map_cons, List.map_nil, List.nil_append, List.append_nil, List.getElem?_cons_zero, List.getElem?_cons_succ, fa45_1, ld3, ha, a1, hst9]
  refine code_seq ?_
  refine code_region ?_ ?_
  · rfl
  simp only [run1, aOne, aP, aR, aA, aT, aCall, aCallVal, aev, regAt_set, aput_mk, aput_none, plainV, aNilCheck, aExtract, aBin, aInt, Addr.add, Nat.zero_add, ends_some, Nat.reduceLT, Nat.reduceAdd, if_true, then_normal, Nat.reduceEqDiff, if_false, reduceIte, reduceCtorEq, decide_true, decide_false, Bool.not_true, Bool.not_false, beq_self_eq_true, beq_tf, beq_ft, aPick, List.map_cons, List.map_nil, List.nil_append, List.append_nil, List.getElem?_cons_zero, List.getElem?_cons_succ]
  refine code_seq ?_
  refine code_seq ?_
  refine code_region ?_ ?_
  · rfl
  simp only [run1, aOne, aP, aR, aA, aT, aCall, aCallVal, aev, regAt_set, aput_mk, aput_none, plainV, aNilCheck, aExtract, aBin, aInt, Addr.add, Nat.zero_add, ends_some, Nat.reduceLT, Nat.reduceAdd, if_true, then_normal, Nat.reduceEqDiff, if_false, reduceIte, reduceCtorEq, decide_true, decide_false, Bool.not_true, Bool.not_false, beq_self_eq_true, beq_tf, beq_ft, aPick, List.map_cons, List.map_nil, List.nil_append, List.append_nil, List.getElem?_cons_zero, List.getElem?_cons_succ]
  refine code_block ?_
  refine code_seq ?_
  refine code_region ?_ ?_
  · rfl
  simp only [run1, aOne, aP, aR, aA, aT, aCall, aCallVal, aev, regAt_set, aput_mk, aput_none, plainV, aNilCheck, aExtract, aBin, aInt, Addr.add, Nat.zero_add, ends_some, Nat.reduceLT, Nat.reduceAdd, if_true, then_normal, Nat.reduceEqDiff, if_false, reduceIte, reduceCtorEq, decide_true, decide_false, Bool.not_true, Bool.not_false, beq_self_eq_true, beq_tf, beq_ft, aPick, List.map_cons, List.map_nil, List.nil_append, List.append_nil, List.getElem?_cons_zero, List.getElem?_cons_succ, q40]
  refine code_cond_false ?_ ?_
  · simp only [aev, regAt_set, Nat.reduceEqDiff, reduceIte]
  refine code_seq ?_
  refine code_region ?_ ?_
  · rfl
  simp only [run1, aOne, aP, aR, aA, aT, aCall, aCallVal, aev, regAt_set, aput_mk, aput_none, plainV, aNilCheck, aExtract, aBin, aInt, Addr.add, Nat.zero_add, ends_some, Nat.reduceLT, Nat.reduceAdd, if_true, then_normal, Nat.reduceEqDiff, if_false, reduceIte, reduceCtorEq, decide_true, decide_false, Bool.not_true, Bool.not_false, beq_self_eq_true, beq_tf, beq_ft, aPick, List.map_cons, List.map_nil, List.nil_append, List.append_nil, List.getElem?_cons_zero, List.getElem?_cons_succ, q41]
  refine code_cond_false ?_ ?_
  · simp only [aev, regAt_set, Nat.reduceEqDiff, reduceIte]
  refine code_seq ?_
  refine code_seq ?_
  refine code_region ?_ ?_
  · rfl
  simp only [run1, aOne, aP, aR, aA, aT, aCall, aCallVal, aev, regAt_set, aput_mk, aput_none, plainV, aNilCheck, aExtract, aBin, aInt, Addr.add, Nat.zero_add, ends_some, Nat.reduceLT, Nat.reduceAdd, if_true, then_normal, Nat.reduceEqDiff, if_false, reduceIte, reduceCtorEq, decide_true, decide_false, Bool.not_true, Bool.not_false, beq_self_eq_true, beq_tf, beq_ft, aPick, List.map_cons, List.map_nil, List.nil_append, List.append_nil, List.getElem?_cons_zero, List.getElem?_cons_succ, q39]
  refine code_cond_true ?_ ?_
  · simp only [aev, regAt_set, Nat.reduceEqDiff, reduceIte]
  refine code_skip ?_
  simp only [then_normal]
  refine code_cond_true ?_ ?_
  · simp only [aev, regAt_set, Nat.reduceEqDiff, reduceIte]
  refine code_region ?_ ?_
  · rfl
  simp only [run1, aOne, aP, aR, aA, aT, aCall, aCallVal, aev, regAt_set, aput_mk, aput_none, plainV, aNilCheck, aExtract, aBin, aInt, Addr.add, Nat.zero_add, ends_some, Nat.reduceLT, Nat.reduceAdd, if_true, then_normal, Nat.reduceEqDiff, if_false, reduceIte, reduceCtorEq, decide_true, decide_false, Bool.not_true, Bool.not_false, beq_self_eq_true, beq_tf, beq_ft, aPick, List.map_cons, List.map_nil, List.nil_append, List.append_nil, List.getElem?_cons_zero, List.getElem?_cons_succ, go_call (P := Tryz.prog) (X := X) (S := S0) Tryz.func15 rfl rfl, hq, fa51_0, hst2, fa51_2, hst2b]
  simp only [blockC, then_normal]
  refine code_seq ?_
  refine code_region ?_ ?_
  · rfl
  simp only [run1, aOne, aP, aR, aA, aT, aCall, aCallVal, aev, regAt_set, aput_mk, aput_none, plainV, aNilCheck, aExtract, aBin, aInt, Addr.add, Nat.zero_add, ends_some, Nat.reduceLT, Nat.reduceAdd, if_true, then_normal, Nat.reduceEqDiff, if_false, reduceIte, reduceCtorEq, decide_true, decide_false, Bool.not_true, Bool.not_false, beq_self_eq_true, beq_tf, beq_ft, aPick, List.map_cons, List.map_nil, List.nil_append, List.append_nil, List.getElem?_cons_zero, List.getElem?_cons_succ, hl, hst3]
  refine code_ret ?_
  refine ⟨rfl, .tuple #[.agg (tok 4 p quoteT dat0).toArray, .int .i64 0], ?_, rfl, hSj.put h2sc h2tb, hTj.put_new (Nat.le_refl _)⟩
  simp only [aResults, Tryz.results8, aRes, regAt_set, Nat.reduceEqDiff, reduceIte, hl2]

end

noncomputable section
variable {X : FuncId → List Value → Mem → Option (Value × Mem)}

set_option maxHeartbeats 4000000 in
theorem hash_open {k sc tb p : Nat} {bs : List UInt8} {μ : Mem} (hS : Scan μ sc tb bs p) (hp : p + 1 < bs.length) (hb : bs[p + 1].toNat = 40) :
    EndsF (aFun Tryz.prog (aCode Tryz.prog X S0 (k + 60)) 14 [.pointer (some ⟨sc, 0, none⟩), .agg (tok 6 p [] dat0).toArray] μ) fun v μ' => v = .tuple #[.agg (tok 2 p [] dat0).toArray, .int .i64 0] ∧ Scan μ' sc tb bs (p + 2) ∧ Turns μ μ' sc := by
  have hlen := hS.len
  -- the two tokens
  have hga := grow1 μ (.cells 11 51 (tok 6 p [] dat0).toArray .e 0 0 false false)
  obtain ⟨μa, hμa⟩ : ∃ m : Mem, m = ⟨μ.obs.set μ.next (.cells 11 51 (tok 6 p [] dat0).toArray .e 0 0 false false), μ.next + 1⟩ := ⟨_, rfl⟩
  rw [← hμa] at hga
  have hμa' : (⟨μ.obs.set μ.next (.cells (tok 6 p [] dat0).length 51 (tok 6 p [] dat0).toArray .e 0 0 false false), Nat.add μ.next 1⟩ : Mem) = μa := hμa.symm
  have hna : μa.next = μ.next + 1 := by rw [hμa]
  have ha0 : μa.obs.get μ.next = some (.cells 11 51 (tok 6 p [] dat0).toArray .e 0 0 false false) := by rw [hμa]; show T.get _ _ = _; rw [T.get_set, if_pos rfl]
  have hgb := grow1 μa (.cells 11 51 (tok 0 0 [] dat0).toArray .e 0 0 false false)
  obtain ⟨μb, hμb⟩ : ∃ m : Mem, m = ⟨μa.obs.set μa.next (.cells 11 51 (tok 0 0 [] dat0).toArray .e 0 0 false false), μa.next + 1⟩ := ⟨_, rfl⟩
  rw [← hμb] at hgb
  have hμb' : (⟨μa.obs.set μa.next (.cells 11 51 (tok 0 0 [] dat0).toArray .e 0 0 false false), Nat.add μa.next 1⟩ : Mem) = μb := hμb.symm
  have hnb : μb.next = μa.next + 1 := by rw [hμb]
  have hb0 : μb.obs.get μ.next = some (.cells 11 51 (tok 6 p [] dat0).toArray .e 0 0 false false) := (hgb.2 _ (by omega)).trans ha0
  have hb1 : μb.obs.get μa.next = some (.cells 11 51 (tok 0 0 [] dat0).toArray .e 0 0 false false) := by rw [hμb]; show T.get _ _ = _; rw [T.get_set, if_pos rfl]
  have hgab := hga.trans hgb
  have hSb := hS.grow hgab
  obtain ⟨cc, hc0⟩ : ∃ cc, cellsAt μb sc 0 = some (.slice (some ⟨tb, 0, none⟩) bs.length cc) := ⟨3, hSb.tx⟩
  have hc : ∀ y, cellsAt ⟨μb.obs, y⟩ sc 0 = some (.slice (some ⟨tb, 0, none⟩) bs.length cc) := fun y => hc0
  have ha : ∀ y, cellsAt ⟨μb.obs, y⟩ sc 1 = some (.int .i64 (.ofNat p)) := fun y => hSb.at_
  have ht : ∀ y, cellsAt ⟨μb.obs, y⟩ tb (p + 1) = some (.int .u8 (.ofNat 40)) := fun y => by rw [← hb]; exact hSb.txt (p + 1) hp
  have hi := idx30 (tb := tb) (c := cc) hp
  have a1 : qwrap .i64 (Int.add (.ofNat p) 1) = .ofNat (p + 1) := add_nat p 1 (by omega)
  have a2 : qwrap .i64 (Int.add (.ofNat p) 2) = .ofNat (p + 2) := add_nat p 2 (by omega)
  have q40 : ieq (.ofNat 40) 40 = true := rfl
  -- what is stored
  have hSc : Scan ⟨μb.obs, μb.next + 26⟩ sc tb bs p := hSb.grow (grow_up μb 26)
  have hst4 := store_put (P := Tryz.prog) (t := 3) (v := .int .i64 (.ofNat (p + 2))) i3 rfl rfl hSc.blk (show 1 < 2 by decide)
  have hSd := hSc.step (q := p + 2)
  obtain ⟨μd, hμd⟩ : ∃ m : Mem, m = putL ⟨μb.obs, μb.next + 26⟩ sc 1 [.int .i64 (.ofNat (p + 2))] := ⟨_, rfl⟩
  rw [← hμd] at hst4 hSd
  have hTd : Turns μ μd sc := by rw [hμd]; exact (Turns.grow (hgab.trans (grow_up μb 26))).trans (Turns.put _ _ _ _)
  have n0 : μ.next ≠ sc := by have := hS.n1; omega
  have n0t : μ.next ≠ tb := by have := hS.n2; omega
  have n1 : μa.next ≠ sc := by have := hS.n1; omega
  have n1t : μa.next ≠ tb := by have := hS.n2; omega
  have hd0 : Has μd μ.next 0 (tok 6 p [] dat0) := by rw [hμd]; exact (Has.new (l := tok 6 p [] dat0) (show (⟨μb.obs, μb.next + 26⟩ : Mem).obs.get μ.next = _ from hb0)).keep (putL_get _ _ _ _ n0)
  have hd0b : Blk μd μ.next 11 51 := by rw [hμd]; exact Blk.put _ _ ⟨_, _, _, _, hb0⟩
  have hd1b : Blk μd μa.next 11 51 := by rw [hμd]; exact Blk.put _ _ ⟨_, _, _, _, hb1⟩
  have hst5 := store_put (P := Tryz.prog) (t := 3) (v := .int .i64 2) i3 rfl rfl hd0b (show 0 < 11 by decide)
  obtain ⟨μe, hμe⟩ : ∃ m : Mem, m = putL μd μ.next 0 [.int .i64 2] := ⟨_, rfl⟩
  rw [← hμe] at hst5
  have hTe : Turns μ μe sc := by rw [hμe]; exact hTd.put_new (Nat.le_refl _)
  have hSe : Scan μe sc tb bs (p + 2) := by rw [hμe]; exact hSd.put n0 n0t
  have he0 : Has μe μ.next 0 (tok 2 p [] dat0) := by rw [hμe]; exact Has.set (o := 0) (k := 0) (l := tok 6 p [] dat0) hd0 hd0b (Nat.zero_lt_succ _)
  have he1 : Blk μe μa.next 11 51 := by rw [hμe]; exact hd1b.put _ _
  have hl := lds51 he0 rfl
  have hst9 := store_puts (P := Tryz.prog) (t := 51) (vs := tok 2 p [] dat0) (o := 0) i51 rfl rfl he1 (Nat.le_refl _)
  have hl2 := lds51 (Has.of_put (o := 0) (vs := tok 2 p [] dat0) he1 (Nat.le_refl _)) rfl
  refine fun_enter Tryz.func14 rfl rfl (Nat.le_of_ble_eq_true rfl) ?_
  simp only [T.lay, Nat.zero_add, Tryz.ntmps14, Nat.reduceAdd]
  refine code_seq ?_
  refine code_region ?_ ?_
  · rfl
  simp only [run1, aOne, aP, aR, aA, aT, aCall, aCallVal, aev, regAt_set, aput_mk, aput_none, plainV, aNilCheck, aExtract, aBin, aInt, Addr.add, Nat.zero_add, ends_some, Nat.reduceLT, Nat.reduceAdd, if_true, then_normal, Nat.reduceEqDiff, if_false, reduceIte, reduceCtorEq, decide_true, decide_false, Bool.not_true, Bool.not_false, beq_self_eq_true, beq_tf, beq_ft, aPick, List.map_cons, List.map_nil, List.nil_append, List.append_nil, List.getElem?_cons_zero, List.getElem?_cons_succ, box_agg, hμa', al51, hμb']
  refine code_seq ?_
  refine code_region ?_ ?_
  · rfl
  simp only [run1, aOne, aP, aR, aA, aT, aCall, aCallVal, aev, regAt_set, aput_mk, aput_none, plainV, aNilCheck, aExtract, aBin, aInt, Addr.add, Nat.zero_add, ends_some, Nat.reduceLT, Nat.reduceAdd, if_true, then_normal, Nat.reduceEqDiff, if_false, reduceIte, reduceCtorEq, decide_true, decide_false, Bool.not_true, Bool.not_false, beq_self_eq_true, beq_tf, beq_ft, aPick, List.map_cons, List.map_nil, List.nil_append, List.append_nil, List.getElem?_cons_zero, List.getElem?_cons_succ]
  refine code_seq ?_
  refine code_block ?_
  refine code_seq ?_
  refine code_draw (n := 26) (ms := [0, 1, 3, 7, 15, 0, 32, 96, 224, 480, 1023, 2047, 4095, 8191, 16383, 32767, 4095, 69631, 200703, 462847, 987135, 2097151, 4194303, 8388607, 16777215, 33554431]) (ord := [0, 1, 2, 3, 4, 5, 6, 7, 8, 9, 10, 11, 12, 13, 14, 15, 16, 17, 18, 19, 20, 21, 22, 23, 24, 25]) (ds := ?_) ?_ ?_ ?_ ?_ ?_ ?_
  rotate_left
  · kernel_rfl
  · kernel_rfl
  · kernel_rfl
  · rfl
  · rfl
  iterate 26 (refine drun_true (by first | rfl | (simp only [wanted, aOne, aP, aR, aA, aT, aCall, aCallVal, aev, regAt_set, aput_mk, aput_none, plainV, aNilCheck, aExtract, aBin, aInt, Addr.add, Nat.zero_add, ends_some, Nat.reduceLT, Nat.reduceAdd, if_true, then_normal, Nat.reduceEqDiff, if_false, reduceIte, reduceCtorEq, decide_true, decide_false, Bool.not_true, Bool.not_false, beq_self_eq_true, beq_tf, beq_ft, aPick, List.map_cons, List.map_nil, List.nil_append, List.append_nil, List.getElem?_cons_zero, List.getElem?_cons_succ, aBuiltin, aLen, Tryz.underlying30, cast_nat, fa45_0, fa45_1, Nat.add_zero, ld3, ld5, ld30, hc, ha, hi, ht, a1, ilt_nat, hp, q40])) (by simp only [aDrawOne, heavy, aReads, eqVal_self, aOne, aP, aR, aA, aT, aCall, aCallVal, aev, regAt_set, aput_mk, aput_none, plainV, aNilCheck, aExtract, aBin, aInt, Addr.add, Nat.zero_add, ends_some, Nat.reduceLT, Nat.reduceAdd, if_true, then_normal, Nat.reduceEqDiff, if_false, reduceIte, reduceCtorEq, decide_true, decide_false, Bool.not_true, Bool.not_false, beq_self_eq_true, beq_tf, beq_ft, aPick, List.map_cons, List.map_nil, List.nil_append, List.append_nil, List.getElem?_cons_zero, List.getElem?_cons_succ, aBuiltin, aLen, Tryz.underlying30, cast_nat, fa45_0, fa45_1, Nat.add_zero, ld3, ld5, ld30, hc, ha, hi, ht, a1, ilt_nat, hp, q40]; try exact rfl) rfl ?_)
  simp only [dRun, endsD_some, then_normal]
  refine code_cond_true ?_ ?_
  · simp only [aev, regAt_set, Nat.reduceEqDiff, reduceIte]
  refine code_seq ?_
  refine code_region ?_ ?_
  · rfl
  simp only [run1, aOne, aP, aR, aA, aT, aCall, aCallVal, aev, regAt_set, aput_mk, aput_none, plainV, aNilCheck, aExtract, aBin, aInt, Addr.add, Nat.zero_add, ends_some, Nat.reduceLT, Nat.reduceAdd, if_true, then_normal, Nat.reduceEqDiff, if_false, reduceIte, reduceCtorEq, decide_true, decide_false, Bool.not_true, Bool.not_false, beq_self_eq_true, beq_tf, beq_ft, aPick, List.map_cons, List.map_nil, List.nil_append, List.append_nil, List.getElem?_cons_zero, List.getElem?_cons_succ, fa45_1, ld3, ha, a2, hst4]
  refine code_region ?_ ?_
  · rfl
  simp only [run1, aOne, aP, aR, aA, aT, aCall, aCallVal, aev, regAt_set, aput_mk, aput_none, plainV, aNilCheck, aExtract, aBin, aInt, Addr.add, Nat.zero_add, ends_some, Nat.reduceLT, Nat.reduceAdd, if_true, then_normal, Nat.reduceEqDiff, if_false, reduceIte, reduceCtorEq, decide_true, decide_false, Bool.not_true, Bool.not_false, beq_self_eq_true, beq_tf, beq_ft, aPick, List.map_cons, List.map_nil, List.nil_append, List.append_nil, List.getElem?_cons_zero, List.getElem?_cons_succ, fa51_0, hst5]
  simp only [blockC, then_normal]
  refine code_seq ?_
  refine code_region ?_ ?_
  · rfl
  simp only [run1, aOne, aP, aR, aA, aT, aCall, aCallVal, aev, regAt_set, aput_mk, aput_none, plainV, aNilCheck, aExtract, aBin, aInt, Addr.add, Nat.zero_add, ends_some, Nat.reduceLT, Nat.reduceAdd, if_true, then_normal, Nat.reduceEqDiff, if_false, reduceIte, reduceCtorEq, decide_true, decide_false, Bool.not_true, Bool.not_false, beq_self_eq_true, beq_tf, beq_ft, aPick, List.map_cons, List.map_nil, List.nil_append, List.append_nil, List.getElem?_cons_zero, List.getElem?_cons_succ, hl, hst9]
  refine code_ret ?_
  refine ⟨rfl, .tuple #[.agg (tok 2 p [] dat0).toArray, .int .i64 0], ?_, rfl, hSe.put n1 n1t, hTe.put_new (by omega)⟩
  simp only [aResults, Tryz.results14, aRes, regAt_set, Nat.reduceEqDiff, reduceIte, hl2]

/-! ### a word of one letter -/
set_option maxRecDepth 10000 in
theorem text_x {μ : Mem} {sc tb p : Nat} {bs : List UInt8} {q : Nat} (hS : Scan μ sc tb bs q) (hp : p < bs.length) (hb : bs[p].toNat = 120) (cf : FuncId → List Value → Mem → Option (Value × Mem)) (n c : Nat) : aBytesToString Tryz.prog μ 30 9 (.slice (some ⟨tb, p, none⟩) 1 c) = some (.string ⟨xT.toArray⟩) := by
  obtain ⟨te, z, ov, lo, hi, fx, sh, hob⟩ := hS.tob
  have hc := hS.txt p hp
  rw [hb] at hc
  unfold cellsAt at hc
  rw [hob] at hc
  have hc : (if p < bs.length then some (cellAt z ov p) else none) = some (.int .u8 (.ofNat 120)) := hc
  rw [if_pos hp] at hc
  injection hc with hc
  unfold aBytesToString
  simp only [Tryz.underlying30, Tryz.underlying9, Tryz.underlying5, hob]
  rw [show Nat.ble (Nat.add p 1) bs.length = true from Nat.ble_eq_true_of_le hp]
  have e : cellsFrom z ov p 1 = [.int .u8 (.ofNat 120)] := by show [cellAt z ov p] = _; rw [hc]
  rw [e]
  have e2 : bytesOf [.int .u8 (.ofNat 120)] = some xT := by kernel_rfl
  rw [e2]
theorem slice_xs {tb p n : Nat} (hp : p < n) : ∃ c, ∀ (r : Rg) (x lo hi : Operand), aev Tryz.prog r x = .slice (some ⟨tb, 0, none⟩) n 3 → aev Tryz.prog r lo = .int .i64 (.ofNat p) → aev Tryz.prog r hi = .int .i64 (.ofNat (p + 1)) → aSlice Tryz.prog (aev Tryz.prog r) 30 x (some lo) (some hi) none = some (.slice (some ⟨tb, p, none⟩) 1 c) := by
  by_cases h0 : p = 0
  · exact ⟨3, fun r x lo hi hx hl hh => by
      have e1 : Nat.ble (p + 1) n = true := Nat.ble_eq_true_of_le hp
      have e2 : Nat.ble p (p + 1) = true := Nat.ble_eq_true_of_le (Nat.le_succ p)
      unfold aSlice
      simp only [hx, hl, hh, Tryz.underlying30, i5, aBounds, aBound, e1, e2, isSome]
      subst h0; rfl⟩
  · exact ⟨3, fun r x lo hi hx hl hh => by
      have e1 : Nat.ble (p + 1) n = true := Nat.ble_eq_true_of_le hp
      have e2 : Nat.ble p (p + 1) = true := Nat.ble_eq_true_of_le (Nat.le_succ p)
      have e3 : Nat.blt p n = true := by simpa using hp
      have e4 : Nat.sub (p + 1) p = 1 := by show p + 1 - p = 1; omega
      unfold aSlice
      simp only [hx, hl, hh, Tryz.underlying30, i5, aBounds, aBound, e1, e2, e3, e4, isSome]
      have e5 : Nat.beq p 0 = false := by cases p with | zero => exact absurd rfl h0 | succ q => rfl
      rw [e5]
      have e6 : (⟨tb, 0, none⟩ : Addr).add (Nat.mul p Tryz.t5.size) = ⟨tb, p, none⟩ := by
        rw [show Nat.mul p Tryz.t5.size = p from Nat.mul_one p]
        unfold Addr.add
        rw [if_neg h0, Nat.zero_add]
      rw [e6]
      rfl⟩
end
end Go.Proofs.YtfcpiamdmbliaaaGreatDoor.rd
