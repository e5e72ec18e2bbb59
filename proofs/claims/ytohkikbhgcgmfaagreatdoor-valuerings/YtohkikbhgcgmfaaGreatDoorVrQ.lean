/-
  distafflaw18.ValueRings, part Q: its walk and its law. No conditions.
-/
import Derived.Test.YtohkikbhgcgmfaaGreatDoorVrP
set_option linter.unusedSimpArgs false
set_option linter.unusedVariables false
set_option linter.unusedSectionVars false
namespace Go.Proofs.YtohkikbhgcgmfaaGreatDoor.vr
open Go Go.Proofs Go.Proofs.YtohkikbhgcgmfaaGreatDoor.Ev
noncomputable section
variable {X : FuncId → List Value → Mem → Option (Value × Mem)}
theorem j5 : Tryz.prog.info? 5 = some Tryz.t5 := by kernel_rfl
theorem j9 : Tryz.prog.info? 9 = some Tryz.t9 := by kernel_rfl
theorem j24 : Tryz.prog.info? 24 = some Tryz.t24 := by kernel_rfl
theorem j26 : Tryz.prog.info? 26 = some Tryz.t26 := by kernel_rfl
theorem j27 : Tryz.prog.info? 27 = some Tryz.t27 := by kernel_rfl
theorem j32 : Tryz.prog.info? 34 = some Tryz.t34 := by kernel_rfl
theorem j34 : Tryz.prog.info? 36 = some Tryz.t36 := by kernel_rfl
theorem j36 : Tryz.prog.info? 38 = some Tryz.t38 := by kernel_rfl
theorem j39 : Tryz.prog.info? 41 = some Tryz.t41 := by kernel_rfl
theorem j95 : Tryz.prog.info? 160 = some Tryz.t160 := by kernel_rfl
theorem j158 : Tryz.prog.info? 80 = some Tryz.t80 := by kernel_rfl
theorem j212 : Tryz.prog.info? 282 = some Tryz.t282 := by kernel_rfl
theorem j3 : Tryz.prog.info? 3 = some Tryz.t3 := i3
theorem j4 : Tryz.prog.info? 4 = some Tryz.t4 := i4
theorem fa36_0 (ρ : Operand → Value) (x : Operand) : aFieldAddr Tryz.prog ρ 38 x 0 = (match ρ x with | .pointer (some a) => some (.pointer (some (a.add 0))) | _ => none) := fieldAddr_at (ft := 4) (off := 0) Tryz.underlying38 rfl j4 rfl ρ x
theorem fa36_2 (ρ : Operand → Value) (x : Operand) : aFieldAddr Tryz.prog ρ 38 x 2 = (match ρ x with | .pointer (some a) => some (.pointer (some (a.add 2))) | _ => none) := fieldAddr_at (ft := 36) (off := 2) Tryz.underlying38 rfl j34 rfl ρ x
theorem fa34_0 (ρ : Operand → Value) (x : Operand) : aFieldAddr Tryz.prog ρ 36 x 0 = (match ρ x with | .pointer (some a) => some (.pointer (some (a.add 0))) | _ => none) := fieldAddr_at (ft := 4) (off := 0) Tryz.underlying36 rfl j4 rfl ρ x
theorem fa34_1 (ρ : Operand → Value) (x : Operand) : aFieldAddr Tryz.prog ρ 36 x 1 = (match ρ x with | .pointer (some a) => some (.pointer (some (a.add 1))) | _ => none) := fieldAddr_at (ft := 34) (off := 1) Tryz.underlying36 rfl j32 rfl ρ x
theorem fa158_0 (ρ : Operand → Value) (x : Operand) : aFieldAddr Tryz.prog ρ 80 x 0 = (match ρ x with | .pointer (some a) => some (.pointer (some (a.add 0))) | _ => none) := fieldAddr_at (ft := 27) (off := 0) Tryz.underlying80 rfl j27 rfl ρ x
theorem fa158_1 (ρ : Operand → Value) (x : Operand) : aFieldAddr Tryz.prog ρ 80 x 1 = (match ρ x with | .pointer (some a) => some (.pointer (some (a.add 1))) | _ => none) := fieldAddr_at (ft := 27) (off := 1) Tryz.underlying80 rfl j27 rfl ρ x
theorem ld9 (μ : Mem) (i o : Nat) : aLoad Tryz.prog μ 9 (.pointer (some ⟨i, o, none⟩)) = cellsAt μ i o := load_at Tryz.underlying9 rfl μ i o
theorem ld24 (μ : Mem) (i o : Nat) : aLoad Tryz.prog μ 24 (.pointer (some ⟨i, o, none⟩)) = cellsAt μ i o := load_at Tryz.underlying24 rfl μ i o
theorem ld26 (μ : Mem) (i o : Nat) : aLoad Tryz.prog μ 26 (.pointer (some ⟨i, o, none⟩)) = cellsAt μ i o := load_at Tryz.underlying26 rfl μ i o
theorem ld32 (μ : Mem) (i o : Nat) : aLoad Tryz.prog μ 34 (.pointer (some ⟨i, o, none⟩)) = cellsAt μ i o := load_at Tryz.underlying34 rfl μ i o
theorem ld95 (μ : Mem) (i o : Nat) : aLoad Tryz.prog μ 160 (.pointer (some ⟨i, o, none⟩)) = cellsAt μ i o := load_at Tryz.underlying160 rfl μ i o
theorem lds34 {μ : Mem} {i o : Nat} {l : List Value} (h : Has μ i o l) (hl : Tryz.t36.size = l.length) : aLoad Tryz.prog μ 36 (.pointer (some ⟨i, o, none⟩)) = some (.agg l.toArray) := h.load Tryz.underlying36 j34 hl
theorem lds36 {μ : Mem} {i o : Nat} {l : List Value} (h : Has μ i o l) (hl : Tryz.t38.size = l.length) : aLoad Tryz.prog μ 38 (.pointer (some ⟨i, o, none⟩)) = some (.agg l.toArray) := h.load Tryz.underlying38 j36 hl
theorem lds39 {μ : Mem} {i o : Nat} {l : List Value} (h : Has μ i o l) (hl : Tryz.t41.size = l.length) : aLoad Tryz.prog μ 41 (.pointer (some ⟨i, o, none⟩)) = some (.agg l.toArray) := h.load Tryz.underlying41 j39 hl
theorem lds158 {μ : Mem} {i o : Nat} {l : List Value} (h : Has μ i o l) (hl : Tryz.t80.size = l.length) : aLoad Tryz.prog μ 80 (.pointer (some ⟨i, o, none⟩)) = some (.agg l.toArray) := h.load Tryz.underlying80 j158 hl
def intL (neg : Bool) (v : Value) : List Value := [.bool neg, v]
def numL (neg : Bool) (v : Value) : List Value := [.bool false, .float .f64 0, .bool neg, v]
def nilS : Value := .slice none 0 0
theorem z34 : aZeroOf Tryz.prog 36 = some (.agg (intL false nilS).toArray) := by unfold aZeroOf; rw [j34]; rfl
theorem z36 : aZeroOf Tryz.prog 38 = some (.agg (numL false nilS).toArray) := by unfold aZeroOf; rw [j36]; rfl
theorem z95 : aZeroOf Tryz.prog 160 = some (.int .u32 0) := by unfold aZeroOf; rw [j95]; rfl
def ob34 : Ob := .cells 2 36 (intL false nilS).toArray .e 0 0 false false
def ob36 : Ob := .cells 4 38 (numL false nilS).toArray .e 0 0 false false
theorem al34 : aAlloc Tryz.prog 36 = some (ob34, fun id => .pointer (some ⟨id, 0, none⟩)) := by unfold aAlloc; rw [z34]; rfl
theorem al36 : aAlloc Tryz.prog 38 = some (ob36, fun id => .pointer (some ⟨id, 0, none⟩)) := by unfold aAlloc; rw [z36]; rfl
theorem bx34 (l : List Value) : aBox 36 (.agg l.toArray) = some (.cells l.length 36 l.toArray .e 0 0 false false, fun id => .pointer (some ⟨id, 0, none⟩)) := rfl
theorem bx36 (l : List Value) : aBox 38 (.agg l.toArray) = some (.cells l.length 38 l.toArray .e 0 0 false false, fun id => .pointer (some ⟨id, 0, none⟩)) := rfl
theorem bd36 (ρ : Operand → Value) (a : Operand) (neg : Bool) (v : Value) (h1 : ρ a = .agg (intL neg v).toArray) : aBuild Tryz.prog ρ 38 #[(2, a)] = some (.agg (numL neg v).toArray) := by
 refine build_struct (pl := [(0, 1), (1, 1), (2, 2)]) z36 Tryz.underlying38 (by kernel_rfl) ?_
 show aFill _ (numL false nilS) [(2, ρ a)] = some (numL neg v)
 rw [h1]
 rfl
theorem bd34 (ρ : Operand → Value) (a b : Operand) (neg : Bool) (v : Value) (h1 : ρ a = .bool neg) (h2 : ρ b = v) (hv : one v = true) : aBuild Tryz.prog ρ 36 #[(0, a), (1, b)] = some (.agg (intL neg v).toArray) := by
 refine build_struct (pl := [(0, 1), (1, 1)]) z34 Tryz.underlying36 (by kernel_rfl) ?_
 show aFill _ (intL false nilS) [(0, ρ a), (1, ρ b)] = some (intL neg v)
 rw [h1, h2, aFill_one (off := 0) rfl rfl (by simp [intL]), aFill_one (off := 1) rfl hv (by simp [intL])]
 rfl
theorem fresh_blk {μ μc : Mem} {n t : Nat} {z : Array Value} (h : Grow ⟨μ.obs.set μ.next (.cells n t z .e 0 0 false false), μ.next + 1⟩ μc) : Blk μc μ.next n t :=
 ⟨z, .e, false, false, by rw [h.2 _ (Nat.lt_succ_self _)]; show T.get _ _ = _; rw [T.get_set, if_pos rfl]⟩
def Src (μ : Mem) (i : Nat) (l : List Value) : Prop := ∃ m te z ov lo hi fx sh, μ.obs.get i = some (.cells m te z ov lo hi fx sh) ∧ l.length ≤ m ∧ ∀ k (h : k < l.length), cellAt z ov k = l[k]
theorem Src.keep {μ μ' : Mem} {i : Nat} {l : List Value} (h : Src μ i l) (g : μ'.obs.get i = μ.obs.get i) : Src μ' i l := by
 unfold Src; rw [g]; exact h
theorem Src.cell {μ : Mem} {i : Nat} {l : List Value} (h : Src μ i l) (k : Nat) (hk : k < l.length) : cellsAt μ i k = some l[k] := by
 obtain ⟨m, te, z, ov, lo, hi, fx, sh, ho, hm, hc⟩ := h
 rw [cellsAt_of (n := m) (z := z) (ov := ov) (by rw [ho]; rfl) (by omega), hc k hk]
theorem Src.new {μ : Mem} {i t lo hi : Nat} {fx sh : Bool} {l : List Value} (h : μ.obs.get i = some (.cells l.length t l.toArray .e lo hi fx sh)) : Src μ i l := ⟨_, _, _, _, _, _, _, _, h, Nat.le_refl _, fun k hk => cellAt_list l k hk⟩
theorem Src.src {μ : Mem} {i n c : Nat} {l : List Value} (h : Src μ i l) (hn : n ≤ l.length) : srcCells μ 1 n (.slice (some ⟨i, 0, none⟩) n c) = some (l.take n) := by
 obtain ⟨m, te, z, ov, lo, hi, fx, sh, ho, hm, hc⟩ := h
 unfold srcCells
 simp only [Nat.mul_eq, Nat.mul_one]
 cases n with
 | zero => rfl
 | succ n =>
   simp only [ho]
   have : Nat.ble (Nat.add 0 (n + 1)) m = true := Nat.ble_eq_true_of_le (by show 0 + (n + 1) ≤ m; omega)
   rw [this]
   simp only
   rw [cellsFrom_eq (n + 1) 0 (l.take (n + 1)) (by rw [List.length_take]; omega) fun k hk => by
    rw [List.length_take] at hk
    rw [Nat.zero_add, hc k (by omega), List.getElem_take]]
theorem copy_app {st e : TypeId} {inf : TypeInfo} {z0 : Value} (hu : Tryz.prog.underlying st = some (.slice e)) (hi : Tryz.prog.info? e = some inf) (hsz : inf.size = 1) (hby : Nat.ble inf.bytes 4096 = true) (hz : aZeroOf Tryz.prog e = some z0) (hzl : (cellsL z0).length = 1)
  {μ : Mem} {i n c : Nat} {l : List Value} (h : Src μ i l) (hn : n ≤ l.length) (hin : i < μ.next) (hn2 : n < 100000) :
  ∃ v' μ', aAppend Tryz.prog ⟨μ.obs.set μ.next (.cells 0 e #[] .e 0 0 false false), μ.next + 1⟩ st st (.slice (some ⟨μ.next, 0, none⟩) 0 0) (.slice (some ⟨i, 0, none⟩) n c) = some (v', μ') ∧ Grow μ μ' ∧ ((n = 0 ∧ ∃ j, v' = .slice (some ⟨j, 0, none⟩) 0 0) ∨ (0 < n ∧ ∃ j, v' = .slice (some ⟨j, 0, none⟩) n 3 ∧ j < μ'.next ∧ Src μ' j (l.take n))) := by
 have h1 : Src ⟨μ.obs.set μ.next (.cells 0 e #[] .e 0 0 false false), μ.next + 1⟩ i l := h.keep (by show T.get _ i = _; rw [T.get_set, if_neg (by omega)])
 have hl : (l.take n).length = n := by rw [List.length_take]; omega
 have hA : aAppend Tryz.prog ⟨μ.obs.set μ.next (.cells 0 e #[] .e 0 0 false false), μ.next + 1⟩ st st (.slice (some ⟨μ.next, 0, none⟩) 0 0) (.slice (some ⟨i, 0, none⟩) n c) = aAppendTo Tryz.prog ⟨μ.obs.set μ.next (.cells 0 e #[] .e 0 0 false false), μ.next + 1⟩ e 1 n (l.take n) (.slice (some ⟨μ.next, 0, none⟩) 0 0) := by
  have e1 : Nat.ble n 67108864 = true := Nat.ble_eq_true_of_le (by omega)
  have e2 : Nat.beq (l.take n).length (Nat.mul n 1) = true := by rw [hl, show Nat.mul n 1 = n from Nat.mul_one n]; simp
  unfold aAppend
  simp only [hu, hi, hby, hz, hzl, hsz, lenV, h1.src hn, e1, e2]
 rw [hA]
 by_cases hn0 : n = 0
 ·subst hn0
  exact ⟨_, _, rfl, grow1 μ _, .inl ⟨rfl, _, rfl⟩⟩
 ·have e1 : Nat.ble (Nat.add 0 n) 67108864 = true := Nat.ble_eq_true_of_le (by show 0 + n ≤ _; omega)
  have e2 : Nat.ble (Nat.add 0 n) (Nat.div 0 2) = false := by
   cases hb : Nat.ble (Nat.add 0 n) (Nat.div 0 2) with
   | false => rfl
   | true => have : 0 + n ≤ 0 := Nat.le_of_ble_eq_true hb; omega
  have hg : Grow μ ⟨(μ.obs.set μ.next (.cells 0 e #[] .e 0 0 false false)).set (μ.next + 1) (.cells ([] ++ l.take n).length e ([] ++ l.take n).toArray .e 0 0 true false), μ.next + 1 + 1⟩ := ⟨by show μ.next ≤ μ.next + 1 + 1; omega, fun i hi => by show T.get _ i = _; rw [T.get_set, if_neg (by omega), T.get_set, if_neg (by omega)]⟩
  refine ⟨.slice (some ⟨μ.next + 1, 0, none⟩) (0 + n) 3, ⟨(μ.obs.set μ.next (.cells 0 e #[] .e 0 0 false false)).set (μ.next + 1) (.cells ([] ++ l.take n).length e ([] ++ l.take n).toArray .e 0 0 true false), μ.next + 1 + 1⟩, ?_, hg, .inr ⟨by omega, μ.next + 1, by rw [Nat.zero_add], Nat.lt_succ_self _, ?_⟩⟩
  ·unfold aAppendTo
   simp only [e1, e2]
   rfl
  ·refine Src.new (t := e) (lo := 0) (hi := 0) (fx := true) (sh := false) ?_
   show T.get _ _ = _
   rw [T.get_set, if_pos rfl]
   rfl
def Lim (μ : Mem) (v : Value) (x : Nat) : Prop := x < 4294967296 ∧ ((x = 0 ∧ ∃ i c, v = .slice (some ⟨i, 0, none⟩) 0 c ∧ (c % 2 = 0 ∨ c % 2 = 1)) ∨ (x ≠ 0 ∧ ∃ i c, v = .slice (some ⟨i, 0, none⟩) 1 c ∧ ((c % 2 = 0 ∧ 1 ≤ c / 2) ∨ c % 2 = 1) ∧ i < μ.next ∧ Src μ i [.int .u32 (.ofNat x)]))
theorem Lim.one {μ : Mem} {v : Value} {x : Nat} (h : Lim μ v x) : one v = true := by
 rcases h.2 with ⟨_, i, c, e, _⟩ | ⟨_, i, c, e, _⟩ <;> subst e <;> rfl
theorem Lim.grow {μ μ' : Mem} {v : Value} {x : Nat} (h : Lim μ v x) (g : Grow μ μ') : Lim μ' v x :=
 ⟨h.1, h.2.imp id fun ⟨h0, i, c, e, hc, hi, hs⟩ => ⟨h0, i, c, e, hc, Nat.lt_of_lt_of_le hi g.1, hs.keep (g.2 i hi)⟩⟩
end
noncomputable section
variable {X : FuncId → List Value → Mem → Option (Value × Mem)}
theorem bs32z (ρ : Operand → Value) : aBuildSlice Tryz.prog ρ 34 0 #[] = some (.cells 0 160 #[] .e 0 0 false false, fun id => .slice (some ⟨id, 0, none⟩) 0 0) := by
 unfold aBuildSlice
 simp only [Tryz.underlying34, j95, z95]
 rfl
theorem nil32 (a : Addr) (n c : Nat) : aNil Tryz.prog 34 (.slice (some a) n c) (.slice none 0 0) = true := by kernel_rfl
set_option maxRecDepth 20000 in
set_option maxHeartbeats 4000000 in
theorem clone_ends {g i n c : Nat} {l : List Value} {μ : Mem} (hg : 20 ≤ g) (h : Src μ i l) (hn : n ≤ l.length) (hin : i < μ.next) (hn2 : n < 100000) :
  EndsF (aFun Tryz.prog (aCode Tryz.prog X S0 g) 170 [.slice (some ⟨i, 0, none⟩) n c] μ) fun v μ' => Grow μ μ' ∧ ((n = 0 ∧ ∃ j, v = .slice (some ⟨j, 0, none⟩) 0 0) ∨ (0 < n ∧ ∃ j, v = .slice (some ⟨j, 0, none⟩) n 3 ∧ j < μ'.next ∧ Src μ' j (l.take n))) := by
 obtain ⟨k, rfl⟩ := Nat.exists_eq_add_of_le' hg
 obtain ⟨v', μ', hap, hr⟩ := copy_app (st := 34) (e := 160) (c := c) Tryz.underlying34 j95 rfl rfl z95 rfl h hn hin hn2
 refine fun_enter Tryz.func170 rfl rfl (Nat.le_of_ble_eq_true rfl) ?_
 simp only [T.lay, Nat.zero_add, Tryz.ntmps170, Nat.reduceAdd]
 repeat (first | refine code_seq ?_ | ((first | (refine code_region ?_ ?_; (focus rfl)) | (refine code_guards (gs := ?_) ?_ ?_; rotate_left; (focus rfl))); simp only [run1, run2, wanted, go_sem, Nat.reduceLT, Nat.reduceAdd, Nat.reduceEqDiff, reduceIte, reduceCtorEq, bs32z, nil32, aBuiltin, hap]) | (refine code_cond_true ?_ ?_; (focus (simp only [aev, regAt_set, Nat.reduceEqDiff, reduceIte, bs32z, nil32, aBuiltin, hap]; done))) | (refine code_cond_false ?_ ?_; (focus (simp only [aev, regAt_set, Nat.reduceEqDiff, reduceIte, bs32z, nil32, aBuiltin, hap]; done))) | ((first | refine code_skip ?_ | refine code_label ?_ | refine code_exit ?_); try simp only [then_exit, then_normal, blockC, Nat.reduceEqDiff, reduceIte]) | refine code_block ?_)
 refine code_ret ?_
 refine ⟨rfl, _, ?_, hr⟩
 simp only [aResults, Tryz.results170, aRes, regAt_set, Nat.reduceEqDiff, reduceIte]
def CapOk (n c : Nat) : Prop := (c % 2 = 0 ∧ n ≤ c / 2) ∨ c % 2 = 1
theorem slice32 {ρ : Operand → Value} {x y : Operand} {a : Addr} {n m c : Nat} (hx : ρ x = .slice (some a) n c) (hy : ρ y = .int .i64 (.ofNat m)) (hm : m ≤ n) (hc : CapOk n c) : aSlice Tryz.prog ρ 34 x none (some y) none = some (.slice (some a) m c) := by
 unfold aSlice
 simp only [hx, Tryz.underlying34, j95]
 rcases hc with ⟨c1, c2⟩ | c1
 ·have e1 : Nat.beq (Nat.mod c 2) 0 = true := by rw [show Nat.mod c 2 = 0 from c1]; rfl
  have e3 : Nat.ble m (Nat.div c 2) = true := Nat.ble_eq_true_of_le (by show m ≤ c / 2; omega)
  simp only [e1, aBounds, aBound, hy, e3]
  have e4 : a.add (Nat.mul 0 Tryz.t160.size) = a := by rw [show Nat.mul 0 Tryz.t160.size = 0 from Nat.zero_mul _]; rfl
  rw [e4, show Nat.mul 2 (Nat.sub (Nat.div c 2) 0) = c from by show 2 * (c / 2) = c; omega, show Nat.sub m 0 = m from rfl]
  split <;> rfl
 ·have e1 : Nat.beq (Nat.mod c 2) 0 = false := by rw [show Nat.mod c 2 = 1 from c1]; rfl
  have e3 : Nat.ble m n = true := Nat.ble_eq_true_of_le hm
  simp only [e1, aBounds, aBound, hy, e3]
  rfl
theorem idx32 {ρ : Operand → Value} {x y : Operand} {i n c m : Nat} (hx : ρ x = .slice (some ⟨i, 0, none⟩) n c) (hy : ρ y = .int .i64 (.ofNat m)) (hm : m < n) : aIndexAddr Tryz.prog ρ 34 x y = some (.pointer (some ⟨i, m, none⟩)) := by
 rw [indexAddr_slice (P := Tryz.prog) Tryz.underlying34 j95 rfl hx hy hm, Nat.zero_add]
def tl (l : List Nat) : Nat := match l with
 | [] => 0
 | [x] => if x = 0 then 0 else 1
 | x :: y :: _ => if y = 0 then (if x = 0 then 0 else 1) else 2
def u32L (l : List Nat) : List Value := l.map fun x => .int .u32 (.ofNat x)
set_option maxRecDepth 20000 in
set_option maxHeartbeats 4000000 in
theorem trim_ends {g i n c x : Nat} {l : List Nat} {μ : Mem} (hg : 100 ≤ g) (h : Src μ i (u32L l)) (hin : i < μ.next) (hx : x < 4294967296) (hc : CapOk n c) (hl : (n = 0 ∧ x = 0) ∨ (n = 1 ∧ l = [x]) ∨ (n = 2 ∧ l = [x, 0])) :
  EndsF (aFun Tryz.prog (aCode Tryz.prog X S0 g) 141 [.slice (some ⟨i, 0, none⟩) n c] μ) fun v μ' => Grow μ μ' ∧ Lim μ' v x := by
 obtain ⟨k, rfl⟩ := Nat.exists_eq_add_of_le' hg
 obtain ⟨m, hm⟩ : ∃ m, m = if x = 0 then 0 else 1 := ⟨_, rfl⟩
 have hml : m ≤ (u32L l).length ∧ m ≤ n := by
  rw [hm]
  rcases hl with ⟨h1, h2⟩ | ⟨h1, h2⟩ | ⟨h1, h2⟩
  ·rw [if_pos h2]; omega
  ·subst h2; split <;> simp [u32L] <;> omega
  ·subst h2; split <;> simp [u32L] <;> omega
 obtain ⟨v1, μ1, hcl, hgr, hres⟩ := clone_ends (X := X) (g := k + 95) (c := c) (by omega) h hml.1 hin (by omega)
 have hfin : Grow μ μ1 ∧ Lim μ1 v1 x := by
  refine ⟨hgr, hx, ?_⟩
  rcases hres with ⟨h0, j, hv⟩ | ⟨h0, j, hv, hj, hs⟩
  ·exact .inl ⟨by rw [hm] at h0; by_cases e : x = 0; exact e; rw [if_neg e] at h0; omega, j, 0, hv, .inl rfl⟩
  ·have hx0 : x ≠ 0 := by intro e; rw [hm, if_pos e] at h0; omega
   have hm1 : m = 1 := by rw [hm, if_neg hx0]
   refine .inr ⟨hx0, j, 3, by rw [hv, hm1], .inr rfl, hj, ?_⟩
   have : (u32L l).take m = [.int .u32 (.ofNat x)] := by
    rw [hm1]
    rcases hl with ⟨h1, h2⟩ | ⟨h1, h2⟩ | ⟨h1, h2⟩
    ·exact absurd h2 hx0
    ·subst h2; rfl
    ·subst h2; rfl
   rw [this] at hs
   exact hs
 have q00 : ilt 0 (.ofNat 0) = false := rfl
 have q01 : ilt 0 (.ofNat 1) = true := rfl
 have q02 : ilt 0 (.ofNat 2) = true := rfl
 have s1 : qwrap .i64 (Int.sub (.ofNat 1) 1) = .ofNat 0 := rfl
 have s2 : qwrap .i64 (Int.sub (.ofNat 2) 1) = .ofNat 1 := rfl
 have hsl : ∀ (ρ : Operand → Value) (a b : Operand), ρ a = .slice (some ⟨i, 0, none⟩) n c → ρ b = .int .i64 (.ofNat m) → aSlice Tryz.prog ρ 34 a none (some b) none = some (.slice (some ⟨i, 0, none⟩) m c) := fun ρ a b h1 h2 => slice32 h1 h2 hml.2 hc
 rcases hl with ⟨h1, h2⟩ | ⟨h1, h2⟩ | ⟨h1, h2⟩
 ·subst h1
  obtain rfl : m = 0 := by omega
  refine fun_enter Tryz.func141 rfl rfl (Nat.le_of_ble_eq_true rfl) ?_
  simp only [T.lay, Nat.zero_add, Tryz.ntmps141, Nat.reduceAdd]
  repeat (first | refine code_seq ?_ | ((first | (refine code_region ?_ ?_; (focus rfl)) | (refine code_guards (gs := ?_) ?_ ?_; rotate_left; (focus rfl))); simp only [run1, run2, wanted, go_sem, Nat.reduceLT, Nat.reduceAdd, Nat.reduceEqDiff, reduceIte, reduceCtorEq, aBuiltin, aLen, Tryz.underlying34, cast_nat, q00, hsl, gg170, hcl]) | (refine code_cond_true ?_ ?_; (focus (simp only [aev, regAt_set, Nat.reduceEqDiff, reduceIte, aBuiltin, aLen, Tryz.underlying34, cast_nat, q00, hsl, gg170, hcl]; done))) | (refine code_cond_false ?_ ?_; (focus (simp only [aev, regAt_set, Nat.reduceEqDiff, reduceIte, aBuiltin, aLen, Tryz.underlying34, cast_nat, q00, hsl, gg170, hcl]; done))) | ((first | refine code_skip ?_ | refine code_label ?_ | refine code_exit ?_); try simp only [then_exit, then_normal, blockC, Nat.reduceEqDiff, reduceIte]) | refine code_block ?_ | refine code_loop ?_)
  refine code_ret ?_
  refine ⟨rfl, _, ?_, hfin⟩
  simp only [aResults, Tryz.results141, aRes, regAt_set, Nat.reduceEqDiff, reduceIte]
 ·subst h1 h2
  have c0 : cellsAt μ i 0 = some (.int .u32 (.ofNat x)) := h.cell 0 (by simp [u32L])
  have hix : ∀ (ρ : Operand → Value) (a b : Operand), ρ a = .slice (some ⟨i, 0, none⟩) 1 c → ρ b = .int .i64 (.ofNat 0) → aIndexAddr Tryz.prog ρ 34 a b = some (.pointer (some ⟨i, 0, none⟩)) := fun ρ a b h1 h2 => idx32 h1 h2 (by decide)
  by_cases e : x = 0
  ·have qx : ieq (.ofNat x) 0 = true := (ieq_nat x 0).trans (decide_eq_true e)
   obtain rfl : m = 0 := by rw [hm, if_pos e]
   refine fun_enter Tryz.func141 rfl rfl (Nat.le_of_ble_eq_true rfl) ?_
   simp only [T.lay, Nat.zero_add, Tryz.ntmps141, Nat.reduceAdd]
   repeat (first | refine code_seq ?_ | ((first | (refine code_region ?_ ?_; (focus rfl)) | (refine code_guards (gs := ?_) ?_ ?_; rotate_left; (focus rfl))); simp only [run1, run2, wanted, go_sem, Nat.reduceLT, Nat.reduceAdd, Nat.reduceEqDiff, reduceIte, reduceCtorEq, aBuiltin, aLen, Tryz.underlying34, cast_nat, q00, q01, s1, hix, ld95, c0, qx, hsl, gg170, hcl]) | (refine code_cond_true ?_ ?_; (focus (simp only [aev, regAt_set, Nat.reduceEqDiff, reduceIte, aBuiltin, aLen, Tryz.underlying34, cast_nat, q00, q01, s1, hix, ld95, c0, qx, hsl, gg170, hcl]; done))) | (refine code_cond_false ?_ ?_; (focus (simp only [aev, regAt_set, Nat.reduceEqDiff, reduceIte, aBuiltin, aLen, Tryz.underlying34, cast_nat, q00, q01, s1, hix, ld95, c0, qx, hsl, gg170, hcl]; done))) | ((first | refine code_skip ?_ | refine code_label ?_ | refine code_exit ?_); try simp only [then_exit, then_normal, blockC, Nat.reduceEqDiff, reduceIte]) | refine code_block ?_ | refine code_loop ?_)
   refine code_ret ?_
   refine ⟨rfl, _, ?_, hfin⟩
   simp only [aResults, Tryz.results141, aRes, regAt_set, Nat.reduceEqDiff, reduceIte]
  ·have qx : ieq (.ofNat x) 0 = false := (ieq_nat x 0).trans (decide_eq_false e)
   obtain rfl : m = 1 := by rw [hm, if_neg e]
   refine fun_enter Tryz.func141 rfl rfl (Nat.le_of_ble_eq_true rfl) ?_
   simp only [T.lay, Nat.zero_add, Tryz.ntmps141, Nat.reduceAdd]
   repeat (first | refine code_seq ?_ | ((first | (refine code_region ?_ ?_; (focus rfl)) | (refine code_guards (gs := ?_) ?_ ?_; rotate_left; (focus rfl))); simp only [run1, run2, wanted, go_sem, Nat.reduceLT, Nat.reduceAdd, Nat.reduceEqDiff, reduceIte, reduceCtorEq, aBuiltin, aLen, Tryz.underlying34, cast_nat, q00, q01, s1, hix, ld95, c0, qx, hsl, gg170, hcl]) | (refine code_cond_true ?_ ?_; (focus (simp only [aev, regAt_set, Nat.reduceEqDiff, reduceIte, aBuiltin, aLen, Tryz.underlying34, cast_nat, q00, q01, s1, hix, ld95, c0, qx, hsl, gg170, hcl]; done))) | (refine code_cond_false ?_ ?_; (focus (simp only [aev, regAt_set, Nat.reduceEqDiff, reduceIte, aBuiltin, aLen, Tryz.underlying34, cast_nat, q00, q01, s1, hix, ld95, c0, qx, hsl, gg170, hcl]; done))) | ((first | refine code_skip ?_ | refine code_label ?_ | refine code_exit ?_); try simp only [then_exit, then_normal, blockC, Nat.reduceEqDiff, reduceIte]) | refine code_block ?_ | refine code_loop ?_)
   refine code_ret ?_
   refine ⟨rfl, _, ?_, hfin⟩
   simp only [aResults, Tryz.results141, aRes, regAt_set, Nat.reduceEqDiff, reduceIte]
 ·subst h1 h2
  have c0 : cellsAt μ i 0 = some (.int .u32 (.ofNat x)) := h.cell 0 (by simp [u32L])
  have c1 : cellsAt μ i 1 = some (.int .u32 (.ofNat 0)) := h.cell 1 (by simp [u32L])
  have hix : ∀ (ρ : Operand → Value) (a b : Operand), ρ a = .slice (some ⟨i, 0, none⟩) 2 c → ρ b = .int .i64 (.ofNat 0) → aIndexAddr Tryz.prog ρ 34 a b = some (.pointer (some ⟨i, 0, none⟩)) := fun ρ a b h1 h2 => idx32 h1 h2 (by decide)
  have hix1 : ∀ (ρ : Operand → Value) (a b : Operand), ρ a = .slice (some ⟨i, 0, none⟩) 2 c → ρ b = .int .i64 (.ofNat 1) → aIndexAddr Tryz.prog ρ 34 a b = some (.pointer (some ⟨i, 1, none⟩)) := fun ρ a b h1 h2 => idx32 h1 h2 (by decide)
  have q0 : ieq (.ofNat 0) 0 = true := rfl
  by_cases e : x = 0
  ·have qx : ieq (.ofNat x) 0 = true := (ieq_nat x 0).trans (decide_eq_true e)
   obtain rfl : m = 0 := by rw [hm, if_pos e]
   refine fun_enter Tryz.func141 rfl rfl (Nat.le_of_ble_eq_true rfl) ?_
   simp only [T.lay, Nat.zero_add, Tryz.ntmps141, Nat.reduceAdd]
   repeat (first | refine code_seq ?_ | ((first | (refine code_region ?_ ?_; (focus rfl)) | (refine code_guards (gs := ?_) ?_ ?_; rotate_left; (focus rfl))); simp only [run1, run2, wanted, go_sem, Nat.reduceLT, Nat.reduceAdd, Nat.reduceEqDiff, reduceIte, reduceCtorEq, aBuiltin, aLen, Tryz.underlying34, cast_nat, q00, q01, q02, s1, s2, hix, hix1, ld95, c0, c1, qx, q0, hsl, gg170, hcl]) | (refine code_cond_true ?_ ?_; (focus (simp only [aev, regAt_set, Nat.reduceEqDiff, reduceIte, aBuiltin, aLen, Tryz.underlying34, cast_nat, q00, q01, q02, s1, s2, hix, hix1, ld95, c0, c1, qx, q0, hsl, gg170, hcl]; done))) | (refine code_cond_false ?_ ?_; (focus (simp only [aev, regAt_set, Nat.reduceEqDiff, reduceIte, aBuiltin, aLen, Tryz.underlying34, cast_nat, q00, q01, q02, s1, s2, hix, hix1, ld95, c0, c1, qx, q0, hsl, gg170, hcl]; done))) | ((first | refine code_skip ?_ | refine code_label ?_ | refine code_exit ?_); try simp only [then_exit, then_normal, blockC, Nat.reduceEqDiff, reduceIte]) | refine code_block ?_ | refine code_loop ?_)
   refine code_ret ?_
   refine ⟨rfl, _, ?_, hfin⟩
   simp only [aResults, Tryz.results141, aRes, regAt_set, Nat.reduceEqDiff, reduceIte]
  ·have qx : ieq (.ofNat x) 0 = false := (ieq_nat x 0).trans (decide_eq_false e)
   obtain rfl : m = 1 := by rw [hm, if_neg e]
   refine fun_enter Tryz.func141 rfl rfl (Nat.le_of_ble_eq_true rfl) ?_
   simp only [T.lay, Nat.zero_add, Tryz.ntmps141, Nat.reduceAdd]
   repeat (first | refine code_seq ?_ | ((first | (refine code_region ?_ ?_; (focus rfl)) | (refine code_guards (gs := ?_) ?_ ?_; rotate_left; (focus rfl))); simp only [run1, run2, wanted, go_sem, Nat.reduceLT, Nat.reduceAdd, Nat.reduceEqDiff, reduceIte, reduceCtorEq, aBuiltin, aLen, Tryz.underlying34, cast_nat, q00, q01, q02, s1, s2, hix, hix1, ld95, c0, c1, qx, q0, hsl, gg170, hcl]) | (refine code_cond_true ?_ ?_; (focus (simp only [aev, regAt_set, Nat.reduceEqDiff, reduceIte, aBuiltin, aLen, Tryz.underlying34, cast_nat, q00, q01, q02, s1, s2, hix, hix1, ld95, c0, c1, qx, q0, hsl, gg170, hcl]; done))) | (refine code_cond_false ?_ ?_; (focus (simp only [aev, regAt_set, Nat.reduceEqDiff, reduceIte, aBuiltin, aLen, Tryz.underlying34, cast_nat, q00, q01, q02, s1, s2, hix, hix1, ld95, c0, c1, qx, q0, hsl, gg170, hcl]; done))) | ((first | refine code_skip ?_ | refine code_label ?_ | refine code_exit ?_); try simp only [then_exit, then_normal, blockC, Nat.reduceEqDiff, reduceIte]) | refine code_block ?_ | refine code_loop ?_)
   refine code_ret ?_
   refine ⟨rfl, _, ?_, hfin⟩
   simp only [aResults, Tryz.results141, aRes, regAt_set, Nat.reduceEqDiff, reduceIte]
end
noncomputable section
variable {X : FuncId → List Value → Mem → Option (Value × Mem)}
theorem qu32 (m : Nat) (h : m < 4294967296) : qwrap .u32 (.ofNat m) = .ofNat m := by
 rw [qwrap_eq]
 show IntKind.wrap .u32 _ = _
 unfold IntKind.wrap
 simp only [IntKind.bits, IntKind.signed]
 simp
 omega
theorem cv26_95 (n : Int) : aConvInt Tryz.prog 26 160 (.int .u64 n) = some (.int .u32 (qwrap .u32 n)) := by
 simp only [aConvInt, Tryz.underlying26, Tryz.underlying160]
theorem cv3_26 (n : Int) : aConvInt Tryz.prog 3 26 (.int .i64 n) = some (.int .u64 (qwrap .u64 n)) := by
 simp only [aConvInt, Tryz.underlying3, Tryz.underlying26]
theorem shr32 (m : Nat) : aShift false .u64 (.ofNat m) 32 = some (.int .u64 (.ofNat (m / 2 ^ 32))) := shr_u m 32 (by decide)
theorem bs32_2 (ρ : Operand → Value) (a b : Operand) (x y : Int) (ha : ρ a = .int .u32 x) (hb : ρ b = .int .u32 y) : aBuildSlice Tryz.prog ρ 34 2 #[(0, a), (1, b)] = some (.cells 2 160 #[.int .u32 x, .int .u32 y] .e 0 0 false false, fun id => .slice (some ⟨id, 0, none⟩) 2 4) := by
 unfold aBuildSlice
 simp only [Tryz.underlying34, j95, z95]
 show (match aFill _ [.int .u32 0, .int .u32 0] [(0, ρ a), (1, ρ b)] with | some cs => _ | none => none) = _
 rw [ha, hb]
 rfl
set_option maxRecDepth 20000 in
set_option maxHeartbeats 4000000 in
theorem lof_ends {g x : Nat} {μ : Mem} (hg : 150 ≤ g) (hx : x < 4294967296) :
  EndsF (aFun Tryz.prog (aCode Tryz.prog X S0 g) 173 [.int .u64 (.ofNat x)] μ) fun v μ' => Grow μ μ' ∧ Lim μ' v x := by
 obtain ⟨k, rfl⟩ := Nat.exists_eq_add_of_le' hg
 have e1 : qwrap .u32 (.ofNat x) = .ofNat x := qu32 x hx
 have e2 : x / 2 ^ 32 = 0 := Nat.div_eq_of_lt hx
 have e3 : qwrap .u32 (.ofNat 0) = .ofNat 0 := rfl
 have hb : ∀ (ρ : Operand → Value) (a b : Operand), ρ a = .int .u32 (.ofNat x) → ρ b = .int .u32 (.ofNat 0) → aBuildSlice Tryz.prog ρ 34 2 #[(0, a), (1, b)] = some (.cells 2 160 #[.int .u32 (.ofNat x), .int .u32 (.ofNat 0)] .e 0 0 false false, fun id => .slice (some ⟨id, 0, none⟩) 2 4) := fun ρ a b h1 h2 => bs32_2 ρ a b _ _ h1 h2
 have hs : Src ⟨μ.obs.set μ.next (.cells 2 160 #[.int .u32 (.ofNat x), .int .u32 (.ofNat 0)] .e 0 0 false false), μ.next + 1⟩ μ.next (u32L [x, 0]) := Src.new (t := 160) (lo := 0) (hi := 0) (fx := false) (sh := false) (l := u32L [x, 0]) (by show T.get _ _ = _; rw [T.get_set, if_pos rfl]; rfl)
 obtain ⟨v1, μ1, hcl, hgr, hres⟩ := trim_ends (X := X) (g := k + 147) (n := 2) (c := 4) (by omega) hs (Nat.lt_succ_self _) hx (.inl ⟨rfl, by decide⟩) (.inr (.inr ⟨rfl, rfl⟩))
 refine fun_enter Tryz.func173 rfl rfl (Nat.le_of_ble_eq_true rfl) ?_
 simp only [T.lay, Nat.zero_add, Tryz.ntmps173, Nat.reduceAdd]
 repeat (first | refine code_seq ?_ | ((first | (refine code_region ?_ ?_; (focus rfl)) | (refine code_guards (gs := ?_) ?_ ?_; rotate_left; (focus rfl))); simp only [run1, run2, wanted, go_sem, Nat.reduceLT, Nat.reduceAdd, Nat.reduceEqDiff, reduceIte, reduceCtorEq, cv26_95, e1, shr32, e2, e3, hb, Nat.add_eq, gg141, hcl]) | (refine code_cond_true ?_ ?_; (focus (simp only [aev, regAt_set, Nat.reduceEqDiff, reduceIte, cv26_95, e1, shr32, e2, e3, hb, Nat.add_eq, gg141, hcl]; done))) | (refine code_cond_false ?_ ?_; (focus (simp only [aev, regAt_set, Nat.reduceEqDiff, reduceIte, cv26_95, e1, shr32, e2, e3, hb, Nat.add_eq, gg141, hcl]; done))) | ((first | refine code_skip ?_ | refine code_label ?_ | refine code_exit ?_); try simp only [then_exit, then_normal, blockC, Nat.reduceEqDiff, reduceIte]) | refine code_block ?_)
 refine code_ret ?_
 refine ⟨rfl, _, ?_, (grow1 μ _).trans hgr, hres⟩
 simp only [aResults, Tryz.results173, aRes, regAt_set, Nat.reduceEqDiff, reduceIte]
def IntV (μ : Mem) (v : Value) (n : Int) : Prop := ∃ l, v = .agg (intL (decide (n < 0)) l).toArray ∧ Lim μ l n.natAbs
def NumV (μ : Mem) (v : Value) (n : Int) : Prop := ∃ l, v = .agg (numL (decide (n < 0)) l).toArray ∧ Lim μ l n.natAbs
theorem lim_len {μ : Mem} {v : Value} {x : Nat} (h : Lim μ v x) : ∃ a c, v = .slice a (if x = 0 then 0 else 1) c := by
 rcases h.2 with ⟨h0, i, c, e, _⟩ | ⟨h0, i, c, e, _⟩
 ·exact ⟨_, _, by rw [if_pos h0]; exact e⟩
 ·exact ⟨_, _, by rw [if_neg h0]; exact e⟩
set_option maxRecDepth 20000 in
set_option maxHeartbeats 4000000 in
theorem signed_ends {g x : Nat} {b : Bool} {n : Int} {l : Value} {μ : Mem} (hg : 30 ≤ g) (h : Lim μ l x) (hn : n.natAbs = x) (hb : (b && decide (0 < x)) = decide (n < 0)) :
  EndsF (aFun Tryz.prog (aCode Tryz.prog X S0 g) 166 [.bool b, l] μ) fun v μ' => Grow μ μ' ∧ IntV μ' v n := by
 obtain ⟨k, rfl⟩ := Nat.exists_eq_add_of_le' hg
 have hb34 : ∀ (ρ : Operand → Value) (a c : Operand), ρ a = .bool (decide (n < 0)) → ρ c = l → aBuild Tryz.prog ρ 36 #[(0, a), (1, c)] = some (.agg (intL (decide (n < 0)) l).toArray) := fun ρ a c h1 h2 => bd34 ρ a c _ _ h1 h2 h.one
 obtain ⟨a, c, hl⟩ := lim_len h
 have hbk : Blk ⟨μ.obs.set μ.next ob34, μ.next + 1⟩ μ.next 2 36 := fresh_blk (Grow.refl _)
 have hst := store_puts (P := Tryz.prog) (t := 36) (vs := intL (decide (n < 0)) l) j34 rfl (by show (true && (one l && true)) = true; rw [h.one]; rfl) hbk (by simp [intL] : 0 + (intL (decide (n < 0)) l).length ≤ 2)
 have hh : Has (putL ⟨μ.obs.set μ.next ob34, μ.next + 1⟩ μ.next 0 (intL (decide (n < 0)) l)) μ.next 0 (intL (decide (n < 0)) l) := Has.of_put hbk (by simp [intL])
 have hgr : Grow μ (putL ⟨μ.obs.set μ.next ob34, μ.next + 1⟩ μ.next 0 (intL (decide (n < 0)) l)) := (grow1 μ _).put_new (Nat.le_refl _)
 have hld := lds34 hh rfl
 have fin : Grow μ (putL ⟨μ.obs.set μ.next ob34, μ.next + 1⟩ μ.next 0 (intL (decide (n < 0)) l)) ∧ IntV (putL ⟨μ.obs.set μ.next ob34, μ.next + 1⟩ μ.next 0 (intL (decide (n < 0)) l)) (.agg (intL (decide (n < 0)) l).toArray) n := ⟨hgr, l, rfl, hn ▸ h.grow hgr⟩
 have q0 : ilt 0 (.ofNat 0) = false := rfl
 have q1 : ilt 0 (.ofNat 1) = true := rfl
 cases b with
 | false =>
   have hf : decide (n < 0) = false := by rw [← hb]; rfl
   rw [hf] at hb34 hst hld fin
   refine fun_enter Tryz.func166 rfl rfl (Nat.le_of_ble_eq_true rfl) ?_
   simp only [T.lay, Nat.zero_add, Tryz.ntmps166, Nat.reduceAdd]
   repeat (first | refine code_seq ?_ | ((first | (refine code_region ?_ ?_; (focus rfl)) | (refine code_guards (gs := ?_) ?_ ?_; rotate_left; (focus rfl))); simp only [run1, run2, wanted, go_sem, Nat.reduceLT, Nat.reduceAdd, Nat.reduceEqDiff, reduceIte, reduceCtorEq, al34, Nat.add_eq, hb34, hst]) | (refine code_cond_true ?_ ?_; (focus (simp only [aev, regAt_set, Nat.reduceEqDiff, reduceIte, al34, Nat.add_eq, hb34, hst]; done))) | (refine code_cond_false ?_ ?_; (focus (simp only [aev, regAt_set, Nat.reduceEqDiff, reduceIte, al34, Nat.add_eq, hb34, hst]; done))) | ((first | refine code_skip ?_ | refine code_label ?_ | refine code_exit ?_); try simp only [then_exit, then_normal, blockC, Nat.reduceEqDiff, reduceIte]) | refine code_block ?_)
   refine code_ret ?_
   refine ⟨rfl, _, ?_, fin⟩
   simp only [aResults, Tryz.results166, aRes, regAt_set, Nat.reduceEqDiff, reduceIte]
   simp only [hld]
 | true =>
   by_cases h0 : x = 0
   ·have hf : decide (n < 0) = false := by rw [← hb, h0]; rfl
    rw [hf] at hb34 hst hld fin
    rw [if_pos h0] at hl
    subst hl
    refine fun_enter Tryz.func166 rfl rfl (Nat.le_of_ble_eq_true rfl) ?_
    simp only [T.lay, Nat.zero_add, Tryz.ntmps166, Nat.reduceAdd]
    repeat (first | refine code_seq ?_ | ((first | (refine code_region ?_ ?_; (focus rfl)) | (refine code_guards (gs := ?_) ?_ ?_; rotate_left; (focus rfl))); simp only [run1, run2, wanted, go_sem, Nat.reduceLT, Nat.reduceAdd, Nat.reduceEqDiff, reduceIte, reduceCtorEq, al34, Nat.add_eq, aBuiltin, aLen, Tryz.underlying34, cast_nat, q0, hb34, hst]) | (refine code_cond_true ?_ ?_; (focus (simp only [aev, regAt_set, Nat.reduceEqDiff, reduceIte, al34, Nat.add_eq, aBuiltin, aLen, Tryz.underlying34, cast_nat, q0, hb34, hst]; done))) | (refine code_cond_false ?_ ?_; (focus (simp only [aev, regAt_set, Nat.reduceEqDiff, reduceIte, al34, Nat.add_eq, aBuiltin, aLen, Tryz.underlying34, cast_nat, q0, hb34, hst]; done))) | ((first | refine code_skip ?_ | refine code_label ?_ | refine code_exit ?_); try simp only [then_exit, then_normal, blockC, Nat.reduceEqDiff, reduceIte]) | refine code_block ?_)
    refine code_ret ?_
    refine ⟨rfl, _, ?_, fin⟩
    simp only [aResults, Tryz.results166, aRes, regAt_set, Nat.reduceEqDiff, reduceIte]
    simp only [hld]
   ·have hf : decide (n < 0) = true := by rw [← hb, decide_eq_true (by omega : 0 < x)]; rfl
    rw [hf] at hb34 hst hld fin
    rw [if_neg h0] at hl
    subst hl
    refine fun_enter Tryz.func166 rfl rfl (Nat.le_of_ble_eq_true rfl) ?_
    simp only [T.lay, Nat.zero_add, Tryz.ntmps166, Nat.reduceAdd]
    repeat (first | refine code_seq ?_ | ((first | (refine code_region ?_ ?_; (focus rfl)) | (refine code_guards (gs := ?_) ?_ ?_; rotate_left; (focus rfl))); simp only [run1, run2, wanted, go_sem, Nat.reduceLT, Nat.reduceAdd, Nat.reduceEqDiff, reduceIte, reduceCtorEq, al34, Nat.add_eq, aBuiltin, aLen, Tryz.underlying34, cast_nat, q1, hb34, hst]) | (refine code_cond_true ?_ ?_; (focus (simp only [aev, regAt_set, Nat.reduceEqDiff, reduceIte, al34, Nat.add_eq, aBuiltin, aLen, Tryz.underlying34, cast_nat, q1, hb34, hst]; done))) | (refine code_cond_false ?_ ?_; (focus (simp only [aev, regAt_set, Nat.reduceEqDiff, reduceIte, al34, Nat.add_eq, aBuiltin, aLen, Tryz.underlying34, cast_nat, q1, hb34, hst]; done))) | ((first | refine code_skip ?_ | refine code_label ?_ | refine code_exit ?_); try simp only [then_exit, then_normal, blockC, Nat.reduceEqDiff, reduceIte]) | refine code_block ?_)
    refine code_ret ?_
    refine ⟨rfl, _, ?_, fin⟩
    simp only [aResults, Tryz.results166, aRes, regAt_set, Nat.reduceEqDiff, reduceIte]
    simp only [hld]
end
noncomputable section
variable {X : FuncId → List Value → Mem → Option (Value × Mem)}
theorem blkI {μ μ' : Mem} (h : Grow ⟨μ.obs.set μ.next ob34, μ.next + 1⟩ μ') : Blk μ' μ.next 2 36 := fresh_blk h
theorem blkN {μ μ' : Mem} (h : Grow ⟨μ.obs.set μ.next ob36, μ.next + 1⟩ μ') : Blk μ' μ.next 4 38 := fresh_blk h
theorem IntV.grow {μ μ' : Mem} {v : Value} {n : Int} (h : IntV μ v n) (g : Grow μ μ') : IntV μ' v n := by
 obtain ⟨l, e, hl⟩ := h; exact ⟨l, e, hl.grow g⟩
theorem NumV.grow {μ μ' : Mem} {v : Value} {n : Int} (h : NumV μ v n) (g : Grow μ μ') : NumV μ' v n := by
 obtain ⟨l, e, hl⟩ := h; exact ⟨l, e, hl.grow g⟩
theorem tell34 {μ μ1 : Mem} {v : Value} {n : Int} (hg : Grow ⟨μ.obs.set μ.next ob34, μ.next + 1⟩ μ1) (h : IntV μ1 v n) :
  ∃ μ2, aStore Tryz.prog μ1 36 (.pointer (some ⟨μ.next, 0, none⟩)) v = some (undef, μ2) ∧ aLoad Tryz.prog μ2 36 (.pointer (some ⟨μ.next, 0, none⟩)) = some v ∧ Grow μ μ2 ∧ IntV μ2 v n := by
 obtain ⟨l, e, hl⟩ := h
 subst e
 have hb := blkI hg
 have hgr : Grow μ (putL μ1 μ.next 0 (intL (decide (n < 0)) l)) := ((grow1 μ _).trans hg).put_new (Nat.le_refl _)
 refine ⟨_, store_puts (P := Tryz.prog) (t := 36) (vs := intL (decide (n < 0)) l) j34 rfl (by show (true && (one l && true)) = true; rw [hl.one]; rfl) hb (by simp [intL] : 0 + (intL (decide (n < 0)) l).length ≤ 2), lds34 (Has.of_put hb (by simp [intL])) rfl, hgr, l, rfl, ?_⟩
 refine ⟨hl.1, hl.2.imp id fun ⟨h0, i, c, e, hc, hi, hs⟩ => ⟨h0, i, c, e, hc, by rw [putL_next]; exact hi, ?_⟩⟩
 by_cases e2 : i = μ.next
 ·subst e2
  exfalso
  obtain ⟨m, te, z, ov, lo, hi2, fx, sh, ho, hm, hcc⟩ := hs
  have := hg.2 μ.next (Nat.lt_succ_self _)
  rw [ho] at this
  have e3 : (Mem.obs ⟨μ.obs.set μ.next ob34, μ.next + 1⟩).get μ.next = some ob34 := by show T.get _ _ = _; rw [T.get_set, if_pos rfl]
  rw [e3] at this
  unfold ob34 at this
  simp only [Option.some.injEq, Ob.cells.injEq] at this
  obtain ⟨t1, t2, t3, t4, _⟩ := this
  subst t1 t3 t4
  have h2 : Value.bool false = Value.int .u32 (.ofNat n.natAbs) := hcc 0 (by simp)
  cases h2
 ·exact hs.keep (putL_get _ _ _ _ e2)
theorem tell36 {μ μ1 : Mem} {v : Value} {n : Int} (hg : Grow ⟨μ.obs.set μ.next ob36, μ.next + 1⟩ μ1) (h : NumV μ1 v n) :
  ∃ μ2, aStore Tryz.prog μ1 38 (.pointer (some ⟨μ.next, 0, none⟩)) v = some (undef, μ2) ∧ aLoad Tryz.prog μ2 38 (.pointer (some ⟨μ.next, 0, none⟩)) = some v ∧ Grow μ μ2 ∧ NumV μ2 v n := by
 obtain ⟨l, e, hl⟩ := h
 subst e
 have hb := blkN hg
 have hgr : Grow μ (putL μ1 μ.next 0 (numL (decide (n < 0)) l)) := ((grow1 μ _).trans hg).put_new (Nat.le_refl _)
 refine ⟨_, store_puts (P := Tryz.prog) (t := 38) (vs := numL (decide (n < 0)) l) j36 rfl (by show (true && (true && (true && (one l && true)))) = true; rw [hl.one]; rfl) hb (by simp [numL] : 0 + (numL (decide (n < 0)) l).length ≤ 4), lds36 (Has.of_put hb (by simp [numL])) rfl, hgr, l, rfl, ?_⟩
 refine ⟨hl.1, hl.2.imp id fun ⟨h0, i, c, e, hc, hi, hs⟩ => ⟨h0, i, c, e, hc, by rw [putL_next]; exact hi, ?_⟩⟩
 by_cases e2 : i = μ.next
 ·subst e2
  exfalso
  obtain ⟨m, te, z, ov, lo, hi2, fx, sh, ho, hm, hcc⟩ := hs
  have := hg.2 μ.next (Nat.lt_succ_self _)
  rw [ho] at this
  have e3 : (Mem.obs ⟨μ.obs.set μ.next ob36, μ.next + 1⟩).get μ.next = some ob36 := by show T.get _ _ = _; rw [T.get_set, if_pos rfl]
  rw [e3] at this
  unfold ob36 at this
  simp only [Option.some.injEq, Ob.cells.injEq] at this
  obtain ⟨t1, t2, t3, t4, _⟩ := this
  subst t1 t3 t4
  have h2 : Value.bool false = Value.int .u32 (.ofNat n.natAbs) := hcc 0 (by simp)
  cases h2
 ·exact hs.keep (putL_get _ _ _ _ e2)
theorem plain_neg {ρ : Operand → Value} {d : Option Tmp} {t ty : TypeId} {x : Operand} {ps : String} {af : Array Edge} {gd : Option (Nat × Bool)} {k : IntKind} {n m : Int} (hx : ρ x = .int k n) (hm : k.wrap (0 - n) = m) : aPlain Tryz.prog ρ ⟨d, .unOp .neg t x, ty, ps, af, gd⟩ = some (.int k m) := by
 unfold aPlain
 simp only [opsOf, plains, hx, plainV, execOp]
 subst hm
 rfl
set_option maxRecDepth 20000 in
set_option maxHeartbeats 4000000 in
theorem eof_ends {g : Nat} {n : Int} {μ : Mem} (hg : 200 ≤ g) (hn : Sm n) :
  EndsF (aFun Tryz.prog (aCode Tryz.prog X S0 g) 147 [.int .i64 n] μ) fun v μ' => Grow μ μ' ∧ IntV μ' v n := by
 obtain ⟨k, rfl⟩ := Nat.exists_eq_add_of_le' hg
 unfold Sm at hn
 obtain ⟨x, hx⟩ : ∃ x, x = n.natAbs := ⟨_, rfl⟩
 by_cases h0 : n < 0
 ·obtain ⟨v1, μ1, h1, g1, l1⟩ := lof_ends (X := X) (g := k + 194) (x := x) (μ := ⟨μ.obs.set μ.next ob34, μ.next + 1⟩) (by omega) (by omega)
  obtain ⟨v2, μ2, h2, g2, l2⟩ := signed_ends (X := X) (g := k + 194) (b := true) (n := n) (by omega) l1 hx.symm (by rw [decide_eq_true h0, decide_eq_true (by omega : 0 < x)]; rfl)
  obtain ⟨μ3, s3, d3, g3, l3⟩ := tell34 (g1.trans g2) l2
  have q0 : ilt n 0 = true := by rw [ilt_eq]; exact decide_eq_true h0
  have q1 : qwrap .i64 (Int.add n 1) = n + 1 := wrap_i64 _ (by show _ ≤ n + 1; omega) (by show n + 1 < _; omega)
  have q2 : ∀ (ρ : Operand → Value) (d : Option Tmp) (y : Operand) (ty : TypeId) (ps : String) (af : Array Edge) (gd : Option (Nat × Bool)), ρ y = .int .i64 (n + 1) → aPlain Tryz.prog ρ ⟨d, .unOp .neg 3 y, ty, ps, af, gd⟩ = some (.int .i64 (.ofNat (x - 1))) := fun ρ d y ty ps af gd h => plain_neg h (by rw [IntWalk.i64_in _ (by omega)]; show 0 - (n + 1) = ((x - 1 : Nat) : Int); omega)
  have q3 : qwrap .u64 (.ofNat (x - 1)) = .ofNat (x - 1) := qu64 _ (by omega)
  have q4 : qwrap .u64 (Int.add (.ofNat (x - 1)) 1) = .ofNat x := by show qwrap .u64 (.ofNat (x - 1 + 1)) = _; rw [qu64 _ (by omega)]; congr 1; omega
  refine fun_enter Tryz.func147 rfl rfl (Nat.le_of_ble_eq_true rfl) ?_
  simp only [T.lay, Nat.zero_add, Tryz.ntmps147, Nat.reduceAdd]
  repeat (first | refine code_seq ?_ | ((first | (refine code_region ?_ ?_; (focus rfl)) | (refine code_guards (gs := ?_) ?_ ?_; rotate_left; (focus rfl))); simp only [run1, run2, wanted, go_sem, Nat.reduceLT, Nat.reduceAdd, Nat.reduceEqDiff, reduceIte, reduceCtorEq, al34, Nat.add_eq, q0, q1, q2, cv3_26, q3, q4, gg173, gg166, h1, h2, s3]) | (refine code_cond_true ?_ ?_; (focus (simp only [aev, regAt_set, Nat.reduceEqDiff, reduceIte, al34, Nat.add_eq, q0, q1, q2, cv3_26, q3, q4, gg173, gg166, h1, h2, s3]; done))) | (refine code_cond_false ?_ ?_; (focus (simp only [aev, regAt_set, Nat.reduceEqDiff, reduceIte, al34, Nat.add_eq, q0, q1, q2, cv3_26, q3, q4, gg173, gg166, h1, h2, s3]; done))) | ((first | refine code_skip ?_ | refine code_label ?_ | refine code_exit ?_); try simp only [then_exit, then_normal, blockC, Nat.reduceEqDiff, reduceIte]) | refine code_block ?_)
  refine code_ret ?_
  refine ⟨rfl, _, ?_, g3, l3⟩
  simp only [aResults, Tryz.results147, aRes, regAt_set, Nat.reduceEqDiff, reduceIte]
  simp only [d3]
 ·obtain ⟨v1, μ1, h1, g1, l1⟩ := lof_ends (X := X) (g := k + 196) (x := x) (μ := ⟨μ.obs.set μ.next ob34, μ.next + 1⟩) (by omega) (by omega)
  obtain ⟨v2, μ2, h2, g2, l2⟩ := signed_ends (X := X) (g := k + 196) (b := false) (n := n) (by omega) l1 hx.symm (by rw [decide_eq_false h0]; rfl)
  obtain ⟨μ3, s3, d3, g3, l3⟩ := tell34 (g1.trans g2) l2
  obtain rfl : n = .ofNat x := by show n = (x : Int); omega
  have q0 : ilt (.ofNat x) 0 = false := rfl
  have q3 : qwrap .u64 (.ofNat x) = .ofNat x := qu64 _ (by omega)
  refine fun_enter Tryz.func147 rfl rfl (Nat.le_of_ble_eq_true rfl) ?_
  simp only [T.lay, Nat.zero_add, Tryz.ntmps147, Nat.reduceAdd]
  repeat (first | refine code_seq ?_ | ((first | (refine code_region ?_ ?_; (focus rfl)) | (refine code_guards (gs := ?_) ?_ ?_; rotate_left; (focus rfl))); simp only [run1, run2, wanted, go_sem, Nat.reduceLT, Nat.reduceAdd, Nat.reduceEqDiff, reduceIte, reduceCtorEq, al34, Nat.add_eq, q0, cv3_26, q3, gg173, gg166, h1, h2, s3]) | (refine code_cond_true ?_ ?_; (focus (simp only [aev, regAt_set, Nat.reduceEqDiff, reduceIte, al34, Nat.add_eq, q0, cv3_26, q3, gg173, gg166, h1, h2, s3]; done))) | (refine code_cond_false ?_ ?_; (focus (simp only [aev, regAt_set, Nat.reduceEqDiff, reduceIte, al34, Nat.add_eq, q0, cv3_26, q3, gg173, gg166, h1, h2, s3]; done))) | ((first | refine code_skip ?_ | refine code_label ?_ | refine code_exit ?_); try simp only [then_exit, then_normal, blockC, Nat.reduceEqDiff, reduceIte]) | refine code_block ?_)
  refine code_ret ?_
  refine ⟨rfl, _, ?_, g3, l3⟩
  simp only [aResults, Tryz.results147, aRes, regAt_set, Nat.reduceEqDiff, reduceIte]
  simp only [d3]
end
noncomputable section
variable {X : FuncId → List Value → Mem → Option (Value × Mem)}
set_option maxRecDepth 20000 in
set_option maxHeartbeats 4000000 in
theorem whole_ends {g : Nat} {n : Int} {l : Value} {μ : Mem} (hg : 30 ≤ g) (h : IntV μ l n) :
  EndsF (aFun Tryz.prog (aCode Tryz.prog X S0 g) 138 [l] μ) fun v μ' => Grow μ μ' ∧ NumV μ' v n := by
 obtain ⟨k, rfl⟩ := Nat.exists_eq_add_of_le' hg
 obtain ⟨w, rfl, hl⟩ := h
 obtain ⟨b, hb⟩ : ∃ b, b = decide (n < 0) := ⟨_, rfl⟩
 rw [← hb]
 have hg1 : Grow μ ⟨(μ.obs.set μ.next (.cells (intL b w).length 36 (intL b w).toArray .e 0 0 false false)).set (μ.next + 1) ob36, μ.next + 1 + 1⟩ := ⟨by show μ.next ≤ μ.next + 1 + 1; omega, fun i hi => by show T.get _ i = _; rw [T.get_set, if_neg (by omega), T.get_set, if_neg (by omega)]⟩
 obtain ⟨μ3, s3, d3, g3, l3⟩ := tell36 (μ := ⟨μ.obs.set μ.next (.cells (intL b w).length 36 (intL b w).toArray .e 0 0 false false), μ.next + 1⟩) (v := .agg (numL b w).toArray) (n := n) (Grow.refl _) ⟨w, by rw [hb], hl.grow hg1⟩
 have hh : Has ⟨(μ.obs.set μ.next (.cells (intL b w).length 36 (intL b w).toArray .e 0 0 false false)).set (μ.next + 1) ob36, μ.next + 1 + 1⟩ μ.next 0 (intL b w) := Has.new (t := 36) (fx := false) (sh := false) (by show T.get _ _ = _; rw [T.get_set, if_neg (by omega), T.get_set, if_pos rfl])
 have hld := lds34 hh rfl
 have hb36 : ∀ (ρ : Operand → Value) (a : Operand), ρ a = .agg (intL b w).toArray → aBuild Tryz.prog ρ 38 #[(2, a)] = some (.agg (numL b w).toArray) := fun ρ a h => bd36 ρ a _ _ h
 refine fun_enter Tryz.func138 rfl rfl (Nat.le_of_ble_eq_true rfl) ?_
 simp only [T.lay, Nat.zero_add, Tryz.ntmps138, Nat.reduceAdd]
 repeat (first | refine code_seq ?_ | ((first | (refine code_region ?_ ?_; (focus rfl)) | (refine code_guards (gs := ?_) ?_ ?_; rotate_left; (focus rfl))); simp only [run1, run2, wanted, go_sem, Nat.reduceLT, Nat.reduceAdd, Nat.reduceEqDiff, reduceIte, reduceCtorEq, bx34, al36, Nat.add_eq, hld, hb36, s3]) | (refine code_cond_true ?_ ?_; (focus (simp only [aev, regAt_set, Nat.reduceEqDiff, reduceIte, bx34, al36, Nat.add_eq, hld, hb36, s3]; done))) | (refine code_cond_false ?_ ?_; (focus (simp only [aev, regAt_set, Nat.reduceEqDiff, reduceIte, bx34, al36, Nat.add_eq, hld, hb36, s3]; done))) | ((first | refine code_skip ?_ | refine code_label ?_ | refine code_exit ?_); try simp only [then_exit, then_normal, blockC, Nat.reduceEqDiff, reduceIte]) | refine code_block ?_)
 refine code_ret ?_
 refine ⟨rfl, _, ?_, (grow1 μ _).trans g3, l3⟩
 simp only [aResults, Tryz.results138, aRes, regAt_set, Nat.reduceEqDiff, reduceIte]
 simp only [d3]
set_option maxRecDepth 20000 in
set_option maxHeartbeats 4000000 in
theorem tint_ends {g : Nat} {n : Int} {μ : Mem} (hg : 240 ≤ g) (hn : Sm n) :
  EndsF (aFun Tryz.prog (aCode Tryz.prog X S0 g) 118 [.int .i64 n] μ) fun v μ' => Grow μ μ' ∧ NumV μ' v n := by
 obtain ⟨k, rfl⟩ := Nat.exists_eq_add_of_le' hg
 obtain ⟨v1, μ1, h1, g1, l1⟩ := eof_ends (X := X) (g := k + 237) (n := n) (μ := ⟨μ.obs.set μ.next ob36, μ.next + 1⟩) (by omega) hn
 obtain ⟨v2, μ2, h2, g2, l2⟩ := whole_ends (X := X) (g := k + 237) (by omega) l1
 obtain ⟨μ3, s3, d3, g3, l3⟩ := tell36 (g1.trans g2) l2
 refine fun_enter Tryz.func118 rfl rfl (Nat.le_of_ble_eq_true rfl) ?_
 simp only [T.lay, Nat.zero_add, Tryz.ntmps118, Nat.reduceAdd]
 repeat (first | refine code_seq ?_ | ((first | (refine code_region ?_ ?_; (focus rfl)) | (refine code_guards (gs := ?_) ?_ ?_; rotate_left; (focus rfl))); simp only [run1, run2, wanted, go_sem, Nat.reduceLT, Nat.reduceAdd, Nat.reduceEqDiff, reduceIte, reduceCtorEq, al36, Nat.add_eq, gg147, gg138, h1, h2, s3]) | (refine code_cond_true ?_ ?_; (focus (simp only [aev, regAt_set, Nat.reduceEqDiff, reduceIte, al36, Nat.add_eq, gg147, gg138, h1, h2, s3]; done))) | (refine code_cond_false ?_ ?_; (focus (simp only [aev, regAt_set, Nat.reduceEqDiff, reduceIte, al36, Nat.add_eq, gg147, gg138, h1, h2, s3]; done))) | ((first | refine code_skip ?_ | refine code_label ?_ | refine code_exit ?_); try simp only [then_exit, then_normal, blockC, Nat.reduceEqDiff, reduceIte]) | refine code_block ?_)
 refine code_ret ?_
 refine ⟨rfl, _, ?_, g3, l3⟩
 simp only [aResults, Tryz.results118, aRes, regAt_set, Nat.reduceEqDiff, reduceIte]
 simp only [d3]
theorem ms32 : aMakeSlice Tryz.prog 34 (.int .i64 (.ofNat 1)) (.int .i64 (.ofNat 1)) = some (.cells 1 160 #[.int .u32 0] .e 0 0 false false, fun id => .slice (some ⟨id, 0, none⟩) 1 2) := by
 unfold aMakeSlice
 simp only [Tryz.underlying34, j95, z95]
 rfl
theorem cv95_26 (n : Int) : aConvInt Tryz.prog 160 26 (.int .u32 n) = some (.int .u64 (qwrap .u64 n)) := by
 simp only [aConvInt, Tryz.underlying26, Tryz.underlying160]
theorem lor0 (x : Nat) (h : x < 18446744073709551616) : aBits Nat.lor .u64 .u64 (.ofNat 0) (.ofNat x) = some (.int .u64 (.ofNat x)) := lor_u 0 x x (by simp) (by decide) h
set_option maxRecDepth 20000 in
set_option maxHeartbeats 4000000 in
theorem short_ends {g i c x : Nat} {μ : Mem} (hg : 60 ≤ g) (h : Src μ i [.int .u32 (.ofNat x)]) (hin : i < μ.next) (hx : x < 1000000000) :
  EndsF (aFun Tryz.prog (aCode Tryz.prog X S0 g) 181 [.slice (some ⟨i, 0, none⟩) 1 c, .int .u32 1000000000] μ) fun v μ' => Grow μ μ' ∧ v = .tuple #[.slice (some ⟨μ.next, 0, none⟩) 1 2, .int .u32 (.ofNat x)] ∧ μ.next < μ'.next ∧ Src μ' μ.next [.int .u32 0] := by
 obtain ⟨k, rfl⟩ := Nat.exists_eq_add_of_le' hg
 obtain ⟨μ1, hμ1⟩ : ∃ m : Mem, m = ⟨μ.obs.set μ.next (.cells 1 160 #[.int .u32 0] .e 0 0 false false), μ.next + 1⟩ := ⟨_, rfl⟩
 have g1 : Grow μ μ1 := by rw [hμ1]; exact grow1 μ _
 have b1 : Blk μ1 μ.next 1 160 := by rw [hμ1]; exact fresh_blk (Grow.refl _)
 have c1 : cellsAt μ1 i 0 = some (.int .u32 (.ofNat x)) := (h.keep (g1.2 i hin)).cell 0 (by simp)
 have hst := store_put (P := Tryz.prog) (t := 160) (v := .int .u32 0) j95 rfl rfl b1 (Nat.lt_succ_self 0)
 have hs : Src (putL μ1 μ.next 0 [.int .u32 0]) μ.next [.int .u32 0] := by
  refine ⟨1, 160, #[.int .u32 0], T.e.lay 0 [.int .u32 0], 0, 0, false, false, putL_at (by rw [hμ1]; show T.get _ _ = _; rw [T.get_set, if_pos rfl]), Nat.le_refl _, fun k hk => ?_⟩
  obtain rfl : k = 0 := by simp at hk; exact hk
  rfl
 have gf : Grow μ (putL μ1 μ.next 0 [.int .u32 0]) := g1.put_new (Nat.le_refl _)
 have hix : ∀ (ρ : Operand → Value) (a b : Operand), ρ a = .slice (some ⟨i, 0, none⟩) 1 c → ρ b = .int .i64 (.ofNat 0) → aIndexAddr Tryz.prog ρ 34 a b = some (.pointer (some ⟨i, 0, none⟩)) := fun ρ a b h1 h2 => idx32 h1 h2 (by decide)
 have hix2 : ∀ (ρ : Operand → Value) (a b : Operand), ρ a = .slice (some ⟨μ.next, 0, none⟩) 1 2 → ρ b = .int .i64 (.ofNat 0) → aIndexAddr Tryz.prog ρ 34 a b = some (.pointer (some ⟨μ.next, 0, none⟩)) := fun ρ a b h1 h2 => idx32 h1 h2 (by decide)
 have e1 : qwrap .i64 (Int.sub (.ofNat 1) 1) = .ofNat 0 := rfl
 have e2 : ilt (.ofNat 0) 0 = false := rfl
 have e3 : aShift true .u64 (.ofNat 0) 32 = some (.int .u64 (.ofNat 0)) := rfl
 have e4 : qwrap .u64 (.ofNat x) = .ofNat x := qu64 _ (by omega)
 have e5 := lor0 x (by omega)
 have e6 : qwrap .u64 1000000000 = .ofNat 1000000000 := rfl
 have e7 : aDiv false .u64 .u64 (.ofNat x) (.ofNat 1000000000) = some (.int .u64 (.ofNat 0)) := by
  show some (Value.int .u64 (qwrap .u64 (.ofNat (x / 1000000000)))) = _
  rw [Nat.div_eq_of_lt hx]; rfl
 have e8 : aDiv true .u64 .u64 (.ofNat x) (.ofNat 1000000000) = some (.int .u64 (.ofNat x)) := by
  show some (Value.int .u64 (.ofNat (x % 1000000000))) = _
  rw [Nat.mod_eq_of_lt hx]
 have e9 : qwrap .u32 (.ofNat 0) = 0 := rfl
 have e10 : qwrap .i64 (Int.sub (.ofNat 0) 1) = -1 := rfl
 have e11 : ilt (-1) 0 = true := rfl
 have e12 : qwrap .u32 (.ofNat x) = .ofNat x := qu32 _ (by omega)
 have e0 : (0 : Int) = .ofNat 0 := rfl
 have eal : (⟨μ.obs.set μ.next (.cells 1 160 #[.int .u32 0] .e 0 0 false false), Nat.add μ.next 1⟩ : Mem) = μ1 := hμ1.symm
 have e13 : aShift true .u64 0 32 = some (.int .u64 (.ofNat 0)) := rfl
 refine fun_enter Tryz.func181 rfl rfl (Nat.le_of_ble_eq_true rfl) ?_
 simp only [T.lay, Nat.zero_add, Tryz.ntmps181, Nat.reduceAdd]
 repeat (first | refine code_seq ?_ | ((first | (refine code_region ?_ ?_; (focus rfl)) | (refine code_guards (gs := ?_) ?_ ?_; rotate_left; (focus rfl))); simp only [run1, run2, wanted, go_sem, Nat.reduceLT, Nat.reduceAdd, Nat.reduceEqDiff, reduceIte, reduceCtorEq, aBuiltin, aLen, Tryz.underlying34, cast_nat, ms32, eal, e1, e2, e3, e13, hix, hix2, ld95, c1, cv95_26, e4, e5, e6, e7, cv26_95, e9, hst, e8, e10, e11, e12]) | (refine code_cond_true ?_ ?_; (focus (simp only [aev, regAt_set, Nat.reduceEqDiff, reduceIte, aBuiltin, aLen, Tryz.underlying34, cast_nat, ms32, eal, e1, e2, e3, e13, hix, hix2, ld95, c1, cv95_26, e4, e5, e6, e7, cv26_95, e9, hst, e8, e10, e11, e12]; done))) | (refine code_cond_false ?_ ?_; (focus (simp only [aev, regAt_set, Nat.reduceEqDiff, reduceIte, aBuiltin, aLen, Tryz.underlying34, cast_nat, ms32, eal, e1, e2, e3, e13, hix, hix2, ld95, c1, cv95_26, e4, e5, e6, e7, cv26_95, e9, hst, e8, e10, e11, e12]; done))) | ((first | refine code_skip ?_ | refine code_label ?_ | refine code_exit ?_); try simp only [then_exit, then_normal, blockC, Nat.reduceEqDiff, reduceIte]) | refine code_block ?_ | refine code_loop ?_)
 refine code_ret ?_
 refine ⟨rfl, _, ?_, gf, rfl, by rw [putL_next, hμ1]; exact Nat.lt_succ_self _, hs⟩
 simp only [aResults, Tryz.results181, aRes, regAt_set, Nat.reduceEqDiff, reduceIte]
end
noncomputable section
variable {X : FuncId → List Value → Mem → Option (Value × Mem)}
theorem cv26_5 (n : Int) : aConvInt Tryz.prog 26 5 (.int .u64 n) = some (.int .u8 (qwrap .u8 n)) := by
 simp only [aConvInt, Tryz.underlying26, Tryz.underlying5]
theorem cv5_3 (n : Int) : aConvInt Tryz.prog 5 3 (.int .u8 n) = some (.int .i64 (qwrap .i64 n)) := by
 simp only [aConvInt, Tryz.underlying3, Tryz.underlying5]
theorem cv95_3 (n : Int) : aConvInt Tryz.prog 160 3 (.int .u32 n) = some (.int .i64 (qwrap .i64 n)) := by
 simp only [aConvInt, Tryz.underlying3, Tryz.underlying160]
theorem cv2_26 (n : Int) : aConvInt Tryz.prog 2 26 (.int .i64 n) = some (.int .u64 (qwrap .u64 n)) := by
 simp only [aConvInt, Tryz.underlying2, Tryz.underlying26]
theorem cv95_5 (n : Int) : aConvInt Tryz.prog 160 5 (.int .u32 n) = some (.int .u8 (qwrap .u8 n)) := by
 simp only [aConvInt, Tryz.underlying5, Tryz.underlying160]
theorem qu8 (m : Nat) (h : m < 256) : qwrap .u8 (.ofNat m) = .ofNat m := by
 rw [qwrap_eq]
 show IntKind.wrap .u8 _ = _
 unfold IntKind.wrap
 simp only [IntKind.bits, IntKind.signed]
 simp
 omega
theorem index_str {ρ : Operand → Value} {x y : Operand} {s : ByteArray} {kd : IntKind} {m : Nat} {b : UInt8} (hx : ρ x = .string s) (hy : ρ y = .int kd (.ofNat m)) (hb : s.data.toList[m]? = some b) : aIndex Tryz.prog ρ 9 x y = some (.int .u8 (.ofNat b.toNat)) := by
 unfold aIndex
 simp only [hx, hy, Tryz.underlying9, hb]
 rfl
abbrev len8 : ByteArray := ⟨List.toArray (List.append (List.append [0, 1, 2, 2, 3, 3, 3, 3, 4, 4, 4, 4, 4, 4, 4, 4, 5, 5, 5, 5, 5, 5, 5, 5, 5, 5, 5, 5, 5, 5, 5, 5, 6, 6, 6, 6, 6, 6, 6, 6, 6, 6, 6, 6, 6, 6, 6, 6, 6, 6, 6, 6, 6, 6, 6, 6, 6, 6, 6, 6, 6, 6, 6, 6] [7, 7, 7, 7, 7, 7, 7, 7, 7, 7, 7, 7, 7, 7, 7, 7, 7, 7, 7, 7, 7, 7, 7, 7, 7, 7, 7, 7, 7, 7, 7, 7, 7, 7, 7, 7, 7, 7, 7, 7, 7, 7, 7, 7, 7, 7, 7, 7, 7, 7, 7, 7, 7, 7, 7, 7, 7, 7, 7, 7, 7, 7, 7, 7]) (List.append [8, 8, 8, 8, 8, 8, 8, 8, 8, 8, 8, 8, 8, 8, 8, 8, 8, 8, 8, 8, 8, 8, 8, 8, 8, 8, 8, 8, 8, 8, 8, 8, 8, 8, 8, 8, 8, 8, 8, 8, 8, 8, 8, 8, 8, 8, 8, 8, 8, 8, 8, 8, 8, 8, 8, 8, 8, 8, 8, 8, 8, 8, 8, 8] [8, 8, 8, 8, 8, 8, 8, 8, 8, 8, 8, 8, 8, 8, 8, 8, 8, 8, 8, 8, 8, 8, 8, 8, 8, 8, 8, 8, 8, 8, 8, 8, 8, 8, 8, 8, 8, 8, 8, 8, 8, 8, 8, 8, 8, 8, 8, 8, 8, 8, 8, 8, 8, 8, 8, 8, 8, 8, 8, 8, 8, 8, 8, 8]))⟩
def Bl (x b : Nat) : Prop := x < 2 ^ b ∧ 2 ^ (b - 1) ≤ x ∧ 1 ≤ b
def x8 (m b : Nat) : Bool := decide (m < 2 ^ b) && decide (2 ^ (b - 1) ≤ m) && decide (1 ≤ b)
theorem len8_all : ∀ m, m < 256 → ∀ b, b < 9 → x8 m b = true → len8.data.toList[m]? = some (UInt8.ofNat b) := by decide +kernel
theorem len8_at {m b : Nat} (h : Bl m b) (hm : m < 256) : len8.data.toList[m]? = some (UInt8.ofNat b) ∧ b < 9 := by
 have hb : b < 9 := by
  by_cases e : b < 9
  ·exact e
  ·have h1 : 2 ^ 8 ≤ 2 ^ (b - 1) := Nat.pow_le_pow_right (by decide) (by omega)
   have := h.2.1
   omega
 exact ⟨len8_all m hm b hb (by unfold x8; simp only [decide_eq_true h.1, decide_eq_true h.2.1, decide_eq_true h.2.2]; rfl), hb⟩
theorem Bl.down {x b : Nat} (h : Bl x b) (y : Nat) (hx : 2 ^ y ≤ x) : Bl (x / 2 ^ y) (b - y) ∧ y < b := by
 obtain ⟨h1, h2, h3⟩ := h
 have hy : y < b := by
  by_cases e : y < b
  ·exact e
  ·have := Nat.pow_le_pow_right (n := 2) (by decide) (show b ≤ y by omega)
   omega
 have hp : 0 < 2 ^ y := Nat.pow_pos (by decide)
 refine ⟨⟨?_, ?_, by omega⟩, hy⟩
 ·rw [Nat.div_lt_iff_lt_mul hp, ← Nat.pow_add, Nat.sub_add_cancel (by omega)]; exact h1
 ·rw [Nat.le_div_iff_mul_le hp, ← Nat.pow_add, show b - y - 1 + y = b - 1 from by omega]; exact h2
theorem bl_pow {x b y : Nat} (h : Bl x b) (hx : x < 2 ^ y) : b ≤ y := by
 by_cases e : b ≤ y
 ·exact e
 ·have := Nat.pow_le_pow_right (n := 2) (by decide) (show y ≤ b - 1 by omega)
  have := h.2.1
  omega
set_option maxRecDepth 20000 in
set_option maxHeartbeats 4000000 in
theorem len64_eq {g x b : Nat} {μ : Mem} (hg : 30 ≤ g) (hx : x < 4294967296) (hb : Bl x b) : aFun Tryz.prog (aCode Tryz.prog X S0 g) 226 [.int .u64 (.ofNat x)] μ = some (.int .i64 (.ofNat b), μ) := by
 obtain ⟨k, rfl⟩ := Nat.exists_eq_add_of_le' hg
 refine ends_eq ?_
 have hb32 : b ≤ 32 := bl_pow hb hx
 have e1 : ilt (.ofNat x) 4294967296 = true := (ilt_nat x 4294967296).trans (decide_eq_true hx)
 have s16 : ∀ m, aShift false .u64 (.ofNat m) 16 = some (.int .u64 (.ofNat (m / 65536))) := fun m => shr_u m 16 (by decide)
 have s8 : ∀ m, aShift false .u64 (.ofNat m) 8 = some (.int .u64 (.ofNat (m / 256))) := fun m => shr_u m 8 (by decide)
 have fin : ∀ (m c : Nat), m < 256 → Bl m c → ∀ (r : Rg) (d : Operand), aev Tryz.prog r d = .int .u8 (.ofNat m) → aIndex Tryz.prog (aev Tryz.prog r) 9 (.const (.string len8)) d = some (.int .u8 (.ofNat c)) := fun m c hm hc r d h2 => by
  rw [index_str (s := len8) rfl h2 (len8_at hc hm).1]
  have := (len8_at hc hm).2
  rw [UInt8.toNat_ofNat', Nat.mod_eq_of_lt (by omega)]
 have u8 : ∀ m, m < 256 → qwrap .u8 (.ofNat m) = .ofNat m := qu8
 have i64 : ∀ c, c ≤ 32 → qwrap .i64 (.ofNat c) = .ofNat c := fun c h => q64 c (by omega)
 by_cases h16 : x < 65536
 ·have e2 : ilt (.ofNat x) 65536 = true := (ilt_nat x 65536).trans (decide_eq_true h16)
  by_cases h8 : x < 256
  ·have e3 : ilt (.ofNat x) 256 = true := (ilt_nat x 256).trans (decide_eq_true h8)
   have f1 := fin x b h8 hb
   have f2 := u8 x h8
   have f3 := i64 b hb32
   have f4 : qwrap .i64 (Int.add 0 (.ofNat b)) = .ofNat b := by rw [show Int.add 0 (.ofNat b) = .ofNat b from Int.zero_add _]; exact f3
   refine fun_enter Tryz.func226 rfl rfl (Nat.le_of_ble_eq_true rfl) ?_
   simp only [T.lay, Nat.zero_add, Tryz.ntmps226, Nat.reduceAdd]
   repeat (first | refine code_seq ?_ | ((first | (refine code_region ?_ ?_; (focus rfl)) | (refine code_guards (gs := ?_) ?_ ?_; rotate_left; (focus rfl))); simp only [run1, run2, wanted, go_sem, Nat.reduceLT, Nat.reduceAdd, Nat.reduceEqDiff, reduceIte, reduceCtorEq, e1, e2, e3, cv26_5, f2, f1, cv5_3, f3, f4]) | (refine code_cond_true ?_ ?_; (focus (simp only [aev, regAt_set, Nat.reduceEqDiff, reduceIte, e1, e2, e3, cv26_5, f2, f1, cv5_3, f3, f4]; done))) | (refine code_cond_false ?_ ?_; (focus (simp only [aev, regAt_set, Nat.reduceEqDiff, reduceIte, e1, e2, e3, cv26_5, f2, f1, cv5_3, f3, f4]; done))) | ((first | refine code_skip ?_ | refine code_label ?_ | refine code_exit ?_); try simp only [then_exit, then_normal, blockC, Nat.reduceEqDiff, reduceIte]) | refine code_block ?_)
   refine code_ret ?_
   refine ⟨rfl, _, ?_, rfl, rfl⟩
   simp only [aResults, Tryz.results226, aRes, regAt_set, Nat.reduceEqDiff, reduceIte]
  ·have e3 : ilt (.ofNat x) 256 = false := (ilt_nat x 256).trans (decide_eq_false h8)
   obtain ⟨hd, hlt⟩ := hb.down 8 (show 2 ^ 8 ≤ x by omega)
   have hd : Bl (x / 256) (b - 8) := hd
   have f1 := fin (x / 256) (b - 8) (by omega) hd
   have f2 := u8 (x / 256) (by omega)
   have f3 := i64 (b - 8) (by omega)
   have f5 : qwrap .i64 (Int.add 0 8) = 8 := rfl
   have f4 : qwrap .i64 (Int.add 8 (.ofNat (b - 8))) = .ofNat b := by rw [show Int.add 8 (.ofNat (b - 8)) = .ofNat (8 + (b - 8)) from rfl, show 8 + (b - 8) = b from by omega]; exact i64 b hb32
   refine fun_enter Tryz.func226 rfl rfl (Nat.le_of_ble_eq_true rfl) ?_
   simp only [T.lay, Nat.zero_add, Tryz.ntmps226, Nat.reduceAdd]
   repeat (first | refine code_seq ?_ | ((first | (refine code_region ?_ ?_; (focus rfl)) | (refine code_guards (gs := ?_) ?_ ?_; rotate_left; (focus rfl))); simp only [run1, run2, wanted, go_sem, Nat.reduceLT, Nat.reduceAdd, Nat.reduceEqDiff, reduceIte, reduceCtorEq, e1, e2, e3, s8, cv26_5, f2, f1, cv5_3, f3, f4, f5]) | (refine code_cond_true ?_ ?_; (focus (simp only [aev, regAt_set, Nat.reduceEqDiff, reduceIte, e1, e2, e3, s8, cv26_5, f2, f1, cv5_3, f3, f4, f5]; done))) | (refine code_cond_false ?_ ?_; (focus (simp only [aev, regAt_set, Nat.reduceEqDiff, reduceIte, e1, e2, e3, s8, cv26_5, f2, f1, cv5_3, f3, f4, f5]; done))) | ((first | refine code_skip ?_ | refine code_label ?_ | refine code_exit ?_); try simp only [then_exit, then_normal, blockC, Nat.reduceEqDiff, reduceIte]) | refine code_block ?_)
   refine code_ret ?_
   refine ⟨rfl, _, ?_, rfl, rfl⟩
   simp only [aResults, Tryz.results226, aRes, regAt_set, Nat.reduceEqDiff, reduceIte]
 ·have e2 : ilt (.ofNat x) 65536 = false := (ilt_nat x 65536).trans (decide_eq_false h16)
  obtain ⟨hd, hlt⟩ := hb.down 16 (show 2 ^ 16 ≤ x by omega)
  have hd : Bl (x / 65536) (b - 16) := hd
  obtain ⟨y, hy⟩ : ∃ y, y = x / 65536 := ⟨_, rfl⟩
  rw [← hy] at hd
  have s16' : aShift false .u64 (.ofNat x) 16 = some (.int .u64 (.ofNat y)) := hy ▸ s16 x
  have f5 : qwrap .i64 (Int.add 0 16) = 16 := rfl
  by_cases h8 : y < 256
  ·have e3 : ilt (.ofNat y) 256 = true := (ilt_nat y 256).trans (decide_eq_true h8)
   have f1 := fin y (b - 16) h8 hd
   have f2 := u8 y h8
   have f3 := i64 (b - 16) (by omega)
   have f4 : qwrap .i64 (Int.add 16 (.ofNat (b - 16))) = .ofNat b := by rw [show Int.add 16 (.ofNat (b - 16)) = .ofNat (16 + (b - 16)) from rfl, show 16 + (b - 16) = b from by omega]; exact i64 b hb32
   refine fun_enter Tryz.func226 rfl rfl (Nat.le_of_ble_eq_true rfl) ?_
   simp only [T.lay, Nat.zero_add, Tryz.ntmps226, Nat.reduceAdd]
   repeat (first | refine code_seq ?_ | ((first | (refine code_region ?_ ?_; (focus rfl)) | (refine code_guards (gs := ?_) ?_ ?_; rotate_left; (focus rfl))); simp only [run1, run2, wanted, go_sem, Nat.reduceLT, Nat.reduceAdd, Nat.reduceEqDiff, reduceIte, reduceCtorEq, e1, e2, e3, s16', cv26_5, f2, f1, cv5_3, f3, f4, f5]) | (refine code_cond_true ?_ ?_; (focus (simp only [aev, regAt_set, Nat.reduceEqDiff, reduceIte, e1, e2, e3, s16', cv26_5, f2, f1, cv5_3, f3, f4, f5]; done))) | (refine code_cond_false ?_ ?_; (focus (simp only [aev, regAt_set, Nat.reduceEqDiff, reduceIte, e1, e2, e3, s16', cv26_5, f2, f1, cv5_3, f3, f4, f5]; done))) | ((first | refine code_skip ?_ | refine code_label ?_ | refine code_exit ?_); try simp only [then_exit, then_normal, blockC, Nat.reduceEqDiff, reduceIte]) | refine code_block ?_)
   refine code_ret ?_
   refine ⟨rfl, _, ?_, rfl, rfl⟩
   simp only [aResults, Tryz.results226, aRes, regAt_set, Nat.reduceEqDiff, reduceIte]
  ·have e3 : ilt (.ofNat y) 256 = false := (ilt_nat y 256).trans (decide_eq_false h8)
   obtain ⟨hd2, hlt2⟩ := hd.down 8 (show 2 ^ 8 ≤ y by omega)
   have hd2 : Bl (y / 256) (b - 16 - 8) := hd2
   have f1 := fin (y / 256) (b - 16 - 8) (by omega) hd2
   have f2 := u8 (y / 256) (by omega)
   have f3 := i64 (b - 16 - 8) (by omega)
   have f6 : qwrap .i64 (Int.add 16 8) = 24 := rfl
   have f4 : qwrap .i64 (Int.add 24 (.ofNat (b - 16 - 8))) = .ofNat b := by rw [show Int.add 24 (.ofNat (b - 16 - 8)) = .ofNat (24 + (b - 16 - 8)) from rfl, show 24 + (b - 16 - 8) = b from by omega]; exact i64 b hb32
   refine fun_enter Tryz.func226 rfl rfl (Nat.le_of_ble_eq_true rfl) ?_
   simp only [T.lay, Nat.zero_add, Tryz.ntmps226, Nat.reduceAdd]
   repeat (first | refine code_seq ?_ | ((first | (refine code_region ?_ ?_; (focus rfl)) | (refine code_guards (gs := ?_) ?_ ?_; rotate_left; (focus rfl))); simp only [run1, run2, wanted, go_sem, Nat.reduceLT, Nat.reduceAdd, Nat.reduceEqDiff, reduceIte, reduceCtorEq, e1, e2, e3, s16', s8, cv26_5, f2, f1, cv5_3, f3, f4, f5, f6]) | (refine code_cond_true ?_ ?_; (focus (simp only [aev, regAt_set, Nat.reduceEqDiff, reduceIte, e1, e2, e3, s16', s8, cv26_5, f2, f1, cv5_3, f3, f4, f5, f6]; done))) | (refine code_cond_false ?_ ?_; (focus (simp only [aev, regAt_set, Nat.reduceEqDiff, reduceIte, e1, e2, e3, s16', s8, cv26_5, f2, f1, cv5_3, f3, f4, f5, f6]; done))) | ((first | refine code_skip ?_ | refine code_label ?_ | refine code_exit ?_); try simp only [then_exit, then_normal, blockC, Nat.reduceEqDiff, reduceIte]) | refine code_block ?_)
   refine code_ret ?_
   refine ⟨rfl, _, ?_, rfl, rfl⟩
   simp only [aResults, Tryz.results226, aRes, regAt_set, Nat.reduceEqDiff, reduceIte]
end
noncomputable section
variable {X : FuncId → List Value → Mem → Option (Value × Mem)}
structure Rom (μ : Mem) : Prop where
 lt : 7 < μ.next
 at_ : ∀ k, k < 20 → cellsAt μ 7 k = some (.int .u64 (.ofNat (10 ^ k)))
theorem Rom.grow {μ μ' : Mem} (h : Rom μ) (g : Grow μ μ') : Rom μ' :=
 ⟨Nat.lt_of_lt_of_le h.lt g.1, fun k hk => by rw [← h.at_ k hk]; unfold cellsAt; rw [g.2 _ h.lt]⟩
def lgt (b : Nat) : Nat := b * 78913 / 262144
set_option maxRecDepth 20000 in
set_option maxHeartbeats 4000000 in
theorem log10_eq {g b : Nat} {μ : Mem} (hg : 10 ≤ g) (hb : b < 1000) : aFun Tryz.prog (aCode Tryz.prog X S0 g) 229 [.int .i64 (.ofNat b)] μ = some (.int .i64 (.ofNat (lgt b)), μ) := by
 obtain ⟨k, rfl⟩ := Nat.exists_eq_add_of_le' hg
 refine ends_eq ?_
 have e1 : qwrap .i64 (Int.mul (.ofNat b) 78913) = .ofNat (b * 78913) := mul_nat b 78913 (by omega)
 have e2 : ∀ m, aShift false .i64 (.ofNat m) 18 = some (.int .i64 (.ofNat (m / 2 ^ 18))) := fun m => shr_i m 18 (by decide)
 refine fun_enter Tryz.func229 rfl rfl (Nat.le_of_ble_eq_true rfl) ?_
 simp only [T.lay, Nat.zero_add, Tryz.ntmps229, Nat.reduceAdd]
 repeat (first | refine code_seq ?_ | ((first | (refine code_region ?_ ?_; (focus rfl)) | (refine code_guards (gs := ?_) ?_ ?_; rotate_left; (focus rfl))); simp only [run1, run2, wanted, go_sem, Nat.reduceLT, Nat.reduceAdd, Nat.reduceEqDiff, reduceIte, reduceCtorEq, e1, e2]) | (refine code_cond_true ?_ ?_; (focus (simp only [aev, regAt_set, Nat.reduceEqDiff, reduceIte, e1, e2]; done))) | (refine code_cond_false ?_ ?_; (focus (simp only [aev, regAt_set, Nat.reduceEqDiff, reduceIte, e1, e2]; done))) | ((first | refine code_skip ?_ | refine code_label ?_ | refine code_exit ?_); try simp only [then_exit, then_normal, blockC, Nat.reduceEqDiff, reduceIte]) | refine code_block ?_)
 refine code_ret ?_
 refine ⟨rfl, _, ?_, rfl, rfl⟩
 simp only [aResults, Tryz.results229, aRes, regAt_set, Nat.reduceEqDiff, reduceIte]
 rfl
set_option maxRecDepth 20000 in
set_option maxHeartbeats 4000000 in
theorem bool2_eq {g : Nat} {t : Bool} {μ : Mem} (hg : 10 ≤ g) : aFun Tryz.prog (aCode Tryz.prog X S0 g) 243 [.bool t] μ = some (.int .i64 (if t then 1 else 0), μ) := by
 obtain ⟨k, rfl⟩ := Nat.exists_eq_add_of_le' hg
 refine ends_eq ?_
 cases t with
 | true =>
   refine fun_enter Tryz.func243 rfl rfl (Nat.le_of_ble_eq_true rfl) ?_
   simp only [T.lay, Nat.zero_add, Tryz.ntmps243, Nat.reduceAdd]
   repeat (first | refine code_seq ?_ | ((first | (refine code_region ?_ ?_; (focus rfl)) | (refine code_guards (gs := ?_) ?_ ?_; rotate_left; (focus rfl))); simp only [run1, run2, wanted, go_sem, Nat.reduceLT, Nat.reduceAdd, Nat.reduceEqDiff, reduceIte, reduceCtorEq]) | (refine code_cond_true ?_ ?_; (focus (simp only [aev, regAt_set, Nat.reduceEqDiff, reduceIte]; done))) | (refine code_cond_false ?_ ?_; (focus (simp only [aev, regAt_set, Nat.reduceEqDiff, reduceIte]; done))) | ((first | refine code_skip ?_ | refine code_label ?_ | refine code_exit ?_); try simp only [then_exit, then_normal, blockC, Nat.reduceEqDiff, reduceIte]) | refine code_block ?_)
   refine code_ret ?_
   refine ⟨rfl, _, ?_, rfl, rfl⟩
   simp only [aResults, Tryz.results243, aRes, regAt_set, Nat.reduceEqDiff, reduceIte]
 | false =>
   refine fun_enter Tryz.func243 rfl rfl (Nat.le_of_ble_eq_true rfl) ?_
   simp only [T.lay, Nat.zero_add, Tryz.ntmps243, Nat.reduceAdd]
   repeat (first | refine code_seq ?_ | ((first | (refine code_region ?_ ?_; (focus rfl)) | (refine code_guards (gs := ?_) ?_ ?_; rotate_left; (focus rfl))); simp only [run1, run2, wanted, go_sem, Nat.reduceLT, Nat.reduceAdd, Nat.reduceEqDiff, reduceIte, reduceCtorEq]) | (refine code_cond_true ?_ ?_; (focus (simp only [aev, regAt_set, Nat.reduceEqDiff, reduceIte]; done))) | (refine code_cond_false ?_ ?_; (focus (simp only [aev, regAt_set, Nat.reduceEqDiff, reduceIte]; done))) | ((first | refine code_skip ?_ | refine code_label ?_ | refine code_exit ?_); try simp only [then_exit, then_normal, blockC, Nat.reduceEqDiff, reduceIte]) | refine code_block ?_)
   refine code_ret ?_
   refine ⟨rfl, _, ?_, rfl, rfl⟩
   simp only [aResults, Tryz.results243, aRes, regAt_set, Nat.reduceEqDiff, reduceIte]
theorem glob5 (r : Rg) : aev Tryz.prog r (.global 7) = .pointer (some ⟨7, 0, none⟩) := by
 show (match Nat.blt 7 Tryz.prog.globals.size with | true => Value.pointer (some ⟨7, 0, none⟩) | false => Value.chan none) = _
 rw [show Nat.blt 7 Tryz.prog.globals.size = true from by kernel_rfl]
def Dl (x n : Nat) : Prop := x < 10 ^ n ∧ 10 ^ (n - 1) ≤ x ∧ 1 ≤ n
theorem lgt_all : ∀ b, b < 31 → 1 ≤ b → 10 ^ lgt b ≤ 2 ^ b ∧ 2 ^ b < 10 ^ (lgt b + 1) ∧ (lgt b = 0 ∨ 10 ^ (lgt b - 1) ≤ 2 ^ (b - 1)) ∧ lgt b < 20 := by decide +kernel
theorem bl_ex (x : Nat) (h : 0 < x) : ∃ b, Bl x b := ⟨Nat.log2 x + 1, Nat.lt_log2_self, by rw [Nat.add_sub_cancel]; exact Nat.log2_self_le (by omega), by omega⟩
theorem dl_bl {x n b : Nat} (hd : Dl x n) (hb : Bl x b) (hx : x < 1000000000) : (n = lgt b ∧ x < 10 ^ lgt b) ∨ (n = lgt b + 1 ∧ 10 ^ lgt b ≤ x) := by
 obtain ⟨a1, a2, a3⟩ := hd
 have hb30 : b ≤ 30 := bl_pow hb (by omega)
 obtain ⟨l1, l2, l3, l4⟩ := lgt_all b (by omega) hb.2.2
 obtain ⟨b1, b2, b3⟩ := hb
 obtain ⟨l, hl⟩ : ∃ l, l = lgt b := ⟨_, rfl⟩
 rw [← hl] at l1 l2 l3 l4 ⊢
 have u1 : n ≤ l + 1 := by
  by_cases e : n ≤ l + 1
  ·exact e
  ·have := Nat.pow_le_pow_right (n := 10) (by decide) (show l + 1 ≤ n - 1 by omega)
   omega
 have u2 : l ≤ n := by
  by_cases e : l ≤ n
  ·exact e
  ·have := Nat.pow_le_pow_right (n := 10) (by decide) (show n ≤ l - 1 by omega)
   rcases l3 with h | h <;> omega
 rcases Nat.lt_or_ge n (l + 1) with h | h
 ·exact .inl ⟨by omega, by rw [show l = n by omega]; exact a1⟩
 ·obtain rfl : n = l + 1 := by omega
  exact .inr ⟨rfl, by rw [Nat.add_sub_cancel] at a2; exact a2⟩
set_option maxRecDepth 20000 in
set_option maxHeartbeats 4000000 in
theorem numDigits_eq {g x n : Nat} {μ : Mem} (hg : 60 ≤ g) (hr : Rom μ) (hx : x < 1000000000) (hd : Dl x n) : aFun Tryz.prog (aCode Tryz.prog X S0 g) 210 [.int .u64 (.ofNat x)] μ = some (.int .i64 (.ofNat n), μ) := by
 obtain ⟨k, rfl⟩ := Nat.exists_eq_add_of_le' hg
 refine ends_eq ?_
 have h0 : 0 < x := Nat.lt_of_lt_of_le (Nat.pow_pos (by decide)) hd.2.1
 obtain ⟨b, hb⟩ := bl_ex x h0
 have hb30 : b ≤ 30 := bl_pow hb (by omega)
 obtain ⟨_, _, _, l4⟩ := lgt_all b (by omega) hb.2.2
 have h1 : ∀ g, 30 ≤ g → aFun Tryz.prog (aCode Tryz.prog X S0 g) 226 [.int .u64 (.ofNat x)] μ = some (.int .i64 (.ofNat b), μ) := fun g hg => len64_eq hg (by omega) hb
 have h2 : ∀ g, 10 ≤ g → aFun Tryz.prog (aCode Tryz.prog X S0 g) 229 [.int .i64 (.ofNat b)] μ = some (.int .i64 (.ofNat (lgt b)), μ) := fun g hg => log10_eq hg (by omega)
 have h3 : ∀ g t, 10 ≤ g → aFun Tryz.prog (aCode Tryz.prog X S0 g) 243 [.bool t] μ = some (.int .i64 (if t then 1 else 0), μ) := fun g t hg => bool2_eq hg
 have hix : ∀ (r : Rg) (b' : Operand), aev Tryz.prog r b' = .int .i64 (.ofNat (lgt b)) → aIndexAddr Tryz.prog (aev Tryz.prog r) 316 (.global 7) b' = some (.pointer (some ⟨7, lgt b, none⟩)) := fun r b' g2 => by
  unfold aIndexAddr
  simp only [g2, glob5, Tryz.underlying316, aIdx, j26]
  rw [show Nat.blt (lgt b) 20 = true from by simpa using l4]
  simp only [Addr.add]
  rw [show Nat.mul (lgt b) Tryz.t26.size = lgt b from Nat.mul_one _, Nat.zero_add]
  split
  ·rename_i h; rw [h]
  ·rfl
 have hc := hr.at_ _ l4
 rcases dl_bl hd hb hx with ⟨d1, d2⟩ | ⟨d1, d2⟩
 ·have e1 : ilt (.ofNat x) (.ofNat (10 ^ lgt b)) = true := (ilt_nat _ _).trans (decide_eq_true d2)
  have e2 : qwrap .i64 (Int.add (.ofNat (lgt b)) 0) = .ofNat n := by rw [d1]; exact add_nat (lgt b) 0 (by omega)
  refine fun_enter Tryz.func210 rfl rfl (Nat.le_of_ble_eq_true rfl) ?_
  simp only [T.lay, Nat.zero_add, Tryz.ntmps210, Nat.reduceAdd]
  repeat (first | refine code_seq ?_ | ((first | (refine code_region ?_ ?_; (focus rfl)) | (refine code_guards (gs := ?_) ?_ ?_; rotate_left; (focus rfl))); simp only [run1, run2, wanted, go_sem, Nat.reduceLT, Nat.reduceAdd, Nat.reduceEqDiff, reduceIte, reduceCtorEq, gg226, h1, gg229, h2, gg243, h3, Nat.reduceLeDiff, hix, ld26, hc, e1, e2, Bool.false_eq_true]) | (refine code_cond_true ?_ ?_; (focus (simp only [aev, regAt_set, Nat.reduceEqDiff, reduceIte, gg226, h1, gg229, h2, gg243, h3, Nat.reduceLeDiff, hix, ld26, hc, e1, e2, Bool.false_eq_true]; done))) | (refine code_cond_false ?_ ?_; (focus (simp only [aev, regAt_set, Nat.reduceEqDiff, reduceIte, gg226, h1, gg229, h2, gg243, h3, Nat.reduceLeDiff, hix, ld26, hc, e1, e2, Bool.false_eq_true]; done))) | ((first | refine code_skip ?_ | refine code_label ?_ | refine code_exit ?_); try simp only [then_exit, then_normal, blockC, Nat.reduceEqDiff, reduceIte]) | refine code_block ?_)
  refine code_ret ?_
  refine ⟨rfl, _, ?_, rfl, rfl⟩
  simp only [aResults, Tryz.results210, aRes, regAt_set, Nat.reduceEqDiff, reduceIte]
 ·have e1 : ilt (.ofNat x) (.ofNat (10 ^ lgt b)) = false := (ilt_nat _ _).trans (decide_eq_false (by omega))
  have e2 : qwrap .i64 (Int.add (.ofNat (lgt b)) 1) = .ofNat n := by rw [d1]; exact add_nat (lgt b) 1 (by omega)
  refine fun_enter Tryz.func210 rfl rfl (Nat.le_of_ble_eq_true rfl) ?_
  simp only [T.lay, Nat.zero_add, Tryz.ntmps210, Nat.reduceAdd]
  repeat (first | refine code_seq ?_ | ((first | (refine code_region ?_ ?_; (focus rfl)) | (refine code_guards (gs := ?_) ?_ ?_; rotate_left; (focus rfl))); simp only [run1, run2, wanted, go_sem, Nat.reduceLT, Nat.reduceAdd, Nat.reduceEqDiff, reduceIte, reduceCtorEq, gg226, h1, gg229, h2, gg243, h3, Nat.reduceLeDiff, hix, ld26, hc, e1, e2, Bool.false_eq_true]) | (refine code_cond_true ?_ ?_; (focus (simp only [aev, regAt_set, Nat.reduceEqDiff, reduceIte, gg226, h1, gg229, h2, gg243, h3, Nat.reduceLeDiff, hix, ld26, hc, e1, e2, Bool.false_eq_true]; done))) | (refine code_cond_false ?_ ?_; (focus (simp only [aev, regAt_set, Nat.reduceEqDiff, reduceIte, gg226, h1, gg229, h2, gg243, h3, Nat.reduceLeDiff, hix, ld26, hc, e1, e2, Bool.false_eq_true]; done))) | ((first | refine code_skip ?_ | refine code_label ?_ | refine code_exit ?_); try simp only [then_exit, then_normal, blockC, Nat.reduceEqDiff, reduceIte]) | refine code_block ?_)
  refine code_ret ?_
  refine ⟨rfl, _, ?_, rfl, rfl⟩
  simp only [aResults, Tryz.results210, aRes, regAt_set, Nat.reduceEqDiff, reduceIte]
end
noncomputable section
variable {X : FuncId → List Value → Mem → Option (Value × Mem)}
def dgs (x : Nat) : Nat → List Nat
 | 0 => []
 | n + 1 => dgs (x / 10) n ++ [48 + x % 10]
theorem dgs_length : ∀ (n x : Nat), (dgs x n).length = n
 | 0, _ => rfl
 | n + 1, x => by simp only [dgs, List.length_append, dgs_length n, List.length_singleton]
def byL (l : List Nat) : List Value := l.map fun d => .int .u8 (.ofNat d)
abbrev smalls : ByteArray := ⟨List.toArray (List.append (List.append [48, 48, 48, 49, 48, 50, 48, 51, 48, 52, 48, 53, 48, 54, 48, 55, 48, 56, 48, 57, 49, 48, 49, 49, 49, 50, 49, 51, 49, 52, 49, 53, 49, 54, 49, 55, 49, 56, 49, 57, 50, 48, 50, 49, 50, 50, 50, 51, 50, 52] [50, 53, 50, 54, 50, 55, 50, 56, 50, 57, 51, 48, 51, 49, 51, 50, 51, 51, 51, 52, 51, 53, 51, 54, 51, 55, 51, 56, 51, 57, 52, 48, 52, 49, 52, 50, 52, 51, 52, 52, 52, 53, 52, 54, 52, 55, 52, 56, 52, 57]) (List.append [53, 48, 53, 49, 53, 50, 53, 51, 53, 52, 53, 53, 53, 54, 53, 55, 53, 56, 53, 57, 54, 48, 54, 49, 54, 50, 54, 51, 54, 52, 54, 53, 54, 54, 54, 55, 54, 56, 54, 57, 55, 48, 55, 49, 55, 50, 55, 51, 55, 52] [55, 53, 55, 54, 55, 55, 55, 56, 55, 57, 56, 48, 56, 49, 56, 50, 56, 51, 56, 52, 56, 53, 56, 54, 56, 55, 56, 56, 56, 57, 57, 48, 57, 49, 57, 50, 57, 51, 57, 52, 57, 53, 57, 54, 57, 55, 57, 56, 57, 57]))⟩
theorem smalls_all : ∀ m, m < 100 → smalls.data.toList[m * 2]? = some (UInt8.ofNat (48 + m / 10)) ∧ smalls.data.toList[m * 2 + 1]? = some (UInt8.ofNat (48 + m % 10)) := by decide +kernel
theorem small0 (m : Nat) (hm : m < 100) (r : Rg) (d : Operand) (h : aev Tryz.prog r d = .int .u32 (.ofNat (m * 2))) : aIndex Tryz.prog (aev Tryz.prog r) 9 (.const (.string smalls)) d = some (.int .u8 (.ofNat (48 + m / 10))) := by
 rw [index_str (s := smalls) rfl h (smalls_all m hm).1, UInt8.toNat_ofNat', Nat.mod_eq_of_lt (by omega)]
theorem small1 (m : Nat) (hm : m < 100) (r : Rg) (d : Operand) (h : aev Tryz.prog r d = .int .u32 (.ofNat (m * 2 + 1))) : aIndex Tryz.prog (aev Tryz.prog r) 9 (.const (.string smalls)) d = some (.int .u8 (.ofNat (48 + m % 10))) := by
 rw [index_str (s := smalls) rfl h (smalls_all m hm).2, UInt8.toNat_ofNat', Nat.mod_eq_of_lt (by omega)]
theorem rem32u (m d : Nat) (hd : 0 < d) : aDiv true .u32 .u32 (.ofNat m) (.ofNat d) = some (.int .u32 (.ofNat (m % d))) := by
 cases d with
 | zero => omega
 | succ d => rfl
theorem quo32u (m d : Nat) (hd : 0 < d) (hm : m < 4294967296) : aDiv false .u32 .u32 (.ofNat m) (.ofNat d) = some (.int .u32 (.ofNat (m / d))) := by
 cases d with
 | zero => omega
 | succ d =>
   show some (Value.int .u32 (qwrap .u32 (.ofNat (m / (d + 1))))) = _
   rw [qu32 _ (Nat.lt_of_le_of_lt (Nat.div_le_self _ _) hm)]
theorem mul2u (m : Nat) (hm : m < 1000) : qwrap .u32 (Int.mul (.ofNat m) 2) = .ofNat (m * 2) := qu32 (m * 2) (by omega)
theorem add1u (m : Nat) (hm : m < 10000) : qwrap .u32 (Int.add (.ofNat m) 1) = .ofNat (m + 1) := qu32 (m + 1) (by omega)
def two (μ : Mem) (ai p : Nat) (m : Nat) : Mem := putL (putL ⟨μ.obs, μ.next + 15⟩ ai (p + 1) [.int .u8 (.ofNat (48 + m % 10))]) ai p [.int .u8 (.ofNat (48 + m / 10))]
theorem two_next (μ : Mem) (ai p m : Nat) : (two μ ai p m).next = μ.next + 15 := by unfold two; rw [putL_next, putL_next]
theorem two_get (μ : Mem) (ai p m : Nat) {j : Nat} (h : j ≠ ai) : (two μ ai p m).obs.get j = μ.obs.get j := by unfold two; rw [putL_get _ _ _ _ h, putL_get _ _ _ _ h]
theorem two_blk {μ : Mem} {ai p m n te : Nat} (h : Blk μ ai n te) : Blk (two μ ai p m) ai n te := Blk.put (i := ai) _ _ (Blk.put (i := ai) _ _ h)
theorem two_cell {μ : Mem} {ai p m n te q : Nat} (h : Blk μ ai n te) (hp : p + 2 ≤ n) : cellsAt (two μ ai p m) ai q = if q = p then some (.int .u8 (.ofNat (48 + m / 10))) else if q = p + 1 then some (.int .u8 (.ofNat (48 + m % 10))) else cellsAt μ ai q := by
 unfold two
 have hB : Blk ⟨μ.obs, μ.next + 15⟩ ai n te := h
 rw [cells_put (Blk.put (i := ai) _ _ hB) (by simp; omega)]
 by_cases e : q = p
 ·subst e
  rw [dif_pos ⟨rfl, Nat.le_refl _, by simp⟩, if_pos rfl]
  simp
 ·rw [dif_neg (by simp only [List.length_singleton]; omega), if_neg e, cells_put hB (by simp; omega)]
  by_cases e2 : q = p + 1
  ·subst e2
   rw [dif_pos ⟨rfl, Nat.le_refl _, by simp⟩, if_pos rfl]
   simp
  ·rw [dif_neg (by simp only [List.length_singleton]; omega), if_neg e2]
   rfl
theorem has_of {μ : Mem} {ai te : Nat} {l : List Nat} (h : Blk μ ai 24 te) (hl : l.length < 20) (hc : ∀ k (hk : k < l.length), cellsAt μ ai (1 + k) = some (.int .u8 (.ofNat l[k]))) : Has μ ai 1 (byL l) := by
 obtain ⟨z, ov, fx, sh, hz⟩ := h
 refine ⟨24, z, ov, by rw [hz]; rfl, by simp [byL]; omega, fun k hk => ?_⟩
 simp only [byL, List.length_map] at hk
 have := hc k hk
 rw [cellsAt_of (n := 24) (z := z) (ov := ov) (by rw [hz]; rfl) (by omega)] at this
 simp only [byL, List.getElem_map]
 exact Option.some.inj this
set_option maxRecDepth 20000 in
set_option maxHeartbeats 8000000 in
theorem fb3 {g ai x te c : Nat} {μ : Mem} (hg : 60 ≤ g) (hb : Blk μ ai 24 te) (hx : x < 1000) :
  EndsF (aFun Tryz.prog (aCode Tryz.prog X S0 g) 211 [.slice (some ⟨ai, 1, none⟩) 3 c, .int .u64 (.ofNat x)] μ) fun v μ' => Blk μ' ai 24 te ∧ μ.next ≤ μ'.next ∧ (∀ j, j ≠ ai → μ'.obs.get j = μ.obs.get j) ∧ Has μ' ai 1 (byL (dgs x 3)) := by
 obtain ⟨k, rfl⟩ := Nat.exists_eq_add_of_le' hg
 obtain ⟨d, hd⟩ : ∃ d, d = x % 100 := ⟨_, rfl⟩
 obtain ⟨e, he⟩ : ∃ e, e = x / 100 := ⟨_, rfl⟩
 have r5 : aDiv true .u32 .u32 (.ofNat x) 100 = some (.int .u32 (.ofNat d)) := hd ▸ rem32u x 100 (by decide)
 have r6 : aDiv false .u32 .u32 (.ofNat x) 100 = some (.int .u32 (.ofNat e)) := he ▸ quo32u x 100 (by decide) (by omega)
 have md := mul2u d (by omega)
 have pd := add1u (d * 2) (by omega)
 have id0 := small0 d (by omega)
 have id1 := small1 d (by omega)
 have cx : qwrap .u32 (.ofNat x) = .ofNat x := qu32 x (by omega)
 have f0 : ilt (.ofNat 3) 8 = true := rfl
 have f1 : ilt (.ofNat 3) 4 = true := rfl
 have f2 : ilt (.ofNat 3) 2 = false := rfl
 have f3 : qwrap .i64 (Int.sub (.ofNat 3) 2) = .ofNat 1 := rfl
 have z0 : ilt 0 (.ofNat 1) = true := rfl
 have x0 : ∀ (ρ : Operand → Value) (a b : Operand), ρ a = .slice (some ⟨ai, 1, none⟩) 3 c → ρ b = .int .i64 (.ofNat 0) → aIndexAddr Tryz.prog ρ 55 a b = some (.pointer (some ⟨ai, 1, none⟩)) := fun ρ a b h1 h2 => indexAddr_slice Tryz.underlying55 j5 rfl h1 h2 (by decide)
 have x1 : ∀ (ρ : Operand → Value) (a b : Operand), ρ a = .slice (some ⟨ai, 1, none⟩) 3 c → ρ b = .int .i64 (.ofNat 1) → aIndexAddr Tryz.prog ρ 55 a b = some (.pointer (some ⟨ai, 2, none⟩)) := fun ρ a b h1 h2 => indexAddr_slice Tryz.underlying55 j5 rfl h1 h2 (by decide)
 have x2 : ∀ (ρ : Operand → Value) (a b : Operand), ρ a = .slice (some ⟨ai, 1, none⟩) 3 c → ρ b = .int .i64 (.ofNat 2) → aIndexAddr Tryz.prog ρ 55 a b = some (.pointer (some ⟨ai, 3, none⟩)) := fun ρ a b h1 h2 => indexAddr_slice Tryz.underlying55 j5 rfl h1 h2 (by decide)
 have x0' : ∀ (r : Rg) (a : Operand), aev Tryz.prog r a = .slice (some ⟨ai, 1, none⟩) 3 c → aIndexAddr Tryz.prog (aev Tryz.prog r) 55 a (.const (.int .i64 0)) = some (.pointer (some ⟨ai, 1, none⟩)) := fun r a h1 => indexAddr_slice (m := 0) Tryz.underlying55 j5 rfl h1 rfl (by decide)
 refine fun_enter Tryz.func211 rfl rfl (Nat.le_of_ble_eq_true rfl) ?_
 simp only [T.lay, Nat.zero_add, Tryz.ntmps211, Nat.reduceAdd]
 repeat (first | refine code_seq ?_ | ((first | (refine code_region ?_ ?_; (focus rfl)) | (refine code_guards (gs := ?_) ?_ ?_; rotate_left; (focus rfl))); simp only [run1, run2, wanted, go_sem, Nat.reduceLT, Nat.reduceAdd, Nat.reduceEqDiff, reduceIte, reduceCtorEq, cx, cv26_95, aBuiltin, aLen, Tryz.underlying55, cast_nat, f0, f1, f2, f3, z0, r5, r6, md]) | (refine code_cond_true ?_ ?_; (focus (simp only [aev, regAt_set, Nat.reduceEqDiff, reduceIte, cx, cv26_95, aBuiltin, aLen, Tryz.underlying55, cast_nat, f0, f1, f2, f3, z0, r5, r6, md]; done))) | (refine code_cond_false ?_ ?_; (focus (simp only [aev, regAt_set, Nat.reduceEqDiff, reduceIte, cx, cv26_95, aBuiltin, aLen, Tryz.underlying55, cast_nat, f0, f1, f2, f3, z0, r5, r6, md]; done))) | ((first | refine code_skip ?_ | refine code_label ?_ | refine code_exit ?_); try simp only [then_exit, then_normal, blockC, Nat.reduceEqDiff, reduceIte]) | refine code_block ?_ | refine code_loop ?_)
 have u0 : qwrap .i64 (Int.sub (.ofNat 3) 1) = .ofNat 2 := rfl
 have w0 : qwrap .i64 (Int.sub (.ofNat 3) 2) = .ofNat 1 := rfl
 have s0 := store_put (P := Tryz.prog) (t := 5) (v := .int .u8 (.ofNat (48 + d % 10))) (μ := ⟨(μ).obs, (μ).next + 15⟩) j5 rfl rfl (blk_up (m := (μ).next + 15) hb) (show 3 < 24 by decide)
 have t0 := store_put (P := Tryz.prog) (t := 5) (v := .int .u8 (.ofNat (48 + d / 10))) (μ := putL ⟨(μ).obs, (μ).next + 15⟩ ai 3 [.int .u8 (.ofNat (48 + d % 10))]) j5 rfl rfl (Blk.put (i := ai) 3 [.int .u8 (.ofNat (48 + d % 10))] (blk_up (m := (μ).next + 15) hb)) (show 2 < 24 by decide)
 refine code_draw (n := 15) (ms := [0, 0, 2, 0, 0, 16, 0, 64, 192, 0, 512, 455, 2503, 8191, 16383]) (ord := [0, 1, 2, 6, 7, 8, 11, 12, 3, 4, 5, 9, 10, 13, 14]) (ds := ?_) ?_ ?_ ?_ ?_ ?_ ?_
 rotate_left
 ·kernel_rfl
 ·kernel_rfl
 ·kernel_rfl
 ·rfl
 ·rfl
 iterate 15 (refine drun_true (by first | rfl | (simp only [wanted, go_sem, Nat.reduceLT, Nat.reduceAdd, Nat.reduceEqDiff, reduceIte, reduceCtorEq, cx, cv26_95, aBuiltin, aLen, Tryz.underlying55, cast_nat, u0, w0, pd, id0, id1, x0, x1, x2, x0', s0, t0])) (by simp only [aDrawOne, heavy, aReads, eqVal_self, go_sem, Nat.reduceLT, Nat.reduceAdd, Nat.reduceEqDiff, reduceIte, reduceCtorEq, cx, cv26_95, aBuiltin, aLen, Tryz.underlying55, cast_nat, u0, w0, pd, id0, id1, x0, x1, x2, x0', s0, t0]; try exact rfl) rfl ?_)
 simp only [dRun, endsD_some, then_normal]
 rw [show putL (putL ⟨(μ).obs, (μ).next + 15⟩ ai 3 [.int .u8 (.ofNat (48 + d % 10))]) ai 2 [.int .u8 (.ofNat (48 + d / 10))] = two (μ) ai 2 d from rfl]
 have cb : e < 10 := by omega
 have b1 : qwrap .u32 (Int.add 48 (.ofNat e)) = .ofNat (48 + e) := qu32 (48 + e) (by omega)
 have b2 : qwrap .u8 (.ofNat (48 + e)) = .ofNat (48 + e) := qu8 _ (by omega)
 have sl := store_put (P := Tryz.prog) (t := 5) (v := .int .u8 (.ofNat (48 + e))) j5 rfl rfl (two_blk (p := 2) (m := d) hb) (show 1 < 24 by decide)
 repeat (first | refine code_seq ?_ | ((first | (refine code_region ?_ ?_; (focus rfl)) | (refine code_guards (gs := ?_) ?_ ?_; rotate_left; (focus rfl))); simp only [run1, run2, wanted, go_sem, Nat.reduceLT, Nat.reduceAdd, Nat.reduceEqDiff, reduceIte, reduceCtorEq, cx, cv26_95, aBuiltin, aLen, Tryz.underlying55, cast_nat, f0, f1, f2, f3, z0, b1, b2, cv95_5, x0, x1, x2, x0', sl]) | (refine code_cond_true ?_ ?_; (focus (simp only [aev, regAt_set, Nat.reduceEqDiff, reduceIte, cx, cv26_95, aBuiltin, aLen, Tryz.underlying55, cast_nat, f0, f1, f2, f3, z0, b1, b2, cv95_5, x0, x1, x2, x0', sl]; done))) | (refine code_cond_false ?_ ?_; (focus (simp only [aev, regAt_set, Nat.reduceEqDiff, reduceIte, cx, cv26_95, aBuiltin, aLen, Tryz.underlying55, cast_nat, f0, f1, f2, f3, z0, b1, b2, cv95_5, x0, x1, x2, x0', sl]; done))) | ((first | refine code_skip ?_ | refine code_label ?_ | refine code_exit ?_); try simp only [then_exit, then_normal, blockC, Nat.reduceEqDiff, reduceIte]) | refine code_block ?_ | refine code_loop ?_)
 refine ⟨rfl, _, rfl, (Blk.put (i := ai) 1 [.int .u8 (.ofNat (48 + e))] (two_blk (p := 2) (m := d) hb)), ?_, fun j hj => ?_, ?_⟩
 ·simp only [putL_next, two_next]; omega
 ·simp only [putL_get _ _ _ _ hj, two_get _ _ _ _ hj]
 ·refine has_of (Blk.put (i := ai) 1 [.int .u8 (.ofNat (48 + e))] (two_blk (p := 2) (m := d) hb)) (by rw [dgs_length]; decide) fun k hk => ?_
  rw [dgs_length] at hk
  rw [cells_put (two_blk (p := 2) (m := d) hb) (by simp)]
  simp only [List.length_singleton]
  rw [two_cell hb (by decide)]
  have hk' : k = 0 ∨ k = 1 ∨ k = 2 := by omega
  rcases hk' with rfl | rfl | rfl <;> simp [dgs] <;> omega
set_option maxRecDepth 20000 in
set_option maxHeartbeats 8000000 in
theorem fb4 {g ai x te c : Nat} {μ : Mem} (hg : 60 ≤ g) (hb : Blk μ ai 24 te) (hx : x < 10000) :
  EndsF (aFun Tryz.prog (aCode Tryz.prog X S0 g) 211 [.slice (some ⟨ai, 1, none⟩) 4 c, .int .u64 (.ofNat x)] μ) fun v μ' => Blk μ' ai 24 te ∧ μ.next ≤ μ'.next ∧ (∀ j, j ≠ ai → μ'.obs.get j = μ.obs.get j) ∧ Has μ' ai 1 (byL (dgs x 4)) := by
 obtain ⟨k, rfl⟩ := Nat.exists_eq_add_of_le' hg
 obtain ⟨y, hy⟩ : ∃ y, y = x % 10000 := ⟨_, rfl⟩
 obtain ⟨z, hz⟩ : ∃ z, z = x / 10000 := ⟨_, rfl⟩
 obtain ⟨a, ha⟩ : ∃ a, a = y / 100 := ⟨_, rfl⟩
 obtain ⟨b, hb'⟩ : ∃ b, b = y % 100 := ⟨_, rfl⟩
 have r1 : aDiv true .u32 .u32 (.ofNat x) 10000 = some (.int .u32 (.ofNat y)) := hy ▸ rem32u x 10000 (by decide)
 have r2 : aDiv false .u32 .u32 (.ofNat x) 10000 = some (.int .u32 (.ofNat z)) := hz ▸ quo32u x 10000 (by decide) (by omega)
 have r3 : aDiv false .u32 .u32 (.ofNat y) 100 = some (.int .u32 (.ofNat a)) := ha ▸ quo32u y 100 (by decide) (by omega)
 have r4 : aDiv true .u32 .u32 (.ofNat y) 100 = some (.int .u32 (.ofNat b)) := hb' ▸ rem32u y 100 (by decide)
 have ma := mul2u a (by omega)
 have pa := add1u (a * 2) (by omega)
 have ia0 := small0 a (by omega)
 have ia1 := small1 a (by omega)
 have mb := mul2u b (by omega)
 have pb := add1u (b * 2) (by omega)
 have ib0 := small0 b (by omega)
 have ib1 := small1 b (by omega)
 have cx : qwrap .u32 (.ofNat x) = .ofNat x := qu32 x (by omega)
 have f0 : ilt (.ofNat 4) 8 = true := rfl
 have f1 : ilt (.ofNat 4) 4 = false := rfl
 have f2 : qwrap .i64 (Int.sub (.ofNat 4) 4) = .ofNat 0 := rfl
 have f3 : ilt (.ofNat 0) 2 = true := rfl
 have z0 : ilt 0 (.ofNat 0) = false := rfl
 have x0 : ∀ (ρ : Operand → Value) (a b : Operand), ρ a = .slice (some ⟨ai, 1, none⟩) 4 c → ρ b = .int .i64 (.ofNat 0) → aIndexAddr Tryz.prog ρ 55 a b = some (.pointer (some ⟨ai, 1, none⟩)) := fun ρ a b h1 h2 => indexAddr_slice Tryz.underlying55 j5 rfl h1 h2 (by decide)
 have x1 : ∀ (ρ : Operand → Value) (a b : Operand), ρ a = .slice (some ⟨ai, 1, none⟩) 4 c → ρ b = .int .i64 (.ofNat 1) → aIndexAddr Tryz.prog ρ 55 a b = some (.pointer (some ⟨ai, 2, none⟩)) := fun ρ a b h1 h2 => indexAddr_slice Tryz.underlying55 j5 rfl h1 h2 (by decide)
 have x2 : ∀ (ρ : Operand → Value) (a b : Operand), ρ a = .slice (some ⟨ai, 1, none⟩) 4 c → ρ b = .int .i64 (.ofNat 2) → aIndexAddr Tryz.prog ρ 55 a b = some (.pointer (some ⟨ai, 3, none⟩)) := fun ρ a b h1 h2 => indexAddr_slice Tryz.underlying55 j5 rfl h1 h2 (by decide)
 have x3 : ∀ (ρ : Operand → Value) (a b : Operand), ρ a = .slice (some ⟨ai, 1, none⟩) 4 c → ρ b = .int .i64 (.ofNat 3) → aIndexAddr Tryz.prog ρ 55 a b = some (.pointer (some ⟨ai, 4, none⟩)) := fun ρ a b h1 h2 => indexAddr_slice Tryz.underlying55 j5 rfl h1 h2 (by decide)
 refine fun_enter Tryz.func211 rfl rfl (Nat.le_of_ble_eq_true rfl) ?_
 simp only [T.lay, Nat.zero_add, Tryz.ntmps211, Nat.reduceAdd]
 repeat (first | refine code_seq ?_ | ((first | (refine code_region ?_ ?_; (focus rfl)) | (refine code_guards (gs := ?_) ?_ ?_; rotate_left; (focus rfl))); simp only [run1, run2, wanted, go_sem, Nat.reduceLT, Nat.reduceAdd, Nat.reduceEqDiff, reduceIte, reduceCtorEq, cx, cv26_95, aBuiltin, aLen, Tryz.underlying55, cast_nat, f0, f1, f2, f3, z0, r1, r2, r3, r4, ma, mb]) | (refine code_cond_true ?_ ?_; (focus (simp only [aev, regAt_set, Nat.reduceEqDiff, reduceIte, cx, cv26_95, aBuiltin, aLen, Tryz.underlying55, cast_nat, f0, f1, f2, f3, z0, r1, r2, r3, r4, ma, mb]; done))) | (refine code_cond_false ?_ ?_; (focus (simp only [aev, regAt_set, Nat.reduceEqDiff, reduceIte, cx, cv26_95, aBuiltin, aLen, Tryz.underlying55, cast_nat, f0, f1, f2, f3, z0, r1, r2, r3, r4, ma, mb]; done))) | ((first | refine code_skip ?_ | refine code_label ?_ | refine code_exit ?_); try simp only [then_exit, then_normal, blockC, Nat.reduceEqDiff, reduceIte]) | refine code_block ?_ | refine code_loop ?_)
 have u0 : qwrap .i64 (Int.sub (.ofNat 4) 1) = .ofNat 3 := rfl
 have w0 : qwrap .i64 (Int.sub (.ofNat 4) 2) = .ofNat 2 := rfl
 have s0 := store_put (P := Tryz.prog) (t := 5) (v := .int .u8 (.ofNat (48 + b % 10))) (μ := ⟨(μ).obs, (μ).next + 15⟩) j5 rfl rfl (blk_up (m := (μ).next + 15) hb) (show 4 < 24 by decide)
 have t0 := store_put (P := Tryz.prog) (t := 5) (v := .int .u8 (.ofNat (48 + b / 10))) (μ := putL ⟨(μ).obs, (μ).next + 15⟩ ai 4 [.int .u8 (.ofNat (48 + b % 10))]) j5 rfl rfl (Blk.put (i := ai) 4 [.int .u8 (.ofNat (48 + b % 10))] (blk_up (m := (μ).next + 15) hb)) (show 3 < 24 by decide)
 refine code_draw (n := 15) (ms := [0, 0, 2, 0, 0, 16, 0, 64, 192, 0, 512, 455, 2503, 8191, 16383]) (ord := [0, 1, 2, 6, 7, 8, 11, 12, 3, 4, 5, 9, 10, 13, 14]) (ds := ?_) ?_ ?_ ?_ ?_ ?_ ?_
 rotate_left
 ·kernel_rfl
 ·kernel_rfl
 ·kernel_rfl
 ·rfl
 ·rfl
 iterate 15 (refine drun_true (by first | rfl | (simp only [wanted, go_sem, Nat.reduceLT, Nat.reduceAdd, Nat.reduceEqDiff, reduceIte, reduceCtorEq, cx, cv26_95, aBuiltin, aLen, Tryz.underlying55, cast_nat, u0, w0, pb, ib0, ib1, x0, x1, x2, x3, s0, t0])) (by simp only [aDrawOne, heavy, aReads, eqVal_self, go_sem, Nat.reduceLT, Nat.reduceAdd, Nat.reduceEqDiff, reduceIte, reduceCtorEq, cx, cv26_95, aBuiltin, aLen, Tryz.underlying55, cast_nat, u0, w0, pb, ib0, ib1, x0, x1, x2, x3, s0, t0]; try exact rfl) rfl ?_)
 simp only [dRun, endsD_some, then_normal]
 rw [show putL (putL ⟨(μ).obs, (μ).next + 15⟩ ai 4 [.int .u8 (.ofNat (48 + b % 10))]) ai 3 [.int .u8 (.ofNat (48 + b / 10))] = two (μ) ai 3 b from rfl]
 repeat (first | refine code_seq ?_ | ((first | (refine code_region ?_ ?_; (focus rfl)) | (refine code_guards (gs := ?_) ?_ ?_; rotate_left; (focus rfl))); simp only [run1, run2, wanted, go_sem, Nat.reduceLT, Nat.reduceAdd, Nat.reduceEqDiff, reduceIte, reduceCtorEq, cx, cv26_95, aBuiltin, aLen, Tryz.underlying55, cast_nat, f0, f1, f2, f3, z0]) | (refine code_cond_true ?_ ?_; (focus (simp only [aev, regAt_set, Nat.reduceEqDiff, reduceIte, cx, cv26_95, aBuiltin, aLen, Tryz.underlying55, cast_nat, f0, f1, f2, f3, z0]; done))) | (refine code_cond_false ?_ ?_; (focus (simp only [aev, regAt_set, Nat.reduceEqDiff, reduceIte, cx, cv26_95, aBuiltin, aLen, Tryz.underlying55, cast_nat, f0, f1, f2, f3, z0]; done))) | ((first | refine code_skip ?_ | refine code_label ?_ | refine code_exit ?_); try simp only [then_exit, then_normal, blockC, Nat.reduceEqDiff, reduceIte]) | refine code_block ?_ | refine code_loop ?_)
 have u1 : qwrap .i64 (Int.sub (.ofNat 4) 3) = .ofNat 1 := rfl
 have w1 : qwrap .i64 (Int.sub (.ofNat 4) 4) = .ofNat 0 := rfl
 have s1 := store_put (P := Tryz.prog) (t := 5) (v := .int .u8 (.ofNat (48 + a % 10))) (μ := ⟨(two (μ) ai 3 b).obs, (two (μ) ai 3 b).next + 15⟩) j5 rfl rfl (blk_up (m := (two (μ) ai 3 b).next + 15) (two_blk (p := 3) (m := b) hb)) (show 2 < 24 by decide)
 have t1 := store_put (P := Tryz.prog) (t := 5) (v := .int .u8 (.ofNat (48 + a / 10))) (μ := putL ⟨(two (μ) ai 3 b).obs, (two (μ) ai 3 b).next + 15⟩ ai 2 [.int .u8 (.ofNat (48 + a % 10))]) j5 rfl rfl (Blk.put (i := ai) 2 [.int .u8 (.ofNat (48 + a % 10))] (blk_up (m := (two (μ) ai 3 b).next + 15) (two_blk (p := 3) (m := b) hb))) (show 1 < 24 by decide)
 refine code_draw (n := 15) (ms := [0, 0, 2, 0, 0, 16, 0, 64, 192, 0, 512, 455, 2503, 8191, 16383]) (ord := [0, 1, 2, 6, 7, 8, 11, 12, 3, 4, 5, 9, 10, 13, 14]) (ds := ?_) ?_ ?_ ?_ ?_ ?_ ?_
 rotate_left
 ·kernel_rfl
 ·kernel_rfl
 ·kernel_rfl
 ·rfl
 ·rfl
 iterate 15 (refine drun_true (by first | rfl | (simp only [wanted, go_sem, Nat.reduceLT, Nat.reduceAdd, Nat.reduceEqDiff, reduceIte, reduceCtorEq, cx, cv26_95, aBuiltin, aLen, Tryz.underlying55, cast_nat, u1, w1, pa, ia0, ia1, x0, x1, x2, x3, s1, t1])) (by simp only [aDrawOne, heavy, aReads, eqVal_self, go_sem, Nat.reduceLT, Nat.reduceAdd, Nat.reduceEqDiff, reduceIte, reduceCtorEq, cx, cv26_95, aBuiltin, aLen, Tryz.underlying55, cast_nat, u1, w1, pa, ia0, ia1, x0, x1, x2, x3, s1, t1]; try exact rfl) rfl ?_)
 simp only [dRun, endsD_some, then_normal]
 rw [show putL (putL ⟨(two (μ) ai 3 b).obs, (two (μ) ai 3 b).next + 15⟩ ai 2 [.int .u8 (.ofNat (48 + a % 10))]) ai 1 [.int .u8 (.ofNat (48 + a / 10))] = two (two (μ) ai 3 b) ai 1 a from rfl]
 repeat (first | refine code_seq ?_ | ((first | (refine code_region ?_ ?_; (focus rfl)) | (refine code_guards (gs := ?_) ?_ ?_; rotate_left; (focus rfl))); simp only [run1, run2, wanted, go_sem, Nat.reduceLT, Nat.reduceAdd, Nat.reduceEqDiff, reduceIte, reduceCtorEq, cx, cv26_95, aBuiltin, aLen, Tryz.underlying55, cast_nat, f0, f1, f2, f3, z0]) | (refine code_cond_true ?_ ?_; (focus (simp only [aev, regAt_set, Nat.reduceEqDiff, reduceIte, cx, cv26_95, aBuiltin, aLen, Tryz.underlying55, cast_nat, f0, f1, f2, f3, z0]; done))) | (refine code_cond_false ?_ ?_; (focus (simp only [aev, regAt_set, Nat.reduceEqDiff, reduceIte, cx, cv26_95, aBuiltin, aLen, Tryz.underlying55, cast_nat, f0, f1, f2, f3, z0]; done))) | ((first | refine code_skip ?_ | refine code_label ?_ | refine code_exit ?_); try simp only [then_exit, then_normal, blockC, Nat.reduceEqDiff, reduceIte]) | refine code_block ?_ | refine code_loop ?_)
 refine ⟨rfl, _, rfl, (two_blk (p := 1) (m := a) (two_blk (p := 3) (m := b) hb)), ?_, fun j hj => ?_, ?_⟩
 ·simp only [putL_next, two_next]; omega
 ·simp only [putL_get _ _ _ _ hj, two_get _ _ _ _ hj]
 ·refine has_of (two_blk (p := 1) (m := a) (two_blk (p := 3) (m := b) hb)) (by rw [dgs_length]; decide) fun k hk => ?_
  rw [dgs_length] at hk
  rw [two_cell (two_blk (p := 3) (m := b) hb) (by decide), two_cell hb (by decide)]
  have hk' : k = 0 ∨ k = 1 ∨ k = 2 ∨ k = 3 := by omega
  rcases hk' with rfl | rfl | rfl | rfl <;> simp [dgs] <;> omega
set_option maxRecDepth 20000 in
set_option maxHeartbeats 8000000 in
theorem fb5 {g ai x te c : Nat} {μ : Mem} (hg : 60 ≤ g) (hb : Blk μ ai 24 te) (hx : x < 100000) :
  EndsF (aFun Tryz.prog (aCode Tryz.prog X S0 g) 211 [.slice (some ⟨ai, 1, none⟩) 5 c, .int .u64 (.ofNat x)] μ) fun v μ' => Blk μ' ai 24 te ∧ μ.next ≤ μ'.next ∧ (∀ j, j ≠ ai → μ'.obs.get j = μ.obs.get j) ∧ Has μ' ai 1 (byL (dgs x 5)) := by
 obtain ⟨k, rfl⟩ := Nat.exists_eq_add_of_le' hg
 obtain ⟨y, hy⟩ : ∃ y, y = x % 10000 := ⟨_, rfl⟩
 obtain ⟨z, hz⟩ : ∃ z, z = x / 10000 := ⟨_, rfl⟩
 obtain ⟨a, ha⟩ : ∃ a, a = y / 100 := ⟨_, rfl⟩
 obtain ⟨b, hb'⟩ : ∃ b, b = y % 100 := ⟨_, rfl⟩
 have r1 : aDiv true .u32 .u32 (.ofNat x) 10000 = some (.int .u32 (.ofNat y)) := hy ▸ rem32u x 10000 (by decide)
 have r2 : aDiv false .u32 .u32 (.ofNat x) 10000 = some (.int .u32 (.ofNat z)) := hz ▸ quo32u x 10000 (by decide) (by omega)
 have r3 : aDiv false .u32 .u32 (.ofNat y) 100 = some (.int .u32 (.ofNat a)) := ha ▸ quo32u y 100 (by decide) (by omega)
 have r4 : aDiv true .u32 .u32 (.ofNat y) 100 = some (.int .u32 (.ofNat b)) := hb' ▸ rem32u y 100 (by decide)
 have ma := mul2u a (by omega)
 have pa := add1u (a * 2) (by omega)
 have ia0 := small0 a (by omega)
 have ia1 := small1 a (by omega)
 have mb := mul2u b (by omega)
 have pb := add1u (b * 2) (by omega)
 have ib0 := small0 b (by omega)
 have ib1 := small1 b (by omega)
 have cx : qwrap .u32 (.ofNat x) = .ofNat x := qu32 x (by omega)
 have f0 : ilt (.ofNat 5) 8 = true := rfl
 have f1 : ilt (.ofNat 5) 4 = false := rfl
 have f2 : qwrap .i64 (Int.sub (.ofNat 5) 4) = .ofNat 1 := rfl
 have f3 : ilt (.ofNat 1) 2 = true := rfl
 have z0 : ilt 0 (.ofNat 1) = true := rfl
 have x0 : ∀ (ρ : Operand → Value) (a b : Operand), ρ a = .slice (some ⟨ai, 1, none⟩) 5 c → ρ b = .int .i64 (.ofNat 0) → aIndexAddr Tryz.prog ρ 55 a b = some (.pointer (some ⟨ai, 1, none⟩)) := fun ρ a b h1 h2 => indexAddr_slice Tryz.underlying55 j5 rfl h1 h2 (by decide)
 have x1 : ∀ (ρ : Operand → Value) (a b : Operand), ρ a = .slice (some ⟨ai, 1, none⟩) 5 c → ρ b = .int .i64 (.ofNat 1) → aIndexAddr Tryz.prog ρ 55 a b = some (.pointer (some ⟨ai, 2, none⟩)) := fun ρ a b h1 h2 => indexAddr_slice Tryz.underlying55 j5 rfl h1 h2 (by decide)
 have x2 : ∀ (ρ : Operand → Value) (a b : Operand), ρ a = .slice (some ⟨ai, 1, none⟩) 5 c → ρ b = .int .i64 (.ofNat 2) → aIndexAddr Tryz.prog ρ 55 a b = some (.pointer (some ⟨ai, 3, none⟩)) := fun ρ a b h1 h2 => indexAddr_slice Tryz.underlying55 j5 rfl h1 h2 (by decide)
 have x3 : ∀ (ρ : Operand → Value) (a b : Operand), ρ a = .slice (some ⟨ai, 1, none⟩) 5 c → ρ b = .int .i64 (.ofNat 3) → aIndexAddr Tryz.prog ρ 55 a b = some (.pointer (some ⟨ai, 4, none⟩)) := fun ρ a b h1 h2 => indexAddr_slice Tryz.underlying55 j5 rfl h1 h2 (by decide)
 have x4 : ∀ (ρ : Operand → Value) (a b : Operand), ρ a = .slice (some ⟨ai, 1, none⟩) 5 c → ρ b = .int .i64 (.ofNat 4) → aIndexAddr Tryz.prog ρ 55 a b = some (.pointer (some ⟨ai, 5, none⟩)) := fun ρ a b h1 h2 => indexAddr_slice Tryz.underlying55 j5 rfl h1 h2 (by decide)
 have x0' : ∀ (r : Rg) (a : Operand), aev Tryz.prog r a = .slice (some ⟨ai, 1, none⟩) 5 c → aIndexAddr Tryz.prog (aev Tryz.prog r) 55 a (.const (.int .i64 0)) = some (.pointer (some ⟨ai, 1, none⟩)) := fun r a h1 => indexAddr_slice (m := 0) Tryz.underlying55 j5 rfl h1 rfl (by decide)
 refine fun_enter Tryz.func211 rfl rfl (Nat.le_of_ble_eq_true rfl) ?_
 simp only [T.lay, Nat.zero_add, Tryz.ntmps211, Nat.reduceAdd]
 repeat (first | refine code_seq ?_ | ((first | (refine code_region ?_ ?_; (focus rfl)) | (refine code_guards (gs := ?_) ?_ ?_; rotate_left; (focus rfl))); simp only [run1, run2, wanted, go_sem, Nat.reduceLT, Nat.reduceAdd, Nat.reduceEqDiff, reduceIte, reduceCtorEq, cx, cv26_95, aBuiltin, aLen, Tryz.underlying55, cast_nat, f0, f1, f2, f3, z0, r1, r2, r3, r4, ma, mb]) | (refine code_cond_true ?_ ?_; (focus (simp only [aev, regAt_set, Nat.reduceEqDiff, reduceIte, cx, cv26_95, aBuiltin, aLen, Tryz.underlying55, cast_nat, f0, f1, f2, f3, z0, r1, r2, r3, r4, ma, mb]; done))) | (refine code_cond_false ?_ ?_; (focus (simp only [aev, regAt_set, Nat.reduceEqDiff, reduceIte, cx, cv26_95, aBuiltin, aLen, Tryz.underlying55, cast_nat, f0, f1, f2, f3, z0, r1, r2, r3, r4, ma, mb]; done))) | ((first | refine code_skip ?_ | refine code_label ?_ | refine code_exit ?_); try simp only [then_exit, then_normal, blockC, Nat.reduceEqDiff, reduceIte]) | refine code_block ?_ | refine code_loop ?_)
 have u0 : qwrap .i64 (Int.sub (.ofNat 5) 1) = .ofNat 4 := rfl
 have w0 : qwrap .i64 (Int.sub (.ofNat 5) 2) = .ofNat 3 := rfl
 have s0 := store_put (P := Tryz.prog) (t := 5) (v := .int .u8 (.ofNat (48 + b % 10))) (μ := ⟨(μ).obs, (μ).next + 15⟩) j5 rfl rfl (blk_up (m := (μ).next + 15) hb) (show 5 < 24 by decide)
 have t0 := store_put (P := Tryz.prog) (t := 5) (v := .int .u8 (.ofNat (48 + b / 10))) (μ := putL ⟨(μ).obs, (μ).next + 15⟩ ai 5 [.int .u8 (.ofNat (48 + b % 10))]) j5 rfl rfl (Blk.put (i := ai) 5 [.int .u8 (.ofNat (48 + b % 10))] (blk_up (m := (μ).next + 15) hb)) (show 4 < 24 by decide)
 refine code_draw (n := 15) (ms := [0, 0, 2, 0, 0, 16, 0, 64, 192, 0, 512, 455, 2503, 8191, 16383]) (ord := [0, 1, 2, 6, 7, 8, 11, 12, 3, 4, 5, 9, 10, 13, 14]) (ds := ?_) ?_ ?_ ?_ ?_ ?_ ?_
 rotate_left
 ·kernel_rfl
 ·kernel_rfl
 ·kernel_rfl
 ·rfl
 ·rfl
 iterate 15 (refine drun_true (by first | rfl | (simp only [wanted, go_sem, Nat.reduceLT, Nat.reduceAdd, Nat.reduceEqDiff, reduceIte, reduceCtorEq, cx, cv26_95, aBuiltin, aLen, Tryz.underlying55, cast_nat, u0, w0, pb, ib0, ib1, x0, x1, x2, x3, x4, x0', s0, t0])) (by simp only [aDrawOne, heavy, aReads, eqVal_self, go_sem, Nat.reduceLT, Nat.reduceAdd, Nat.reduceEqDiff, reduceIte, reduceCtorEq, cx, cv26_95, aBuiltin, aLen, Tryz.underlying55, cast_nat, u0, w0, pb, ib0, ib1, x0, x1, x2, x3, x4, x0', s0, t0]; try exact rfl) rfl ?_)
 simp only [dRun, endsD_some, then_normal]
 rw [show putL (putL ⟨(μ).obs, (μ).next + 15⟩ ai 5 [.int .u8 (.ofNat (48 + b % 10))]) ai 4 [.int .u8 (.ofNat (48 + b / 10))] = two (μ) ai 4 b from rfl]
 repeat (first | refine code_seq ?_ | ((first | (refine code_region ?_ ?_; (focus rfl)) | (refine code_guards (gs := ?_) ?_ ?_; rotate_left; (focus rfl))); simp only [run1, run2, wanted, go_sem, Nat.reduceLT, Nat.reduceAdd, Nat.reduceEqDiff, reduceIte, reduceCtorEq, cx, cv26_95, aBuiltin, aLen, Tryz.underlying55, cast_nat, f0, f1, f2, f3, z0]) | (refine code_cond_true ?_ ?_; (focus (simp only [aev, regAt_set, Nat.reduceEqDiff, reduceIte, cx, cv26_95, aBuiltin, aLen, Tryz.underlying55, cast_nat, f0, f1, f2, f3, z0]; done))) | (refine code_cond_false ?_ ?_; (focus (simp only [aev, regAt_set, Nat.reduceEqDiff, reduceIte, cx, cv26_95, aBuiltin, aLen, Tryz.underlying55, cast_nat, f0, f1, f2, f3, z0]; done))) | ((first | refine code_skip ?_ | refine code_label ?_ | refine code_exit ?_); try simp only [then_exit, then_normal, blockC, Nat.reduceEqDiff, reduceIte]) | refine code_block ?_ | refine code_loop ?_)
 have u1 : qwrap .i64 (Int.sub (.ofNat 5) 3) = .ofNat 2 := rfl
 have w1 : qwrap .i64 (Int.sub (.ofNat 5) 4) = .ofNat 1 := rfl
 have s1 := store_put (P := Tryz.prog) (t := 5) (v := .int .u8 (.ofNat (48 + a % 10))) (μ := ⟨(two (μ) ai 4 b).obs, (two (μ) ai 4 b).next + 15⟩) j5 rfl rfl (blk_up (m := (two (μ) ai 4 b).next + 15) (two_blk (p := 4) (m := b) hb)) (show 3 < 24 by decide)
 have t1 := store_put (P := Tryz.prog) (t := 5) (v := .int .u8 (.ofNat (48 + a / 10))) (μ := putL ⟨(two (μ) ai 4 b).obs, (two (μ) ai 4 b).next + 15⟩ ai 3 [.int .u8 (.ofNat (48 + a % 10))]) j5 rfl rfl (Blk.put (i := ai) 3 [.int .u8 (.ofNat (48 + a % 10))] (blk_up (m := (two (μ) ai 4 b).next + 15) (two_blk (p := 4) (m := b) hb))) (show 2 < 24 by decide)
 refine code_draw (n := 15) (ms := [0, 0, 2, 0, 0, 16, 0, 64, 192, 0, 512, 455, 2503, 8191, 16383]) (ord := [0, 1, 2, 6, 7, 8, 11, 12, 3, 4, 5, 9, 10, 13, 14]) (ds := ?_) ?_ ?_ ?_ ?_ ?_ ?_
 rotate_left
 ·kernel_rfl
 ·kernel_rfl
 ·kernel_rfl
 ·rfl
 ·rfl
 iterate 15 (refine drun_true (by first | rfl | (simp only [wanted, go_sem, Nat.reduceLT, Nat.reduceAdd, Nat.reduceEqDiff, reduceIte, reduceCtorEq, cx, cv26_95, aBuiltin, aLen, Tryz.underlying55, cast_nat, u1, w1, pa, ia0, ia1, x0, x1, x2, x3, x4, x0', s1, t1])) (by simp only [aDrawOne, heavy, aReads, eqVal_self, go_sem, Nat.reduceLT, Nat.reduceAdd, Nat.reduceEqDiff, reduceIte, reduceCtorEq, cx, cv26_95, aBuiltin, aLen, Tryz.underlying55, cast_nat, u1, w1, pa, ia0, ia1, x0, x1, x2, x3, x4, x0', s1, t1]; try exact rfl) rfl ?_)
 simp only [dRun, endsD_some, then_normal]
 rw [show putL (putL ⟨(two (μ) ai 4 b).obs, (two (μ) ai 4 b).next + 15⟩ ai 3 [.int .u8 (.ofNat (48 + a % 10))]) ai 2 [.int .u8 (.ofNat (48 + a / 10))] = two (two (μ) ai 4 b) ai 2 a from rfl]
 have cb : z < 10 := by omega
 have b1 : qwrap .u32 (Int.add 48 (.ofNat z)) = .ofNat (48 + z) := qu32 (48 + z) (by omega)
 have b2 : qwrap .u8 (.ofNat (48 + z)) = .ofNat (48 + z) := qu8 _ (by omega)
 have sl := store_put (P := Tryz.prog) (t := 5) (v := .int .u8 (.ofNat (48 + z))) j5 rfl rfl (two_blk (p := 2) (m := a) (two_blk (p := 4) (m := b) hb)) (show 1 < 24 by decide)
 repeat (first | refine code_seq ?_ | ((first | (refine code_region ?_ ?_; (focus rfl)) | (refine code_guards (gs := ?_) ?_ ?_; rotate_left; (focus rfl))); simp only [run1, run2, wanted, go_sem, Nat.reduceLT, Nat.reduceAdd, Nat.reduceEqDiff, reduceIte, reduceCtorEq, cx, cv26_95, aBuiltin, aLen, Tryz.underlying55, cast_nat, f0, f1, f2, f3, z0, b1, b2, cv95_5, x0, x1, x2, x3, x4, x0', sl]) | (refine code_cond_true ?_ ?_; (focus (simp only [aev, regAt_set, Nat.reduceEqDiff, reduceIte, cx, cv26_95, aBuiltin, aLen, Tryz.underlying55, cast_nat, f0, f1, f2, f3, z0, b1, b2, cv95_5, x0, x1, x2, x3, x4, x0', sl]; done))) | (refine code_cond_false ?_ ?_; (focus (simp only [aev, regAt_set, Nat.reduceEqDiff, reduceIte, cx, cv26_95, aBuiltin, aLen, Tryz.underlying55, cast_nat, f0, f1, f2, f3, z0, b1, b2, cv95_5, x0, x1, x2, x3, x4, x0', sl]; done))) | ((first | refine code_skip ?_ | refine code_label ?_ | refine code_exit ?_); try simp only [then_exit, then_normal, blockC, Nat.reduceEqDiff, reduceIte]) | refine code_block ?_ | refine code_loop ?_)
 refine ⟨rfl, _, rfl, (Blk.put (i := ai) 1 [.int .u8 (.ofNat (48 + z))] (two_blk (p := 2) (m := a) (two_blk (p := 4) (m := b) hb))), ?_, fun j hj => ?_, ?_⟩
 ·simp only [putL_next, two_next]; omega
 ·simp only [putL_get _ _ _ _ hj, two_get _ _ _ _ hj]
 ·refine has_of (Blk.put (i := ai) 1 [.int .u8 (.ofNat (48 + z))] (two_blk (p := 2) (m := a) (two_blk (p := 4) (m := b) hb))) (by rw [dgs_length]; decide) fun k hk => ?_
  rw [dgs_length] at hk
  rw [cells_put (two_blk (p := 2) (m := a) (two_blk (p := 4) (m := b) hb)) (by simp)]
  simp only [List.length_singleton]
  rw [two_cell (two_blk (p := 4) (m := b) hb) (by decide), two_cell hb (by decide)]
  have hk' : k = 0 ∨ k = 1 ∨ k = 2 ∨ k = 3 ∨ k = 4 := by omega
  rcases hk' with rfl | rfl | rfl | rfl | rfl <;> simp [dgs] <;> omega
set_option maxRecDepth 20000 in
set_option maxHeartbeats 8000000 in
theorem fb6 {g ai x te c : Nat} {μ : Mem} (hg : 60 ≤ g) (hb : Blk μ ai 24 te) (hx : x < 1000000) :
  EndsF (aFun Tryz.prog (aCode Tryz.prog X S0 g) 211 [.slice (some ⟨ai, 1, none⟩) 6 c, .int .u64 (.ofNat x)] μ) fun v μ' => Blk μ' ai 24 te ∧ μ.next ≤ μ'.next ∧ (∀ j, j ≠ ai → μ'.obs.get j = μ.obs.get j) ∧ Has μ' ai 1 (byL (dgs x 6)) := by
 obtain ⟨k, rfl⟩ := Nat.exists_eq_add_of_le' hg
 obtain ⟨y, hy⟩ : ∃ y, y = x % 10000 := ⟨_, rfl⟩
 obtain ⟨z, hz⟩ : ∃ z, z = x / 10000 := ⟨_, rfl⟩
 obtain ⟨a, ha⟩ : ∃ a, a = y / 100 := ⟨_, rfl⟩
 obtain ⟨b, hb'⟩ : ∃ b, b = y % 100 := ⟨_, rfl⟩
 have r1 : aDiv true .u32 .u32 (.ofNat x) 10000 = some (.int .u32 (.ofNat y)) := hy ▸ rem32u x 10000 (by decide)
 have r2 : aDiv false .u32 .u32 (.ofNat x) 10000 = some (.int .u32 (.ofNat z)) := hz ▸ quo32u x 10000 (by decide) (by omega)
 have r3 : aDiv false .u32 .u32 (.ofNat y) 100 = some (.int .u32 (.ofNat a)) := ha ▸ quo32u y 100 (by decide) (by omega)
 have r4 : aDiv true .u32 .u32 (.ofNat y) 100 = some (.int .u32 (.ofNat b)) := hb' ▸ rem32u y 100 (by decide)
 obtain ⟨d, hd⟩ : ∃ d, d = z % 100 := ⟨_, rfl⟩
 obtain ⟨e, he⟩ : ∃ e, e = z / 100 := ⟨_, rfl⟩
 have r5 : aDiv true .u32 .u32 (.ofNat z) 100 = some (.int .u32 (.ofNat d)) := hd ▸ rem32u z 100 (by decide)
 have r6 : aDiv false .u32 .u32 (.ofNat z) 100 = some (.int .u32 (.ofNat e)) := he ▸ quo32u z 100 (by decide) (by omega)
 have ma := mul2u a (by omega)
 have pa := add1u (a * 2) (by omega)
 have ia0 := small0 a (by omega)
 have ia1 := small1 a (by omega)
 have mb := mul2u b (by omega)
 have pb := add1u (b * 2) (by omega)
 have ib0 := small0 b (by omega)
 have ib1 := small1 b (by omega)
 have md := mul2u d (by omega)
 have pd := add1u (d * 2) (by omega)
 have id0 := small0 d (by omega)
 have id1 := small1 d (by omega)
 have cx : qwrap .u32 (.ofNat x) = .ofNat x := qu32 x (by omega)
 have f0 : ilt (.ofNat 6) 8 = true := rfl
 have f1 : ilt (.ofNat 6) 4 = false := rfl
 have f2 : qwrap .i64 (Int.sub (.ofNat 6) 4) = .ofNat 2 := rfl
 have f3 : ilt (.ofNat 2) 2 = false := rfl
 have f4 : qwrap .i64 (Int.sub (.ofNat 2) 2) = .ofNat 0 := rfl
 have z0 : ilt 0 (.ofNat 0) = false := rfl
 have x0 : ∀ (ρ : Operand → Value) (a b : Operand), ρ a = .slice (some ⟨ai, 1, none⟩) 6 c → ρ b = .int .i64 (.ofNat 0) → aIndexAddr Tryz.prog ρ 55 a b = some (.pointer (some ⟨ai, 1, none⟩)) := fun ρ a b h1 h2 => indexAddr_slice Tryz.underlying55 j5 rfl h1 h2 (by decide)
 have x1 : ∀ (ρ : Operand → Value) (a b : Operand), ρ a = .slice (some ⟨ai, 1, none⟩) 6 c → ρ b = .int .i64 (.ofNat 1) → aIndexAddr Tryz.prog ρ 55 a b = some (.pointer (some ⟨ai, 2, none⟩)) := fun ρ a b h1 h2 => indexAddr_slice Tryz.underlying55 j5 rfl h1 h2 (by decide)
 have x2 : ∀ (ρ : Operand → Value) (a b : Operand), ρ a = .slice (some ⟨ai, 1, none⟩) 6 c → ρ b = .int .i64 (.ofNat 2) → aIndexAddr Tryz.prog ρ 55 a b = some (.pointer (some ⟨ai, 3, none⟩)) := fun ρ a b h1 h2 => indexAddr_slice Tryz.underlying55 j5 rfl h1 h2 (by decide)
 have x3 : ∀ (ρ : Operand → Value) (a b : Operand), ρ a = .slice (some ⟨ai, 1, none⟩) 6 c → ρ b = .int .i64 (.ofNat 3) → aIndexAddr Tryz.prog ρ 55 a b = some (.pointer (some ⟨ai, 4, none⟩)) := fun ρ a b h1 h2 => indexAddr_slice Tryz.underlying55 j5 rfl h1 h2 (by decide)
 have x4 : ∀ (ρ : Operand → Value) (a b : Operand), ρ a = .slice (some ⟨ai, 1, none⟩) 6 c → ρ b = .int .i64 (.ofNat 4) → aIndexAddr Tryz.prog ρ 55 a b = some (.pointer (some ⟨ai, 5, none⟩)) := fun ρ a b h1 h2 => indexAddr_slice Tryz.underlying55 j5 rfl h1 h2 (by decide)
 have x5 : ∀ (ρ : Operand → Value) (a b : Operand), ρ a = .slice (some ⟨ai, 1, none⟩) 6 c → ρ b = .int .i64 (.ofNat 5) → aIndexAddr Tryz.prog ρ 55 a b = some (.pointer (some ⟨ai, 6, none⟩)) := fun ρ a b h1 h2 => indexAddr_slice Tryz.underlying55 j5 rfl h1 h2 (by decide)
 refine fun_enter Tryz.func211 rfl rfl (Nat.le_of_ble_eq_true rfl) ?_
 simp only [T.lay, Nat.zero_add, Tryz.ntmps211, Nat.reduceAdd]
 repeat (first | refine code_seq ?_ | ((first | (refine code_region ?_ ?_; (focus rfl)) | (refine code_guards (gs := ?_) ?_ ?_; rotate_left; (focus rfl))); simp only [run1, run2, wanted, go_sem, Nat.reduceLT, Nat.reduceAdd, Nat.reduceEqDiff, reduceIte, reduceCtorEq, cx, cv26_95, aBuiltin, aLen, Tryz.underlying55, cast_nat, f0, f1, f2, f3, f4, z0, r1, r2, r3, r4, ma, mb]) | (refine code_cond_true ?_ ?_; (focus (simp only [aev, regAt_set, Nat.reduceEqDiff, reduceIte, cx, cv26_95, aBuiltin, aLen, Tryz.underlying55, cast_nat, f0, f1, f2, f3, f4, z0, r1, r2, r3, r4, ma, mb]; done))) | (refine code_cond_false ?_ ?_; (focus (simp only [aev, regAt_set, Nat.reduceEqDiff, reduceIte, cx, cv26_95, aBuiltin, aLen, Tryz.underlying55, cast_nat, f0, f1, f2, f3, f4, z0, r1, r2, r3, r4, ma, mb]; done))) | ((first | refine code_skip ?_ | refine code_label ?_ | refine code_exit ?_); try simp only [then_exit, then_normal, blockC, Nat.reduceEqDiff, reduceIte]) | refine code_block ?_ | refine code_loop ?_)
 have u0 : qwrap .i64 (Int.sub (.ofNat 6) 1) = .ofNat 5 := rfl
 have w0 : qwrap .i64 (Int.sub (.ofNat 6) 2) = .ofNat 4 := rfl
 have s0 := store_put (P := Tryz.prog) (t := 5) (v := .int .u8 (.ofNat (48 + b % 10))) (μ := ⟨(μ).obs, (μ).next + 15⟩) j5 rfl rfl (blk_up (m := (μ).next + 15) hb) (show 6 < 24 by decide)
 have t0 := store_put (P := Tryz.prog) (t := 5) (v := .int .u8 (.ofNat (48 + b / 10))) (μ := putL ⟨(μ).obs, (μ).next + 15⟩ ai 6 [.int .u8 (.ofNat (48 + b % 10))]) j5 rfl rfl (Blk.put (i := ai) 6 [.int .u8 (.ofNat (48 + b % 10))] (blk_up (m := (μ).next + 15) hb)) (show 5 < 24 by decide)
 refine code_draw (n := 15) (ms := [0, 0, 2, 0, 0, 16, 0, 64, 192, 0, 512, 455, 2503, 8191, 16383]) (ord := [0, 1, 2, 6, 7, 8, 11, 12, 3, 4, 5, 9, 10, 13, 14]) (ds := ?_) ?_ ?_ ?_ ?_ ?_ ?_
 rotate_left
 ·kernel_rfl
 ·kernel_rfl
 ·kernel_rfl
 ·rfl
 ·rfl
 iterate 15 (refine drun_true (by first | rfl | (simp only [wanted, go_sem, Nat.reduceLT, Nat.reduceAdd, Nat.reduceEqDiff, reduceIte, reduceCtorEq, cx, cv26_95, aBuiltin, aLen, Tryz.underlying55, cast_nat, u0, w0, pb, ib0, ib1, x0, x1, x2, x3, x4, x5, s0, t0])) (by simp only [aDrawOne, heavy, aReads, eqVal_self, go_sem, Nat.reduceLT, Nat.reduceAdd, Nat.reduceEqDiff, reduceIte, reduceCtorEq, cx, cv26_95, aBuiltin, aLen, Tryz.underlying55, cast_nat, u0, w0, pb, ib0, ib1, x0, x1, x2, x3, x4, x5, s0, t0]; try exact rfl) rfl ?_)
 simp only [dRun, endsD_some, then_normal]
 rw [show putL (putL ⟨(μ).obs, (μ).next + 15⟩ ai 6 [.int .u8 (.ofNat (48 + b % 10))]) ai 5 [.int .u8 (.ofNat (48 + b / 10))] = two (μ) ai 5 b from rfl]
 repeat (first | refine code_seq ?_ | ((first | (refine code_region ?_ ?_; (focus rfl)) | (refine code_guards (gs := ?_) ?_ ?_; rotate_left; (focus rfl))); simp only [run1, run2, wanted, go_sem, Nat.reduceLT, Nat.reduceAdd, Nat.reduceEqDiff, reduceIte, reduceCtorEq, cx, cv26_95, aBuiltin, aLen, Tryz.underlying55, cast_nat, f0, f1, f2, f3, f4, z0]) | (refine code_cond_true ?_ ?_; (focus (simp only [aev, regAt_set, Nat.reduceEqDiff, reduceIte, cx, cv26_95, aBuiltin, aLen, Tryz.underlying55, cast_nat, f0, f1, f2, f3, f4, z0]; done))) | (refine code_cond_false ?_ ?_; (focus (simp only [aev, regAt_set, Nat.reduceEqDiff, reduceIte, cx, cv26_95, aBuiltin, aLen, Tryz.underlying55, cast_nat, f0, f1, f2, f3, f4, z0]; done))) | ((first | refine code_skip ?_ | refine code_label ?_ | refine code_exit ?_); try simp only [then_exit, then_normal, blockC, Nat.reduceEqDiff, reduceIte]) | refine code_block ?_ | refine code_loop ?_)
 have u1 : qwrap .i64 (Int.sub (.ofNat 6) 3) = .ofNat 3 := rfl
 have w1 : qwrap .i64 (Int.sub (.ofNat 6) 4) = .ofNat 2 := rfl
 have s1 := store_put (P := Tryz.prog) (t := 5) (v := .int .u8 (.ofNat (48 + a % 10))) (μ := ⟨(two (μ) ai 5 b).obs, (two (μ) ai 5 b).next + 15⟩) j5 rfl rfl (blk_up (m := (two (μ) ai 5 b).next + 15) (two_blk (p := 5) (m := b) hb)) (show 4 < 24 by decide)
 have t1 := store_put (P := Tryz.prog) (t := 5) (v := .int .u8 (.ofNat (48 + a / 10))) (μ := putL ⟨(two (μ) ai 5 b).obs, (two (μ) ai 5 b).next + 15⟩ ai 4 [.int .u8 (.ofNat (48 + a % 10))]) j5 rfl rfl (Blk.put (i := ai) 4 [.int .u8 (.ofNat (48 + a % 10))] (blk_up (m := (two (μ) ai 5 b).next + 15) (two_blk (p := 5) (m := b) hb))) (show 3 < 24 by decide)
 refine code_draw (n := 15) (ms := [0, 0, 2, 0, 0, 16, 0, 64, 192, 0, 512, 455, 2503, 8191, 16383]) (ord := [0, 1, 2, 6, 7, 8, 11, 12, 3, 4, 5, 9, 10, 13, 14]) (ds := ?_) ?_ ?_ ?_ ?_ ?_ ?_
 rotate_left
 ·kernel_rfl
 ·kernel_rfl
 ·kernel_rfl
 ·rfl
 ·rfl
 iterate 15 (refine drun_true (by first | rfl | (simp only [wanted, go_sem, Nat.reduceLT, Nat.reduceAdd, Nat.reduceEqDiff, reduceIte, reduceCtorEq, cx, cv26_95, aBuiltin, aLen, Tryz.underlying55, cast_nat, u1, w1, pa, ia0, ia1, x0, x1, x2, x3, x4, x5, s1, t1])) (by simp only [aDrawOne, heavy, aReads, eqVal_self, go_sem, Nat.reduceLT, Nat.reduceAdd, Nat.reduceEqDiff, reduceIte, reduceCtorEq, cx, cv26_95, aBuiltin, aLen, Tryz.underlying55, cast_nat, u1, w1, pa, ia0, ia1, x0, x1, x2, x3, x4, x5, s1, t1]; try exact rfl) rfl ?_)
 simp only [dRun, endsD_some, then_normal]
 rw [show putL (putL ⟨(two (μ) ai 5 b).obs, (two (μ) ai 5 b).next + 15⟩ ai 4 [.int .u8 (.ofNat (48 + a % 10))]) ai 3 [.int .u8 (.ofNat (48 + a / 10))] = two (two (μ) ai 5 b) ai 3 a from rfl]
 repeat (first | refine code_seq ?_ | ((first | (refine code_region ?_ ?_; (focus rfl)) | (refine code_guards (gs := ?_) ?_ ?_; rotate_left; (focus rfl))); simp only [run1, run2, wanted, go_sem, Nat.reduceLT, Nat.reduceAdd, Nat.reduceEqDiff, reduceIte, reduceCtorEq, cx, cv26_95, aBuiltin, aLen, Tryz.underlying55, cast_nat, f0, f1, f2, f3, f4, z0, r5, r6, md]) | (refine code_cond_true ?_ ?_; (focus (simp only [aev, regAt_set, Nat.reduceEqDiff, reduceIte, cx, cv26_95, aBuiltin, aLen, Tryz.underlying55, cast_nat, f0, f1, f2, f3, f4, z0, r5, r6, md]; done))) | (refine code_cond_false ?_ ?_; (focus (simp only [aev, regAt_set, Nat.reduceEqDiff, reduceIte, cx, cv26_95, aBuiltin, aLen, Tryz.underlying55, cast_nat, f0, f1, f2, f3, f4, z0, r5, r6, md]; done))) | ((first | refine code_skip ?_ | refine code_label ?_ | refine code_exit ?_); try simp only [then_exit, then_normal, blockC, Nat.reduceEqDiff, reduceIte]) | refine code_block ?_ | refine code_loop ?_)
 have u2 : qwrap .i64 (Int.sub (.ofNat 2) 1) = .ofNat 1 := rfl
 have w2 : qwrap .i64 (Int.sub (.ofNat 2) 2) = .ofNat 0 := rfl
 have s2 := store_put (P := Tryz.prog) (t := 5) (v := .int .u8 (.ofNat (48 + d % 10))) (μ := ⟨(two (two (μ) ai 5 b) ai 3 a).obs, (two (two (μ) ai 5 b) ai 3 a).next + 15⟩) j5 rfl rfl (blk_up (m := (two (two (μ) ai 5 b) ai 3 a).next + 15) (two_blk (p := 3) (m := a) (two_blk (p := 5) (m := b) hb))) (show 2 < 24 by decide)
 have t2 := store_put (P := Tryz.prog) (t := 5) (v := .int .u8 (.ofNat (48 + d / 10))) (μ := putL ⟨(two (two (μ) ai 5 b) ai 3 a).obs, (two (two (μ) ai 5 b) ai 3 a).next + 15⟩ ai 2 [.int .u8 (.ofNat (48 + d % 10))]) j5 rfl rfl (Blk.put (i := ai) 2 [.int .u8 (.ofNat (48 + d % 10))] (blk_up (m := (two (two (μ) ai 5 b) ai 3 a).next + 15) (two_blk (p := 3) (m := a) (two_blk (p := 5) (m := b) hb)))) (show 1 < 24 by decide)
 refine code_draw (n := 15) (ms := [0, 0, 2, 0, 0, 16, 0, 64, 192, 0, 512, 455, 2503, 8191, 16383]) (ord := [0, 1, 2, 6, 7, 8, 11, 12, 3, 4, 5, 9, 10, 13, 14]) (ds := ?_) ?_ ?_ ?_ ?_ ?_ ?_
 rotate_left
 ·kernel_rfl
 ·kernel_rfl
 ·kernel_rfl
 ·rfl
 ·rfl
 iterate 15 (refine drun_true (by first | rfl | (simp only [wanted, go_sem, Nat.reduceLT, Nat.reduceAdd, Nat.reduceEqDiff, reduceIte, reduceCtorEq, cx, cv26_95, aBuiltin, aLen, Tryz.underlying55, cast_nat, u2, w2, pd, id0, id1, x0, x1, x2, x3, x4, x5, s2, t2])) (by simp only [aDrawOne, heavy, aReads, eqVal_self, go_sem, Nat.reduceLT, Nat.reduceAdd, Nat.reduceEqDiff, reduceIte, reduceCtorEq, cx, cv26_95, aBuiltin, aLen, Tryz.underlying55, cast_nat, u2, w2, pd, id0, id1, x0, x1, x2, x3, x4, x5, s2, t2]; try exact rfl) rfl ?_)
 simp only [dRun, endsD_some, then_normal]
 rw [show putL (putL ⟨(two (two (μ) ai 5 b) ai 3 a).obs, (two (two (μ) ai 5 b) ai 3 a).next + 15⟩ ai 2 [.int .u8 (.ofNat (48 + d % 10))]) ai 1 [.int .u8 (.ofNat (48 + d / 10))] = two (two (two (μ) ai 5 b) ai 3 a) ai 1 d from rfl]
 repeat (first | refine code_seq ?_ | ((first | (refine code_region ?_ ?_; (focus rfl)) | (refine code_guards (gs := ?_) ?_ ?_; rotate_left; (focus rfl))); simp only [run1, run2, wanted, go_sem, Nat.reduceLT, Nat.reduceAdd, Nat.reduceEqDiff, reduceIte, reduceCtorEq, cx, cv26_95, aBuiltin, aLen, Tryz.underlying55, cast_nat, f0, f1, f2, f3, f4, z0]) | (refine code_cond_true ?_ ?_; (focus (simp only [aev, regAt_set, Nat.reduceEqDiff, reduceIte, cx, cv26_95, aBuiltin, aLen, Tryz.underlying55, cast_nat, f0, f1, f2, f3, f4, z0]; done))) | (refine code_cond_false ?_ ?_; (focus (simp only [aev, regAt_set, Nat.reduceEqDiff, reduceIte, cx, cv26_95, aBuiltin, aLen, Tryz.underlying55, cast_nat, f0, f1, f2, f3, f4, z0]; done))) | ((first | refine code_skip ?_ | refine code_label ?_ | refine code_exit ?_); try simp only [then_exit, then_normal, blockC, Nat.reduceEqDiff, reduceIte]) | refine code_block ?_ | refine code_loop ?_)
 refine ⟨rfl, _, rfl, (two_blk (p := 1) (m := d) (two_blk (p := 3) (m := a) (two_blk (p := 5) (m := b) hb))), ?_, fun j hj => ?_, ?_⟩
 ·simp only [putL_next, two_next]; omega
 ·simp only [putL_get _ _ _ _ hj, two_get _ _ _ _ hj]
 ·refine has_of (two_blk (p := 1) (m := d) (two_blk (p := 3) (m := a) (two_blk (p := 5) (m := b) hb))) (by rw [dgs_length]; decide) fun k hk => ?_
  rw [dgs_length] at hk
  rw [two_cell (two_blk (p := 3) (m := a) (two_blk (p := 5) (m := b) hb)) (by decide), two_cell (two_blk (p := 5) (m := b) hb) (by decide), two_cell hb (by decide)]
  have hk' : k = 0 ∨ k = 1 ∨ k = 2 ∨ k = 3 ∨ k = 4 ∨ k = 5 := by omega
  rcases hk' with rfl | rfl | rfl | rfl | rfl | rfl <;> simp [dgs] <;> omega
end
noncomputable section
variable {X : FuncId → List Value → Mem → Option (Value × Mem)}
def txt (x n : Nat) : ByteArray := ⟨((dgs x n).map UInt8.ofNat).toArray⟩
abbrev digits36 : ByteArray := ⟨List.toArray [48, 49, 50, 51, 52, 53, 54, 55, 56, 57, 97, 98, 99, 100, 101, 102, 103, 104, 105, 106, 107, 108, 109, 110, 111, 112, 113, 114, 115, 116, 117, 118, 119, 120, 121, 122]⟩
theorem dig_all : ∀ x, x < 10 → ((digits36.data.toList.drop x).take 1) = (dgs x 1).map UInt8.ofNat := by decide +kernel
theorem sma_all : ∀ x, x < 100 → ((smalls.data.toList.drop (x * 2)).take 2) = (dgs x 2).map UInt8.ofNat := by decide +kernel
theorem slice_lit {r : Rg} {s : ByteArray} {lo hi : Operand} {l h : Nat} (hl : aev Tryz.prog r lo = .int .i64 (.ofNat l)) (hh : aev Tryz.prog r hi = .int .i64 (.ofNat h)) (h1 : l ≤ h) (h2 : h ≤ s.data.toList.length) (hp : plainV 5 (.string s) = true) :
  aSlice Tryz.prog (aev Tryz.prog r) 9 (.const (.string s)) (some lo) (some hi) none = some (.string ⟨((s.data.toList.drop l).take (h - l)).toArray⟩) := by
 have e0 : aev Tryz.prog r (.const (.string s)) = .string s := by
  show (match plainV 5 (.string s) with | true => Value.string s | false => Value.chan none) = _
  rw [hp]
 unfold aSlice
 simp only [e0, Tryz.underlying9, aBounds, aBound, hh, hl]
 rw [Nat.ble_eq_true_of_le h2]
 simp only
 rw [Nat.ble_eq_true_of_le h1]
 rfl
set_option maxRecDepth 20000 in
set_option maxHeartbeats 4000000 in
theorem small_ends {g x : Nat} {μ : Mem} (hg : 20 ≤ g) (hx : x < 100) : aFun Tryz.prog (aCode Tryz.prog X S0 g) 209 [.int .i64 (.ofNat x)] μ = some (.string (txt x (if x < 10 then 1 else 2)), μ) := by
 obtain ⟨k, rfl⟩ := Nat.exists_eq_add_of_le' hg
 refine ends_eq ?_
 by_cases h : x < 10
 ·rw [if_pos h]
  have e1 : ilt (.ofNat x) 10 = true := (ilt_nat x 10).trans (decide_eq_true h)
  have e2 : qwrap .i64 (Int.add (.ofNat x) 1) = .ofNat (x + 1) := add_nat x 1 (by omega)
  have e3 : ∀ (r : Rg) (lo hi : Operand), aev Tryz.prog r lo = .int .i64 (.ofNat x) → aev Tryz.prog r hi = .int .i64 (.ofNat (x + 1)) → aSlice Tryz.prog (aev Tryz.prog r) 9 (.const (.string digits36)) (some lo) (some hi) none = some (.string (txt x 1)) := fun r lo hi h1 h2 => by
   rw [slice_lit h1 h2 (by omega) (by show x + 1 ≤ 36; omega) rfl, show x + 1 - x = 1 from by omega, dig_all x h]; rfl
  refine fun_enter Tryz.func209 rfl rfl (Nat.le_of_ble_eq_true rfl) ?_
  simp only [T.lay, Nat.zero_add, Tryz.ntmps209, Nat.reduceAdd]
  repeat (first | refine code_seq ?_ | ((first | (refine code_region ?_ ?_; (focus rfl)) | (refine code_guards (gs := ?_) ?_ ?_; rotate_left; (focus rfl))); simp only [run1, run2, wanted, go_sem, Nat.reduceLT, Nat.reduceAdd, Nat.reduceEqDiff, reduceIte, reduceCtorEq, e1, e2, e3]) | (refine code_cond_true ?_ ?_; (focus (simp only [aev, regAt_set, Nat.reduceEqDiff, reduceIte, e1, e2, e3]; done))) | (refine code_cond_false ?_ ?_; (focus (simp only [aev, regAt_set, Nat.reduceEqDiff, reduceIte, e1, e2, e3]; done))) | ((first | refine code_skip ?_ | refine code_label ?_ | refine code_exit ?_); try simp only [then_exit, then_normal, blockC, Nat.reduceEqDiff, reduceIte]) | refine code_block ?_)
  refine code_ret ?_
  refine ⟨rfl, _, ?_, rfl, rfl⟩
  simp only [aResults, Tryz.results209, aRes, regAt_set, Nat.reduceEqDiff, reduceIte]
 ·rw [if_neg h]
  have e1 : ilt (.ofNat x) 10 = false := (ilt_nat x 10).trans (decide_eq_false h)
  have e2 : qwrap .i64 (Int.mul (.ofNat x) 2) = .ofNat (x * 2) := mul_nat x 2 (by omega)
  have e4 : qwrap .i64 (Int.add (.ofNat (x * 2)) 2) = .ofNat (x * 2 + 2) := add_nat (x * 2) 2 (by omega)
  have e3 : ∀ (r : Rg) (lo hi : Operand), aev Tryz.prog r lo = .int .i64 (.ofNat (x * 2)) → aev Tryz.prog r hi = .int .i64 (.ofNat (x * 2 + 2)) → aSlice Tryz.prog (aev Tryz.prog r) 9 (.const (.string smalls)) (some lo) (some hi) none = some (.string (txt x 2)) := fun r lo hi h1 h2 => by
   rw [slice_lit h1 h2 (by omega) (by show x * 2 + 2 ≤ 200; omega) rfl, show x * 2 + 2 - x * 2 = 2 from by omega, sma_all x hx]; rfl
  refine fun_enter Tryz.func209 rfl rfl (Nat.le_of_ble_eq_true rfl) ?_
  simp only [T.lay, Nat.zero_add, Tryz.ntmps209, Nat.reduceAdd]
  repeat (first | refine code_seq ?_ | ((first | (refine code_region ?_ ?_; (focus rfl)) | (refine code_guards (gs := ?_) ?_ ?_; rotate_left; (focus rfl))); simp only [run1, run2, wanted, go_sem, Nat.reduceLT, Nat.reduceAdd, Nat.reduceEqDiff, reduceIte, reduceCtorEq, e1, e2, e4, e3]) | (refine code_cond_true ?_ ?_; (focus (simp only [aev, regAt_set, Nat.reduceEqDiff, reduceIte, e1, e2, e4, e3]; done))) | (refine code_cond_false ?_ ?_; (focus (simp only [aev, regAt_set, Nat.reduceEqDiff, reduceIte, e1, e2, e4, e3]; done))) | ((first | refine code_skip ?_ | refine code_label ?_ | refine code_exit ?_); try simp only [then_exit, then_normal, blockC, Nat.reduceEqDiff, reduceIte]) | refine code_block ?_)
  refine code_ret ?_
  refine ⟨rfl, _, ?_, rfl, rfl⟩
  simp only [aResults, Tryz.results209, aRes, regAt_set, Nat.reduceEqDiff, reduceIte]
theorem z212 : aZeroOf Tryz.prog 282 = some (.agg (Array.replicate 24 (.int .u8 0))) := by unfold aZeroOf; rw [j212]; kernel_rfl
theorem al212 : aAlloc Tryz.prog 282 = some (.cells 24 282 (Array.replicate 24 (.int .u8 0)) .e 0 0 false false, fun id => .pointer (some ⟨id, 0, none⟩)) := by unfold aAlloc; rw [z212]; rfl
theorem slice_arr {ρ : Operand → Value} {x lo hi : Operand} {i l h : Nat} (hx : ρ x = .pointer (some ⟨i, 0, none⟩)) (hl : ρ lo = .int .i64 (.ofNat l)) (hh : ρ hi = .int .i64 (.ofNat h)) (h1 : l ≤ h) (h2 : h ≤ 24) (h3 : l < 24) :
  aSlice Tryz.prog ρ 282 x (some lo) (some hi) none = some (.slice (some ⟨i, l, none⟩) (h - l) (2 * (24 - l))) := by
 unfold aSlice
 simp only [hx, Tryz.underlying282, j5, aBounds, aBound, hh, hl]
 rw [show Nat.ble h 24 = true from Nat.ble_eq_true_of_le h2]
 simp only
 rw [Nat.ble_eq_true_of_le h1]
 simp only
 rw [show Nat.beq 24 l = false from by cases hb : Nat.beq 24 l with | false => rfl | true => have := Nat.eq_of_beq_eq_true hb; omega]
 simp only [Addr.add]
 rw [show Nat.mul l Tryz.t5.size = l from Nat.mul_one l, Nat.zero_add]
 split
 ·rename_i e; rw [e]; rfl
 ·rfl
theorem has_str {μ : Mem} {i o c : Nat} {l : List Nat} (h : Blk μ i 24 282) (hh : Has μ i o (byL l)) : aBytesToString Tryz.prog μ 55 9 (.slice (some ⟨i, o, none⟩) l.length c) = some (.string ⟨(l.map UInt8.ofNat).toArray⟩) := by
 obtain ⟨z, ov, fx, sh, hz⟩ := h
 obtain ⟨n', z', ov', h1, h2, h3⟩ := hh
 rw [hz] at h1
 cases h1
 have hlen : (byL l).length = l.length := by simp [byL]
 rw [hlen] at h2
 unfold aBytesToString
 simp only [Tryz.underlying55, Tryz.underlying9, Tryz.underlying5, hz]
 rw [show Nat.ble (Nat.add o l.length) 24 = true from Nat.ble_eq_true_of_le h2]
 simp only
 rw [cellsFrom_eq l.length o (byL l) hlen h3]
 have : ∀ l : List Nat, bytesOf (byL l) = some (l.map UInt8.ofNat) := by
  intro l
  induction l with
  | nil => rfl
  | cons a l ih => show (match bytesOf (byL l) with | some l => some (UInt8.ofNat (Int.ofNat a).toNat :: l) | none => none) = _; rw [ih]; rfl
 rw [this]
theorem conv_none {ρ : Operand → Value} {d : Option Tmp} {s t ty : TypeId} {y : Operand} {ps : String} {af : Array Edge} {gd : Option (Nat × Bool)} {i o n c : Nat} (h : ρ y = .slice (some ⟨i, o, none⟩) n c) : aPlain Tryz.prog ρ ⟨d, .convert s t y, ty, ps, af, gd⟩ = none := by
 unfold aPlain
 simp only [opsOf, plains, h, plainV]
set_option maxRecDepth 20000 in
set_option maxHeartbeats 4000000 in
theorem fint_small {g x : Nat} {μ : Mem} (hg : 60 ≤ g) (hx : x < 100) : aFun Tryz.prog (aCode Tryz.prog X S0 g) 184 [.int .i64 (.ofNat x), .int .i64 10] μ = some (.string (txt x (if x < 10 then 1 else 2)), μ) := by
 obtain ⟨k, rfl⟩ := Nat.exists_eq_add_of_le' hg
 refine ends_eq ?_
 have e1 : ieq 10 10 = true := rfl
 have e2 : ilt (.ofNat x) 0 = false := rfl
 have e3 : ilt (.ofNat x) 100 = true := (ilt_nat x 100).trans (decide_eq_true hx)
 have hs : ∀ g, 20 ≤ g → aFun Tryz.prog (aCode Tryz.prog X S0 g) 209 [.int .i64 (.ofNat x)] μ = some (.string (txt x (if x < 10 then 1 else 2)), μ) := fun g hg => small_ends hg hx
 obtain ⟨s, hs'⟩ : ∃ s, s = txt x (if x < 10 then 1 else 2) := ⟨_, rfl⟩
 rw [← hs'] at hs ⊢
 refine fun_enter Tryz.func184 rfl rfl (Nat.le_of_ble_eq_true rfl) ?_
 simp only [T.lay, Nat.zero_add, Tryz.ntmps184, Nat.reduceAdd]
 repeat (first | refine code_seq ?_ | ((first | (refine code_region ?_ ?_; (focus rfl)) | (refine code_guards (gs := ?_) ?_ ?_; rotate_left; (focus rfl))); simp only [run1, run2, wanted, go_sem, Nat.reduceLT, Nat.reduceAdd, Nat.reduceEqDiff, reduceIte, reduceCtorEq, e1, e2, e3, gg209, hs, Nat.reduceLeDiff]) | (refine code_cond_true ?_ ?_; (focus (simp only [aev, regAt_set, Nat.reduceEqDiff, reduceIte, e1, e2, e3, gg209, hs, Nat.reduceLeDiff]; done))) | (refine code_cond_false ?_ ?_; (focus (simp only [aev, regAt_set, Nat.reduceEqDiff, reduceIte, e1, e2, e3, gg209, hs, Nat.reduceLeDiff]; done))) | ((first | refine code_skip ?_ | refine code_label ?_ | refine code_exit ?_); try simp only [then_exit, then_normal, blockC, Nat.reduceEqDiff, reduceIte]) | refine code_block ?_)
 refine code_ret ?_
 refine ⟨rfl, _, ?_, rfl, rfl⟩
 simp only [aResults, Tryz.results184, aRes, regAt_set, Nat.reduceEqDiff, reduceIte]
set_option maxRecDepth 20000 in
set_option maxHeartbeats 4000000 in
theorem fint3 {g x : Nat} {μ : Mem} (hg : 120 ≤ g) (hr : Rom μ) (hd : Dl x 3) :
  EndsF (aFun Tryz.prog (aCode Tryz.prog X S0 g) 184 [.int .i64 (.ofNat x), .int .i64 10] μ) fun v μ' => v = .string (txt x 3) ∧ Grow μ μ' := by
 obtain ⟨k, rfl⟩ := Nat.exists_eq_add_of_le' hg
 have hx1 : x < 1000 := hd.1
 have hx2 : 100 ≤ x := hd.2.1
 have e1 : ieq 10 10 = true := rfl
 have e2 : ilt (.ofNat x) 0 = false := rfl
 have e3 : ilt (.ofNat x) 100 = false := (ilt_nat x 100).trans (decide_eq_false (by omega))
 have e4 : qwrap .u64 (.ofNat x) = .ofNat x := qu64 x (by omega)
 obtain ⟨μ1, hμ1⟩ : ∃ m : Mem, m = ⟨μ.obs.set μ.next (.cells 24 282 (Array.replicate 24 (.int .u8 0)) .e 0 0 false false), Nat.add μ.next 1⟩ := ⟨_, rfl⟩
 have g1 : Grow μ μ1 := by rw [hμ1]; exact grow1 μ _
 have b1 : Blk μ1 μ.next 24 282 := by rw [hμ1]; exact fresh_blk (Grow.refl _)
 have hn : ∀ g, 60 ≤ g → aFun Tryz.prog (aCode Tryz.prog X S0 g) 210 [.int .u64 (.ofNat x)] μ1 = some (.int .i64 (.ofNat 3), μ1) := fun g hg => numDigits_eq hg (hr.grow g1) (by omega) hd
 obtain ⟨v2, μ2, h2, b2, n2, k2, h2h⟩ := fb3 (X := X) (g := k + 109) (c := 46) (by omega) b1 hx1
 have e5 : qwrap .i64 (Int.add 1 (.ofNat 3)) = .ofNat 4 := rfl
 have hsl : ∀ (ρ : Operand → Value) (x hi : Operand), ρ x = .pointer (some ⟨μ.next, 0, none⟩) → ρ (.const (.int .i64 1)) = .int .i64 (.ofNat 1) → ρ hi = .int .i64 (.ofNat 4) → aSlice Tryz.prog ρ 282 x (some (.const (.int .i64 1))) (some hi) none = some (.slice (some ⟨μ.next, 1, none⟩) 3 46) := fun ρ x hi h1 h2 h3 => slice_arr h1 h2 h3 (by decide) (by decide) (by decide)
 have hsl : ∀ (r : Rg) (x hi : Operand), aev Tryz.prog r x = .pointer (some ⟨μ.next, 0, none⟩) → aev Tryz.prog r hi = .int .i64 (.ofNat 4) → aSlice Tryz.prog (aev Tryz.prog r) 282 x (some (.const (.int .i64 1))) (some hi) none = some (.slice (some ⟨μ.next, 1, none⟩) 3 46) := fun r x hi h1 h3 => hsl _ _ _ h1 rfl h3
 have hst : aBytesToString Tryz.prog μ2 55 9 (.slice (some ⟨μ.next, 1, none⟩) 3 46) = some (.string (txt x 3)) := by
  have := has_str (c := 46) b2 h2h
  rw [dgs_length] at this
  exact this
 have hcn : ∀ (ρ : Operand → Value) (d : Option Tmp) (s t ty : TypeId) (y : Operand) (ps : String) (af : Array Edge) (gd : Option (Nat × Bool)), ρ y = .slice (some ⟨μ.next, 1, none⟩) 3 46 → aPlain Tryz.prog ρ ⟨d, .convert s t y, ty, ps, af, gd⟩ = none := fun ρ d s t ty y ps af gd h => conv_none h
 have hci : aConvInt Tryz.prog 55 9 (.slice (some ⟨μ.next, 1, none⟩) 3 46) = none := rfl
 have hun : aUnsafe Tryz.prog μ2 55 9 (.slice (some ⟨μ.next, 1, none⟩) 3 46) = none := rfl
 have gf : Grow μ μ2 := ⟨Nat.le_trans g1.1 n2, fun i hi => by rw [k2 i (by omega), g1.2 i hi]⟩
 refine fun_enter Tryz.func184 rfl rfl (Nat.le_of_ble_eq_true rfl) ?_
 simp only [T.lay, Nat.zero_add, Tryz.ntmps184, Nat.reduceAdd]
 repeat (first | refine code_seq ?_ | ((first | (refine code_region ?_ ?_; (focus rfl)) | (refine code_guards (gs := ?_) ?_ ?_; rotate_left; (focus rfl))); simp only [run1, run2, wanted, go_sem, Nat.reduceLT, Nat.reduceAdd, Nat.reduceEqDiff, reduceIte, reduceCtorEq, e1, e2, e3, al212, hμ1.symm, cv2_26, e4, gg210, hn, Nat.reduceLeDiff, e5, hsl, gg211, h2, hci, hun, hcn, hst]) | (refine code_cond_true ?_ ?_; (focus (simp only [aev, regAt_set, Nat.reduceEqDiff, reduceIte, e1, e2, e3, al212, hμ1.symm, cv2_26, e4, gg210, hn, Nat.reduceLeDiff, e5, hsl, gg211, h2, hci, hun, hcn, hst]; done))) | (refine code_cond_false ?_ ?_; (focus (simp only [aev, regAt_set, Nat.reduceEqDiff, reduceIte, e1, e2, e3, al212, hμ1.symm, cv2_26, e4, gg210, hn, Nat.reduceLeDiff, e5, hsl, gg211, h2, hci, hun, hcn, hst]; done))) | ((first | refine code_skip ?_ | refine code_label ?_ | refine code_exit ?_); try simp only [then_exit, then_normal, blockC, Nat.reduceEqDiff, reduceIte]) | refine code_block ?_)
 refine code_ret ?_
 refine ⟨rfl, _, ?_, rfl, gf⟩
 simp only [aResults, Tryz.results184, aRes, regAt_set, Nat.reduceEqDiff, reduceIte]
set_option maxRecDepth 20000 in
set_option maxHeartbeats 4000000 in
theorem fint4 {g x : Nat} {μ : Mem} (hg : 120 ≤ g) (hr : Rom μ) (hd : Dl x 4) :
  EndsF (aFun Tryz.prog (aCode Tryz.prog X S0 g) 184 [.int .i64 (.ofNat x), .int .i64 10] μ) fun v μ' => v = .string (txt x 4) ∧ Grow μ μ' := by
 obtain ⟨k, rfl⟩ := Nat.exists_eq_add_of_le' hg
 have hx1 : x < 10000 := hd.1
 have hx2 : 1000 ≤ x := hd.2.1
 have e1 : ieq 10 10 = true := rfl
 have e2 : ilt (.ofNat x) 0 = false := rfl
 have e3 : ilt (.ofNat x) 100 = false := (ilt_nat x 100).trans (decide_eq_false (by omega))
 have e4 : qwrap .u64 (.ofNat x) = .ofNat x := qu64 x (by omega)
 obtain ⟨μ1, hμ1⟩ : ∃ m : Mem, m = ⟨μ.obs.set μ.next (.cells 24 282 (Array.replicate 24 (.int .u8 0)) .e 0 0 false false), Nat.add μ.next 1⟩ := ⟨_, rfl⟩
 have g1 : Grow μ μ1 := by rw [hμ1]; exact grow1 μ _
 have b1 : Blk μ1 μ.next 24 282 := by rw [hμ1]; exact fresh_blk (Grow.refl _)
 have hn : ∀ g, 60 ≤ g → aFun Tryz.prog (aCode Tryz.prog X S0 g) 210 [.int .u64 (.ofNat x)] μ1 = some (.int .i64 (.ofNat 4), μ1) := fun g hg => numDigits_eq hg (hr.grow g1) (by omega) hd
 obtain ⟨v2, μ2, h2, b2, n2, k2, h2h⟩ := fb4 (X := X) (g := k + 109) (c := 46) (by omega) b1 hx1
 have e5 : qwrap .i64 (Int.add 1 (.ofNat 4)) = .ofNat 5 := rfl
 have hsl : ∀ (ρ : Operand → Value) (x hi : Operand), ρ x = .pointer (some ⟨μ.next, 0, none⟩) → ρ (.const (.int .i64 1)) = .int .i64 (.ofNat 1) → ρ hi = .int .i64 (.ofNat 5) → aSlice Tryz.prog ρ 282 x (some (.const (.int .i64 1))) (some hi) none = some (.slice (some ⟨μ.next, 1, none⟩) 4 46) := fun ρ x hi h1 h2 h3 => slice_arr h1 h2 h3 (by decide) (by decide) (by decide)
 have hsl : ∀ (r : Rg) (x hi : Operand), aev Tryz.prog r x = .pointer (some ⟨μ.next, 0, none⟩) → aev Tryz.prog r hi = .int .i64 (.ofNat 5) → aSlice Tryz.prog (aev Tryz.prog r) 282 x (some (.const (.int .i64 1))) (some hi) none = some (.slice (some ⟨μ.next, 1, none⟩) 4 46) := fun r x hi h1 h3 => hsl _ _ _ h1 rfl h3
 have hst : aBytesToString Tryz.prog μ2 55 9 (.slice (some ⟨μ.next, 1, none⟩) 4 46) = some (.string (txt x 4)) := by
  have := has_str (c := 46) b2 h2h
  rw [dgs_length] at this
  exact this
 have hcn : ∀ (ρ : Operand → Value) (d : Option Tmp) (s t ty : TypeId) (y : Operand) (ps : String) (af : Array Edge) (gd : Option (Nat × Bool)), ρ y = .slice (some ⟨μ.next, 1, none⟩) 4 46 → aPlain Tryz.prog ρ ⟨d, .convert s t y, ty, ps, af, gd⟩ = none := fun ρ d s t ty y ps af gd h => conv_none h
 have hci : aConvInt Tryz.prog 55 9 (.slice (some ⟨μ.next, 1, none⟩) 4 46) = none := rfl
 have hun : aUnsafe Tryz.prog μ2 55 9 (.slice (some ⟨μ.next, 1, none⟩) 4 46) = none := rfl
 have gf : Grow μ μ2 := ⟨Nat.le_trans g1.1 n2, fun i hi => by rw [k2 i (by omega), g1.2 i hi]⟩
 refine fun_enter Tryz.func184 rfl rfl (Nat.le_of_ble_eq_true rfl) ?_
 simp only [T.lay, Nat.zero_add, Tryz.ntmps184, Nat.reduceAdd]
 repeat (first | refine code_seq ?_ | ((first | (refine code_region ?_ ?_; (focus rfl)) | (refine code_guards (gs := ?_) ?_ ?_; rotate_left; (focus rfl))); simp only [run1, run2, wanted, go_sem, Nat.reduceLT, Nat.reduceAdd, Nat.reduceEqDiff, reduceIte, reduceCtorEq, e1, e2, e3, al212, hμ1.symm, cv2_26, e4, gg210, hn, Nat.reduceLeDiff, e5, hsl, gg211, h2, hci, hun, hcn, hst]) | (refine code_cond_true ?_ ?_; (focus (simp only [aev, regAt_set, Nat.reduceEqDiff, reduceIte, e1, e2, e3, al212, hμ1.symm, cv2_26, e4, gg210, hn, Nat.reduceLeDiff, e5, hsl, gg211, h2, hci, hun, hcn, hst]; done))) | (refine code_cond_false ?_ ?_; (focus (simp only [aev, regAt_set, Nat.reduceEqDiff, reduceIte, e1, e2, e3, al212, hμ1.symm, cv2_26, e4, gg210, hn, Nat.reduceLeDiff, e5, hsl, gg211, h2, hci, hun, hcn, hst]; done))) | ((first | refine code_skip ?_ | refine code_label ?_ | refine code_exit ?_); try simp only [then_exit, then_normal, blockC, Nat.reduceEqDiff, reduceIte]) | refine code_block ?_)
 refine code_ret ?_
 refine ⟨rfl, _, ?_, rfl, gf⟩
 simp only [aResults, Tryz.results184, aRes, regAt_set, Nat.reduceEqDiff, reduceIte]
set_option maxRecDepth 20000 in
set_option maxHeartbeats 4000000 in
theorem fint5 {g x : Nat} {μ : Mem} (hg : 120 ≤ g) (hr : Rom μ) (hd : Dl x 5) :
  EndsF (aFun Tryz.prog (aCode Tryz.prog X S0 g) 184 [.int .i64 (.ofNat x), .int .i64 10] μ) fun v μ' => v = .string (txt x 5) ∧ Grow μ μ' := by
 obtain ⟨k, rfl⟩ := Nat.exists_eq_add_of_le' hg
 have hx1 : x < 100000 := hd.1
 have hx2 : 10000 ≤ x := hd.2.1
 have e1 : ieq 10 10 = true := rfl
 have e2 : ilt (.ofNat x) 0 = false := rfl
 have e3 : ilt (.ofNat x) 100 = false := (ilt_nat x 100).trans (decide_eq_false (by omega))
 have e4 : qwrap .u64 (.ofNat x) = .ofNat x := qu64 x (by omega)
 obtain ⟨μ1, hμ1⟩ : ∃ m : Mem, m = ⟨μ.obs.set μ.next (.cells 24 282 (Array.replicate 24 (.int .u8 0)) .e 0 0 false false), Nat.add μ.next 1⟩ := ⟨_, rfl⟩
 have g1 : Grow μ μ1 := by rw [hμ1]; exact grow1 μ _
 have b1 : Blk μ1 μ.next 24 282 := by rw [hμ1]; exact fresh_blk (Grow.refl _)
 have hn : ∀ g, 60 ≤ g → aFun Tryz.prog (aCode Tryz.prog X S0 g) 210 [.int .u64 (.ofNat x)] μ1 = some (.int .i64 (.ofNat 5), μ1) := fun g hg => numDigits_eq hg (hr.grow g1) (by omega) hd
 obtain ⟨v2, μ2, h2, b2, n2, k2, h2h⟩ := fb5 (X := X) (g := k + 109) (c := 46) (by omega) b1 hx1
 have e5 : qwrap .i64 (Int.add 1 (.ofNat 5)) = .ofNat 6 := rfl
 have hsl : ∀ (ρ : Operand → Value) (x hi : Operand), ρ x = .pointer (some ⟨μ.next, 0, none⟩) → ρ (.const (.int .i64 1)) = .int .i64 (.ofNat 1) → ρ hi = .int .i64 (.ofNat 6) → aSlice Tryz.prog ρ 282 x (some (.const (.int .i64 1))) (some hi) none = some (.slice (some ⟨μ.next, 1, none⟩) 5 46) := fun ρ x hi h1 h2 h3 => slice_arr h1 h2 h3 (by decide) (by decide) (by decide)
 have hsl : ∀ (r : Rg) (x hi : Operand), aev Tryz.prog r x = .pointer (some ⟨μ.next, 0, none⟩) → aev Tryz.prog r hi = .int .i64 (.ofNat 6) → aSlice Tryz.prog (aev Tryz.prog r) 282 x (some (.const (.int .i64 1))) (some hi) none = some (.slice (some ⟨μ.next, 1, none⟩) 5 46) := fun r x hi h1 h3 => hsl _ _ _ h1 rfl h3
 have hst : aBytesToString Tryz.prog μ2 55 9 (.slice (some ⟨μ.next, 1, none⟩) 5 46) = some (.string (txt x 5)) := by
  have := has_str (c := 46) b2 h2h
  rw [dgs_length] at this
  exact this
 have hcn : ∀ (ρ : Operand → Value) (d : Option Tmp) (s t ty : TypeId) (y : Operand) (ps : String) (af : Array Edge) (gd : Option (Nat × Bool)), ρ y = .slice (some ⟨μ.next, 1, none⟩) 5 46 → aPlain Tryz.prog ρ ⟨d, .convert s t y, ty, ps, af, gd⟩ = none := fun ρ d s t ty y ps af gd h => conv_none h
 have hci : aConvInt Tryz.prog 55 9 (.slice (some ⟨μ.next, 1, none⟩) 5 46) = none := rfl
 have hun : aUnsafe Tryz.prog μ2 55 9 (.slice (some ⟨μ.next, 1, none⟩) 5 46) = none := rfl
 have gf : Grow μ μ2 := ⟨Nat.le_trans g1.1 n2, fun i hi => by rw [k2 i (by omega), g1.2 i hi]⟩
 refine fun_enter Tryz.func184 rfl rfl (Nat.le_of_ble_eq_true rfl) ?_
 simp only [T.lay, Nat.zero_add, Tryz.ntmps184, Nat.reduceAdd]
 repeat (first | refine code_seq ?_ | ((first | (refine code_region ?_ ?_; (focus rfl)) | (refine code_guards (gs := ?_) ?_ ?_; rotate_left; (focus rfl))); simp only [run1, run2, wanted, go_sem, Nat.reduceLT, Nat.reduceAdd, Nat.reduceEqDiff, reduceIte, reduceCtorEq, e1, e2, e3, al212, hμ1.symm, cv2_26, e4, gg210, hn, Nat.reduceLeDiff, e5, hsl, gg211, h2, hci, hun, hcn, hst]) | (refine code_cond_true ?_ ?_; (focus (simp only [aev, regAt_set, Nat.reduceEqDiff, reduceIte, e1, e2, e3, al212, hμ1.symm, cv2_26, e4, gg210, hn, Nat.reduceLeDiff, e5, hsl, gg211, h2, hci, hun, hcn, hst]; done))) | (refine code_cond_false ?_ ?_; (focus (simp only [aev, regAt_set, Nat.reduceEqDiff, reduceIte, e1, e2, e3, al212, hμ1.symm, cv2_26, e4, gg210, hn, Nat.reduceLeDiff, e5, hsl, gg211, h2, hci, hun, hcn, hst]; done))) | ((first | refine code_skip ?_ | refine code_label ?_ | refine code_exit ?_); try simp only [then_exit, then_normal, blockC, Nat.reduceEqDiff, reduceIte]) | refine code_block ?_)
 refine code_ret ?_
 refine ⟨rfl, _, ?_, rfl, gf⟩
 simp only [aResults, Tryz.results184, aRes, regAt_set, Nat.reduceEqDiff, reduceIte]
set_option maxRecDepth 20000 in
set_option maxHeartbeats 4000000 in
theorem fint6 {g x : Nat} {μ : Mem} (hg : 120 ≤ g) (hr : Rom μ) (hd : Dl x 6) :
  EndsF (aFun Tryz.prog (aCode Tryz.prog X S0 g) 184 [.int .i64 (.ofNat x), .int .i64 10] μ) fun v μ' => v = .string (txt x 6) ∧ Grow μ μ' := by
 obtain ⟨k, rfl⟩ := Nat.exists_eq_add_of_le' hg
 have hx1 : x < 1000000 := hd.1
 have hx2 : 100000 ≤ x := hd.2.1
 have e1 : ieq 10 10 = true := rfl
 have e2 : ilt (.ofNat x) 0 = false := rfl
 have e3 : ilt (.ofNat x) 100 = false := (ilt_nat x 100).trans (decide_eq_false (by omega))
 have e4 : qwrap .u64 (.ofNat x) = .ofNat x := qu64 x (by omega)
 obtain ⟨μ1, hμ1⟩ : ∃ m : Mem, m = ⟨μ.obs.set μ.next (.cells 24 282 (Array.replicate 24 (.int .u8 0)) .e 0 0 false false), Nat.add μ.next 1⟩ := ⟨_, rfl⟩
 have g1 : Grow μ μ1 := by rw [hμ1]; exact grow1 μ _
 have b1 : Blk μ1 μ.next 24 282 := by rw [hμ1]; exact fresh_blk (Grow.refl _)
 have hn : ∀ g, 60 ≤ g → aFun Tryz.prog (aCode Tryz.prog X S0 g) 210 [.int .u64 (.ofNat x)] μ1 = some (.int .i64 (.ofNat 6), μ1) := fun g hg => numDigits_eq hg (hr.grow g1) (by omega) hd
 obtain ⟨v2, μ2, h2, b2, n2, k2, h2h⟩ := fb6 (X := X) (g := k + 109) (c := 46) (by omega) b1 hx1
 have e5 : qwrap .i64 (Int.add 1 (.ofNat 6)) = .ofNat 7 := rfl
 have hsl : ∀ (ρ : Operand → Value) (x hi : Operand), ρ x = .pointer (some ⟨μ.next, 0, none⟩) → ρ (.const (.int .i64 1)) = .int .i64 (.ofNat 1) → ρ hi = .int .i64 (.ofNat 7) → aSlice Tryz.prog ρ 282 x (some (.const (.int .i64 1))) (some hi) none = some (.slice (some ⟨μ.next, 1, none⟩) 6 46) := fun ρ x hi h1 h2 h3 => slice_arr h1 h2 h3 (by decide) (by decide) (by decide)
 have hsl : ∀ (r : Rg) (x hi : Operand), aev Tryz.prog r x = .pointer (some ⟨μ.next, 0, none⟩) → aev Tryz.prog r hi = .int .i64 (.ofNat 7) → aSlice Tryz.prog (aev Tryz.prog r) 282 x (some (.const (.int .i64 1))) (some hi) none = some (.slice (some ⟨μ.next, 1, none⟩) 6 46) := fun r x hi h1 h3 => hsl _ _ _ h1 rfl h3
 have hst : aBytesToString Tryz.prog μ2 55 9 (.slice (some ⟨μ.next, 1, none⟩) 6 46) = some (.string (txt x 6)) := by
  have := has_str (c := 46) b2 h2h
  rw [dgs_length] at this
  exact this
 have hcn : ∀ (ρ : Operand → Value) (d : Option Tmp) (s t ty : TypeId) (y : Operand) (ps : String) (af : Array Edge) (gd : Option (Nat × Bool)), ρ y = .slice (some ⟨μ.next, 1, none⟩) 6 46 → aPlain Tryz.prog ρ ⟨d, .convert s t y, ty, ps, af, gd⟩ = none := fun ρ d s t ty y ps af gd h => conv_none h
 have hci : aConvInt Tryz.prog 55 9 (.slice (some ⟨μ.next, 1, none⟩) 6 46) = none := rfl
 have hun : aUnsafe Tryz.prog μ2 55 9 (.slice (some ⟨μ.next, 1, none⟩) 6 46) = none := rfl
 have gf : Grow μ μ2 := ⟨Nat.le_trans g1.1 n2, fun i hi => by rw [k2 i (by omega), g1.2 i hi]⟩
 refine fun_enter Tryz.func184 rfl rfl (Nat.le_of_ble_eq_true rfl) ?_
 simp only [T.lay, Nat.zero_add, Tryz.ntmps184, Nat.reduceAdd]
 repeat (first | refine code_seq ?_ | ((first | (refine code_region ?_ ?_; (focus rfl)) | (refine code_guards (gs := ?_) ?_ ?_; rotate_left; (focus rfl))); simp only [run1, run2, wanted, go_sem, Nat.reduceLT, Nat.reduceAdd, Nat.reduceEqDiff, reduceIte, reduceCtorEq, e1, e2, e3, al212, hμ1.symm, cv2_26, e4, gg210, hn, Nat.reduceLeDiff, e5, hsl, gg211, h2, hci, hun, hcn, hst]) | (refine code_cond_true ?_ ?_; (focus (simp only [aev, regAt_set, Nat.reduceEqDiff, reduceIte, e1, e2, e3, al212, hμ1.symm, cv2_26, e4, gg210, hn, Nat.reduceLeDiff, e5, hsl, gg211, h2, hci, hun, hcn, hst]; done))) | (refine code_cond_false ?_ ?_; (focus (simp only [aev, regAt_set, Nat.reduceEqDiff, reduceIte, e1, e2, e3, al212, hμ1.symm, cv2_26, e4, gg210, hn, Nat.reduceLeDiff, e5, hsl, gg211, h2, hci, hun, hcn, hst]; done))) | ((first | refine code_skip ?_ | refine code_label ?_ | refine code_exit ?_); try simp only [then_exit, then_normal, blockC, Nat.reduceEqDiff, reduceIte]) | refine code_block ?_)
 refine code_ret ?_
 refine ⟨rfl, _, ?_, rfl, gf⟩
 simp only [aResults, Tryz.results184, aRes, regAt_set, Nat.reduceEqDiff, reduceIte]
def nd (x : Nat) : Nat := if x < 10 then 1 else if x < 100 then 2 else if x < 1000 then 3 else if x < 10000 then 4 else if x < 100000 then 5 else 6
def dec (x : Nat) : ByteArray := txt x (nd x)
theorem fint_ends {g x : Nat} {μ : Mem} (hg : 120 ≤ g) (hr : Rom μ) (hx : x < 1000000) :
  EndsF (aFun Tryz.prog (aCode Tryz.prog X S0 g) 184 [.int .i64 (.ofNat x), .int .i64 10] μ) fun v μ' => v = .string (dec x) ∧ Grow μ μ' := by
 unfold dec nd
 by_cases h2 : x < 100
 ·have := fint_small (X := X) (g := g) (μ := μ) (by omega) h2
  refine ⟨_, _, this, ?_, Grow.refl _⟩
  by_cases h1 : x < 10
  ·rw [if_pos h1, if_pos h1]
  ·rw [if_neg h1, if_neg h1, if_pos h2]
 ·rw [if_neg (by omega), if_neg h2]
  by_cases h3 : x < 1000
  ·rw [if_pos h3]; exact fint3 hg hr ⟨h3, by show 100 ≤ x; omega, by decide⟩
  rw [if_neg h3]
  by_cases h4 : x < 10000
  ·rw [if_pos h4]; exact fint4 hg hr ⟨h4, by show 1000 ≤ x; omega, by decide⟩
  rw [if_neg h4]
  by_cases h5 : x < 100000
  ·rw [if_pos h5]; exact fint5 hg hr ⟨h5, by show 10000 ≤ x; omega, by decide⟩
  rw [if_neg h5]
  exact fint6 hg hr ⟨hx, by show 100000 ≤ x; omega, by decide⟩
set_option maxRecDepth 20000 in
set_option maxHeartbeats 4000000 in
theorem iitoa_ends {g x : Nat} {μ : Mem} (hg : 130 ≤ g) (hr : Rom μ) (hx : x < 1000000) :
  EndsF (aFun Tryz.prog (aCode Tryz.prog X S0 g) 155 [.int .i64 (.ofNat x)] μ) fun v μ' => v = .string (dec x) ∧ Grow μ μ' := by
 obtain ⟨k, rfl⟩ := Nat.exists_eq_add_of_le' hg
 obtain ⟨v, μ', h, rfl, hg⟩ := fint_ends (X := X) (g := k + 127) (by omega) hr hx
 refine fun_enter Tryz.func155 rfl rfl (Nat.le_of_ble_eq_true rfl) ?_
 simp only [T.lay, Nat.zero_add, Tryz.ntmps155, Nat.reduceAdd]
 repeat (first | refine code_seq ?_ | ((first | (refine code_region ?_ ?_; (focus rfl)) | (refine code_guards (gs := ?_) ?_ ?_; rotate_left; (focus rfl))); simp only [run1, run2, wanted, go_sem, Nat.reduceLT, Nat.reduceAdd, Nat.reduceEqDiff, reduceIte, reduceCtorEq, gg184, h]) | (refine code_cond_true ?_ ?_; (focus (simp only [aev, regAt_set, Nat.reduceEqDiff, reduceIte, gg184, h]; done))) | (refine code_cond_false ?_ ?_; (focus (simp only [aev, regAt_set, Nat.reduceEqDiff, reduceIte, gg184, h]; done))) | ((first | refine code_skip ?_ | refine code_label ?_ | refine code_exit ?_); try simp only [then_exit, then_normal, blockC, Nat.reduceEqDiff, reduceIte]) | refine code_block ?_)
 refine code_ret ?_
 refine ⟨rfl, _, ?_, rfl, hg⟩
 simp only [aResults, Tryz.results155, aRes, regAt_set, Nat.reduceEqDiff, reduceIte]
set_option maxRecDepth 20000 in
set_option maxHeartbeats 4000000 in
theorem itoa_ends {g x : Nat} {μ : Mem} (hg : 140 ≤ g) (hr : Rom μ) (hx : x < 1000000) :
  EndsF (aFun Tryz.prog (aCode Tryz.prog X S0 g) 124 [.int .i64 (.ofNat x)] μ) fun v μ' => v = .string (dec x) ∧ Grow μ μ' := by
 obtain ⟨k, rfl⟩ := Nat.exists_eq_add_of_le' hg
 obtain ⟨v, μ', h, rfl, hg⟩ := iitoa_ends (X := X) (g := k + 137) (by omega) hr hx
 refine fun_enter Tryz.func124 rfl rfl (Nat.le_of_ble_eq_true rfl) ?_
 simp only [T.lay, Nat.zero_add, Tryz.ntmps124, Nat.reduceAdd]
 repeat (first | refine code_seq ?_ | ((first | (refine code_region ?_ ?_; (focus rfl)) | (refine code_guards (gs := ?_) ?_ ?_; rotate_left; (focus rfl))); simp only [run1, run2, wanted, go_sem, Nat.reduceLT, Nat.reduceAdd, Nat.reduceEqDiff, reduceIte, reduceCtorEq, gg155, h]) | (refine code_cond_true ?_ ?_; (focus (simp only [aev, regAt_set, Nat.reduceEqDiff, reduceIte, gg155, h]; done))) | (refine code_cond_false ?_ ?_; (focus (simp only [aev, regAt_set, Nat.reduceEqDiff, reduceIte, gg155, h]; done))) | ((first | refine code_skip ?_ | refine code_label ?_ | refine code_exit ?_); try simp only [then_exit, then_normal, blockC, Nat.reduceEqDiff, reduceIte]) | refine code_block ?_)
 refine code_ret ?_
 refine ⟨rfl, _, ?_, rfl, hg⟩
 simp only [aResults, Tryz.results124, aRes, regAt_set, Nat.reduceEqDiff, reduceIte]
end
noncomputable section
variable {X : FuncId → List Value → Mem → Option (Value × Mem)}
def retQM (P : Program) (fn : Func) (Q : Value → Mem → Prop) : Ax → Rg → Mem → Prop
 | .exit _, _, _ => False
 | _, r, μ => ∃ μ2, aMarks μ r.ds = some μ2 ∧ ∃ v, aResults P μ2 r fn = some v ∧ Q v μ2
theorem fun_enterM {P : Program} {ev : Code → Rg → Mem → Option (Ax × Rg × Mem)} {g : FuncId} {args : List Value} {μ : Mem} {fn : Func} {c : Code} {n : Nat} {Q : Value → Mem → Prop} (hf : P.funcs[g]? = some fn) (hb : fn.body = some c) (hn : fn.ntmps = n) (ha : args.length ≤ n)
  (h : EndsC (ev c ⟨n, T.e.lay 0 args, [], none⟩ μ) (retQM P fn Q)) : EndsF (aFun P ev g args μ) Q := by
 obtain ⟨x, r, μ1, h1, h2⟩ := h
 have hle : Nat.ble args.length n = true := Nat.ble_eq_true_of_le ha
 cases x with
 | exit id => exact h2.elim
 | normal =>
   obtain ⟨μ2, hd, v, hv, hq⟩ := h2
   refine ⟨v, μ2, ?_, hq⟩
   unfold aFun
   simp only [hf, hb, hn, hle, h1, hd, hv]
 | ret =>
   obtain ⟨μ2, hd, v, hv, hq⟩ := h2
   refine ⟨v, μ2, ?_, hq⟩
   unfold aFun
   simp only [hf, hb, hn, hle, h1, hd, hv]
theorem round_ends {ev : Code → Rg → Mem → Option (Ax × Rg × Mem)} {l n d : Nat} {ps : Array Nat} {asg body : Code} {tm tm' : T Value} {args : List Value} {μ : Mem} {Q : Mem → Prop}
  (hl : μ.obs.get l = some (.loop .ready none ps asg body n tm d)) (hp : aParams n ps.toList args tm = some tm')
  (h : EndsC (ev asg ⟨n, tm', [], some l⟩ μ) fun a r1 μ1 => a = .normal ∧ μ1.obs.get l = some (.loop .ready none ps asg body n tm d) ∧
   EndsC (ev body r1 ⟨μ1.obs.set l (.loop .busy none ps asg body n tm d), μ1.next⟩) fun x r2 μ3 => x = .normal ∧ r2.ds = [] ∧ μ3.obs.get l = some (.loop .busy none ps asg body n tm d) ∧ Q ⟨μ3.obs.set l (.loop .ready none ps asg body n tm d), μ3.next⟩) :
  ∃ μ', aRound ev l args μ = some (.bool true, μ') ∧ Q μ' := by
 obtain ⟨a, r1, μ1, h1, rfl, h2, x, r2, μ3, h3, rfl, h4, h5, hq⟩ := h
 refine ⟨_, ?_, hq⟩
 unfold aRound
 simp only [hl, hp, h1, h2, aLoopSet, h3, h4, h5]
theorem code_range {P : Program} {S : List (FuncId × LK)} {k g n : Nat} {f : Operand} {ps : Array Nat} {asg body : Code} {fi ca : Array Value} {tm : T Value} {ds : List Nat} {fn : Func} {μ : Mem} {Q : Ax → Rg → Mem → Prop} (hf : aev P ⟨n, tm, ds, none⟩ f = .func (.func g) fi ca) (hfn : P.funcs[g]? = some fn) (hb : fn.body.isSome = true)
  (h : EndsF (aFun P (aCode P X S k) g (fi.toList ++ (.func (.yield (μ.next + 1)) #[] #[] :: ca.toList)) ⟨(μ.obs.set μ.next .deferred).set (μ.next + 1) (.loop .ready none ps asg body n tm μ.next), μ.next + 2⟩) fun v μ2 =>
   μ2.obs.get (μ.next + 1) = some (.loop .ready none ps asg body n tm μ.next) ∧ Q .normal ⟨n, tm, μ.next :: ds, none⟩ ⟨μ2.obs.set (μ.next + 1) (.loop .exhausted none ps asg body n tm μ.next), μ2.next⟩) :
  EndsC (aCode P X S (k + 1) (.rangeFunc f ps asg body) ⟨n, tm, ds, none⟩ μ) Q := by
 obtain ⟨v, μ2, h1, h2, hq⟩ := h
 refine ⟨.normal, _, _, ?_, hq⟩
 obtain ⟨c, hc⟩ : ∃ c, fn.body = some c := Option.isSome_iff_exists.1 hb
 simp only [aCode_succ, aStep, aRangeOn]
 rw [show aev P ⟨n, tm, ds, none⟩ f = _ from hf]
 simp only [hfn, hc, h1, h2, aLoopSet, Nat.add_eq]
set_option maxRecDepth 20000 in
set_option maxHeartbeats 4000000 in
theorem back_one {g l bx i c x : Nat} {μ μ' : Mem} (hg : 40 ≤ g) (hb : cellsAt μ bx 0 = some (.slice (some ⟨i, 0, none⟩) 1 c)) (hi : cellsAt μ i 0 = some (.int .u32 (.ofNat x)))
  (hr : aRound (aCode Tryz.prog X S0 (g - 8)) l [.int .i64 (.ofNat 0), .int .u32 (.ofNat x)] μ = some (.bool true, μ')) :
  ∃ v, aFun Tryz.prog (aCode Tryz.prog X S0 g) 205 [.func (.yield l) #[] #[], .pointer (some ⟨bx, 0, none⟩)] μ = some (v, μ') := by
 obtain ⟨k, rfl⟩ := Nat.exists_eq_add_of_le' hg
 have e : EndsF (aFun Tryz.prog (aCode Tryz.prog X S0 (k + 40)) 205 [.func (.yield l) #[] #[], .pointer (some ⟨bx, 0, none⟩)] μ) fun _ m => m = μ' := by
  have hr : aRound (aCode Tryz.prog X S0 (k + 32)) l [.int .i64 (.ofNat 0), .int .u32 (.ofNat x)] μ = some (.bool true, μ') := hr
  have e1 : qwrap .i64 (Int.sub (.ofNat 1) 1) = .ofNat 0 := rfl
  have e2 : ilt (.ofNat 0) 0 = false := rfl
  have e3 : qwrap .i64 (Int.sub (.ofNat 0) 1) = -1 := rfl
  have e4 : ilt (-1) 0 = true := rfl
  have e5 : (#[] : Array Value).toList = [] := rfl
  have hix : ∀ (ρ : Operand → Value) (a b : Operand), ρ a = .slice (some ⟨i, 0, none⟩) 1 c → ρ b = .int .i64 (.ofNat 0) → aIndexAddr Tryz.prog ρ 34 a b = some (.pointer (some ⟨i, 0, none⟩)) := fun ρ a b h1 h2 => idx32 h1 h2 (by decide)
  refine fun_enter Tryz.func205 rfl rfl (Nat.le_of_ble_eq_true rfl) ?_
  simp only [T.lay, Nat.zero_add, Tryz.ntmps205, Nat.reduceAdd]
  repeat (first | refine code_seq ?_ | ((first | (refine code_region ?_ ?_; (focus rfl)) | (refine code_guards (gs := ?_) ?_ ?_; rotate_left; (focus rfl))); simp only [run1, run2, wanted, go_sem, Nat.reduceLT, Nat.reduceAdd, Nat.reduceEqDiff, reduceIte, reduceCtorEq, ld32, hb, aBuiltin, aLen, Tryz.underlying34, cast_nat, e1, e2, hix, ld95, hi, hr, e3, e4, e5]) | (refine code_cond_true ?_ ?_; (focus (simp only [aev, regAt_set, Nat.reduceEqDiff, reduceIte, ld32, hb, aBuiltin, aLen, Tryz.underlying34, cast_nat, e1, e2, hix, ld95, hi, hr, e3, e4, e5]; done))) | (refine code_cond_false ?_ ?_; (focus (simp only [aev, regAt_set, Nat.reduceEqDiff, reduceIte, ld32, hb, aBuiltin, aLen, Tryz.underlying34, cast_nat, e1, e2, hix, ld95, hi, hr, e3, e4, e5]; done))) | ((first | refine code_skip ?_ | refine code_label ?_ | refine code_exit ?_); try simp only [then_exit, then_normal, blockC, Nat.reduceEqDiff, reduceIte]) | refine code_block ?_ | refine code_loop ?_)
  exact ⟨rfl, _, rfl, rfl⟩
 obtain ⟨v, m, h1, h2⟩ := e
 exact ⟨v, by rw [h1, h2]⟩
theorem code_range_one {k n bx i c x a b : Nat} {f : Operand} {ps : Array Nat} {asg body : Code} {tm : T Value} {ds : List Nat} {μ : Mem} {Q : Ax → Rg → Mem → Prop} (hk : 40 ≤ k) (hf : aev Tryz.prog ⟨n, tm, ds, none⟩ f = .func (.func 205) #[] #[.pointer (some ⟨bx, 0, none⟩)])
  (hbn : bx < μ.next) (hin : i < μ.next) (hb : cellsAt μ bx 0 = some (.slice (some ⟨i, 0, none⟩) 1 c)) (hi : cellsAt μ i 0 = some (.int .u32 (.ofNat x))) (hps : ps = #[a, b]) (ha : a < n) (hbb : b < n)
  (h : ∀ (M : Mem) (R B : Ob), M.next = μ.next + 2 → (∀ j, j < μ.next → M.obs.get j = μ.obs.get j) → M.obs.get μ.next = some .deferred → M.obs.get (μ.next + 1) = some R →
   EndsC (aCode Tryz.prog X S0 (k - 8) asg ⟨n, (tm.set a (.int .i64 (.ofNat 0))).set b (.int .u32 (.ofNat x)), [], some (μ.next + 1)⟩ M) fun a r1 μ1 => a = .normal ∧ μ1.obs.get (μ.next + 1) = some R ∧
    ∀ MB : Mem, MB = ⟨μ1.obs.set (μ.next + 1) B, μ1.next⟩ → EndsC (aCode Tryz.prog X S0 (k - 8) body r1 MB) fun x r2 μ3 => x = .normal ∧ r2.ds = [] ∧ μ3.obs.get (μ.next + 1) = some B ∧
     ∀ ME : Mem, ME.next = μ3.next → (∀ j, j ≠ μ.next + 1 → ME.obs.get j = μ3.obs.get j) → Q .normal ⟨n, tm, μ.next :: ds, none⟩ ME) :
  EndsC (aCode Tryz.prog X S0 (k + 1) (.rangeFunc f ps asg body) ⟨n, tm, ds, none⟩ μ) Q := by
 subst hps
 refine code_range hf Tryz.func205 rfl ?_
 obtain ⟨R, hR⟩ : ∃ R : Ob, R = .loop .ready none #[a, b] asg body n tm μ.next := ⟨_, rfl⟩
 obtain ⟨M, hM⟩ : ∃ M : Mem, M = ⟨(μ.obs.set μ.next .deferred).set (μ.next + 1) R, μ.next + 2⟩ := ⟨_, rfl⟩
 have m1 : ∀ j, j < μ.next → M.obs.get j = μ.obs.get j := fun j hj => by rw [hM]; show T.get _ j = _; rw [T.get_set, if_neg (by omega), T.get_set, if_neg (by omega)]
 have m2 : M.obs.get μ.next = some .deferred := by rw [hM]; show T.get _ _ = _; rw [T.get_set, if_neg (by omega), T.get_set, if_pos rfl]
 have m3 : M.obs.get (μ.next + 1) = some R := by rw [hM]; show T.get _ _ = _; rw [T.get_set, if_pos rfl]
 have hh := h M R (.loop .busy none #[a, b] asg body n tm μ.next) (by rw [hM]) m1 m2 m3
 have hp : aParams n (#[a, b] : Array Nat).toList [.int .i64 (.ofNat 0), .int .u32 (.ofNat x)] tm = some ((tm.set a (.int .i64 (.ofNat 0))).set b (.int .u32 (.ofNat x))) := by
  show aParams n [a, b] _ tm = _
  simp only [aParams]
  rw [show Nat.blt a n = true from by simpa using ha, show Nat.blt b n = true from by simpa using hbb]
 obtain ⟨μ', h1, h2⟩ := round_ends (ev := aCode Tryz.prog X S0 (k - 8)) (l := μ.next + 1) (μ := M) (args := [.int .i64 (.ofNat 0), .int .u32 (.ofNat x)]) (Q := fun μ' => μ'.obs.get (μ.next + 1) = some R ∧ ∀ ME : Mem, ME.next = μ'.next → (∀ j, j ≠ μ.next + 1 → ME.obs.get j = μ'.obs.get j) → Q .normal ⟨n, tm, μ.next :: ds, none⟩ ME) (by rw [m3, hR]) hp (by
  refine hh.mono fun a r1 μ1 h => ?_
  obtain ⟨h1, h2, h3⟩ := h
  refine ⟨h1, by rw [h2, hR], (h3 _ rfl).mono fun x r2 μ3 h => ?_⟩
  obtain ⟨g1, g2, g3, g4⟩ := h
  refine ⟨g1, g2, g3, by show T.get _ _ = _; rw [T.get_set, if_pos rfl, hR], fun ME e1 e2 => g4 ME e1 fun j hj => ?_⟩
  rw [e2 j hj]
  show T.get _ j = _
  rw [T.get_set, if_neg hj])
 have cM : ∀ j p, j < μ.next → cellsAt M j p = cellsAt μ j p := fun j p hj => by unfold cellsAt; rw [m1 j hj]
 obtain ⟨v, h3⟩ := back_one (X := X) hk (by rw [cM bx 0 hbn]; exact hb) (by rw [cM i 0 hin]; exact hi) h1
 refine ⟨v, μ', ?_, by rw [h2.1, hR], h2.2 _ rfl fun j hj => ?_⟩
 ·rw [← hR, ← hM]; exact h3
 ·show T.get _ j = _
  rw [T.get_set, if_neg hj]
end
noncomputable section
variable {X : FuncId → List Value → Mem → Option (Value × Mem)}
set_option maxRecDepth 20000 in
set_option maxHeartbeats 4000000 in
theorem clone0 {g i c : Nat} {μ : Mem} (hg : 20 ≤ g) :
  EndsF (aFun Tryz.prog (aCode Tryz.prog X S0 g) 170 [.slice (some ⟨i, 0, none⟩) 0 c] μ) fun v μ' => Grow μ μ' ∧ ∃ j, v = .slice (some ⟨j, 0, none⟩) 0 0 := by
 obtain ⟨k, rfl⟩ := Nat.exists_eq_add_of_le' hg
 have hap : aAppend Tryz.prog ⟨μ.obs.set μ.next (.cells 0 160 #[] .e 0 0 false false), μ.next + 1⟩ 34 34 (.slice (some ⟨μ.next, 0, none⟩) 0 0) (.slice (some ⟨i, 0, none⟩) 0 c) = some (.slice (some ⟨μ.next, 0, none⟩) 0 0, ⟨μ.obs.set μ.next (.cells 0 160 #[] .e 0 0 false false), μ.next + 1⟩) := by
  unfold aAppend
  simp only [Tryz.underlying34, j95, z95, lenV, srcCells]
  rfl
 refine fun_enter Tryz.func170 rfl rfl (Nat.le_of_ble_eq_true rfl) ?_
 simp only [T.lay, Nat.zero_add, Tryz.ntmps170, Nat.reduceAdd]
 repeat (first | refine code_seq ?_ | ((first | (refine code_region ?_ ?_; (focus rfl)) | (refine code_guards (gs := ?_) ?_ ?_; rotate_left; (focus rfl))); simp only [run1, run2, wanted, go_sem, Nat.reduceLT, Nat.reduceAdd, Nat.reduceEqDiff, reduceIte, reduceCtorEq, bs32z, nil32, aBuiltin, Nat.add_eq, hap]) | (refine code_cond_true ?_ ?_; (focus (simp only [aev, regAt_set, Nat.reduceEqDiff, reduceIte, bs32z, nil32, aBuiltin, Nat.add_eq, hap]; done))) | (refine code_cond_false ?_ ?_; (focus (simp only [aev, regAt_set, Nat.reduceEqDiff, reduceIte, bs32z, nil32, aBuiltin, Nat.add_eq, hap]; done))) | ((first | refine code_skip ?_ | refine code_label ?_ | refine code_exit ?_); try simp only [then_exit, then_normal, blockC, Nat.reduceEqDiff, reduceIte]) | refine code_block ?_)
 refine code_ret ?_
 refine ⟨rfl, .slice (some ⟨μ.next, 0, none⟩) 0 0, ?_, grow1 μ _, μ.next, rfl⟩
 simp only [aResults, Tryz.results170, aRes, regAt_set, Nat.reduceEqDiff, reduceIte]
set_option maxRecDepth 20000 in
set_option maxHeartbeats 4000000 in
theorem trim0 {g i c : Nat} {μ : Mem} (hg : 100 ≤ g) :
  EndsF (aFun Tryz.prog (aCode Tryz.prog X S0 g) 141 [.slice (some ⟨i, 0, none⟩) 0 c] μ) fun v μ' => Grow μ μ' ∧ ∃ j, v = .slice (some ⟨j, 0, none⟩) 0 0 := by
 obtain ⟨k, rfl⟩ := Nat.exists_eq_add_of_le' hg
 obtain ⟨v1, μ1, hcl, hgr, hres⟩ := clone0 (X := X) (g := k + 95) (i := i) (c := c) (μ := μ) (by omega)
 have q00 : ilt 0 (.ofNat 0) = false := rfl
 have hc : CapOk 0 c := by
  rcases Nat.mod_two_eq_zero_or_one c with h | h
  ·exact .inl ⟨h, Nat.zero_le _⟩
  ·exact .inr h
 have hsl : ∀ (ρ : Operand → Value) (a b : Operand), ρ a = .slice (some ⟨i, 0, none⟩) 0 c → ρ b = .int .i64 (.ofNat 0) → aSlice Tryz.prog ρ 34 a none (some b) none = some (.slice (some ⟨i, 0, none⟩) 0 c) := fun ρ a b h1 h2 => slice32 h1 h2 (Nat.le_refl _) hc
 refine fun_enter Tryz.func141 rfl rfl (Nat.le_of_ble_eq_true rfl) ?_
 simp only [T.lay, Nat.zero_add, Tryz.ntmps141, Nat.reduceAdd]
 repeat (first | refine code_seq ?_ | ((first | (refine code_region ?_ ?_; (focus rfl)) | (refine code_guards (gs := ?_) ?_ ?_; rotate_left; (focus rfl))); simp only [run1, run2, wanted, go_sem, Nat.reduceLT, Nat.reduceAdd, Nat.reduceEqDiff, reduceIte, reduceCtorEq, aBuiltin, aLen, Tryz.underlying34, cast_nat, q00, hsl, gg170, hcl]) | (refine code_cond_true ?_ ?_; (focus (simp only [aev, regAt_set, Nat.reduceEqDiff, reduceIte, aBuiltin, aLen, Tryz.underlying34, cast_nat, q00, hsl, gg170, hcl]; done))) | (refine code_cond_false ?_ ?_; (focus (simp only [aev, regAt_set, Nat.reduceEqDiff, reduceIte, aBuiltin, aLen, Tryz.underlying34, cast_nat, q00, hsl, gg170, hcl]; done))) | ((first | refine code_skip ?_ | refine code_label ?_ | refine code_exit ?_); try simp only [then_exit, then_normal, blockC, Nat.reduceEqDiff, reduceIte]) | refine code_block ?_ | refine code_loop ?_)
 refine code_ret ?_
 refine ⟨rfl, _, ?_, hgr, hres⟩
 simp only [aResults, Tryz.results141, aRes, regAt_set, Nat.reduceEqDiff, reduceIte]
set_option maxRecDepth 20000 in
set_option maxHeartbeats 4000000 in
theorem big_eq {g n c : Nat} {a : Option Addr} {μ : Mem} (hg : 10 ≤ g) (hn : n ≤ 64) : aFun Tryz.prog (aCode Tryz.prog X S0 g) 180 [.slice a n c] μ = some (.bool false, μ) := by
 obtain ⟨k, rfl⟩ := Nat.exists_eq_add_of_le' hg
 refine ends_eq ?_
 have e1 : ilt 64 (.ofNat n) = false := (ilt_nat 64 n).trans (decide_eq_false (by omega))
 refine fun_enter Tryz.func180 rfl rfl (Nat.le_of_ble_eq_true rfl) ?_
 simp only [T.lay, Nat.zero_add, Tryz.ntmps180, Nat.reduceAdd]
 repeat (first | refine code_seq ?_ | ((first | (refine code_region ?_ ?_; (focus rfl)) | (refine code_guards (gs := ?_) ?_ ?_; rotate_left; (focus rfl))); simp only [run1, run2, wanted, go_sem, Nat.reduceLT, Nat.reduceAdd, Nat.reduceEqDiff, reduceIte, reduceCtorEq, aBuiltin, aLen, Tryz.underlying34, cast_nat, e1]) | (refine code_cond_true ?_ ?_; (focus (simp only [aev, regAt_set, Nat.reduceEqDiff, reduceIte, aBuiltin, aLen, Tryz.underlying34, cast_nat, e1]; done))) | (refine code_cond_false ?_ ?_; (focus (simp only [aev, regAt_set, Nat.reduceEqDiff, reduceIte, aBuiltin, aLen, Tryz.underlying34, cast_nat, e1]; done))) | ((first | refine code_skip ?_ | refine code_label ?_ | refine code_exit ?_); try simp only [then_exit, then_normal, blockC, Nat.reduceEqDiff, reduceIte]) | refine code_block ?_)
 refine code_ret ?_
 refine ⟨rfl, _, ?_, rfl, rfl⟩
 simp only [aResults, Tryz.results180, aRes, regAt_set, Nat.reduceEqDiff, reduceIte]
theorem dec0 : (⟨List.toArray [48]⟩ : ByteArray) = dec 0 := by decide +kernel
theorem z32 : aZeroOf Tryz.prog 34 = some nilS := by unfold aZeroOf; rw [j32]; rfl
theorem z9 : aZeroOf Tryz.prog 9 = some (.string ⟨#[]⟩) := by unfold aZeroOf; rw [j9]; rfl
theorem al32 : aAlloc Tryz.prog 34 = some (.cells 1 34 #[nilS] .e 0 0 false false, fun id => .pointer (some ⟨id, 0, none⟩)) := by unfold aAlloc; rw [z32]; rfl
theorem al9 : aAlloc Tryz.prog 9 = some (.cells 1 9 #[.string ⟨#[]⟩] .e 0 0 false false, fun id => .pointer (some ⟨id, 0, none⟩)) := by unfold aAlloc; rw [z9]; rfl
set_option maxRecDepth 20000 in
set_option maxHeartbeats 4000000 in
theorem ltext_zero {g : Nat} {l : Value} {μ : Mem} (hg : 200 ≤ g) (h : Lim μ l 0) :
  EndsF (aFun Tryz.prog (aCode Tryz.prog X S0 g) 154 [l] μ) fun v μ' => v = .string (dec 0) ∧ Grow μ μ' := by
 obtain ⟨k, rfl⟩ := Nat.exists_eq_add_of_le' hg
 obtain ⟨i, c, rfl⟩ : ∃ i c, l = .slice (some ⟨i, 0, none⟩) 0 c := by
  rcases h.2 with ⟨_, i, c, e, _⟩ | ⟨h0, _⟩
  ·exact ⟨i, c, e⟩
  ·exact absurd rfl h0
 obtain ⟨v1, μ1, h1, g1, j, rfl⟩ := trim0 (X := X) (g := k + 197) (i := i) (c := c) (μ := μ) (by omega)
 have hb : ∀ g, 10 ≤ g → aFun Tryz.prog (aCode Tryz.prog X S0 g) 180 [.slice (some ⟨j, 0, none⟩) 0 0] μ1 = some (.bool false, μ1) := fun g hg => big_eq hg (by decide)
 have e1 : ilt 0 (.ofNat 0) = false := rfl
 have e2 : ieq (.ofNat 0) 0 = true := rfl
 have hc : cellsAt ⟨μ1.obs.set μ1.next (.cells 1 34 #[nilS] .e 0 0 false false), Nat.add μ1.next 1⟩ μ1.next 0 = some (.slice none 0 0) := by
  rw [cellsAt_of (n := 1) (z := #[nilS]) (ov := .e) (by show obCells (T.get _ _) = _; rw [T.get_set, if_pos rfl]; rfl) (by decide)]
  rfl
 refine fun_enter Tryz.func154 rfl rfl (Nat.le_of_ble_eq_true rfl) ?_
 simp only [T.lay, Nat.zero_add, Tryz.ntmps154, Nat.reduceAdd]
 repeat (first | refine code_seq ?_ | ((first | (refine code_region ?_ ?_; (focus rfl)) | (refine code_guards (gs := ?_) ?_ ?_; rotate_left; (focus rfl))); simp only [run1, run2, wanted, go_sem, Nat.reduceLT, Nat.reduceAdd, Nat.reduceEqDiff, reduceIte, reduceCtorEq, gg141, h1, gg180, hb, Nat.reduceLeDiff, al32, aBuiltin, aLen, Tryz.underlying34, cast_nat, e1, ld32, hc, e2]) | (refine code_cond_true ?_ ?_; (focus (simp only [aev, regAt_set, Nat.reduceEqDiff, reduceIte, gg141, h1, gg180, hb, Nat.reduceLeDiff, al32, aBuiltin, aLen, Tryz.underlying34, cast_nat, e1, ld32, hc, e2]; done))) | (refine code_cond_false ?_ ?_; (focus (simp only [aev, regAt_set, Nat.reduceEqDiff, reduceIte, gg141, h1, gg180, hb, Nat.reduceLeDiff, al32, aBuiltin, aLen, Tryz.underlying34, cast_nat, e1, ld32, hc, e2]; done))) | ((first | refine code_skip ?_ | refine code_label ?_ | refine code_exit ?_); try simp only [then_exit, then_normal, blockC, Nat.reduceEqDiff, reduceIte]) | refine code_block ?_ | refine code_loop ?_)
 refine code_ret ?_
 refine ⟨rfl, _, ?_, congrArg Value.string dec0, g1.trans (grow1 μ1 _)⟩
 simp only [aResults, Tryz.results154, aRes, regAt_set, Nat.reduceEqDiff, reduceIte]
end
noncomputable section
variable {X : FuncId → List Value → Mem → Option (Value × Mem)}
theorem new_cell {μ : Mem} {t n : Nat} {v : Value} : cellsAt ⟨μ.obs.set μ.next (.cells 1 t #[v] .e 0 0 false false), n⟩ μ.next 0 = some v := by
 rw [cellsAt_of (n := 1) (z := #[v]) (ov := .e) (by show obCells (T.get _ _) = _; rw [T.get_set, if_pos rfl]; rfl) (by decide)]
 rfl
theorem gcell {μ μ' : Mem} (h : Grow μ μ') {i p : Nat} (hi : i < μ.next) : cellsAt μ' i p = cellsAt μ i p := by unfold cellsAt; rw [h.2 i hi]
theorem bs32_1 (ρ : Operand → Value) (x : Operand) (hv : one (ρ x) = true) : aBuildSlice Tryz.prog ρ 34 1 #[(0, x)] = some (.cells 1 160 #[ρ x] .e 0 0 false false, fun id => .slice (some ⟨id, 0, none⟩) 1 2) := buildSlice_if Tryz.underlying34 j95 rfl z95 rfl ρ x hv
theorem bx32 (v : Value) (h : one v = true) : aBox 34 v = some (.cells 1 34 #[v] .e 0 0 false false, fun id => .pointer (some ⟨id, 0, none⟩)) := box_one 34 h
theorem backfn {g i n c : Nat} {μ : Mem} (hg : 10 ≤ g) : aFun Tryz.prog (aCode Tryz.prog X S0 g) 182 [.slice (some ⟨i, 0, none⟩) n c] μ =
  some (.func (.func 205) #[] #[.pointer (some ⟨μ.next, 0, none⟩)], ⟨μ.obs.set μ.next (.cells 1 34 #[.slice (some ⟨i, 0, none⟩) n c] .e 0 0 false false), μ.next + 1⟩) := by
 obtain ⟨k, rfl⟩ := Nat.exists_eq_add_of_le' hg
 refine ends_eq ?_
 have hb : aBox 34 (.slice (some ⟨i, 0, none⟩) n c) = some (.cells 1 34 #[.slice (some ⟨i, 0, none⟩) n c] .e 0 0 false false, fun id => .pointer (some ⟨id, 0, none⟩)) := bx32 _ rfl
 refine fun_enter Tryz.func182 rfl rfl (Nat.le_of_ble_eq_true rfl) ?_
 simp only [T.lay, Nat.zero_add, Tryz.ntmps182, Nat.reduceAdd]
 repeat (first | refine code_seq ?_ | ((first | (refine code_region ?_ ?_; (focus rfl)) | (refine code_guards (gs := ?_) ?_ ?_; rotate_left; (focus rfl))); simp only [run1, run2, wanted, go_sem, Nat.reduceLT, Nat.reduceAdd, Nat.reduceEqDiff, reduceIte, reduceCtorEq, hb, aMakeFunc, Nat.add_eq]) | (refine code_cond_true ?_ ?_; (focus (simp only [aev, regAt_set, Nat.reduceEqDiff, reduceIte, hb, aMakeFunc, Nat.add_eq]; done))) | (refine code_cond_false ?_ ?_; (focus (simp only [aev, regAt_set, Nat.reduceEqDiff, reduceIte, hb, aMakeFunc, Nat.add_eq]; done))) | ((first | refine code_skip ?_ | refine code_label ?_ | refine code_exit ?_); try simp only [then_exit, then_normal, blockC, Nat.reduceEqDiff, reduceIte]) | refine code_block ?_)
 refine code_ret ?_
 refine ⟨rfl, _, ?_, rfl, rfl⟩
 simp only [aResults, Tryz.results182, aRes, regAt_set, Nat.reduceEqDiff, reduceIte]
theorem aStr_empty (s : ByteArray) (h : s.data.toList.length < 1000) : aStr .add ⟨#[]⟩ s = some (.string s) := by
 obtain ⟨n, hn⟩ : ∃ n, n = s.data.toList.length := ⟨_, rfl⟩
 have e : Nat.blt (Nat.add 0 n) 4294967296 = true := by
  show Nat.ble (0 + n + 1) 4294967296 = true
  exact Nat.ble_eq_true_of_le (by omega)
 rw [hn] at e
 show (match Nat.blt (Nat.add 0 s.data.toList.length) 4294967296 with | true => some (Value.string ⟨([] ++ s.data.toList).toArray⟩) | false => none) = _
 rw [e]
 simp
theorem txt_len (x n : Nat) : (txt x n).data.toList.length = n := by simp [txt, dgs_length]
theorem nd_le (x : Nat) : nd x ≤ 6 := by unfold nd; split <;> (try split) <;> (try split) <;> (try split) <;> (try split) <;> decide
set_option maxRecDepth 20000 in
set_option maxHeartbeats 8000000 in
theorem ltext_one {g x : Nat} {l : Value} {μ : Mem} (hg : 400 ≤ g) (hr : Rom μ) (hx : x < 1000000) (h0 : x ≠ 0) (h : Lim μ l x) :
  EndsF (aFun Tryz.prog (aCode Tryz.prog X S0 g) 154 [l] μ) fun v μ' => v = .string (dec x) ∧ Grow μ μ' := by
 obtain ⟨k, rfl⟩ := Nat.exists_eq_add_of_le' hg
 obtain ⟨i, c, rfl, hc, hin, hs⟩ : ∃ i c, l = .slice (some ⟨i, 0, none⟩) 1 c ∧ ((c % 2 = 0 ∧ 1 ≤ c / 2) ∨ c % 2 = 1) ∧ i < μ.next ∧ Src μ i [.int .u32 (.ofNat x)] := by
  rcases h.2 with ⟨h1, _⟩ | ⟨_, i, c, e⟩
  ·exact absurd h1 h0
  ·exact ⟨i, c, e⟩
 obtain ⟨v1, μ1, t1, g1, l1⟩ := trim_ends (X := X) (g := k + 397) (n := 1) (c := c) (l := [x]) (by omega) hs hin h.1 hc (.inr (.inl ⟨rfl, rfl⟩))
 obtain ⟨i1, c1, rfl, hc1, hin1, hs1⟩ : ∃ i c, v1 = .slice (some ⟨i, 0, none⟩) 1 c ∧ ((c % 2 = 0 ∧ 1 ≤ c / 2) ∨ c % 2 = 1) ∧ i < μ1.next ∧ Src μ1 i [.int .u32 (.ofNat x)] := by
  rcases l1.2 with ⟨h1, _⟩ | ⟨_, i, c, e⟩
  ·exact absurd h1 h0
  ·exact ⟨i, c, e⟩
 have hb : ∀ g, 10 ≤ g → aFun Tryz.prog (aCode Tryz.prog X S0 g) 180 [.slice (some ⟨i1, 0, none⟩) 1 c1] μ1 = some (.bool false, μ1) := fun g hg => big_eq hg (by decide)
 obtain ⟨μ2, h2⟩ : ∃ m : Mem, m = ⟨μ1.obs.set μ1.next (.cells 1 34 #[nilS] .e 0 0 false false), μ1.next + 1⟩ := ⟨_, rfl⟩
 have g2 : Grow μ1 μ2 := by rw [h2]; exact grow1 μ1 _
 have n2 : μ2.next = μ1.next + 1 := by rw [h2]
 have pb2 : Blk μ2 μ1.next 1 34 := by rw [h2]; exact fresh_blk (Grow.refl _)
 obtain ⟨v3, μ3, t3, g3, rfl, n3, s3⟩ := short_ends (X := X) (g := k + 389) (c := c1) (μ := μ2) (by omega) (hs1.keep (g2.2 i1 hin1)) (Nat.lt_of_lt_of_le hin1 g2.1) (by omega)
 have pc3 : cellsAt μ3 μ1.next 0 = some (.slice none 0 0) := by rw [gcell g3 (by omega), h2]; exact new_cell
 obtain ⟨μ4, h4⟩ : ∃ m : Mem, m = ⟨μ3.obs.set μ3.next (.cells 1 160 #[.int .u32 (.ofNat x)] .e 0 0 false false), μ3.next + 1⟩ := ⟨_, rfl⟩
 have g4 : Grow μ3 μ4 := by rw [h4]; exact grow1 μ3 _
 have n4 : μ4.next = μ3.next + 1 := by rw [h4]
 obtain ⟨v5, μ5, a5, q5, n5, w5, k5⟩ := append_one (P := Tryz.prog) (st := 34) (e := 160) (v := .slice none 0 0) (xs := []) (x := .int .u32 (.ofNat x)) (μ := μ4) (q := μ3.next) Tryz.underlying34 j95 rfl rfl z95 rfl (.inl ⟨rfl, rfl⟩) (by rw [h4]; show T.get _ _ = _; rw [T.get_set, if_pos rfl]) (by decide) rfl
 have g5 : Grow μ4 μ5 := ⟨by omega, fun i hi => k5 i (by omega) (by rintro ⟨a, b, e⟩; cases e)⟩
 obtain ⟨i5, c5, rfl, hi5, hx5⟩ : ∃ i c, v5 = .slice (some ⟨i, 0, none⟩) 1 c ∧ i < μ5.next ∧ cellsAt μ5 i 0 = some (.int .u32 (.ofNat x)) := by
  rcases q5 with ⟨_, e⟩ | ⟨i, m, z, ov, fx, sh, c, e1, e2, e3, e4, e5⟩
  ·cases e
  ·obtain ⟨a, b, e6⟩ := w5
   rw [e1] at e6
   cases e6
   exact ⟨_, c, e1, by omega, by
    rw [cellsAt_of (n := m) (z := z) (ov := ov) (by rw [e2]; rfl) (Nat.lt_of_lt_of_le (Nat.zero_lt_one) e3)]
    exact congrArg some (e4 0 (by simp))⟩
 have pb5 : Blk μ5 μ1.next 1 34 := pb2.of_get (by rw [g5.2 _ (by omega), g4.2 _ (by omega), g3.2 _ (by omega)])
 have i5n : i5 ≠ μ1.next := by
  rcases w5 with ⟨a, b, e⟩
  cases e
  omega
 obtain ⟨μ6, h6⟩ : ∃ m : Mem, m = putL μ5 μ1.next 0 [.slice (some ⟨i5, 0, none⟩) 1 c5] := ⟨_, rfl⟩
 have st6 := store_put (P := Tryz.prog) (t := 34) (v := .slice (some ⟨i5, 0, none⟩) 1 c5) j32 rfl rfl pb5 (Nat.lt_succ_self 0)
 rw [← h6] at st6
 have n6 : μ6.next = μ5.next := by rw [h6, putL_next]
 have k6 : ∀ j, j ≠ μ1.next → μ6.obs.get j = μ5.obs.get j := fun j hj => by rw [h6, putL_get _ _ _ _ hj]
 have pc6 : cellsAt μ6 μ1.next 0 = some (.slice (some ⟨i5, 0, none⟩) 1 c5) := by rw [h6, cells_put pb5 (by simp), dif_pos ⟨rfl, Nat.le_refl _, by simp⟩]; rfl
 have s6 : Src μ6 μ2.next [.int .u32 0] := s3.keep (by rw [k6 _ (by omega), g5.2 _ (by omega), g4.2 _ (by omega)])
 have x6 : cellsAt μ6 i5 0 = some (.int .u32 (.ofNat x)) := by rw [← hx5]; unfold cellsAt; rw [k6 _ i5n]
 obtain ⟨v7, μ7, t7, g7, l7⟩ := trim_ends (X := X) (g := k + 388) (n := 1) (c := 2) (l := [0]) (x := 0) (μ := μ6) (i := μ2.next) (by omega) s6 (by omega) (by decide) (.inl ⟨rfl, by decide⟩) (.inr (.inl ⟨rfl, rfl⟩))
 obtain ⟨i7, c7, rfl⟩ : ∃ i c, v7 = .slice (some ⟨i, 0, none⟩) 0 c := by
  rcases l7.2 with ⟨_, i, c, e, _⟩ | ⟨h0, _⟩
  ·exact ⟨i, c, e⟩
  ·exact absurd rfl h0
 have pc7 : cellsAt μ7 μ1.next 0 = some (.slice (some ⟨i5, 0, none⟩) 1 c5) := by rw [gcell g7 (by omega)]; exact pc6
 have x7 : cellsAt μ7 i5 0 = some (.int .u32 (.ofNat x)) := by rw [gcell g7 (by omega)]; exact x6
 have n7 : μ6.next ≤ μ7.next := g7.1
 obtain ⟨μ8, h8⟩ : ∃ m : Mem, m = ⟨μ7.obs.set μ7.next (.cells 1 9 #[.string ⟨#[]⟩] .e 0 0 false false), μ7.next + 1⟩ := ⟨_, rfl⟩
 have n8 : μ8.next = μ7.next + 1 := by rw [h8]
 have g8 : Grow μ7 μ8 := by rw [h8]; exact grow1 μ7 _
 have ob8 : Blk μ8 μ7.next 1 9 := by rw [h8]; exact fresh_blk (Grow.refl _)
 have st9 := store_put (P := Tryz.prog) (t := 9) (v := .string ⟨#[]⟩) j9 rfl rfl ob8 (Nat.lt_succ_self 0)
 obtain ⟨μ9, h9⟩ : ∃ m : Mem, m = putL μ8 μ7.next 0 [.string ⟨#[]⟩] := ⟨_, rfl⟩
 rw [← h9] at st9
 have n9 : μ9.next = μ7.next + 1 := by rw [h9, putL_next, n8]
 have g9 : Grow μ7 μ9 := by rw [h9]; exact g8.put_new (Nat.le_refl _)
 have oc9 : cellsAt μ9 μ7.next 0 = some (.string ⟨#[]⟩) := by rw [h9, cells_put ob8 (by simp), dif_pos ⟨rfl, Nat.le_refl _, by simp⟩]; rfl
 have ob9 : Blk μ9 μ7.next 1 9 := by rw [h9]; exact Blk.put (i := μ7.next) _ _ ob8
 have pc9 : cellsAt μ9 μ1.next 0 = some (.slice (some ⟨i5, 0, none⟩) 1 c5) := by rw [gcell g9 (by omega)]; exact pc7
 have x9 : cellsAt μ9 i5 0 = some (.int .u32 (.ofNat x)) := by rw [gcell g9 (by omega)]; exact x7
 have hbk : ∀ g, 10 ≤ g → aFun Tryz.prog (aCode Tryz.prog X S0 g) 182 [.slice (some ⟨i5, 0, none⟩) 1 c5] μ9 = some (.func (.func 205) #[] #[.pointer (some ⟨μ9.next, 0, none⟩)], ⟨μ9.obs.set μ9.next (.cells 1 34 #[.slice (some ⟨i5, 0, none⟩) 1 c5] .e 0 0 false false), μ9.next + 1⟩) := fun g hg => backfn hg
 obtain ⟨μ10, h10⟩ : ∃ m : Mem, m = ⟨μ9.obs.set μ9.next (.cells 1 34 #[.slice (some ⟨i5, 0, none⟩) 1 c5] .e 0 0 false false), μ9.next + 1⟩ := ⟨_, rfl⟩
 have n10 : μ10.next = μ9.next + 1 := by rw [h10]
 have g10 : Grow μ9 μ10 := by rw [h10]; exact grow1 μ9 _
 have bx10 : cellsAt μ10 μ9.next 0 = some (.slice (some ⟨i5, 0, none⟩) 1 c5) := by rw [h10]; exact new_cell
 rw [← h10] at hbk
 have g15 : Grow μ1 μ5 := g2.trans (g3.trans (g4.trans g5))
 have g16 : Grow μ1 μ6 := by rw [h6]; exact g15.put_new (Nat.le_refl _)
 have gA : Grow μ μ10 := g1.trans (g16.trans (g7.trans (g9.trans g10)))
 have pc10 : cellsAt μ10 μ1.next 0 = some (.slice (some ⟨i5, 0, none⟩) 1 c5) := by rw [gcell g10 (by omega)]; exact pc9
 have x10 : cellsAt μ10 i5 0 = some (.int .u32 (.ofNat x)) := by rw [gcell g10 (by omega)]; exact x9
 have oc10 : cellsAt μ10 μ7.next 0 = some (.string ⟨#[]⟩) := by rw [gcell g10 (by omega)]; exact oc9
 have ob10 : Blk μ10 μ7.next 1 9 := ob9.of_get (g10.2 _ (by omega))
 have e1 : ilt 0 (.ofNat 1) = true := rfl
 have e2 : ilt 0 (.ofNat 0) = false := rfl
 have e3 : ieq (.ofNat 1) 0 = false := rfl
 have q1 : μ1.next + 1 = Nat.add μ1.next 1 := rfl
 refine fun_enterM Tryz.func154 rfl rfl (Nat.le_of_ble_eq_true rfl) ?_
 simp only [T.lay, Nat.zero_add, Tryz.ntmps154, Nat.reduceAdd]
 repeat (first | refine code_seq ?_ | ((first | (refine code_region ?_ ?_; (focus rfl)) | (refine code_guards (gs := ?_) ?_ ?_; rotate_left; (focus rfl))); simp only [run1, run2, wanted, go_sem, Nat.reduceLT, Nat.reduceAdd, Nat.reduceEqDiff, reduceIte, reduceCtorEq, gg141, t1, gg180, hb, Nat.reduceLeDiff, al32, Nat.add_eq, h2.symm, aBuiltin, aLen, Tryz.underlying34, cast_nat, e1, gg181, t3, ld32, pc3, bs32_1, one, h4.symm, a5, st6, t7, e2, pc7, e3, al9, h8.symm, st9, pc9, gg182, hbk]) | (refine code_cond_true ?_ ?_; (focus (simp only [aev, regAt_set, Nat.reduceEqDiff, reduceIte, gg141, t1, gg180, hb, Nat.reduceLeDiff, al32, Nat.add_eq, h2.symm, aBuiltin, aLen, Tryz.underlying34, cast_nat, e1, gg181, t3, ld32, pc3, bs32_1, one, h4.symm, a5, st6, t7, e2, pc7, e3, al9, h8.symm, st9, pc9, gg182, hbk]; done))) | (refine code_cond_false ?_ ?_; (focus (simp only [aev, regAt_set, Nat.reduceEqDiff, reduceIte, gg141, t1, gg180, hb, Nat.reduceLeDiff, al32, Nat.add_eq, h2.symm, aBuiltin, aLen, Tryz.underlying34, cast_nat, e1, gg181, t3, ld32, pc3, bs32_1, one, h4.symm, a5, st6, t7, e2, pc7, e3, al9, h8.symm, st9, pc9, gg182, hbk]; done))) | ((first | refine code_skip ?_ | refine code_label ?_ | refine code_exit ?_); try simp only [then_exit, then_normal, blockC, Nat.reduceEqDiff, reduceIte]) | refine code_block ?_ | refine code_loop ?_)
 refine code_range_one (k := k + 389) (bx := μ9.next) (i := i5) (c := c5) (x := x) (by omega) ?_ (by omega) (by omega) bx10 x10 rfl (by decide) (by decide) ?_
 ·simp only [aev, regAt_set, Nat.reduceEqDiff, reduceIte]
 intro M R B hMn hMk hMd hMl
 repeat (first | refine code_seq ?_ | ((first | (refine code_region ?_ ?_; (focus rfl)) | (refine code_guards (gs := ?_) ?_ ?_; rotate_left; (focus rfl))); simp only [run1, run2, wanted, go_sem, Nat.reduceLT, Nat.reduceAdd, Nat.reduceEqDiff, reduceIte, reduceCtorEq]) | (refine code_cond_true ?_ ?_; (focus (simp only [aev, regAt_set, Nat.reduceEqDiff, reduceIte]; done))) | (refine code_cond_false ?_ ?_; (focus (simp only [aev, regAt_set, Nat.reduceEqDiff, reduceIte]; done))) | ((first | refine code_skip ?_ | refine code_label ?_ | refine code_exit ?_); try simp only [then_exit, then_normal, blockC, Nat.reduceEqDiff, reduceIte]) | refine code_block ?_)
 refine ⟨trivial, hMl, fun MB hMB => ?_⟩
 have gB : Grow μ10 MB := ⟨by rw [hMB]; show μ10.next ≤ M.next; omega, fun j hj => by rw [hMB]; show T.get _ j = _; rw [T.get_set, if_neg (by omega)]; exact hMk j hj⟩
 have dB : MB.obs.get μ10.next = some .deferred := by rw [hMB]; show T.get _ _ = _; rw [T.get_set, if_neg (by omega)]; exact hMd
 have lB : MB.obs.get (μ10.next + 1) = some B := by rw [hMB]; show T.get _ _ = _; rw [T.get_set, if_pos rfl]
 have nB : MB.next = μ10.next + 2 := by rw [hMB]; exact hMn
 obtain ⟨v, μi, ti, rfl, gi⟩ := itoa_ends (X := X) (g := k + 378) (x := x) (μ := MB) (by omega) (hr.grow (gA.trans gB)) hx
 have gC : Grow μ10 μi := gB.trans gi
 have pci : cellsAt μi μ1.next 0 = some (.slice (some ⟨i5, 0, none⟩) 1 c5) := by rw [gcell gC (by omega)]; exact pc10
 have oci : cellsAt μi μ7.next 0 = some (.string ⟨#[]⟩) := by rw [gcell gC (by omega)]; exact oc10
 have obi : Blk μi μ7.next 1 9 := ob10.of_get (gC.2 _ (by omega))
 have sti := store_put (P := Tryz.prog) (t := 9) (v := .string (dec x)) j9 rfl rfl obi (Nat.lt_succ_self 0)
 obtain ⟨μj, hj⟩ : ∃ m : Mem, m = putL μi μ7.next 0 [.string (dec x)] := ⟨_, rfl⟩
 rw [← hj] at sti
 have ocj : cellsAt μj μ7.next 0 = some (.string (dec x)) := by rw [hj, cells_put obi (by simp), dif_pos ⟨rfl, Nat.le_refl _, by simp⟩]; rfl
 have kj : ∀ j, j ≠ μ7.next → μj.obs.get j = μi.obs.get j := fun j h => by rw [hj, putL_get _ _ _ _ h]
 have nj : μj.next = μi.next := by rw [hj, putL_next]
 have f1 : qwrap .i64 (.ofNat x) = .ofNat x := q64 x (by omega)
 have f2 : qwrap .i64 (Int.sub (.ofNat 1) 1) = .ofNat 0 := rfl
 have f3 : ilt (.ofNat 0) (.ofNat 0) = false := rfl
 have f4 := aStr_empty (dec x) (by unfold dec; rw [txt_len]; have := nd_le x; omega)
 have f5 : k + 389 - 8 = k + 381 := rfl
 rw [f5]
 repeat (first | refine code_seq ?_ | ((first | (refine code_region ?_ ?_; (focus rfl)) | (refine code_guards (gs := ?_) ?_ ?_; rotate_left; (focus rfl))); simp only [run1, run2, wanted, go_sem, Nat.reduceLT, Nat.reduceAdd, Nat.reduceEqDiff, reduceIte, reduceCtorEq, cv95_3, f1, gg124, ti, ld32, pci, aBuiltin, aLen, Tryz.underlying34, cast_nat, f2, f3, ld9, oci, f4, sti]) | (refine code_cond_true ?_ ?_; (focus (simp only [aev, regAt_set, Nat.reduceEqDiff, reduceIte, cv95_3, f1, gg124, ti, ld32, pci, aBuiltin, aLen, Tryz.underlying34, cast_nat, f2, f3, ld9, oci, f4, sti]; done))) | (refine code_cond_false ?_ ?_; (focus (simp only [aev, regAt_set, Nat.reduceEqDiff, reduceIte, cv95_3, f1, gg124, ti, ld32, pci, aBuiltin, aLen, Tryz.underlying34, cast_nat, f2, f3, ld9, oci, f4, sti]; done))) | ((first | refine code_skip ?_ | refine code_label ?_ | refine code_exit ?_); try simp only [then_exit, then_normal, blockC, Nat.reduceEqDiff, reduceIte]) | refine code_block ?_)
 refine ⟨rfl, rfl, ?_, fun ME eN eK => ?_⟩
 ·rw [kj _ (by omega), gi.2 _ (by omega)]; exact lB
 have ocE : cellsAt ME μ7.next 0 = some (.string (dec x)) := by rw [← ocj]; unfold cellsAt; rw [eK _ (by omega)]
 have dE : ME.obs.get μ10.next = some .deferred := by rw [eK _ (by omega), kj _ (by omega), gi.2 _ (by omega)]; exact dB
 have gE : Grow μ ⟨ME.obs.set μ10.next .dead, ME.next⟩ := by
  have h1 := gA.1
  have h2 := (g1.trans g16).1
  refine ⟨by show μ.next ≤ ME.next; rw [eN, nj]; exact Nat.le_trans gA.1 gC.1, fun j hj => ?_⟩
  show T.get _ j = _
  rw [T.get_set, if_neg (by omega), eK _ (by omega), kj _ (by omega), gC.2 _ (by omega), gA.2 _ hj]
 repeat (first | refine code_seq ?_ | ((first | (refine code_region ?_ ?_; (focus rfl)) | (refine code_guards (gs := ?_) ?_ ?_; rotate_left; (focus rfl))); simp only [run1, run2, wanted, go_sem, Nat.reduceLT, Nat.reduceAdd, Nat.reduceEqDiff, reduceIte, reduceCtorEq, ld9, ocE]) | (refine code_cond_true ?_ ?_; (focus (simp only [aev, regAt_set, Nat.reduceEqDiff, reduceIte, ld9, ocE]; done))) | (refine code_cond_false ?_ ?_; (focus (simp only [aev, regAt_set, Nat.reduceEqDiff, reduceIte, ld9, ocE]; done))) | ((first | refine code_skip ?_ | refine code_label ?_ | refine code_exit ?_); try simp only [then_exit, then_normal, blockC, Nat.reduceEqDiff, reduceIte]) | refine code_block ?_)
 refine code_ret ?_
 refine ⟨⟨ME.obs.set μ10.next .dead, ME.next⟩, ?_, _, ?_, rfl, gE⟩
 ·show (match ME.obs.get μ10.next with | some .deferred => _ | _ => _) = _
  rw [dE]; rfl
 ·skip
  simp only [aResults, Tryz.results154, aRes, regAt_set, Nat.reduceEqDiff, reduceIte]
end
noncomputable section
variable {X : FuncId → List Value → Mem → Option (Value × Mem)}
theorem ltext_ends {g x : Nat} {l : Value} {μ : Mem} (hg : 400 ≤ g) (hr : Rom μ) (hx : x < 1000000) (h : Lim μ l x) :
  EndsF (aFun Tryz.prog (aCode Tryz.prog X S0 g) 154 [l] μ) fun v μ' => v = .string (dec x) ∧ Grow μ μ' := by
 by_cases h0 : x = 0
 ·subst h0; exact ltext_zero (by omega) h
 ·exact ltext_one hg hr hx h0 h
def decI (n : Int) : ByteArray := if n < 0 then ⟨([45] ++ (dec n.natAbs).data.toList).toArray⟩ else dec n.natAbs
theorem aStr_minus (s : ByteArray) (h : s.data.toList.length < 1000) : aStr .add ⟨List.toArray [45]⟩ s = some (.string ⟨([45] ++ s.data.toList).toArray⟩) := by
 obtain ⟨n, hn⟩ : ∃ n, n = s.data.toList.length := ⟨_, rfl⟩
 have e : Nat.blt (Nat.add 1 n) 4294967296 = true := by
  show Nat.ble (1 + n + 1) 4294967296 = true
  exact Nat.ble_eq_true_of_le (by omega)
 rw [hn] at e
 show (match Nat.blt (Nat.add 1 s.data.toList.length) 4294967296 with | true => some (Value.string ⟨([45] ++ s.data.toList).toArray⟩) | false => none) = _
 rw [e]
set_option maxRecDepth 20000 in
set_option maxHeartbeats 4000000 in
theorem etext_ends {g : Nat} {n : Int} {l : Value} {μ : Mem} (hg : 420 ≤ g) (hr : Rom μ) (hn : Sm n) (h : IntV μ l n) :
  EndsF (aFun Tryz.prog (aCode Tryz.prog X S0 g) 122 [l] μ) fun v μ' => v = .string (decI n) ∧ Grow μ μ' := by
 obtain ⟨k, rfl⟩ := Nat.exists_eq_add_of_le' hg
 obtain ⟨w, rfl, hl⟩ := h
 unfold Sm at hn
 obtain ⟨x, hx⟩ : ∃ x, x = n.natAbs := ⟨_, rfl⟩
 rw [← hx] at hl
 obtain ⟨μ1, h1⟩ : ∃ m : Mem, m = ⟨μ.obs.set μ.next (.cells (intL (decide (n < 0)) w).length 36 (intL (decide (n < 0)) w).toArray .e 0 0 false false), μ.next + 1⟩ := ⟨_, rfl⟩
 have g1 : Grow μ μ1 := by rw [h1]; exact grow1 μ _
 have hh : Has μ1 μ.next 0 (intL (decide (n < 0)) w) := Has.new (t := 36) (fx := false) (sh := false) (by rw [h1]; show T.get _ _ = _; rw [T.get_set, if_pos rfl])
 have c0 : cellsAt μ1 μ.next 0 = some (.bool (decide (n < 0))) := hh.cell 0 (by simp [intL])
 have c1 : cellsAt μ1 μ.next 1 = some w := hh.cell 1 (by simp [intL])
 have ht := txt_len x (nd x)
 have ht : (dec x).data.toList.length < 1000 := by unfold dec; rw [ht]; have := nd_le x; omega
 have f1 := aStr_minus (dec x) ht
 by_cases h0 : n < 0
 ·have e : decide (n < 0) = true := decide_eq_true h0
  rw [e] at c0 h1
  obtain ⟨v, μ2, h2, rfl, g2⟩ := ltext_ends (X := X) (g := k + 414) (by omega) (hr.grow g1) (by omega) (hl.grow g1)
  have fin : Value.string ⟨([45] ++ (dec x).data.toList).toArray⟩ = .string (decI n) := by unfold decI; rw [if_pos h0, hx]
  rw [e]
  refine fun_enter Tryz.func122 rfl rfl (Nat.le_of_ble_eq_true rfl) ?_
  simp only [T.lay, Nat.zero_add, Tryz.ntmps122, Nat.reduceAdd]
  repeat (first | refine code_seq ?_ | ((first | (refine code_region ?_ ?_; (focus rfl)) | (refine code_guards (gs := ?_) ?_ ?_; rotate_left; (focus rfl))); simp only [run1, run2, wanted, go_sem, Nat.reduceLT, Nat.reduceAdd, Nat.reduceEqDiff, reduceIte, reduceCtorEq, bx34, Nat.add_eq, h1.symm, fa34_0, ld4, c0, fa34_1, ld32, c1, gg154, h2, f1]) | (refine code_cond_true ?_ ?_; (focus (simp only [aev, regAt_set, Nat.reduceEqDiff, reduceIte, bx34, Nat.add_eq, h1.symm, fa34_0, ld4, c0, fa34_1, ld32, c1, gg154, h2, f1]; done))) | (refine code_cond_false ?_ ?_; (focus (simp only [aev, regAt_set, Nat.reduceEqDiff, reduceIte, bx34, Nat.add_eq, h1.symm, fa34_0, ld4, c0, fa34_1, ld32, c1, gg154, h2, f1]; done))) | ((first | refine code_skip ?_ | refine code_label ?_ | refine code_exit ?_); try simp only [then_exit, then_normal, blockC, Nat.reduceEqDiff, reduceIte]) | refine code_block ?_)
  refine code_ret ?_
  refine ⟨rfl, _, ?_, fin, g1.trans g2⟩
  simp only [aResults, Tryz.results122, aRes, regAt_set, Nat.reduceEqDiff, reduceIte]
 ·have e : decide (n < 0) = false := decide_eq_false h0
  rw [e] at c0 h1
  obtain ⟨v, μ2, h2, rfl, g2⟩ := ltext_ends (X := X) (g := k + 416) (by omega) (hr.grow g1) (by omega) (hl.grow g1)
  have fin : Value.string (dec x) = .string (decI n) := by unfold decI; rw [if_neg h0, hx]
  rw [e]
  refine fun_enter Tryz.func122 rfl rfl (Nat.le_of_ble_eq_true rfl) ?_
  simp only [T.lay, Nat.zero_add, Tryz.ntmps122, Nat.reduceAdd]
  repeat (first | refine code_seq ?_ | ((first | (refine code_region ?_ ?_; (focus rfl)) | (refine code_guards (gs := ?_) ?_ ?_; rotate_left; (focus rfl))); simp only [run1, run2, wanted, go_sem, Nat.reduceLT, Nat.reduceAdd, Nat.reduceEqDiff, reduceIte, reduceCtorEq, bx34, Nat.add_eq, h1.symm, fa34_0, ld4, c0, fa34_1, ld32, c1, gg154, h2]) | (refine code_cond_true ?_ ?_; (focus (simp only [aev, regAt_set, Nat.reduceEqDiff, reduceIte, bx34, Nat.add_eq, h1.symm, fa34_0, ld4, c0, fa34_1, ld32, c1, gg154, h2]; done))) | (refine code_cond_false ?_ ?_; (focus (simp only [aev, regAt_set, Nat.reduceEqDiff, reduceIte, bx34, Nat.add_eq, h1.symm, fa34_0, ld4, c0, fa34_1, ld32, c1, gg154, h2]; done))) | ((first | refine code_skip ?_ | refine code_label ?_ | refine code_exit ?_); try simp only [then_exit, then_normal, blockC, Nat.reduceEqDiff, reduceIte]) | refine code_block ?_)
  refine code_ret ?_
  refine ⟨rfl, _, ?_, fin, g1.trans g2⟩
  simp only [aResults, Tryz.results122, aRes, regAt_set, Nat.reduceEqDiff, reduceIte]
set_option maxRecDepth 20000 in
set_option maxHeartbeats 4000000 in
theorem ttext_ends {g : Nat} {n : Int} {l : Value} {μ : Mem} (hg : 450 ≤ g) (hr : Rom μ) (hn : Sm n) (h : NumV μ l n) :
  EndsF (aFun Tryz.prog (aCode Tryz.prog X S0 g) 84 [l] μ) fun v μ' => v = .string (decI n) ∧ Grow μ μ' := by
 obtain ⟨k, rfl⟩ := Nat.exists_eq_add_of_le' hg
 obtain ⟨w, rfl, hl⟩ := h
 obtain ⟨b, hb⟩ : ∃ b, b = decide (n < 0) := ⟨_, rfl⟩
 rw [← hb]
 obtain ⟨μ1, h1⟩ : ∃ m : Mem, m = ⟨μ.obs.set μ.next (.cells (numL b w).length 38 (numL b w).toArray .e 0 0 false false), μ.next + 1⟩ := ⟨_, rfl⟩
 have g1 : Grow μ μ1 := by rw [h1]; exact grow1 μ _
 have hh : Has μ1 μ.next 0 (numL b w) := Has.new (t := 38) (fx := false) (sh := false) (by rw [h1]; show T.get _ _ = _; rw [T.get_set, if_pos rfl])
 have c0 : cellsAt μ1 μ.next 0 = some (.bool false) := hh.cell 0 (by simp [numL])
 have hp : Has μ1 μ.next 2 (intL b w) := hh.part (a := [.bool false, .float .f64 0]) (c := []) rfl
 have hld := lds34 hp rfl
 obtain ⟨v, μ2, h2, rfl, g2⟩ := etext_ends (X := X) (g := k + 446) (l := .agg (intL b w).toArray) (n := n) (μ := μ1) (by omega) (hr.grow g1) hn ⟨w, by rw [hb], hl.grow g1⟩
 refine fun_enter Tryz.func84 rfl rfl (Nat.le_of_ble_eq_true rfl) ?_
 simp only [T.lay, Nat.zero_add, Tryz.ntmps84, Nat.reduceAdd]
 repeat (first | refine code_seq ?_ | ((first | (refine code_region ?_ ?_; (focus rfl)) | (refine code_guards (gs := ?_) ?_ ?_; rotate_left; (focus rfl))); simp only [run1, run2, wanted, go_sem, Nat.reduceLT, Nat.reduceAdd, Nat.reduceEqDiff, reduceIte, reduceCtorEq, bx36, Nat.add_eq, h1.symm, fa36_0, ld4, c0, fa36_2, hld, gg122, h2]) | (refine code_cond_true ?_ ?_; (focus (simp only [aev, regAt_set, Nat.reduceEqDiff, reduceIte, bx36, Nat.add_eq, h1.symm, fa36_0, ld4, c0, fa36_2, hld, gg122, h2]; done))) | (refine code_cond_false ?_ ?_; (focus (simp only [aev, regAt_set, Nat.reduceEqDiff, reduceIte, bx36, Nat.add_eq, h1.symm, fa36_0, ld4, c0, fa36_2, hld, gg122, h2]; done))) | ((first | refine code_skip ?_ | refine code_label ?_ | refine code_exit ?_); try simp only [then_exit, then_normal, blockC, Nat.reduceEqDiff, reduceIte]) | refine code_block ?_)
 refine code_ret ?_
 refine ⟨rfl, _, ?_, rfl, g1.trans g2⟩
 simp only [aResults, Tryz.results84, aRes, regAt_set, Nat.reduceEqDiff, reduceIte]
set_option maxRecDepth 20000 in
set_option maxHeartbeats 4000000 in
theorem asnum_small {g sp : Nat} {n : Int} {μ : Mem} (hg : 300 ≤ g) (hn : Sm n) :
  EndsF (aFun Tryz.prog (aCode Tryz.prog X S0 g) 83 [.pointer (some ⟨sp, 0, none⟩), .int .u64 (.ofNat (sw n))] μ) fun v μ' => Grow μ μ' ∧ ∃ w, v = .tuple #[w, .bool true] ∧ NumV μ' w n := by
 obtain ⟨k, rfl⟩ := Nat.exists_eq_add_of_le' hg
 have hk : ∀ (μ : Mem) g, 20 ≤ g → aFun Tryz.prog (aCode Tryz.prog X S0 g) 57 [.int .u64 (.ofNat (sw n))] μ = some (.int .i64 0, μ) := fun μ g hg => kind_small hg
 have hv : ∀ (μ : Mem) g, 20 ≤ g → aFun Tryz.prog (aCode Tryz.prog X S0 g) 58 [.int .u64 (.ofNat (sw n))] μ = some (.int .i64 n, μ) := fun μ g hg => value_small hg hn
 obtain ⟨v2, μ2, h2, g2, l2⟩ := tint_ends (X := X) (g := k + 294) (n := n) (μ := ⟨μ.obs.set μ.next ob36, μ.next + 1⟩) (by omega) hn
 obtain ⟨μ3, s3, d3, g3, l3⟩ := tell36 g2 l2
 have e0 : ieq 0 0 = true := rfl
 refine fun_enter Tryz.func83 rfl rfl (Nat.le_of_ble_eq_true rfl) ?_
 simp only [T.lay, Nat.zero_add, Tryz.ntmps83, Nat.reduceAdd]
 repeat (first | refine code_seq ?_ | ((first | (refine code_region ?_ ?_; (focus rfl)) | (refine code_guards (gs := ?_) ?_ ?_; rotate_left; (focus rfl))); simp only [run1, run2, wanted, go_sem, Nat.reduceLT, Nat.reduceAdd, Nat.reduceEqDiff, reduceIte, reduceCtorEq, al36, Nat.add_eq, gg57, hk, Nat.reduceLeDiff, e0, gg58, hv, gg118, h2, s3]) | (refine code_cond_true ?_ ?_; (focus (simp only [aev, regAt_set, Nat.reduceEqDiff, reduceIte, al36, Nat.add_eq, gg57, hk, Nat.reduceLeDiff, e0, gg58, hv, gg118, h2, s3]; done))) | (refine code_cond_false ?_ ?_; (focus (simp only [aev, regAt_set, Nat.reduceEqDiff, reduceIte, al36, Nat.add_eq, gg57, hk, Nat.reduceLeDiff, e0, gg58, hv, gg118, h2, s3]; done))) | ((first | refine code_skip ?_ | refine code_label ?_ | refine code_exit ?_); try simp only [then_exit, then_normal, blockC, Nat.reduceEqDiff, reduceIte]) | refine code_block ?_)
 refine code_ret ?_
 refine ⟨rfl, _, ?_, g3, v2, rfl, l3⟩
 simp only [aResults, Tryz.results83, aRes, regAt_set, Nat.reduceEqDiff, reduceIte]
 simp only [d3]
end
noncomputable section
variable {X : FuncId → List Value → Mem → Option (Value × Mem)}
end
noncomputable section
variable {X : FuncId → List Value → Mem → Option (Value × Mem)}
end
noncomputable section
variable {X : FuncId → List Value → Mem → Option (Value × Mem)}
end
noncomputable section
variable {X : FuncId → List Value → Mem → Option (Value × Mem)}
def hd0L : List Value := [.int .i64 0, .int .i64 0, .int .i64 0]
set_option maxRecDepth 20000 in
set_option maxHeartbeats 4000000 in
theorem at_small {g hp : Nat} {n : Int} {μ : Mem} (hg : 40 ≤ g) :
  EndsF (aFun Tryz.prog (aCode Tryz.prog X S0 g) 25 [.pointer (some ⟨hp, 0, none⟩), .int .u64 (.ofNat (sw n))] μ) fun v μ' => v = .tuple #[.int .i64 0, .agg hd0L.toArray, .bool false] ∧ Grow μ μ' := by
 obtain ⟨k, rfl⟩ := Nat.exists_eq_add_of_le' hg
 have hk : ∀ (μ : Mem) g, 20 ≤ g → aFun Tryz.prog (aCode Tryz.prog X S0 g) 57 [.int .u64 (.ofNat (sw n))] μ = some (.int .i64 0, μ) := fun μ g hg => kind_small hg
 have e1 : ieq 0 1 = false := rfl
 have hbd : ∀ ρ : Operand → Value, aBuild Tryz.prog ρ 86 #[] = some (.agg hd0L.toArray) := fun ρ => by
  refine build_struct (pl := [(0, 1), (1, 1), (2, 1)]) zH Tryz.underlying86 (by kernel_rfl) ?_
  rfl
 have hb : Blk ⟨μ.obs.set μ.next (.cells 3 86 #[.int .i64 0, .int .i64 0, .int .i64 0] .e 0 0 false false), μ.next + 1⟩ μ.next 3 86 := fresh_blk (Grow.refl _)
 have hst := store_puts (P := Tryz.prog) (t := 86) (vs := hd0L) iH rfl rfl hb (show 0 + hd0L.length ≤ 3 by decide)
 have hg : Grow μ (putL ⟨μ.obs.set μ.next (.cells 3 86 #[.int .i64 0, .int .i64 0, .int .i64 0] .e 0 0 false false), μ.next + 1⟩ μ.next 0 hd0L) := (grow1 μ _).put_new (Nat.le_refl _)
 have hh : Has (putL ⟨μ.obs.set μ.next (.cells 3 86 #[.int .i64 0, .int .i64 0, .int .i64 0] .e 0 0 false false), μ.next + 1⟩ μ.next 0 hd0L) μ.next 0 hd0L := Has.of_put hb (by decide)
 have hld := hh.load (P := Tryz.prog) (t := 86) Tryz.underlying86 iH rfl
 refine fun_enter Tryz.func25 rfl rfl (Nat.le_of_ble_eq_true rfl) ?_
 simp only [T.lay, Nat.zero_add, Tryz.ntmps25, Nat.reduceAdd]
 repeat (first | refine code_seq ?_ | ((first | (refine code_region ?_ ?_; (focus rfl)) | (refine code_guards (gs := ?_) ?_ ?_; rotate_left; (focus rfl))); simp only [run1, run2, wanted, go_sem, Nat.reduceLT, Nat.reduceAdd, Nat.reduceEqDiff, reduceIte, reduceCtorEq, alH, Nat.add_eq, gg57, hk, Nat.reduceLeDiff, e1, hbd, hst]) | (refine code_cond_true ?_ ?_; (focus (simp only [aev, regAt_set, Nat.reduceEqDiff, reduceIte, alH, Nat.add_eq, gg57, hk, Nat.reduceLeDiff, e1, hbd, hst]; done))) | (refine code_cond_false ?_ ?_; (focus (simp only [aev, regAt_set, Nat.reduceEqDiff, reduceIte, alH, Nat.add_eq, gg57, hk, Nat.reduceLeDiff, e1, hbd, hst]; done))) | ((first | refine code_skip ?_ | refine code_label ?_ | refine code_exit ?_); try simp only [then_exit, then_normal, blockC, Nat.reduceEqDiff, reduceIte]) | refine code_block ?_)
 refine code_ret ?_
 refine ⟨rfl, _, ?_, rfl, hg⟩
 simp only [aResults, Tryz.results25, aRes, regAt_set, Nat.reduceEqDiff, reduceIte]
 simp only [hld]
set_option maxRecDepth 20000 in
set_option maxHeartbeats 4000000 in
theorem hkind_small {g hp : Nat} {n : Int} {μ : Mem} (hg : 60 ≤ g) :
  EndsF (aFun Tryz.prog (aCode Tryz.prog X S0 g) 47 [.pointer (some ⟨hp, 0, none⟩), .int .u64 (.ofNat (sw n))] μ) fun v μ' => v = .int .i64 (-1) ∧ Grow μ μ' := by
 obtain ⟨k, rfl⟩ := Nat.exists_eq_add_of_le' hg
 obtain ⟨v1, μ1, h1, rfl, g1⟩ := at_small (X := X) (g := k + 57) (hp := hp) (n := n) (μ := μ) (by omega)
 have hb : Blk ⟨μ1.obs.set μ1.next (.cells 3 86 #[.int .i64 0, .int .i64 0, .int .i64 0] .e 0 0 false false), μ1.next + 1⟩ μ1.next 3 86 := fresh_blk (Grow.refl _)
 have hst := store_puts (P := Tryz.prog) (t := 86) (vs := hd0L) iH rfl rfl hb (show 0 + hd0L.length ≤ 3 by decide)
 have hg : Grow μ1 (putL ⟨μ1.obs.set μ1.next (.cells 3 86 #[.int .i64 0, .int .i64 0, .int .i64 0] .e 0 0 false false), μ1.next + 1⟩ μ1.next 0 hd0L) := (grow1 μ1 _).put_new (Nat.le_refl _)
 refine fun_enter Tryz.func47 rfl rfl (Nat.le_of_ble_eq_true rfl) ?_
 simp only [T.lay, Nat.zero_add, Tryz.ntmps47, Nat.reduceAdd]
 repeat (first | refine code_seq ?_ | ((first | (refine code_region ?_ ?_; (focus rfl)) | (refine code_guards (gs := ?_) ?_ ?_; rotate_left; (focus rfl))); simp only [run1, run2, wanted, go_sem, Nat.reduceLT, Nat.reduceAdd, Nat.reduceEqDiff, reduceIte, reduceCtorEq, gg25, h1, alH, Nat.add_eq, hst]) | (refine code_cond_true ?_ ?_; (focus (simp only [aev, regAt_set, Nat.reduceEqDiff, reduceIte, gg25, h1, alH, Nat.add_eq, hst]; done))) | (refine code_cond_false ?_ ?_; (focus (simp only [aev, regAt_set, Nat.reduceEqDiff, reduceIte, gg25, h1, alH, Nat.add_eq, hst]; done))) | ((first | refine code_skip ?_ | refine code_label ?_ | refine code_exit ?_); try simp only [then_exit, then_normal, blockC, Nat.reduceEqDiff, reduceIte]) | refine code_block ?_)
 refine code_ret ?_
 refine ⟨rfl, _, ?_, rfl, g1.trans hg⟩
 simp only [aResults, Tryz.results47, aRes, regAt_set, Nat.reduceEqDiff, reduceIte]
theorem num_store {μ μ1 : Mem} {l : List Value} (h : l.all one = true) (hl : l.length = 4) (hg : Grow ⟨μ.obs.set μ.next ob36, μ.next + 1⟩ μ1) :
  ∃ μ2, aStore Tryz.prog μ1 38 (.pointer (some ⟨μ.next, 0, none⟩)) (.agg l.toArray) = some (undef, μ2) ∧ aLoad Tryz.prog μ2 38 (.pointer (some ⟨μ.next, 0, none⟩)) = some (.agg l.toArray) ∧ Grow μ μ2 ∧ ∀ i, i ≠ μ.next → μ2.obs.get i = μ1.obs.get i := by
 have hb := blkN hg
 exact ⟨_, store_puts (P := Tryz.prog) (t := 38) (vs := l) j36 (by rw [hl]; rfl) h hb (by omega), lds36 (Has.of_put hb (by omega)) (by rw [hl]; rfl), ((grow1 μ _).trans hg).put_new (Nat.le_refl _), fun i hi => putL_get _ _ _ _ hi⟩
set_option maxRecDepth 20000 in
set_option maxHeartbeats 4000000 in
theorem eqv_same {g sp w : Nat} {μ : Mem} (hg : 20 ≤ g) : aFun Tryz.prog (aCode Tryz.prog X S0 g) 55 [.pointer (some ⟨sp, 0, none⟩), .int .u64 (.ofNat w), .int .u64 (.ofNat w)] μ = some (.bool true, μ) := by
 obtain ⟨k, rfl⟩ := Nat.exists_eq_add_of_le' hg
 refine ends_eq ?_
 have e1 : ieq (.ofNat w) (.ofNat w) = true := (ieq_nat w w).trans (decide_eq_true rfl)
 refine fun_enter Tryz.func55 rfl rfl (Nat.le_of_ble_eq_true rfl) ?_
 simp only [T.lay, Nat.zero_add, Tryz.ntmps55, Nat.reduceAdd]
 repeat (first | refine code_seq ?_ | ((first | (refine code_region ?_ ?_; (focus rfl)) | (refine code_guards (gs := ?_) ?_ ?_; rotate_left; (focus rfl))); simp only [run1, run2, wanted, go_sem, Nat.reduceLT, Nat.reduceAdd, Nat.reduceEqDiff, reduceIte, reduceCtorEq, e1]) | (refine code_cond_true ?_ ?_; (focus (simp only [aev, regAt_set, Nat.reduceEqDiff, reduceIte, e1]; done))) | (refine code_cond_false ?_ ?_; (focus (simp only [aev, regAt_set, Nat.reduceEqDiff, reduceIte, e1]; done))) | ((first | refine code_skip ?_ | refine code_label ?_ | refine code_exit ?_); try simp only [then_exit, then_normal, blockC, Nat.reduceEqDiff, reduceIte]) | refine code_block ?_)
 refine code_ret ?_
 refine ⟨rfl, _, ?_, rfl, rfl⟩
 simp only [aResults, Tryz.results55, aRes, regAt_set, Nat.reduceEqDiff, reduceIte]
end
noncomputable section
variable {X : FuncId → List Value → Mem → Option (Value × Mem)}
def twoL (a b : Nat) : List Value := [.int .u64 (.ofNat a), .int .u64 (.ofNat b)]
theorem j158b (a b : Nat) : aBox 80 (.agg (twoL a b).toArray) = some (.cells (twoL a b).length 80 (twoL a b).toArray .e 0 0 false false, fun id => .pointer (some ⟨id, 0, none⟩)) := rfl
set_option maxRecDepth 20000 in
set_option maxHeartbeats 4000000 in
theorem alike_same {g sp w : Nat} {μ : Mem} (hg : 60 ≤ g) :
  EndsF (aFun Tryz.prog (aCode Tryz.prog X S0 g) 23 [.pointer (some ⟨sp, 0, none⟩), .agg (twoL w w).toArray] μ) fun v μ' => v = .tuple #[.slice none 0 0, .bool true] ∧ Grow μ μ' := by
 obtain ⟨k, rfl⟩ := Nat.exists_eq_add_of_le' hg
 obtain ⟨μ1, h1⟩ : ∃ M : Mem, M = ⟨μ.obs.set μ.next (.cells (twoL w w).length 80 (twoL w w).toArray .e 0 0 false false), μ.next + 1⟩ := ⟨_, rfl⟩
 have g1 : Grow μ μ1 := by rw [h1]; exact grow1 μ _
 have f1 : Has μ1 μ.next 0 (twoL w w) := Has.new (t := 80) (fx := false) (sh := false) (by rw [h1]; show T.get _ _ = _; rw [T.get_set, if_pos rfl])
 have c0 : cellsAt μ1 μ.next 0 = some (.int .u64 (.ofNat w)) := f1.cell 0 (by simp [twoL])
 have c1 : cellsAt μ1 μ.next 1 = some (.int .u64 (.ofNat w)) := f1.cell 1 (by simp [twoL])
 have he : ∀ g, 20 ≤ g → aFun Tryz.prog (aCode Tryz.prog X S0 g) 55 [.pointer (some ⟨sp, 0, none⟩), .int .u64 (.ofNat w), .int .u64 (.ofNat w)] μ1 = some (.bool true, μ1) := fun g hg => eqv_same hg
 refine fun_enter Tryz.func23 rfl rfl (Nat.le_of_ble_eq_true rfl) ?_
 simp only [T.lay, Nat.zero_add, Tryz.ntmps23, Nat.reduceAdd]
 repeat (first | refine code_seq ?_ | ((first | (refine code_region ?_ ?_; (focus rfl)) | (refine code_guards (gs := ?_) ?_ ?_; rotate_left; (focus rfl))); simp only [run1, run2, wanted, go_sem, Nat.reduceLT, Nat.reduceAdd, Nat.reduceEqDiff, reduceIte, reduceCtorEq, j158b, Nat.add_eq, h1.symm, fa158_0, fa158_1, ldW, c0, c1, gg55, he, Nat.reduceLeDiff]) | (refine code_cond_true ?_ ?_; (focus (simp only [aev, regAt_set, Nat.reduceEqDiff, reduceIte, j158b, Nat.add_eq, h1.symm, fa158_0, fa158_1, ldW, c0, c1, gg55, he, Nat.reduceLeDiff]; done))) | (refine code_cond_false ?_ ?_; (focus (simp only [aev, regAt_set, Nat.reduceEqDiff, reduceIte, j158b, Nat.add_eq, h1.symm, fa158_0, fa158_1, ldW, c0, c1, gg55, he, Nat.reduceLeDiff]; done))) | ((first | refine code_skip ?_ | refine code_label ?_ | refine code_exit ?_); try simp only [then_exit, then_normal, blockC, Nat.reduceEqDiff, reduceIte]) | refine code_block ?_)
 refine code_ret ?_
 refine ⟨rfl, _, ?_, rfl, g1⟩
 simp only [aResults, Tryz.results23, aRes, regAt_set, Nat.reduceEqDiff, reduceIte]
set_option maxRecDepth 20000 in
set_option maxHeartbeats 4000000 in
theorem alike_no {g sp hp b : Nat} {a : Int} {μ : Mem} (hg : 600 ≤ g) (hsp : cellsAt μ sp 0 = some (.pointer (some ⟨hp, 0, none⟩))) (hsn : sp < μ.next)
  (he : ∀ μ1, Grow μ μ1 → EndsF (aFun Tryz.prog (aCode Tryz.prog X S0 (g - 4)) 55 [.pointer (some ⟨sp, 0, none⟩), .int .u64 (.ofNat (sw a)), .int .u64 (.ofNat b)] μ1) fun v μ' => v = .bool false ∧ Grow μ1 μ') :
  EndsF (aFun Tryz.prog (aCode Tryz.prog X S0 g) 23 [.pointer (some ⟨sp, 0, none⟩), .agg (twoL (sw a) b).toArray] μ) fun v μ' => v = .tuple #[.slice none 0 0, .bool false] ∧ Grow μ μ' := by
 obtain ⟨k, rfl⟩ := Nat.exists_eq_add_of_le' hg
 obtain ⟨w, hw⟩ : ∃ w, w = sw a := ⟨_, rfl⟩
 obtain ⟨μ1, h1⟩ : ∃ M : Mem, M = ⟨μ.obs.set μ.next (.cells (twoL (sw a) b).length 80 (twoL (sw a) b).toArray .e 0 0 false false), μ.next + 1⟩ := ⟨_, rfl⟩
 have g1 : Grow μ μ1 := by rw [h1]; exact grow1 μ _
 have n1 : μ1.next = μ.next + 1 := by rw [h1]
 have f1 : Has μ1 μ.next 0 (twoL (sw a) b) := Has.new (t := 80) (fx := false) (sh := false) (by rw [h1]; show T.get _ _ = _; rw [T.get_set, if_pos rfl])
 have c0 : cellsAt μ1 μ.next 0 = some (.int .u64 (.ofNat (sw a))) := f1.cell 0 (by simp [twoL])
 have c1 : cellsAt μ1 μ.next 1 = some (.int .u64 (.ofNat b)) := f1.cell 1 (by simp [twoL])
 obtain ⟨v2, μ2, h2, rfl, g2⟩ := he μ1 g1
 have h2 : aFun Tryz.prog (aCode Tryz.prog X S0 (k + 596)) 55 [.pointer (some ⟨sp, 0, none⟩), .int .u64 (.ofNat (sw a)), .int .u64 (.ofNat b)] μ1 = some (.bool false, μ2) := h2
 have p2 : ∀ m, cellsAt ⟨μ2.obs, m⟩ sp 0 = some (.pointer (some ⟨hp, 0, none⟩)) := fun m => by show cellsAt μ2 sp 0 = _; rw [gcell (g1.trans g2) hsn]; exact hsp
 have c2 : ∀ m, cellsAt ⟨μ2.obs, m⟩ μ.next 0 = some (.int .u64 (.ofNat (sw a))) := fun m => by show cellsAt μ2 μ.next 0 = _; rw [gcell g2 (by omega)]; exact c0
 obtain ⟨v3, μ3, h3, rfl, g3⟩ := hkind_small (X := X) (g := k + 596) (hp := hp) (n := a) (μ := ⟨μ2.obs, μ2.next + 8⟩) (by omega)
 have e1 : ilt (-1) 0 = true := rfl
 have gf : Grow μ ⟨μ3.obs, μ3.next + 13⟩ := (g1.trans g2).trans ((grow_up μ2 8).trans (g3.trans (grow_up μ3 13)))
 rw [← hw] at h1 h2 c2 h3 ⊢
 refine fun_enter Tryz.func23 rfl rfl (Nat.le_of_ble_eq_true rfl) ?_
 simp only [T.lay, Nat.zero_add, Tryz.ntmps23, Nat.reduceAdd]
 repeat (first | refine code_seq ?_ | ((first | (refine code_region ?_ ?_; (focus rfl)) | (refine code_guards (gs := ?_) ?_ ?_; rotate_left; (focus rfl))); simp only [run1, run2, wanted, go_sem, Nat.reduceLT, Nat.reduceAdd, Nat.reduceEqDiff, reduceIte, reduceCtorEq, j158b, Nat.add_eq, h1.symm, fa158_0, fa158_1, ldW, hw ▸ c0, c1, gg55, h2]) | (refine code_cond_true ?_ ?_; (focus (simp only [aev, regAt_set, Nat.reduceEqDiff, reduceIte, j158b, Nat.add_eq, h1.symm, fa158_0, fa158_1, ldW, hw ▸ c0, c1, gg55, h2]; done))) | (refine code_cond_false ?_ ?_; (focus (simp only [aev, regAt_set, Nat.reduceEqDiff, reduceIte, j158b, Nat.add_eq, h1.symm, fa158_0, fa158_1, ldW, hw ▸ c0, c1, gg55, h2]; done))) | ((first | refine code_skip ?_ | refine code_label ?_ | refine code_exit ?_); try simp only [then_exit, then_normal, blockC, Nat.reduceEqDiff, reduceIte]) | refine code_block ?_)
 refine code_draw (n := 8) (ms := [0, 1, 3, 7, 0, 16, 63, 127]) (ord := [0, 1, 2, 3, 4, 5, 6, 7]) (ds := ?_) ?_ ?_ ?_ ?_ ?_ ?_
 rotate_left
 ·kernel_rfl
 ·kernel_rfl
 ·kernel_rfl
 ·rfl
 ·rfl
 iterate 8 (refine drun_true (by first | rfl | (simp only [wanted, go_sem, Nat.reduceLT, Nat.reduceAdd, Nat.reduceEqDiff, reduceIte, reduceCtorEq, faS0, fa158_0, Nat.add_zero, ldHp, ldW, p2, c2, gg47, h3])) (by simp only [aDrawOne, heavy, aReads, eqVal_self, go_sem, Nat.reduceLT, Nat.reduceAdd, Nat.reduceEqDiff, reduceIte, reduceCtorEq, faS0, fa158_0, Nat.add_zero, ldHp, ldW, p2, c2, gg47, h3]; try exact rfl) rfl ?_)
 simp only [dRun, endsD_some, then_normal]
 refine code_seq ?_
 refine code_seq ?_
 refine code_draw (n := 13) (ms := [0, 1, 3, 7, 15, 31, 63, 7, 135, 511, 7, 2047, 4095]) (ord := [0, 1, 2, 3, 4, 5, 6, 7, 8, 9, 10, 11, 12]) (ds := ?_) ?_ ?_ ?_ ?_ ?_ ?_
 rotate_left
 ·kernel_rfl
 ·kernel_rfl
 ·kernel_rfl
 ·rfl
 ·rfl
 iterate 3 (refine drun_true (by first | rfl | (simp only [wanted, go_sem, Nat.reduceLT, Nat.reduceAdd, Nat.reduceEqDiff, reduceIte, reduceCtorEq, e1])) (by simp only [aDrawOne, heavy, aReads, eqVal_self, go_sem, Nat.reduceLT, Nat.reduceAdd, Nat.reduceEqDiff, reduceIte, reduceCtorEq, e1]; try exact rfl) rfl ?_)
 iterate 9 (refine drun_false (by simp only [wanted, go_sem, Nat.reduceLT, Nat.reduceAdd, Nat.reduceEqDiff, reduceIte, reduceCtorEq, e1]) rfl ?_)
 refine drun_true (by first | rfl | (simp only [wanted, go_sem, Nat.reduceLT, Nat.reduceAdd, Nat.reduceEqDiff, reduceIte, reduceCtorEq, e1])) (by simp only [aDrawOne, heavy, aReads, eqVal_self, go_sem, Nat.reduceLT, Nat.reduceAdd, Nat.reduceEqDiff, reduceIte, reduceCtorEq, e1]; try exact rfl) rfl ?_
 simp only [dRun, endsD_some, then_normal]
 repeat (first | refine code_seq ?_ | ((first | (refine code_region ?_ ?_; (focus rfl)) | (refine code_guards (gs := ?_) ?_ ?_; rotate_left; (focus rfl))); simp only [run1, run2, wanted, go_sem, Nat.reduceLT, Nat.reduceAdd, Nat.reduceEqDiff, reduceIte, reduceCtorEq]) | (refine code_cond_true ?_ ?_; (focus (simp only [aev, regAt_set, Nat.reduceEqDiff, reduceIte]; done))) | (refine code_cond_false ?_ ?_; (focus (simp only [aev, regAt_set, Nat.reduceEqDiff, reduceIte]; done))) | ((first | refine code_skip ?_ | refine code_label ?_ | refine code_exit ?_); try simp only [then_exit, then_normal, blockC, Nat.reduceEqDiff, reduceIte]) | refine code_block ?_)
 refine code_ret ?_
 refine ⟨rfl, _, ?_, rfl, gf⟩
 simp only [aResults, Tryz.results23, aRes, regAt_set, Nat.reduceEqDiff, reduceIte]
end
noncomputable section
variable {X : FuncId → List Value → Mem → Option (Value × Mem)}
theorem z158 : aZeroOf Tryz.prog 80 = some (.agg (twoL 0 0).toArray) := by unfold aZeroOf; rw [j158]; rfl
theorem bd158 (ρ : Operand → Value) (x y : Operand) (a b : Nat) (h1 : ρ x = .int .u64 (.ofNat a)) (h2 : ρ y = .int .u64 (.ofNat b)) : aBuild Tryz.prog ρ 80 #[(0, x), (1, y)] = some (.agg (twoL a b).toArray) := by
 refine build_struct (pl := [(0, 1), (1, 1)]) z158 Tryz.underlying80 (by kernel_rfl) ?_
 show aFill _ (twoL 0 0) [(0, ρ x), (1, ρ y)] = some (twoL a b)
 rw [h1, h2]
 rfl
theorem bs159 (ρ : Operand → Value) (x : Operand) (a b : Nat) (h : ρ x = .agg (twoL a b).toArray) : aBuildSlice Tryz.prog ρ 81 1 #[(0, x)] = some (.cells (twoL a b).length 80 (twoL a b).toArray .e 0 0 false false, fun id => .slice (some ⟨id, 0, none⟩) 1 2) := by
 unfold aBuildSlice
 simp only [Tryz.underlying81, j158, z158]
 show (match aFill _ (tile (cellsL (.agg (twoL 0 0).toArray)) 2) [(0, ρ x)] with | some cs => _ | none => none) = _
 rw [h]
 rfl
set_option maxRecDepth 20000 in
set_option maxHeartbeats 4000000 in
theorem rev_nil {g : Nat} {μ : Mem} (hg : 20 ≤ g) : ∃ v, aFun Tryz.prog (aCode Tryz.prog X S0 g) 24 [.slice none 0 0] μ = some (v, μ) := by
 obtain ⟨k, rfl⟩ := Nat.exists_eq_add_of_le' hg
 have e : EndsF (aFun Tryz.prog (aCode Tryz.prog X S0 (k + 20)) 24 [.slice none 0 0] μ) fun _ m => m = μ := by
  have e1 : qwrap .i64 (Int.sub (.ofNat 0) 1) = -1 := rfl
  have e2 : ilt 0 (-1) = false := rfl
  refine fun_enter Tryz.func24 rfl rfl (Nat.le_of_ble_eq_true rfl) ?_
  simp only [T.lay, Nat.zero_add, Tryz.ntmps24, Nat.reduceAdd]
  repeat (first | refine code_seq ?_ | ((first | (refine code_region ?_ ?_; (focus rfl)) | (refine code_guards (gs := ?_) ?_ ?_; rotate_left; (focus rfl))); simp only [run1, run2, wanted, go_sem, Nat.reduceLT, Nat.reduceAdd, Nat.reduceEqDiff, reduceIte, reduceCtorEq, aBuiltin, aLen, Tryz.underlying81, cast_nat, e1, e2]) | (refine code_cond_true ?_ ?_; (focus (simp only [aev, regAt_set, Nat.reduceEqDiff, reduceIte, aBuiltin, aLen, Tryz.underlying81, cast_nat, e1, e2]; done))) | (refine code_cond_false ?_ ?_; (focus (simp only [aev, regAt_set, Nat.reduceEqDiff, reduceIte, aBuiltin, aLen, Tryz.underlying81, cast_nat, e1, e2]; done))) | ((first | refine code_skip ?_ | refine code_label ?_ | refine code_exit ?_); try simp only [then_exit, then_normal, blockC, Nat.reduceEqDiff, reduceIte]) | refine code_block ?_ | refine code_loop ?_)
  exact ⟨rfl, _, rfl, rfl⟩
 obtain ⟨v, m, h1, h2⟩ := e
 exact ⟨v, by rw [h1, h2]⟩
theorem app_none {μ : Mem} {i : Nat} : aAppend Tryz.prog μ 81 81 (.slice (some ⟨i, 0, none⟩) 0 2) (.slice none 0 0) = some (.slice (some ⟨i, 0, none⟩) 0 2, μ) := by
 unfold aAppend
 simp only [Tryz.underlying81, j158, z158, lenV, srcCells]
 rfl
theorem slice159 {ρ : Operand → Value} {x y : Operand} {i : Nat} (h1 : ρ x = .slice (some ⟨i, 0, none⟩) 1 2) (h2 : ρ y = .int .i64 (.ofNat 0)) : aSlice Tryz.prog ρ 81 x none (some y) none = some (.slice (some ⟨i, 0, none⟩) 0 2) := by
 unfold aSlice
 simp only [h1, Tryz.underlying81, j158, aBounds, aBound, h2]
 rfl
set_option maxRecDepth 20000 in
set_option maxHeartbeats 4000000 in
theorem equal_same {g sp w : Nat} {μ : Mem} (hg : 100 ≤ g) :
  EndsF (aFun Tryz.prog (aCode Tryz.prog X S0 g) 9 [.pointer (some ⟨sp, 0, none⟩), .int .u64 (.ofNat w), .int .u64 (.ofNat w)] μ) fun v μ' => v = .tuple #[.bool true, .int .i64 0] ∧ Grow μ μ' := by
 obtain ⟨k, rfl⟩ := Nat.exists_eq_add_of_le' hg
 obtain ⟨μ1, h1⟩ : ∃ M : Mem, M = ⟨μ.obs.set μ.next (.cells (twoL w w).length 80 (twoL w w).toArray .e 0 0 false false), μ.next + 1⟩ := ⟨_, rfl⟩
 have g1 : Grow μ μ1 := by rw [h1]; exact grow1 μ _
 have f1 : Has μ1 μ.next 0 (twoL w w) := Has.new (t := 80) (fx := false) (sh := false) (by rw [h1]; show T.get _ _ = _; rw [T.get_set, if_pos rfl])
 have hld := lds158 f1 rfl
 obtain ⟨v2, μ2, h2, rfl, g2⟩ := alike_same (X := X) (g := k + 87) (sp := sp) (w := w) (μ := μ1) (by omega)
 obtain ⟨v3, h3⟩ := rev_nil (X := X) (g := k + 85) (μ := μ2) (by omega)
 have e1 : ilt 0 (.ofNat 1) = true := rfl
 have e2 : ilt 0 10000 = true := rfl
 have e3 : qwrap .i64 (Int.sub (.ofNat 1) 1) = .ofNat 0 := rfl
 have e4 : qwrap .i64 (Int.add 0 1) = 1 := rfl
 have e5 : ilt 0 (.ofNat 0) = false := rfl
 have hix : ∀ (ρ : Operand → Value) (a b : Operand), ρ a = .slice (some ⟨μ.next, 0, none⟩) 1 2 → ρ b = .int .i64 (.ofNat 0) → aIndexAddr Tryz.prog ρ 81 a b = some (.pointer (some ⟨μ.next, 0, none⟩)) := fun ρ a b h1 h2 => by
  rw [indexAddr_sz (P := Tryz.prog) Tryz.underlying81 j158 h1 h2 (by decide), Nat.zero_mul]
 have hsl : ∀ (ρ : Operand → Value) (x y : Operand), ρ x = .slice (some ⟨μ.next, 0, none⟩) 1 2 → ρ y = .int .i64 (.ofNat 0) → aSlice Tryz.prog ρ 81 x none (some y) none = some (.slice (some ⟨μ.next, 0, none⟩) 0 2) := fun ρ x y h1 h2 => slice159 h1 h2
 have hbd : ∀ (ρ : Operand → Value) (x y : Operand), ρ x = .int .u64 (.ofNat w) → ρ y = .int .u64 (.ofNat w) → aBuild Tryz.prog ρ 80 #[(0, x), (1, y)] = some (.agg (twoL w w).toArray) := fun ρ x y h1 h2 => bd158 ρ x y w w h1 h2
 have hbs : ∀ (ρ : Operand → Value) (x : Operand), ρ x = .agg (twoL w w).toArray → aBuildSlice Tryz.prog ρ 81 1 #[(0, x)] = some (.cells (twoL w w).length 80 (twoL w w).toArray .e 0 0 false false, fun id => .slice (some ⟨id, 0, none⟩) 1 2) := fun ρ x h => bs159 ρ x w w h
 have hap := app_none (μ := μ2) (i := μ.next)
 refine fun_enter Tryz.func9 rfl rfl (Nat.le_of_ble_eq_true rfl) ?_
 simp only [T.lay, Nat.zero_add, Tryz.ntmps9, Nat.reduceAdd]
 repeat (first | refine code_seq ?_ | ((first | (refine code_region ?_ ?_; (focus rfl)) | (refine code_guards (gs := ?_) ?_ ?_; rotate_left; (focus rfl))); simp only [run1, run2, wanted, go_sem, Nat.reduceLT, Nat.reduceAdd, Nat.reduceEqDiff, reduceIte, reduceCtorEq, hbd, hbs, Nat.add_eq, h1.symm, aBuiltin, aLen, Tryz.underlying81, cast_nat, e1, e2, e3, hix, hld, gg23, h2, gg24, h3, hsl, hap, e4, e5]) | (refine code_cond_true ?_ ?_; (focus (simp only [aev, regAt_set, Nat.reduceEqDiff, reduceIte, hbd, hbs, Nat.add_eq, h1.symm, aBuiltin, aLen, Tryz.underlying81, cast_nat, e1, e2, e3, hix, hld, gg23, h2, gg24, h3, hsl, hap, e4, e5]; done))) | (refine code_cond_false ?_ ?_; (focus (simp only [aev, regAt_set, Nat.reduceEqDiff, reduceIte, hbd, hbs, Nat.add_eq, h1.symm, aBuiltin, aLen, Tryz.underlying81, cast_nat, e1, e2, e3, hix, hld, gg23, h2, gg24, h3, hsl, hap, e4, e5]; done))) | ((first | refine code_skip ?_ | refine code_label ?_ | refine code_exit ?_); try simp only [then_exit, then_normal, blockC, Nat.reduceEqDiff, reduceIte]) | refine code_block ?_ | refine code_loop ?_)
 refine code_ret ?_
 refine ⟨rfl, _, ?_, rfl, g1.trans g2⟩
 simp only [aResults, Tryz.results9, aRes, regAt_set, Nat.reduceEqDiff, reduceIte]
end
noncomputable section
variable {X : FuncId → List Value → Mem → Option (Value × Mem)}
set_option maxRecDepth 20000 in
set_option maxHeartbeats 4000000 in
theorem heap_of {g sp hp : Nat} {μ : Mem} (hg : 10 ≤ g) (h : cellsAt μ sp 0 = some (.pointer (some ⟨hp, 0, none⟩))) : aFun Tryz.prog (aCode Tryz.prog X S0 g) 10 [.pointer (some ⟨sp, 0, none⟩)] μ = some (.pointer (some ⟨hp, 0, none⟩), μ) := by
 obtain ⟨k, rfl⟩ := Nat.exists_eq_add_of_le' hg
 refine ends_eq ?_
 refine fun_enter Tryz.func10 rfl rfl (Nat.le_of_ble_eq_true rfl) ?_
 simp only [T.lay, Nat.zero_add, Tryz.ntmps10, Nat.reduceAdd]
 repeat (first | refine code_seq ?_ | ((first | (refine code_region ?_ ?_; (focus rfl)) | (refine code_guards (gs := ?_) ?_ ?_; rotate_left; (focus rfl))); simp only [run1, run2, wanted, go_sem, Nat.reduceLT, Nat.reduceAdd, Nat.reduceEqDiff, reduceIte, reduceCtorEq, faS0, Nat.add_zero, ldHp, h]) | (refine code_cond_true ?_ ?_; (focus (simp only [aev, regAt_set, Nat.reduceEqDiff, reduceIte, faS0, Nat.add_zero, ldHp, h]; done))) | (refine code_cond_false ?_ ?_; (focus (simp only [aev, regAt_set, Nat.reduceEqDiff, reduceIte, faS0, Nat.add_zero, ldHp, h]; done))) | ((first | refine code_skip ?_ | refine code_label ?_ | refine code_exit ?_); try simp only [then_exit, then_normal, blockC, Nat.reduceEqDiff, reduceIte]) | refine code_block ?_)
 refine code_ret ?_
 refine ⟨rfl, _, ?_, rfl, rfl⟩
 simp only [aResults, Tryz.results10, aRes, regAt_set, Nat.reduceEqDiff, reduceIte]
theorem hget {g hp ap wb N q kd pn n i : Nat} {ws : Nat → Nat} {μ : Mem} (hg : 80 ≤ g) (hH : HeapAt μ hp ap wb N ws) (hq : q + n < N) (hN : N < 1000000) (hw : ws q = headW kd pn n) (h1 : kd < 32) (h2 : pn < 8) (hi : i < n) :
  EndsF (aFun Tryz.prog (aCode Tryz.prog X S0 g) 51 [.pointer (some ⟨hp, 0, none⟩), .int .u64 (.ofNat (placeW q)), .int .i64 (.ofNat i)] μ) fun v μ' => v = .tuple #[.int .u64 (.ofNat (ws (q + 1 + i))), .int .i64 0] ∧ Grow μ μ' := by
 obtain ⟨k, rfl⟩ := Nat.exists_eq_add_of_le' hg
 exact heap_get hH hq hN hw h1 h2 hi
theorem hset {g hp ap wb N q kd pn n i w : Nat} {ws : Nat → Nat} {μ : Mem} (hg : 80 ≤ g) (hH : HeapAt μ hp ap wb N ws) (hq : q + n < N) (hN : N < 1000000) (hw : ws q = headW kd pn n) (h1 : kd < 32) (h2 : pn < 8) (hi : i < n) :
  EndsF (aFun Tryz.prog (aCode Tryz.prog X S0 g) 11 [.pointer (some ⟨hp, 0, none⟩), .int .u64 (.ofNat (placeW q)), .int .i64 (.ofNat i), .int .u64 (.ofNat w)] μ) fun v μ' => v = .int .i64 0 ∧ HeapAt μ' hp ap wb N (put ws (q + 1 + i) w) ∧ μ.next ≤ μ'.next ∧ ∀ j, j < μ.next → j ≠ wb → μ'.obs.get j = μ.obs.get j := by
 obtain ⟨k, rfl⟩ := Nat.exists_eq_add_of_le' hg
 exact heap_set hH hq hN hw h1 h2 hi
theorem hkind {g hp ap wb N q kd pn n : Nat} {ws : Nat → Nat} {μ : Mem} (hg : 80 ≤ g) (hH : HeapAt μ hp ap wb N ws) (hq : q < N) (hN : N < 1000000) (hw : ws q = headW kd pn n) (h1 : kd < 32) (h2 : pn < 8) (h3 : n < 1000000) :
  EndsF (aFun Tryz.prog (aCode Tryz.prog X S0 g) 47 [.pointer (some ⟨hp, 0, none⟩), .int .u64 (.ofNat (placeW q))] μ) fun v μ' => v = .int .i64 (.ofNat kd) ∧ Grow μ μ' := by
 obtain ⟨k, rfl⟩ := Nat.exists_eq_add_of_le' hg
 exact heap_kind hH hq hN hw h1 h2 h3
theorem hsize {g hp ap wb N q kd pn n : Nat} {ws : Nat → Nat} {μ : Mem} (hg : 80 ≤ g) (hH : HeapAt μ hp ap wb N ws) (hq : q < N) (hN : N < 1000000) (hw : ws q = headW kd pn n) (h1 : kd < 32) (h2 : pn < 8) (h3 : n < 1000000) :
  EndsF (aFun Tryz.prog (aCode Tryz.prog X S0 g) 81 [.pointer (some ⟨hp, 0, none⟩), .int .u64 (.ofNat (placeW q))] μ) fun v μ' => v = .int .i64 (.ofNat n) ∧ Grow μ μ' := by
 obtain ⟨k, rfl⟩ := Nat.exists_eq_add_of_le' hg
 exact heap_size hH hq hN hw h1 h2 h3
theorem SP.at_ {μ μ' : Mem} {sp hp ap wb lb N L : Nat} {ws : Nat → Nat} {p : Pos} (h : SP μ sp hp ap wb lb N L ws p) (hn : μ.next ≤ μ'.next) (e1 : μ'.obs.get sp = μ.obs.get sp) (e2 : μ'.obs.get hp = μ.obs.get hp) (e3 : μ'.obs.get ap = μ.obs.get ap) (e4 : μ'.obs.get wb = μ.obs.get wb) (e5 : μ'.obs.get lb = μ.obs.get lb) : SP μ' sp hp ap wb lb N L ws p :=
 ⟨by rw [← h.sp0]; unfold cellsAt; rw [e1], Nat.lt_of_lt_of_le h.spn hn, h.s1, h.s2, h.s3,
  ⟨by rw [← h.hs.head]; unfold cellsAt; rw [e2], ⟨h.hs.ab.arena.keep e3 e4, h.hs.ab.lines.keep (by unfold cellsAt; rw [e3]) e5, h.hs.ab.blk.of_get e3, Nat.lt_of_lt_of_le h.hs.ab.n1 hn, Nat.lt_of_lt_of_le h.hs.ab.n2 hn, Nat.lt_of_lt_of_le h.hs.ab.n3 hn, h.hs.ab.d1, h.hs.ab.d2, h.hs.ab.N1, h.hs.ab.L1⟩, Nat.lt_of_lt_of_le h.hs.hn hn, h.hs.ha, h.hs.hw, h.hs.hl⟩,
  h.ac.keeps e3⟩
theorem SP.setw {μ μ' : Mem} {sp hp ap wb lb N L : Nat} {ws ws' : Nat → Nat} {p : Pos} (h : SP μ sp hp ap wb lb N L ws p) (hA : HeapAt μ' hp ap wb N ws') (hn : μ.next ≤ μ'.next) (hk : ∀ j, j < μ.next → j ≠ wb → μ'.obs.get j = μ.obs.get j) : SP μ' sp hp ap wb lb N L ws' p :=
 ⟨by rw [← h.sp0]; unfold cellsAt; rw [hk sp h.spn h.s2], Nat.lt_of_lt_of_le h.spn hn, h.s1, h.s2, h.s3,
  ⟨hA.head, h.hs.ab.setw hA.arena hn hk, Nat.lt_of_lt_of_le h.hs.hn hn, h.hs.ha, h.hs.hw, h.hs.hl⟩,
  h.ac.keeps (hk ap h.hs.ab.n1 h.hs.ab.arena.apart)⟩
def Wr (μ μ' : Mem) (wb : Nat) : Prop := μ.next ≤ μ'.next ∧ ∀ j, j < μ.next → j ≠ wb → μ'.obs.get j = μ.obs.get j
theorem Wr.trans {a b c : Mem} {wb : Nat} (h : Wr a b wb) (g : Wr b c wb) : Wr a c wb := ⟨Nat.le_trans h.1 g.1, fun j h1 h2 => (g.2 j (Nat.lt_of_lt_of_le h1 h.1) h2).trans (h.2 j h1 h2)⟩
theorem Wr.grow {a b : Mem} (wb : Nat) (h : Grow a b) : Wr a b wb := ⟨h.1, fun j h1 _ => h.2 j h1⟩
set_option maxRecDepth 20000 in
set_option maxHeartbeats 4000000 in
theorem object_ends {g sp hp ap wb lb N L q kd n li c : Nat} {f : Nat → Nat} {ws : Nat → Nat} {p p' : Pos} {μ : Mem} (hg : 600 ≤ g) (h : SP μ sp hp ap wb lb N L ws p)
  (hli : ∀ k, k < n → cellsAt μ li k = some (.int .u64 (.ofNat (f k)))) (hln : li < μ.next) (l1 : li ≠ ap) (l2 : li ≠ wb) (l3 : li ≠ lb) (h2 : kd < 16) (hn : n ≤ 240) (hq : q + n < N) (hal : Al X N L (n + 1) q p p') :
  EndsF (aFun Tryz.prog (aCode Tryz.prog X S0 g) 18 [.pointer (some ⟨sp, 0, none⟩), .int .i64 (.ofNat kd), .slice (some ⟨li, 0, none⟩) n c] μ) fun v μ' => v = .tuple #[.int .u64 (.ofNat (placeW q)), .bool true] ∧ SP μ' sp hp ap wb lb N L (obj ws q kd n f) p' ∧ Keeps μ μ' ap wb lb := by
 obtain ⟨k, rfl⟩ := Nat.exists_eq_add_of_le' hg
 have hr : ∀ g, 20 ≤ g → aFun Tryz.prog (aCode Tryz.prog X S0 g) 41 [.int .i64 (.ofNat kd)] μ = some (.bool false, μ) := fun g hg => by rw [rawb_eq hg (by omega), decide_eq_false (by omega)]
 obtain ⟨v1, μ1, t1, rfl, h1, k1⟩ := raw_al (X := X) (g := k + 596) (c := c) (by omega) h hli hln l1 l2 l3 (by omega : kd < 32) hn hq hal
 refine fun_enter Tryz.func18 rfl rfl (Nat.le_of_ble_eq_true rfl) ?_
 simp only [T.lay, Nat.zero_add, Tryz.ntmps18, Nat.reduceAdd]
 repeat (first | refine code_seq ?_ | ((first | (refine code_region ?_ ?_; (focus rfl)) | (refine code_guards (gs := ?_) ?_ ?_; rotate_left; (focus rfl))); simp only [run1, run2, wanted, go_sem, Nat.reduceLT, Nat.reduceAdd, Nat.reduceEqDiff, reduceIte, reduceCtorEq, gg41, hr, Nat.reduceLeDiff, gg42, t1]) | (refine code_cond_true ?_ ?_; (focus (simp only [aev, regAt_set, Nat.reduceEqDiff, reduceIte, gg41, hr, Nat.reduceLeDiff, gg42, t1]; done))) | (refine code_cond_false ?_ ?_; (focus (simp only [aev, regAt_set, Nat.reduceEqDiff, reduceIte, gg41, hr, Nat.reduceLeDiff, gg42, t1]; done))) | ((first | refine code_skip ?_ | refine code_label ?_ | refine code_exit ?_); try simp only [then_exit, then_normal, blockC, Nat.reduceEqDiff, reduceIte]) | refine code_block ?_)
 refine code_ret ?_
 refine ⟨rfl, _, ?_, rfl, h1, k1⟩
 simp only [aResults, Tryz.results18, aRes, regAt_set, Nat.reduceEqDiff, reduceIte]
theorem Rom.keeps {μ μ' : Mem} {ap wb lb : Nat} (h : Rom μ) (r : 7 ≠ ap ∧ 7 ≠ wb ∧ 7 ≠ lb) (g : Keeps μ μ' ap wb lb) : Rom μ' :=
 ⟨Nat.lt_of_lt_of_le h.lt g.1, fun k hk => by rw [← h.at_ k hk]; unfold cellsAt; rw [g.2 _ h.lt r.1 r.2.1 r.2.2]⟩
end
noncomputable section
variable {X : FuncId → List Value → Mem → Option (Value × Mem)}
set_option maxRecDepth 20000 in
set_option maxHeartbeats 4000000 in
theorem at_other {g hp w : Nat} {μ : Mem} (hg : 40 ≤ g) (hw : w < 9223372036854775808) (h1 : w % 8 ≠ 1) :
  EndsF (aFun Tryz.prog (aCode Tryz.prog X S0 g) 25 [.pointer (some ⟨hp, 0, none⟩), .int .u64 (.ofNat w)] μ) fun v μ' => v = .tuple #[.int .i64 0, .agg hd0L.toArray, .bool false] ∧ Grow μ μ' := by
 obtain ⟨k, rfl⟩ := Nat.exists_eq_add_of_le' hg
 obtain ⟨r, hr⟩ : ∃ r, r = w % 8 := ⟨_, rfl⟩
 have hk : ∀ (μ : Mem) g, 20 ≤ g → aFun Tryz.prog (aCode Tryz.prog X S0 g) 57 [.int .u64 (.ofNat w)] μ = some (.int .i64 (.ofNat r), μ) := fun μ g hg => by rw [hr]; exact kind_eq hg hw
 have e1 : ieq (.ofNat r) 1 = false := (ieq_lit1 r).trans (decide_eq_false (by omega))
 have hbd : ∀ ρ : Operand → Value, aBuild Tryz.prog ρ 86 #[] = some (.agg hd0L.toArray) := fun ρ => by
  refine build_struct (pl := [(0, 1), (1, 1), (2, 1)]) zH Tryz.underlying86 (by kernel_rfl) ?_
  rfl
 have hb : Blk ⟨μ.obs.set μ.next (.cells 3 86 #[.int .i64 0, .int .i64 0, .int .i64 0] .e 0 0 false false), μ.next + 1⟩ μ.next 3 86 := fresh_blk (Grow.refl _)
 have hst := store_puts (P := Tryz.prog) (t := 86) (vs := hd0L) iH rfl rfl hb (show 0 + hd0L.length ≤ 3 by decide)
 have hg : Grow μ (putL ⟨μ.obs.set μ.next (.cells 3 86 #[.int .i64 0, .int .i64 0, .int .i64 0] .e 0 0 false false), μ.next + 1⟩ μ.next 0 hd0L) := (grow1 μ _).put_new (Nat.le_refl _)
 have hh : Has (putL ⟨μ.obs.set μ.next (.cells 3 86 #[.int .i64 0, .int .i64 0, .int .i64 0] .e 0 0 false false), μ.next + 1⟩ μ.next 0 hd0L) μ.next 0 hd0L := Has.of_put hb (by decide)
 have hld := hh.load (P := Tryz.prog) (t := 86) Tryz.underlying86 iH rfl
 refine fun_enter Tryz.func25 rfl rfl (Nat.le_of_ble_eq_true rfl) ?_
 simp only [T.lay, Nat.zero_add, Tryz.ntmps25, Nat.reduceAdd]
 repeat (first | refine code_seq ?_ | ((first | (refine code_region ?_ ?_; (focus rfl)) | (refine code_guards (gs := ?_) ?_ ?_; rotate_left; (focus rfl))); simp only [run1, run2, wanted, go_sem, Nat.reduceLT, Nat.reduceAdd, Nat.reduceEqDiff, reduceIte, reduceCtorEq, alH, Nat.add_eq, gg57, hk, Nat.reduceLeDiff, e1, hbd, hst]) | (refine code_cond_true ?_ ?_; (focus (simp only [aev, regAt_set, Nat.reduceEqDiff, reduceIte, alH, Nat.add_eq, gg57, hk, Nat.reduceLeDiff, e1, hbd, hst]; done))) | (refine code_cond_false ?_ ?_; (focus (simp only [aev, regAt_set, Nat.reduceEqDiff, reduceIte, alH, Nat.add_eq, gg57, hk, Nat.reduceLeDiff, e1, hbd, hst]; done))) | ((first | refine code_skip ?_ | refine code_label ?_ | refine code_exit ?_); try simp only [then_exit, then_normal, blockC, Nat.reduceEqDiff, reduceIte]) | refine code_block ?_)
 refine code_ret ?_
 refine ⟨rfl, _, ?_, rfl, hg⟩
 simp only [aResults, Tryz.results25, aRes, regAt_set, Nat.reduceEqDiff, reduceIte]
 simp only [hld]
def NP (w : Nat) : Prop := (∃ n : Int, w = sw n) ∨ (w < 9223372036854775808 ∧ w % 8 ≠ 1)
theorem np_sw (n : Int) : NP (sw n) := .inl ⟨n, rfl⟩
theorem np_nil : NP 21 := .inr (by decide)
set_option maxRecDepth 20000 in
set_option maxHeartbeats 4000000 in
theorem hkind_np {g hp w : Nat} {μ : Mem} (hg : 60 ≤ g) (h : NP w) :
  EndsF (aFun Tryz.prog (aCode Tryz.prog X S0 g) 47 [.pointer (some ⟨hp, 0, none⟩), .int .u64 (.ofNat w)] μ) fun v μ' => v = .int .i64 (-1) ∧ Grow μ μ' := by
 rcases h with ⟨n, rfl⟩ | ⟨hw, h1⟩
 ·exact hkind_small hg
 obtain ⟨k, rfl⟩ := Nat.exists_eq_add_of_le' hg
 obtain ⟨v1, μ1, h1, rfl, g1⟩ := at_other (X := X) (g := k + 57) (hp := hp) (w := w) (μ := μ) (by omega) hw h1
 have hb : Blk ⟨μ1.obs.set μ1.next (.cells 3 86 #[.int .i64 0, .int .i64 0, .int .i64 0] .e 0 0 false false), μ1.next + 1⟩ μ1.next 3 86 := fresh_blk (Grow.refl _)
 have hst := store_puts (P := Tryz.prog) (t := 86) (vs := hd0L) iH rfl rfl hb (show 0 + hd0L.length ≤ 3 by decide)
 have hg : Grow μ1 (putL ⟨μ1.obs.set μ1.next (.cells 3 86 #[.int .i64 0, .int .i64 0, .int .i64 0] .e 0 0 false false), μ1.next + 1⟩ μ1.next 0 hd0L) := (grow1 μ1 _).put_new (Nat.le_refl _)
 refine fun_enter Tryz.func47 rfl rfl (Nat.le_of_ble_eq_true rfl) ?_
 simp only [T.lay, Nat.zero_add, Tryz.ntmps47, Nat.reduceAdd]
 repeat (first | refine code_seq ?_ | ((first | (refine code_region ?_ ?_; (focus rfl)) | (refine code_guards (gs := ?_) ?_ ?_; rotate_left; (focus rfl))); simp only [run1, run2, wanted, go_sem, Nat.reduceLT, Nat.reduceAdd, Nat.reduceEqDiff, reduceIte, reduceCtorEq, gg25, h1, alH, Nat.add_eq, hst]) | (refine code_cond_true ?_ ?_; (focus (simp only [aev, regAt_set, Nat.reduceEqDiff, reduceIte, gg25, h1, alH, Nat.add_eq, hst]; done))) | (refine code_cond_false ?_ ?_; (focus (simp only [aev, regAt_set, Nat.reduceEqDiff, reduceIte, gg25, h1, alH, Nat.add_eq, hst]; done))) | ((first | refine code_skip ?_ | refine code_label ?_ | refine code_exit ?_); try simp only [then_exit, then_normal, blockC, Nat.reduceEqDiff, reduceIte]) | refine code_block ?_)
 refine code_ret ?_
 refine ⟨rfl, _, ?_, rfl, g1.trans hg⟩
 simp only [aResults, Tryz.results47, aRes, regAt_set, Nat.reduceEqDiff, reduceIte]
theorem ieq_neg1 (n : Nat) : ieq (-1) (.ofNat n) = false := by
 rw [ieq_eq, beq_eq_false_iff_ne]
 intro h
 cases h
set_option maxRecDepth 20000 in
set_option maxHeartbeats 4000000 in
theorem fields_np {g sp hp kd w : Nat} {μ : Mem} (hg : 150 ≤ g) (hsp : cellsAt μ sp 0 = some (.pointer (some ⟨hp, 0, none⟩))) (h : NP w) :
  EndsF (aFun Tryz.prog (aCode Tryz.prog X S0 g) 44 [.pointer (some ⟨sp, 0, none⟩), .int .i64 (.ofNat kd), .int .u64 (.ofNat w)] μ) fun v μ' => v = .tuple #[.slice none 0 0, .bool false] ∧ Grow μ μ' := by
 obtain ⟨k, rfl⟩ := Nat.exists_eq_add_of_le' hg
 obtain ⟨v1, μ1, hk, rfl, hg1⟩ := hkind_np (X := X) (g := k + 146) (hp := hp) (μ := μ) (by omega) h
 have hd := ieq_neg1 kd
 refine fun_enter Tryz.func44 rfl rfl (Nat.le_of_ble_eq_true rfl) ?_
 simp only [T.lay, Nat.zero_add, Tryz.ntmps44, Nat.reduceAdd]
 refine code_seq ?_
 refine code_region ?_ ?_
 ·rfl
 simp only [run1, go_sem, Nat.reduceLT, Nat.reduceAdd, Nat.reduceEqDiff, reduceIte, reduceCtorEq]
 refine code_seq ?_
 refine code_seq ?_
 refine code_region ?_ ?_
 ·rfl
 simp only [run1, go_sem, Nat.reduceLT, Nat.reduceAdd, Nat.reduceEqDiff, reduceIte, reduceCtorEq, faS0, ldHp, hsp, gg47, hk, hd]
 refine code_cond_true ?_ ?_
 ·simp only [aev, regAt_set, Nat.reduceEqDiff, reduceIte]
 refine code_seq ?_
 refine code_region ?_ ?_
 ·rfl
 simp only [run1, go_sem, Nat.reduceLT, Nat.reduceAdd, Nat.reduceEqDiff, reduceIte, reduceCtorEq]
 refine code_ret ?_
 refine ⟨rfl, _, ?_, rfl, hg1⟩
 simp only [aResults, Tryz.results44, aRes, regAt_set, Nat.reduceEqDiff, reduceIte]
set_option maxRecDepth 20000 in
set_option maxHeartbeats 4000000 in
theorem asnum_other {g sp hp w : Nat} {μ : Mem} (hg : 400 ≤ g) (hsp : cellsAt μ sp 0 = some (.pointer (some ⟨hp, 0, none⟩))) (hsn : sp < μ.next) (hw : w < 9223372036854775808) (h1 : w % 8 ≠ 1) (h0 : w % 8 ≠ 0) :
  EndsF (aFun Tryz.prog (aCode Tryz.prog X S0 g) 83 [.pointer (some ⟨sp, 0, none⟩), .int .u64 (.ofNat w)] μ) fun v μ' => (∃ l : List Value, v = .tuple #[.agg l.toArray, .bool false] ∧ l.all one = true ∧ l.length = 4) ∧ Grow μ μ' := by
 obtain ⟨k, rfl⟩ := Nat.exists_eq_add_of_le' hg
 obtain ⟨l, hal, hbd, hlo, hll⟩ := alN
 have g0 := grow1 μ (.cells 4 38 l.toArray .e 0 0 false false)
 obtain ⟨μ0, hμ0⟩ : ∃ m : Mem, m = ⟨μ.obs.set μ.next (.cells 4 38 l.toArray .e 0 0 false false), μ.next + 1⟩ := ⟨_, rfl⟩
 rw [← hμ0] at g0
 have hob0 : μ0.obs.get μ.next = some (.cells 4 38 l.toArray .e 0 0 false false) := by rw [hμ0]; show T.get _ _ = _; rw [T.get_set, if_pos rfl]
 have hn0 : μ.next < μ0.next := by rw [hμ0]; exact Nat.lt_succ_self _
 have hμ0' : (⟨μ.obs.set μ.next (.cells 4 38 l.toArray .e 0 0 false false), Nat.add μ.next 1⟩ : Mem) = μ0 := hμ0.symm
 obtain ⟨r, hr⟩ : ∃ r, r = w % 8 := ⟨_, rfl⟩
 have hK : aFun Tryz.prog (aCode Tryz.prog X S0 (k + 396)) 57 [.int .u64 (.ofNat w)] μ0 = some (.int .i64 (.ofNat r), μ0) := by rw [hr]; exact kind_eq (by omega) hw
 have e0 : decide (r = 0) = false := decide_eq_false (by omega)
 obtain ⟨v1, μ1, hf, rfl, hg1⟩ := fields_np (X := X) (g := k + 395) (kd := 16) (by omega) ((gcell g0 hsn).trans hsp) (.inr ⟨hw, h1⟩)
 have hf : aFun Tryz.prog (aCode Tryz.prog X S0 (k + 395)) 44 [.pointer (some ⟨sp, 0, none⟩), .int .i64 16, .int .u64 (.ofNat w)] μ0 = some (.tuple #[.slice none 0 0, .bool false], μ1) := hf
 obtain ⟨v2, μ2, hf2, rfl, hg2⟩ := fields_np (X := X) (g := k + 395) (kd := 17) (by omega) ((gcell (g0.trans hg1) hsn).trans hsp) (.inr ⟨hw, h1⟩)
 have hf2 : aFun Tryz.prog (aCode Tryz.prog X S0 (k + 395)) 44 [.pointer (some ⟨sp, 0, none⟩), .int .i64 17, .int .u64 (.ofNat w)] μ1 = some (.tuple #[.slice none 0 0, .bool false], μ2) := hf2
 have hg12 := hg1.trans hg2
 have hob2 : μ2.obs.get μ.next = some (.cells 4 38 l.toArray .e 0 0 false false) := by rw [hg12.2 _ hn0]; exact hob0
 have hst := store_list (P := Tryz.prog) (t := 38) (vs := l) (o := 0) iN (by rw [hll]; rfl) hlo hob2 (by rw [hll]; exact Nat.le_refl _)
 have hld : aLoad Tryz.prog ⟨μ2.obs.set μ.next (.cells 4 38 l.toArray (T.lay .e 0 l) 0 0 false false), μ2.next⟩ 38 (.pointer (some ⟨μ.next, 0, none⟩)) = some (.agg l.toArray) := by
  have e : cellsFrom l.toArray (T.lay .e 0 l) 0 4 = l := cellsFrom_eq 4 0 l hll fun k hk => by
   rw [cellAt_lay, dif_pos ⟨by omega, by omega⟩]; simp
  rw [← congrArg (fun l => some (Value.agg l.toArray)) e]
  exact load_struct (P := Tryz.prog) (n := 4) Tryz.underlying38 iN (by show obCells (T.get _ _) = _; rw [T.get_set, if_pos rfl]; rfl) (by decide)
 refine fun_enter Tryz.func83 rfl rfl (Nat.le_of_ble_eq_true rfl) ?_
 simp only [T.lay, Nat.zero_add, Tryz.ntmps83, Nat.reduceAdd]
 refine code_seq ?_
 refine code_region ?_ ?_
 ·rfl
 simp only [run1, go_sem, Nat.reduceLT, Nat.reduceAdd, Nat.reduceEqDiff, reduceIte, reduceCtorEq, hal, hμ0']
 refine code_seq ?_
 refine code_seq ?_
 refine code_region ?_ ?_
 ·rfl
 simp only [run1, go_sem, Nat.reduceLT, Nat.reduceAdd, Nat.reduceEqDiff, reduceIte, reduceCtorEq, gg57, hK, ieq_lit0, e0]
 refine code_cond_false ?_ ?_
 ·simp only [aev, regAt_set, Nat.reduceEqDiff, reduceIte]
 refine code_skip ?_
 simp only [then_normal]
 refine code_seq ?_
 refine code_seq ?_
 refine code_region ?_ ?_
 ·rfl
 simp only [run1, go_sem, Nat.reduceLT, Nat.reduceAdd, Nat.reduceEqDiff, reduceIte, reduceCtorEq, gg44, hf]
 refine code_seq ?_
 refine code_guards (gs := ?_) ?_ ?_
 rotate_left
 ·rfl
 iterate 2 (refine run2_true (by first | rfl | (simp only [wanted, go_sem, Nat.reduceLT, Nat.reduceAdd, Nat.reduceEqDiff, reduceIte, reduceCtorEq])) (by simp only [go_sem, Nat.reduceLT, Nat.reduceAdd, Nat.reduceEqDiff, reduceIte, reduceCtorEq]; try exact rfl) rfl ?_)
 iterate 3 (refine run2_false (by simp only [wanted, go_sem, Nat.reduceLT, Nat.reduceAdd, Nat.reduceEqDiff, reduceIte, reduceCtorEq]) rfl ?_)
 refine run2_true (by first | rfl | (simp only [wanted, go_sem, Nat.reduceLT, Nat.reduceAdd, Nat.reduceEqDiff, reduceIte, reduceCtorEq])) (by simp only [go_sem, Nat.reduceLT, Nat.reduceAdd, Nat.reduceEqDiff, reduceIte, reduceCtorEq]; try exact rfl) rfl ?_
 simp only [run2, ends_some, then_normal]
 refine code_cond_false ?_ ?_
 ·simp only [aev, regAt_set, Nat.reduceEqDiff, reduceIte]
 refine code_skip ?_
 simp only [then_normal]
 refine code_seq ?_
 refine code_region ?_ ?_
 ·rfl
 simp only [run1, go_sem, Nat.reduceLT, Nat.reduceAdd, Nat.reduceEqDiff, reduceIte, reduceCtorEq, gg44, hf2]
 refine code_seq ?_
 refine code_seq ?_
 refine code_guards (gs := ?_) ?_ ?_
 rotate_left
 ·rfl
 iterate 3 (refine run2_true (by first | rfl | (simp only [wanted, go_sem, Nat.reduceLT, Nat.reduceAdd, Nat.reduceEqDiff, reduceIte, reduceCtorEq])) (by simp only [go_sem, Nat.reduceLT, Nat.reduceAdd, Nat.reduceEqDiff, reduceIte, reduceCtorEq]; try exact rfl) rfl ?_)
 iterate 3 (refine run2_false (by simp only [wanted, go_sem, Nat.reduceLT, Nat.reduceAdd, Nat.reduceEqDiff, reduceIte, reduceCtorEq]) rfl ?_)
 refine run2_true (by first | rfl | (simp only [wanted, go_sem, Nat.reduceLT, Nat.reduceAdd, Nat.reduceEqDiff, reduceIte, reduceCtorEq])) (by simp only [go_sem, Nat.reduceLT, Nat.reduceAdd, Nat.reduceEqDiff, reduceIte, reduceCtorEq]; try exact rfl) rfl ?_
 simp only [run2, ends_some, then_normal]
 refine code_cond_true ?_ ?_
 ·simp only [aev, regAt_set, Nat.reduceEqDiff, reduceIte]
 refine code_seq ?_
 refine code_region ?_ ?_
 ·rfl
 simp only [run1, go_sem, Nat.reduceLT, Nat.reduceAdd, Nat.reduceEqDiff, reduceIte, reduceCtorEq, hbd, hst]
 refine code_ret ?_
 refine ⟨rfl, .tuple #[.agg l.toArray, .bool false], ?_, ⟨l, rfl, hlo, hll⟩, ?_⟩
 ·simp only [aResults, Tryz.results83, aRes, regAt_set, Nat.reduceEqDiff, reduceIte, hld]
 ·exact ⟨Nat.le_trans g0.1 hg12.1, fun i hi => by show T.get _ i = _; rw [T.get_set, if_neg (by omega)]; exact (g0.trans hg12).2 i hi⟩
set_option maxRecDepth 20000 in
set_option maxHeartbeats 4000000 in
theorem eqv_other {g sp hp w : Nat} {a : Int} {μ : Mem} (hg : 500 ≤ g) (ha : Sm a) (hsp : cellsAt μ sp 0 = some (.pointer (some ⟨hp, 0, none⟩))) (hsn : sp < μ.next) (hw : w < 9223372036854775808) (h1 : w % 8 ≠ 1) (h0 : w % 8 ≠ 0) :
  EndsF (aFun Tryz.prog (aCode Tryz.prog X S0 g) 55 [.pointer (some ⟨sp, 0, none⟩), .int .u64 (.ofNat (sw a)), .int .u64 (.ofNat w)] μ) fun v μ' => v = .bool false ∧ Grow μ μ' := by
 obtain ⟨k, rfl⟩ := Nat.exists_eq_add_of_le' hg
 have hne : sw a ≠ w := by have := sw_mod a; omega
 have e1 : ieq (.ofNat (sw a)) (.ofNat w) = false := (ieq_nat _ _).trans (decide_eq_false hne)
 obtain ⟨v1, μ1, t1, g1, w1, rfl, l1⟩ := asnum_small (X := X) (g := k + 496) (sp := sp) (n := a) (μ := μ) (by omega) ha
 obtain ⟨μ2, s2, d2, g2, l2⟩ := tell36 (μ := μ1) (Grow.refl _) (l1.grow (grow1 μ1 ob36))
 obtain ⟨v3, μ3, t3, ⟨l, rfl, o3, e3⟩, g3⟩ := asnum_other (X := X) (g := k + 495) (μ := μ2) (by omega) ((gcell (g1.trans g2) hsn).trans hsp) (Nat.lt_of_lt_of_le hsn (g1.trans g2).1) hw h1 h0
 obtain ⟨μ4, s4, d4, g4, k4⟩ := num_store (μ := μ3) o3 e3 (Grow.refl _)
 refine fun_enter Tryz.func55 rfl rfl (Nat.le_of_ble_eq_true rfl) ?_
 simp only [T.lay, Nat.zero_add, Tryz.ntmps55, Nat.reduceAdd]
 repeat (first | refine code_seq ?_ | ((first | (refine code_region ?_ ?_; (focus rfl)) | (refine code_guards (gs := ?_) ?_ ?_; rotate_left; (focus rfl))); simp only [run1, run2, wanted, go_sem, Nat.reduceLT, Nat.reduceAdd, Nat.reduceEqDiff, reduceIte, reduceCtorEq, e1, gg83, t1, al36, Nat.add_eq, s2, t3, s4]) | (refine code_cond_true ?_ ?_; (focus (simp only [aev, regAt_set, Nat.reduceEqDiff, reduceIte, e1, gg83, t1, al36, Nat.add_eq, s2, t3, s4]; done))) | (refine code_cond_false ?_ ?_; (focus (simp only [aev, regAt_set, Nat.reduceEqDiff, reduceIte, e1, gg83, t1, al36, Nat.add_eq, s2, t3, s4]; done))) | ((first | refine code_skip ?_ | refine code_label ?_ | refine code_exit ?_); try simp only [then_exit, then_normal, blockC, Nat.reduceEqDiff, reduceIte]) | refine code_block ?_)
 refine code_ret ?_
 refine ⟨rfl, _, ?_, rfl, g1.trans (g2.trans (g3.trans g4))⟩
 simp only [aResults, Tryz.results55, aRes, regAt_set, Nat.reduceEqDiff, reduceIte]
end
end Go.Proofs.YtohkikbhgcgmfaaGreatDoor.vr
