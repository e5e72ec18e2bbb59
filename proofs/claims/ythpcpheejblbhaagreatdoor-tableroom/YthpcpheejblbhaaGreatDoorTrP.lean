/-
  distafflaw19.TableRoom, part P: its walk and its law. No conditions.
-/
import Derived.Test.YthpcpheejblbhaaGreatDoorEvSn
import Derived.Test.YthpcpheejblbhaaGreatDoorEvZd
import Derived.Test.YthpcpheejblbhaaGreatDoorRows
set_option linter.unusedSimpArgs false
set_option linter.unusedVariables false
set_option linter.unusedSectionVars false
namespace Go.Proofs.YthpcpheejblbhaaGreatDoor.tr
open Go Go.Proofs Go.Proofs.YthpcpheejblbhaaGreatDoor.Ev
noncomputable section
attribute [go_sem] aOne aP aR aA aT aCall aCallVal aev regAt_set aput_mk aput_none plainV aNilCheck aExtract aBin aInt Addr.add Nat.zero_add ends_some if_true then_normal if_false decide_true decide_false Bool.not_true Bool.not_false beq_self_eq_true beq_tf beq_ft aPick List.map_cons List.map_nil List.nil_append List.append_nil List.getElem?_cons_zero List.getElem?_cons_succ
def rom5 : List Value := (flatL 3 Rows.laid_internal_strconv_uint64pow10).getD []
def rom6 : List Value := (flatL 3 Rows.laid_internal_strconv_pow10Tab).getD []
def roms : List (Nat × List Value × TypeId) := [(6, rom6, 266), (5, rom5, 248)]
abbrev S0 : List (FuncId × LK) := [(4, .alive roms)]
section
set_option linter.defProp false
variable {X : FuncId → List Value → Mem → Option (Value × Mem)} {ev : Code → Rg → Mem → Option (Ax × Rg × Mem)}
def gg80 := go_call (P := Tryz.prog) (X := X) (ev := ev) (S := S0) Tryz.func80 rfl rfl
def gg139 := go_call (P := Tryz.prog) (X := X) (ev := ev) (S := S0) Tryz.func139 rfl rfl
def gg140 := go_call (P := Tryz.prog) (X := X) (ev := ev) (S := S0) Tryz.func140 rfl rfl
def gg174 := go_call (P := Tryz.prog) (X := X) (ev := ev) (S := S0) Tryz.func174 rfl rfl
def gg64 := go_call (P := Tryz.prog) (X := X) (ev := ev) (S := S0) Tryz.func64 rfl rfl
def gg73 := go_call (P := Tryz.prog) (X := X) (ev := ev) (S := S0) Tryz.func73 rfl rfl
def gg119 := go_call (P := Tryz.prog) (X := X) (ev := ev) (S := S0) Tryz.func119 rfl rfl
def gg102 := go_call (P := Tryz.prog) (X := X) (ev := ev) (S := S0) Tryz.func102 rfl rfl
def gg101 := go_call (P := Tryz.prog) (X := X) (ev := ev) (S := S0) Tryz.func101 rfl rfl
def gg99 := go_call (P := Tryz.prog) (X := X) (ev := ev) (S := S0) Tryz.func99 rfl rfl
def gg120 := go_call (P := Tryz.prog) (X := X) (ev := ev) (S := S0) Tryz.func120 rfl rfl
def gg100 := go_call (P := Tryz.prog) (X := X) (ev := ev) (S := S0) Tryz.func100 rfl rfl
def gg45 := go_call (P := Tryz.prog) (X := X) (ev := ev) (S := S0) Tryz.func45 rfl rfl
def gg43 := go_call (P := Tryz.prog) (X := X) (ev := ev) (S := S0) Tryz.func43 rfl rfl
def gg62 := go_call (P := Tryz.prog) (X := X) (ev := ev) (S := S0) Tryz.func62 rfl rfl
def gg54 := go_call (P := Tryz.prog) (X := X) (ev := ev) (S := S0) Tryz.func54 rfl rfl
def gg44 := go_call (P := Tryz.prog) (X := X) (ev := ev) (S := S0) Tryz.func44 rfl rfl
def gg63 := go_call (P := Tryz.prog) (X := X) (ev := ev) (S := S0) Tryz.func63 rfl rfl
def gg27 := go_call (P := Tryz.prog) (X := X) (ev := ev) (S := S0) Tryz.func27 rfl rfl
def gg52 := go_call (P := Tryz.prog) (X := X) (ev := ev) (S := S0) Tryz.func52 rfl rfl
def gg24 := go_call (P := Tryz.prog) (X := X) (ev := ev) (S := S0) Tryz.func24 rfl rfl
def gg23 := go_call (P := Tryz.prog) (X := X) (ev := ev) (S := S0) Tryz.func23 rfl rfl
def gg26 := go_call (P := Tryz.prog) (X := X) (ev := ev) (S := S0) Tryz.func26 rfl rfl
def gg25 := go_call (P := Tryz.prog) (X := X) (ev := ev) (S := S0) Tryz.func25 rfl rfl
def gg28 := go_call (P := Tryz.prog) (X := X) (ev := ev) (S := S0) Tryz.func28 rfl rfl
def gg47 := go_call (P := Tryz.prog) (X := X) (ev := ev) (S := S0) Tryz.func47 rfl rfl
def gg50 := go_call (P := Tryz.prog) (X := X) (ev := ev) (S := S0) Tryz.func50 rfl rfl
def gg72 := go_call (P := Tryz.prog) (X := X) (ev := ev) (S := S0) Tryz.func72 rfl rfl
def gg116 := go_call (P := Tryz.prog) (X := X) (ev := ev) (S := S0) Tryz.func116 rfl rfl
def gg42 := go_call (P := Tryz.prog) (X := X) (ev := ev) (S := S0) Tryz.func42 rfl rfl
def gg19 := go_call (P := Tryz.prog) (X := X) (ev := ev) (S := S0) Tryz.func19 rfl rfl
def gg93 := go_call (P := Tryz.prog) (X := X) (ev := ev) (S := S0) Tryz.func93 rfl rfl
def gg66 := go_call (P := Tryz.prog) (X := X) (ev := ev) (S := S0) Tryz.func66 rfl rfl
def gg41 := go_call (P := Tryz.prog) (X := X) (ev := ev) (S := S0) Tryz.func41 rfl rfl
def gg81 := go_call (P := Tryz.prog) (X := X) (ev := ev) (S := S0) Tryz.func81 rfl rfl
def gg173 := go_call (P := Tryz.prog) (X := X) (ev := ev) (S := S0) Tryz.func173 rfl rfl
def gg21 := go_call (P := Tryz.prog) (X := X) (ev := ev) (S := S0) Tryz.func21 rfl rfl
def gg8 := go_call (P := Tryz.prog) (X := X) (ev := ev) (S := S0) Tryz.func8 rfl rfl
def gg84 := go_call (P := Tryz.prog) (X := X) (ev := ev) (S := S0) Tryz.func84 rfl rfl
def gg172 := go_call (P := Tryz.prog) (X := X) (ev := ev) (S := S0) Tryz.func172 rfl rfl
def gg70 := go_call (P := Tryz.prog) (X := X) (ev := ev) (S := S0) Tryz.func70 rfl rfl
def gg103 := go_call (P := Tryz.prog) (X := X) (ev := ev) (S := S0) Tryz.func103 rfl rfl
def gg40 := go_call (P := Tryz.prog) (X := X) (ev := ev) (S := S0) Tryz.func40 rfl rfl
def gg104 := go_call (P := Tryz.prog) (X := X) (ev := ev) (S := S0) Tryz.func104 rfl rfl
def gg92 := go_call (P := Tryz.prog) (X := X) (ev := ev) (S := S0) Tryz.func92 rfl rfl
def gg97 := go_call (P := Tryz.prog) (X := X) (ev := ev) (S := S0) Tryz.func97 rfl rfl
def gg112 := go_call (P := Tryz.prog) (X := X) (ev := ev) (S := S0) Tryz.func112 rfl rfl
def gg113 := go_call (P := Tryz.prog) (X := X) (ev := ev) (S := S0) Tryz.func113 rfl rfl
def gg7 := go_call (P := Tryz.prog) (X := X) (ev := ev) (S := S0) Tryz.func7 rfl rfl
def gg6 := go_call (P := Tryz.prog) (X := X) (ev := ev) (S := S0) Tryz.func6 rfl rfl
def gg10 := go_call (P := Tryz.prog) (X := X) (ev := ev) (S := S0) Tryz.func10 rfl rfl
def gg9 := go_call (P := Tryz.prog) (X := X) (ev := ev) (S := S0) Tryz.func9 rfl rfl
def gg16 := go_call (P := Tryz.prog) (X := X) (ev := ev) (S := S0) Tryz.func16 rfl rfl
def gg20 := go_call (P := Tryz.prog) (X := X) (ev := ev) (S := S0) Tryz.func20 rfl rfl
def gg49 := go_call (P := Tryz.prog) (X := X) (ev := ev) (S := S0) Tryz.func49 rfl rfl
def gg53 := go_call (P := Tryz.prog) (X := X) (ev := ev) (S := S0) Tryz.func53 rfl rfl
def gg18 := go_call (P := Tryz.prog) (X := X) (ev := ev) (S := S0) Tryz.func18 rfl rfl
def gg22 := go_call (P := Tryz.prog) (X := X) (ev := ev) (S := S0) Tryz.func22 rfl rfl
def gg65 := go_call (P := Tryz.prog) (X := X) (ev := ev) (S := S0) Tryz.func65 rfl rfl
def gg138 := go_call (P := Tryz.prog) (X := X) (ev := ev) (S := S0) Tryz.func138 rfl rfl
def gg48 := go_call (P := Tryz.prog) (X := X) (ev := ev) (S := S0) Tryz.func48 rfl rfl
def gg83 := go_call (P := Tryz.prog) (X := X) (ev := ev) (S := S0) Tryz.func83 rfl rfl
def gg5 := go_call (P := Tryz.prog) (X := X) (ev := ev) (S := S0) Tryz.func5 rfl rfl
def gg71 := go_call (P := Tryz.prog) (X := X) (ev := ev) (S := S0) Tryz.func71 rfl rfl
def gg51 := go_call (P := Tryz.prog) (X := X) (ev := ev) (S := S0) Tryz.func51 rfl rfl
def gg82 := go_call (P := Tryz.prog) (X := X) (ev := ev) (S := S0) Tryz.func82 rfl rfl
def gg17 := go_call (P := Tryz.prog) (X := X) (ev := ev) (S := S0) Tryz.func17 rfl rfl
def gg39 := go_call (P := Tryz.prog) (X := X) (ev := ev) (S := S0) Tryz.func39 rfl rfl
def gg46 := go_call (P := Tryz.prog) (X := X) (ev := ev) (S := S0) Tryz.func46 rfl rfl
def gg38 := go_call (P := Tryz.prog) (X := X) (ev := ev) (S := S0) Tryz.func38 rfl rfl
def gg130 := go_call (P := Tryz.prog) (X := X) (ev := ev) (S := S0) Tryz.func130 rfl rfl
def gg111 := go_call (P := Tryz.prog) (X := X) (ev := ev) (S := S0) Tryz.func111 rfl rfl
def gg186 := go_call (P := Tryz.prog) (X := X) (ev := ev) (S := S0) Tryz.func186 rfl rfl
def gg164 := go_call (P := Tryz.prog) (X := X) (ev := ev) (S := S0) Tryz.func164 rfl rfl
def gg150 := go_call (P := Tryz.prog) (X := X) (ev := ev) (S := S0) Tryz.func150 rfl rfl
def gg149 := go_call (P := Tryz.prog) (X := X) (ev := ev) (S := S0) Tryz.func149 rfl rfl
def gg163 := go_call (P := Tryz.prog) (X := X) (ev := ev) (S := S0) Tryz.func163 rfl rfl
def gg146 := go_call (P := Tryz.prog) (X := X) (ev := ev) (S := S0) Tryz.func146 rfl rfl
def gg114 := go_call (P := Tryz.prog) (X := X) (ev := ev) (S := S0) Tryz.func114 rfl rfl
def gg118 := go_call (P := Tryz.prog) (X := X) (ev := ev) (S := S0) Tryz.func118 rfl rfl
def gg202 := go_call (P := Tryz.prog) (X := X) (ev := ev) (S := S0) Tryz.func202 rfl rfl
def gg94 := go_call (P := Tryz.prog) (X := X) (ev := ev) (S := S0) Tryz.func94 rfl rfl
def gg91 := go_call (P := Tryz.prog) (X := X) (ev := ev) (S := S0) Tryz.func91 rfl rfl
end
variable {X : FuncId → List Value → Mem → Option (Value × Mem)} {S : List (FuncId × LK)}
theorem iWs : Tryz.prog.info? 81 = some Tryz.t81 := by kernel_rfl
theorem iW : Tryz.prog.info? 27 = some Tryz.t27 := by kernel_rfl
theorem faA0 (ρ : Operand → Value) (x : Operand) : aFieldAddr Tryz.prog ρ 118 x 0 = (match ρ x with | .pointer (some a) => some (.pointer (some (a.add 0))) | _ => none) := fieldAddr_at (ft := 81) (off := 0) Tryz.underlying118 rfl iWs rfl ρ x
theorem ldWs (μ : Mem) (i o : Nat) : aLoad Tryz.prog μ 81 (.pointer (some ⟨i, o, none⟩)) = cellsAt μ i o := load_at Tryz.underlying81 rfl μ i o
theorem ldW (μ : Mem) (i o : Nat) : aLoad Tryz.prog μ 27 (.pointer (some ⟨i, o, none⟩)) = cellsAt μ i o := load_at Tryz.underlying27 rfl μ i o
structure Arena (μ : Mem) (ap wb N : Nat) (ws : Nat → Nat) : Prop where
 head : ∃ c, cellsAt μ ap 0 = some (.slice (some ⟨wb, 0, none⟩) N c)
 words : ∃ z ov fx sh, μ.obs.get wb = some (.cells N 27 z ov 0 0 fx sh) ∧ ∀ k, k < N → cellAt z ov k = .int .u64 (.ofNat (ws k))
 apart : ap ≠ wb
def put (ws : Nat → Nat) (at_ w : Nat) : Nat → Nat := fun k => if k = at_ then w else ws k
theorem ilt_z (q : Nat) : ilt (.ofNat q) 0 = false := rfl
set_option maxHeartbeats 4000000 in
theorem arena_set {k ap wb N q w : Nat} {ws : Nat → Nat} {μ : Mem} (hA : Arena μ ap wb N ws) (hq : q < N) :
  EndsF (aFun Tryz.prog (aCode Tryz.prog X S (k + 20)) 73 [.pointer (some ⟨ap, 0, none⟩), .int .i64 (.ofNat q), .int .u64 (.ofNat w)] μ) fun v μ' => v = .int .i64 0 ∧ Arena μ' ap wb N (put ws q w) ∧ μ'.next = μ.next ∧ ∀ i, i ≠ wb → μ'.obs.get i = μ.obs.get i := by
 obtain ⟨c, hl⟩ := hA.head
 obtain ⟨z, ov, fx, sh, hwb, hws⟩ := hA.words
 have hia : ∀ ρ : Operand → Value, ∀ a b, ρ a = .slice (some ⟨wb, 0, none⟩) N c → ρ b = .int .i64 (.ofNat q) → aIndexAddr Tryz.prog ρ 81 a b = some (.pointer (some ⟨wb, q, none⟩)) := fun ρ a b h1 h2 => by
  rw [indexAddr_slice (P := Tryz.prog) Tryz.underlying81 iW rfl h1 h2 hq, Nat.zero_add]
 have hst := store_one (P := Tryz.prog) (t := 27) (v := .int .u64 (.ofNat w)) iW rfl rfl hwb hq
 refine fun_enter Tryz.func73 rfl rfl (by show 3 ≤ 25; decide) ?_
 simp only [T.lay, Nat.zero_add, Tryz.ntmps73, Nat.reduceAdd]
 refine code_seq ?_
 refine code_region ?_ ?_
 ·rfl
 simp only [run1, aOne, aP, aev, regAt_set, aput_mk, ends_some, Nat.reduceLT, if_true, plainV, then_normal, Nat.reduceEqDiff, if_false, reduceIte]
 refine code_seq ?_
 refine code_seq ?_
 refine code_guards (gs := ?_) ?_ ?_
 rotate_left
 ·rfl
 simp only [run2, wanted, aOne, aP, aR, aA, aT, aCall, aev, regAt_set, aput_mk, plainV, aBin, aInt, ilt_z, ilt_nat, hq, aNilCheck, faA0, ldWs, hl, aBuiltin, aLen, Tryz.underlying81, cast_nat, aPick, Addr.add, Nat.zero_add,
  ends_some, Nat.reduceLT, if_true, then_normal, Nat.reduceEqDiff, if_false, reduceIte, reduceCtorEq, decide_true, decide_false, Bool.not_true, Bool.not_false, beq_self_eq_true, beq_tf, beq_ft]
 refine code_cond_false ?_ ?_
 ·simp only [aev, regAt_set, Nat.reduceEqDiff, reduceIte]
 refine code_skip ?_
 simp only [then_normal]
 refine code_seq ?_
 refine code_region ?_ ?_
 ·rfl
 simp only [run1, aOne, aP, aR, aA, aT, aCall, aev, regAt_set, aput_mk, aput_none, aNilCheck, faA0, ldWs, hl, hia, hst, Addr.add, Nat.zero_add,
  ends_some, Nat.reduceLT, if_true, then_normal, Nat.reduceEqDiff, if_false, reduceIte, reduceCtorEq]
 refine code_seq ?_
 refine code_region ?_ ?_
 ·rfl
 simp only [run1, aOne, aP, aev, regAt_set, aput_mk, ends_some, Nat.reduceLT, if_true, plainV, then_normal, Nat.reduceEqDiff, if_false, reduceIte]
 refine code_ret ?_
 refine ⟨rfl, .int .i64 0, ?_, rfl, ⟨⟨c, ?_⟩, ⟨z, ov.set q (.int .u64 (.ofNat w)), fx, sh, ?_, fun j hj => ?_⟩, hA.apart⟩, rfl, fun i hi => ?_⟩
 ·simp only [aResults, Tryz.results73, aRes, regAt_set, Nat.reduceEqDiff, reduceIte]
 ·rw [← hl]; unfold cellsAt; rw [T.get_set, if_neg hA.apart]
 ·show T.get _ wb = _
  rw [T.get_set, if_pos rfl]
 ·rw [cellAt_set]
  unfold put
  by_cases h : j = q
  ·rw [if_pos h, if_pos h]
  ·rw [if_neg h, if_neg h]; exact hws j hj
 ·show T.get _ i = _
  rw [T.get_set, if_neg hi]
end
noncomputable section
variable {X : FuncId → List Value → Mem → Option (Value × Mem)} {S : List (FuncId × LK)}
theorem Arena.cell {μ : Mem} {ap wb N : Nat} {ws : Nat → Nat} (hA : Arena μ ap wb N ws) {q : Nat} (hq : q < N) : cellsAt μ wb q = some (.int .u64 (.ofNat (ws q))) := by
 obtain ⟨z, ov, fx, sh, hwb, hws⟩ := hA.words
 rw [cellsAt_of (n := N) (z := z) (ov := ov) (by rw [hwb]; rfl) hq, hws q hq]
theorem Arena.keep {μ μ' : Mem} {ap wb N : Nat} {ws : Nat → Nat} (hA : Arena μ ap wb N ws) (h1 : μ'.obs.get ap = μ.obs.get ap) (h2 : μ'.obs.get wb = μ.obs.get wb) : Arena μ' ap wb N ws := by
 obtain ⟨c, hl⟩ := hA.head
 obtain ⟨z, ov, fx, sh, hwb, hws⟩ := hA.words
 exact ⟨⟨c, by rw [← hl]; unfold cellsAt; rw [h1]⟩, ⟨z, ov, fx, sh, h2.trans hwb, hws⟩, hA.apart⟩
set_option maxHeartbeats 4000000 in
theorem arena_get {k ap wb N q : Nat} {ws : Nat → Nat} {μ : Mem} (hA : Arena μ ap wb N ws) (hq : q < N) :
  EndsF (aFun Tryz.prog (aCode Tryz.prog X S (k + 20)) 64 [.pointer (some ⟨ap, 0, none⟩), .int .i64 (.ofNat q)] μ) fun v μ' => v = .tuple #[.int .u64 (.ofNat (ws q)), .int .i64 0] ∧ μ' = μ := by
 obtain ⟨c, hl⟩ := hA.head
 have hcell := hA.cell hq
 have hia : ∀ ρ : Operand → Value, ∀ a b, ρ a = .slice (some ⟨wb, 0, none⟩) N c → ρ b = .int .i64 (.ofNat q) → aIndexAddr Tryz.prog ρ 81 a b = some (.pointer (some ⟨wb, q, none⟩)) := fun ρ a b h1 h2 => by
  rw [indexAddr_slice (P := Tryz.prog) Tryz.underlying81 iW rfl h1 h2 hq, Nat.zero_add]
 refine fun_enter Tryz.func64 rfl rfl (by show 2 ≤ 24; decide) ?_
 simp only [T.lay, Nat.zero_add, Tryz.ntmps64, Nat.reduceAdd]
 refine code_seq ?_
 refine code_region ?_ ?_
 ·rfl
 simp only [run1, aOne, aP, aev, regAt_set, aput_mk, ends_some, Nat.reduceLT, if_true, plainV, then_normal, Nat.reduceEqDiff, if_false, reduceIte]
 refine code_seq ?_
 refine code_seq ?_
 refine code_guards (gs := ?_) ?_ ?_
 rotate_left
 ·rfl
 simp only [run2, wanted, aOne, aP, aR, aA, aT, aCall, aev, regAt_set, aput_mk, plainV, aBin, aInt, ilt_z, ilt_nat, hq, aNilCheck, faA0, ldWs, hl, aBuiltin, aLen, Tryz.underlying81, cast_nat, aPick, Addr.add, Nat.zero_add,
  ends_some, Nat.reduceLT, if_true, then_normal, Nat.reduceEqDiff, if_false, reduceIte, reduceCtorEq, decide_true, decide_false, Bool.not_true, Bool.not_false, beq_self_eq_true, beq_tf, beq_ft]
 refine code_cond_false ?_ ?_
 ·simp only [aev, regAt_set, Nat.reduceEqDiff, reduceIte]
 refine code_skip ?_
 simp only [then_normal]
 refine code_seq ?_
 refine code_region ?_ ?_
 ·rfl
 simp only [run1, aOne, aP, aR, aA, aT, aCall, aev, regAt_set, aput_mk, aput_none, aNilCheck, faA0, ldWs, ldW, hl, hia, hcell, plainV, Addr.add, Nat.zero_add,
  ends_some, Nat.reduceLT, if_true, then_normal, Nat.reduceEqDiff, if_false, reduceIte, reduceCtorEq]
 refine code_ret ?_
 refine ⟨rfl, _, ?_, rfl, rfl⟩
 simp only [aResults, Tryz.results64, aRes, regAt_set, Nat.reduceEqDiff, reduceIte]
end
noncomputable section
variable {X : FuncId → List Value → Mem → Option (Value × Mem)} {S : List (FuncId × LK)}
theorem land_u (m b : Nat) (hb : b ≤ 32) (h : m < 18446744073709551616) : aBits Nat.land .u64 .u64 (.ofNat m) (.ofNat (2 ^ b - 1)) = some (.int .u64 (.ofNat (m % 2 ^ b))) := by
 have h1 : Nat.blt m 18446744073709551616 = true := by simpa using h
 have hp : 2 ^ b ≤ 2 ^ 32 := Nat.pow_le_pow_right (by decide) hb
 have h2 : Nat.blt (2 ^ b - 1) 18446744073709551616 = true := by
  have : 2 ^ b - 1 < 18446744073709551616 := by omega
  simpa using this
 have h3 : Nat.land m (2 ^ b - 1) = m % 2 ^ b := Nat.and_two_pow_sub_one_eq_mod m b
 have h4 : m % 2 ^ b < 18446744073709551616 := Nat.lt_of_le_of_lt (Nat.mod_le _ _) h
 unfold aBits
 simp only [decide_true, wide64, h1, h2, h3, qu64 _ h4]
theorem land_i (m b : Nat) (hb : b ≤ 32) (h : m < 9223372036854775808) : aBits Nat.land .i64 .i64 (.ofNat m) (.ofNat (2 ^ b - 1)) = some (.int .i64 (.ofNat (m % 2 ^ b))) := by
 have h1 : Nat.blt m 18446744073709551616 = true := by simp; omega
 have hp : 2 ^ b ≤ 2 ^ 32 := Nat.pow_le_pow_right (by decide) hb
 have h2 : Nat.blt (2 ^ b - 1) 18446744073709551616 = true := by
  have : 2 ^ b - 1 < 18446744073709551616 := by omega
  simpa using this
 have h3 : Nat.land m (2 ^ b - 1) = m % 2 ^ b := Nat.and_two_pow_sub_one_eq_mod m b
 have h4 : m % 2 ^ b < 9223372036854775808 := Nat.lt_of_le_of_lt (Nat.mod_le _ _) h
 unfold aBits
 simp only [decide_true, wide64, h1, h2, h3, q64 _ h4]
theorem land7 (m : Nat) (h : m < 18446744073709551616) : aBits Nat.land .u64 .u64 (.ofNat m) 7 = some (.int .u64 (.ofNat (m % 8))) := land_u m 3 (by decide) h
theorem land7i (m : Nat) (h : m < 9223372036854775808) : aBits Nat.land .i64 .i64 (.ofNat m) 7 = some (.int .i64 (.ofNat (m % 8))) := land_i m 3 (by decide) h
theorem shr_u (m y : Nat) (hy : y ≤ 64) : aShift false .u64 (.ofNat m) (.ofNat y) = some (.int .u64 (.ofNat (m / 2 ^ y))) := by
 unfold aShift
 simp only [wide64, show Nat.ble y 64 = true from Nat.ble_eq_true_of_le hy]
 rfl
theorem shr_i (m y : Nat) (hy : y ≤ 64) : aShift false .i64 (.ofNat m) (.ofNat y) = some (.int .i64 (.ofNat (m / 2 ^ y))) := by
 unfold aShift
 simp only [wide64, show Nat.ble y 64 = true from Nat.ble_eq_true_of_le hy]
 rfl
theorem shr3 (m : Nat) : aShift false .u64 (.ofNat m) 3 = some (.int .u64 (.ofNat (m / 8))) := shr_u m 3 (by decide)
theorem shr3i (m : Nat) : aShift false .i64 (.ofNat m) 3 = some (.int .i64 (.ofNat (m / 8))) := shr_i m 3 (by decide)
theorem shr5i (m : Nat) : aShift false .i64 (.ofNat m) 5 = some (.int .i64 (.ofNat (m / 32))) := shr_i m 5 (by decide)
theorem shr8i (m : Nat) : aShift false .i64 (.ofNat m) 8 = some (.int .i64 (.ofNat (m / 256))) := shr_i m 8 (by decide)
theorem rem32 (m : Nat) : aDiv true .i64 .i64 (.ofNat m) 32 = some (.int .i64 (.ofNat (m % 32))) := rfl
theorem cvWi (n : Int) : aConvInt Tryz.prog 27 3 (.int .u64 n) = some (.int .i64 (qwrap .i64 n)) := by
 simp only [aConvInt, Tryz.underlying3, Tryz.underlying27]
theorem cviW (n : Int) : aConvInt Tryz.prog 3 27 (.int .i64 n) = some (.int .u64 (qwrap .u64 n)) := by
 simp only [aConvInt, Tryz.underlying3, Tryz.underlying27]
theorem ieq_00 : ieq 0 0 = true := rfl
theorem ieq_lit0 (m : Nat) : ieq (.ofNat m) 0 = decide (m = 0) := ieq_nat m 0
theorem ieq_lit1 (m : Nat) : ieq (.ofNat m) 1 = decide (m = 1) := ieq_nat m 1
theorem ieq_lit6 (m : Nat) : ieq (.ofNat m) 6 = decide (m = 6) := ieq_nat m 6
set_option maxHeartbeats 4000000 in
theorem word_kind {k m : Nat} {μ : Mem} (hm : m < 9223372036854775808) :
  EndsF (aFun Tryz.prog (aCode Tryz.prog X S (k + 20)) 51 [.int .u64 (.ofNat m)] μ) fun v μ' => v = .int .i64 (.ofNat (m % 8)) ∧ μ' = μ := by
 refine fun_enter Tryz.func51 rfl rfl (by show 1 ≤ 6; decide) ?_
 simp only [T.lay, Nat.zero_add, Tryz.ntmps51, Nat.reduceAdd]
 refine code_seq ?_
 refine code_region ?_ ?_
 ·rfl
 simp only [run1, aOne, aP, aev, regAt_set, aput_mk, ends_some, Nat.reduceLT, if_true, plainV, then_normal, Nat.reduceEqDiff, if_false, reduceIte]
 refine code_seq ?_
 refine code_region ?_ ?_
 ·rfl
 simp only [run1, aOne, aP, aev, regAt_set, aput_mk, plainV, aBin, aInt, land7 m (by omega), cvWi, q64 (m % 8) (by omega), ends_some, Nat.reduceLT, if_true, then_normal, Nat.reduceEqDiff, if_false, reduceIte]
 refine code_ret ?_
 refine ⟨rfl, _, ?_, rfl, rfl⟩
 simp only [aResults, Tryz.results51, aRes, regAt_set, Nat.reduceEqDiff, reduceIte]
set_option maxHeartbeats 4000000 in
theorem word_value {k m : Nat} {μ : Mem} (hm : m < 9223372036854775808) (h0 : m % 8 ≠ 0) :
  EndsF (aFun Tryz.prog (aCode Tryz.prog X S (k + 20)) 46 [.int .u64 (.ofNat m)] μ) fun v μ' => v = .int .i64 (.ofNat (m / 8)) ∧ μ' = μ := by
 refine fun_enter Tryz.func46 rfl rfl (by show 1 ≤ 12; decide) ?_
 simp only [T.lay, Nat.zero_add, Tryz.ntmps46, Nat.reduceAdd]
 refine code_seq ?_
 refine code_region ?_ ?_
 ·rfl
 simp only [run1, aOne, aP, aev, regAt_set, aput_mk, ends_some, Nat.reduceLT, if_true, plainV, then_normal, Nat.reduceEqDiff, if_false, reduceIte]
 refine code_seq ?_
 refine code_seq ?_
 refine code_region ?_ ?_
 ·rfl
 simp only [run1, aOne, aP, aev, regAt_set, aput_mk, plainV, aBin, aInt, land7 m (by omega), ieq_lit0, h0, decide_true, decide_false, ends_some, Nat.reduceLT, if_true, then_normal, Nat.reduceEqDiff, if_false, reduceIte]
 refine code_cond_false ?_ ?_
 ·simp only [aev, regAt_set, Nat.reduceEqDiff, reduceIte]
 refine code_skip ?_
 simp only [then_normal]
 refine code_seq ?_
 refine code_region ?_ ?_
 ·rfl
 simp only [run1, aOne, aP, aev, regAt_set, aput_mk, plainV, aBin, aInt, shr3, cvWi, q64 (m / 8) (by omega), ends_some, Nat.reduceLT, if_true, then_normal, Nat.reduceEqDiff, if_false, reduceIte]
 refine code_ret ?_
 refine ⟨rfl, _, ?_, rfl, rfl⟩
 simp only [aResults, Tryz.results46, aRes, regAt_set, Nat.reduceEqDiff, reduceIte]
end
noncomputable section
variable {X : FuncId → List Value → Mem → Option (Value × Mem)}
theorem kind_eq {f m : Nat} {μ : Mem} (hf : 20 ≤ f) (hm : m < 9223372036854775808) : aFun Tryz.prog (aCode Tryz.prog X S0 f) 51 [.int .u64 (.ofNat m)] μ = some (.int .i64 (.ofNat (m % 8)), μ) := by
 obtain ⟨k, rfl⟩ := Nat.exists_eq_add_of_le' hf
 exact ends_eq (word_kind hm)
theorem value_eq {f m : Nat} {μ : Mem} (hf : 20 ≤ f) (hm : m < 9223372036854775808) (h0 : m % 8 ≠ 0) : aFun Tryz.prog (aCode Tryz.prog X S0 f) 46 [.int .u64 (.ofNat m)] μ = some (.int .i64 (.ofNat (m / 8)), μ) := by
 obtain ⟨k, rfl⟩ := Nat.exists_eq_add_of_le' hf
 exact ends_eq (word_value hm h0)
theorem get_eq {f ap wb N q : Nat} {ws : Nat → Nat} {μ : Mem} (hf : 20 ≤ f) (hA : Arena μ ap wb N ws) (hq : q < N) : aFun Tryz.prog (aCode Tryz.prog X S0 f) 64 [.pointer (some ⟨ap, 0, none⟩), .int .i64 (.ofNat q)] μ = some (.tuple #[.int .u64 (.ofNat (ws q)), .int .i64 0], μ) := by
 obtain ⟨k, rfl⟩ := Nat.exists_eq_add_of_le' hf
 exact ends_eq (arena_get hA hq)
theorem iH : Tryz.prog.info? 122 = some Tryz.t122 := by kernel_rfl
theorem iA : Tryz.prog.info? 83 = some Tryz.t83 := by kernel_rfl
theorem i3 : Tryz.prog.info? 3 = some Tryz.t3 := by kernel_rfl
theorem zH : aZeroOf Tryz.prog 122 = some (.agg #[.int .i64 0, .int .i64 0, .int .i64 0]) := by unfold aZeroOf; rw [iH]; rfl
theorem alH : aAlloc Tryz.prog 122 = some (.cells 3 122 #[.int .i64 0, .int .i64 0, .int .i64 0] .e 0 0 false false, fun id => .pointer (some ⟨id, 0, none⟩)) := by unfold aAlloc; rw [zH]; rfl
theorem faH0 (ρ : Operand → Value) (x : Operand) : aFieldAddr Tryz.prog ρ 86 x 0 = (match ρ x with | .pointer (some a) => some (.pointer (some (a.add 0))) | _ => none) := fieldAddr_at (ft := 83) (off := 0) Tryz.underlying86 rfl iA rfl ρ x
theorem ldA (μ : Mem) (i o : Nat) : aLoad Tryz.prog μ 83 (.pointer (some ⟨i, o, none⟩)) = cellsAt μ i o := load_at Tryz.underlying83 rfl μ i o
theorem bdH {ρ : Operand → Value} {a b c : Operand} {x y z : Value} (h1 : ρ a = x) (h2 : ρ b = y) (h3 : ρ c = z) (o1 : one x = true) (o2 : one y = true) (o3 : one z = true) : aBuild Tryz.prog ρ 122 #[(0, a), (1, b), (2, c)] = some (.agg #[x, y, z]) := by
 refine build_struct (pl := [(0, 1), (1, 1), (2, 1)]) zH Tryz.underlying122 (by kernel_rfl) ?_
 show aFill _ [.int .i64 0, .int .i64 0, .int .i64 0] [(0, ρ a), (1, ρ b), (2, ρ c)] = some [x, y, z]
 rw [h1, h2, h3, aFill_one (off := 0) rfl o1 (by simp), aFill_one (off := 1) rfl o2 (by simp), aFill_one (off := 2) rfl o3 (by simp)]
 rfl
theorem bdH' (ρ : Operand → Value) (a b c : Operand) (o1 : one (ρ a) = true) (o2 : one (ρ b) = true) (o3 : one (ρ c) = true) : aBuild Tryz.prog ρ 122 #[(0, a), (1, b), (2, c)] = some (.agg #[ρ a, ρ b, ρ c]) := bdH rfl rfl rfl o1 o2 o3
def headW (kd pn n : Nat) : Nat := ((n * 256 + pn * 32 + kd) * 8) + 6
def placeW (q : Nat) : Nat := 8 * q + 1
structure HeapAt (μ : Mem) (hp ap wb N : Nat) (ws : Nat → Nat) : Prop where
 head : cellsAt μ hp 0 = some (.pointer (some ⟨ap, 0, none⟩))
 arena : Arena μ ap wb N ws
 h1 : hp < μ.next
 h2 : ap < μ.next
 h3 : wb < μ.next
 h4 : hp ≠ wb
theorem HeapAt.keep {μ μ' : Mem} {hp ap wb N : Nat} {ws : Nat → Nat} (h : HeapAt μ hp ap wb N ws) (hg : Grow μ μ') : HeapAt μ' hp ap wb N ws :=
 ⟨by rw [← h.head]; unfold cellsAt; rw [hg.2 hp h.h1], h.arena.keep (hg.2 ap h.h2) (hg.2 wb h.h3), Nat.lt_of_lt_of_le h.h1 hg.1, Nat.lt_of_lt_of_le h.h2 hg.1, Nat.lt_of_lt_of_le h.h3 hg.1, h.h4⟩
set_option maxHeartbeats 4000000 in
theorem heap_at {k hp ap wb N q kd pn n : Nat} {ws : Nat → Nat} {μ : Mem} (hH : HeapAt μ hp ap wb N ws) (hq : q < N) (hN : N < 1000000) (hw : ws q = headW kd pn n) (h1 : kd < 32) (h2 : pn < 8) (h3 : n < 1000000) :
  EndsF (aFun Tryz.prog (aCode Tryz.prog X S0 (k + 50)) 63 [.pointer (some ⟨hp, 0, none⟩), .int .u64 (.ofNat (placeW q))] μ) fun v μ' => v = .tuple #[.int .i64 (.ofNat q), .agg #[.int .i64 (.ofNat kd), .int .i64 (.ofNat pn), .int .i64 (.ofNat n)], .bool true] ∧ Grow μ μ' := by
 have hpw : placeW q < 9223372036854775808 := by unfold placeW; omega
 have hm8 : placeW q % 8 = 1 := by unfold placeW; omega
 have hd8 : placeW q / 8 = q := by unfold placeW; omega
 have hhw : headW kd pn n < 9223372036854775808 := by unfold headW; omega
 have e1 : headW kd pn n % 8 = 6 := by unfold headW; omega
 have e2 : headW kd pn n / 8 = n * 256 + pn * 32 + kd := by unfold headW; omega
 have e3 : (n * 256 + pn * 32 + kd) % 32 = kd := by omega
 have e4 : (n * 256 + pn * 32 + kd) / 32 % 8 = pn := by omega
 have e5 : (n * 256 + pn * 32 + kd) / 256 = n := by omega
 have hg1 : Grow μ ⟨μ.obs.set μ.next (.cells 3 122 #[.int .i64 0, .int .i64 0, .int .i64 0] .e 0 0 false false), Nat.add μ.next 1⟩ := ⟨Nat.le_succ _, fun i hi => by show T.get _ i = _; rw [T.get_set, if_neg (by omega)]⟩
 have hH1 := hH.keep hg1
 have hKq : ∀ f, 20 ≤ f → aFun Tryz.prog (aCode Tryz.prog X S0 f) 51 [.int .u64 (.ofNat (placeW q))] ⟨μ.obs.set μ.next (.cells 3 122 #[.int .i64 0, .int .i64 0, .int .i64 0] .e 0 0 false false), Nat.add μ.next 1⟩ = some (.int .i64 (.ofNat 1), ⟨μ.obs.set μ.next (.cells 3 122 #[.int .i64 0, .int .i64 0, .int .i64 0] .e 0 0 false false), Nat.add μ.next 1⟩) := fun f hf => by
  rw [kind_eq hf hpw, hm8]
 have hVq : ∀ f, 20 ≤ f → aFun Tryz.prog (aCode Tryz.prog X S0 f) 46 [.int .u64 (.ofNat (placeW q))] ⟨μ.obs.set μ.next (.cells 3 122 #[.int .i64 0, .int .i64 0, .int .i64 0] .e 0 0 false false), Nat.add μ.next 1⟩ = some (.int .i64 (.ofNat q), ⟨μ.obs.set μ.next (.cells 3 122 #[.int .i64 0, .int .i64 0, .int .i64 0] .e 0 0 false false), Nat.add μ.next 1⟩) := fun f hf => by
  rw [value_eq hf hpw (by omega), hd8]
 have hGq : ∀ f, 20 ≤ f → aFun Tryz.prog (aCode Tryz.prog X S0 f) 64 [.pointer (some ⟨ap, 0, none⟩), .int .i64 (.ofNat q)] ⟨μ.obs.set μ.next (.cells 3 122 #[.int .i64 0, .int .i64 0, .int .i64 0] .e 0 0 false false), Nat.add μ.next 1⟩ = some (.tuple #[.int .u64 (.ofNat (headW kd pn n)), .int .i64 0], ⟨μ.obs.set μ.next (.cells 3 122 #[.int .i64 0, .int .i64 0, .int .i64 0] .e 0 0 false false), Nat.add μ.next 1⟩) := fun f hf => by
  rw [get_eq hf hH1.arena hq, hw]
 refine fun_enter Tryz.func63 rfl rfl (by show 2 ≤ 46; decide) ?_
 simp only [T.lay, Nat.zero_add, Tryz.ntmps63, Nat.reduceAdd]
 refine code_seq ?_
 refine code_region ?_ ?_
 ·rfl
 simp only [run1, aOne, aP, aR, aA, alH, aev, regAt_set, aput_mk, ends_some, Nat.reduceLT, if_true, plainV, then_normal, Nat.reduceEqDiff, if_false, reduceIte]
 refine code_seq ?_
 refine code_seq ?_
 refine code_region ?_ ?_
 ·rfl
 simp only [run1, aOne, aP, aR, aA, aT, aCall, aCallVal, gg51, hKq, aev, regAt_set, aput_mk, plainV, aBin, aInt, ieq_lit1, ends_some, Nat.reduceLT, if_true, then_normal, Nat.reduceEqDiff, if_false, reduceIte, List.map_cons, List.map_nil, List.nil_append, List.append_nil, decide_true, Bool.not_true, Nat.reduceLeDiff]
 refine code_cond_false ?_ ?_
 ·simp only [aev, regAt_set, Nat.reduceEqDiff, reduceIte]
 refine code_skip ?_
 simp only [then_normal]
 refine code_seq ?_
 refine code_region ?_ ?_
 ·rfl
 simp only [run1, aOne, aP, aR, aA, aT, aCall, aCallVal, gg46, hVq, aev, regAt_set, aput_mk, plainV, ends_some, Nat.reduceLT, if_true, then_normal, Nat.reduceEqDiff, if_false, reduceIte, List.map_cons, List.map_nil, List.nil_append, List.append_nil, Nat.reduceLeDiff]
 refine code_seq ?_
 refine code_region ?_ ?_
 ·rfl
 simp only [run1, aOne, aP, aR, aA, aT, aCall, aCallVal, gg64, hGq, aNilCheck, faH0, ldA, hH1.head, aExtract, Addr.add, aev, regAt_set, aput_mk, plainV, ends_some, Nat.reduceLT, if_true, then_normal, Nat.reduceEqDiff, if_false, reduceIte, List.map_cons, List.map_nil, List.nil_append, List.append_nil, Nat.reduceLeDiff, List.getElem?_cons_zero, List.getElem?_cons_succ]
 refine code_seq ?_
 refine code_seq ?_
 refine code_guards (gs := ?_) ?_ ?_
 rotate_left
 ·rfl
 simp only [run2, wanted, aOne, aP, aR, aA, aT, aev, regAt_set, aput_mk, plainV, aBin, aInt, land7 _ (Nat.lt_trans hhw (by decide)), e1, ieq_00, ieq_lit6, ieq_lit0, aPick,
  ends_some, Nat.reduceLT, if_true, then_normal, Nat.reduceEqDiff, if_false, reduceIte, reduceCtorEq, decide_true, decide_false, Bool.not_true, Bool.not_false, beq_self_eq_true, beq_tf, beq_ft]
 refine code_cond_false ?_ ?_
 ·simp only [aev, regAt_set, Nat.reduceEqDiff, reduceIte]
 refine code_skip ?_
 simp only [then_normal]
 refine code_seq ?_
 refine code_region ?_ ?_
 ·rfl
 simp only [run1, aOne, aP, aR, aA, aT, aev, regAt_set, aput_mk, plainV, aBin, aInt, shr3, e2, cvWi, q64 (n * 256 + pn * 32 + kd) (by omega), ends_some, Nat.reduceLT, if_true, then_normal, Nat.reduceEqDiff, if_false, reduceIte, reduceCtorEq]
 refine code_seq ?_
 refine code_region ?_ ?_
 ·rfl
 have hst := store_list (P := Tryz.prog) (t := 122) (vs := [.int .i64 (.ofNat kd), .int .i64 (.ofNat pn), .int .i64 (.ofNat n)]) (μ := ⟨μ.obs.set μ.next (.cells 3 122 #[.int .i64 0, .int .i64 0, .int .i64 0] .e 0 0 false false), Nat.add μ.next 1⟩) (i := μ.next) (o := 0) iH rfl rfl (by rw [T.get_set, if_pos rfl]) (by simp)
 simp only [run1, aOne, aP, aR, aA, aT, aev, regAt_set, aput_mk, aput_none, plainV, aBin, aInt, rem32, shr5i, shr8i, land7i _ (Nat.lt_of_le_of_lt (Nat.div_le_self _ _) (by omega : n * 256 + pn * 32 + kd < 9223372036854775808)), e3, e4, e5, bdH', one, hst, ends_some, Nat.reduceLT, if_true, then_normal, Nat.reduceEqDiff, if_false, reduceIte, reduceCtorEq]
 refine code_ret ?_
 refine ⟨rfl, _, ?_, rfl, ?_⟩
 ·have hld := load_struct (P := Tryz.prog) (t := 122) (μ := ⟨(μ.obs.set μ.next (.cells 3 122 #[.int .i64 0, .int .i64 0, .int .i64 0] .e 0 0 false false)).set μ.next (.cells 3 122 #[.int .i64 0, .int .i64 0, .int .i64 0] (T.lay .e 0 [.int .i64 (.ofNat kd), .int .i64 (.ofNat pn), .int .i64 (.ofNat n)]) 0 0 false false), Nat.add μ.next 1⟩) (i := μ.next) (o := 0) (n := 3) (z := #[.int .i64 0, .int .i64 0, .int .i64 0]) (ov := T.lay .e 0 [.int .i64 (.ofNat kd), .int .i64 (.ofNat pn), .int .i64 (.ofNat n)]) Tryz.underlying122 iH (by rw [T.get_set, if_pos rfl]; rfl) (by decide)
  simp only [aResults, Tryz.results63, aRes, regAt_set, Nat.reduceEqDiff, reduceIte, hld]
  rfl
 ·refine ⟨Nat.le_succ _, fun i hi => ?_⟩
  show T.get _ i = _
  rw [T.get_set, if_neg (by omega), T.get_set, if_neg (by omega)]
end
noncomputable section
variable {X : FuncId → List Value → Mem → Option (Value × Mem)}
def hd0 : Ob := .cells 3 122 #[.int .i64 0, .int .i64 0, .int .i64 0] .e 0 0 false false
def hd1 (kd pn n : Nat) : Ob := .cells 3 122 #[.int .i64 0, .int .i64 0, .int .i64 0] (T.lay .e 0 [.int .i64 (.ofNat kd), .int .i64 (.ofNat pn), .int .i64 (.ofNat n)]) 0 0 false false
theorem alH0 : aAlloc Tryz.prog 122 = some (hd0, fun id => .pointer (some ⟨id, 0, none⟩)) := alH
theorem stH (t : T Ob) (x a kd pn n : Nat) : aStore Tryz.prog ⟨t.set a hd0, x⟩ 122 (.pointer (some ⟨a, 0, none⟩)) (.agg #[.int .i64 (.ofNat kd), .int .i64 (.ofNat pn), .int .i64 (.ofNat n)]) = some (undef, ⟨(t.set a hd0).set a (hd1 kd pn n), x⟩) :=
 store_list (P := Tryz.prog) (t := 122) (vs := [.int .i64 (.ofNat kd), .int .i64 (.ofNat pn), .int .i64 (.ofNat n)]) (μ := ⟨t.set a hd0, x⟩) (i := a) (o := 0) iH rfl rfl (by show T.get _ a = _; rw [T.get_set, if_pos rfl]; rfl) (by simp)
theorem cH (t : T Ob) (x a kd pn n : Nat) : obCells (Mem.obs ⟨(t.set a hd0).set a (hd1 kd pn n), x⟩ |>.get a) = some (3, #[.int .i64 0, .int .i64 0, .int .i64 0], T.lay .e 0 [.int .i64 (.ofNat kd), .int .i64 (.ofNat pn), .int .i64 (.ofNat n)]) := by
 show obCells (T.get _ a) = _
 rw [T.get_set, if_pos rfl]; rfl
theorem cH0 (t : T Ob) (x a kd pn n : Nat) : cellsAt ⟨(t.set a hd0).set a (hd1 kd pn n), x⟩ a 0 = some (.int .i64 (.ofNat kd)) := (cellsAt_of (cH t x a kd pn n) (by decide)).trans rfl
theorem cH2 (t : T Ob) (x a kd pn n : Nat) : cellsAt ⟨(t.set a hd0).set a (hd1 kd pn n), x⟩ a 2 = some (.int .i64 (.ofNat n)) := (cellsAt_of (cH t x a kd pn n) (by decide)).trans rfl
theorem ld3 (μ : Mem) (i o : Nat) : aLoad Tryz.prog μ 3 (.pointer (some ⟨i, o, none⟩)) = cellsAt μ i o := load_at Tryz.underlying3 rfl μ i o
theorem faD0 (ρ : Operand → Value) (x : Operand) : aFieldAddr Tryz.prog ρ 122 x 0 = (match ρ x with | .pointer (some a) => some (.pointer (some (a.add 0))) | _ => none) := fieldAddr_at (ft := 3) (off := 0) Tryz.underlying122 rfl i3 rfl ρ x
theorem faD2 (ρ : Operand → Value) (x : Operand) : aFieldAddr Tryz.prog ρ 122 x 2 = (match ρ x with | .pointer (some a) => some (.pointer (some (a.add 2))) | _ => none) := fieldAddr_at (ft := 3) (off := 2) Tryz.underlying122 rfl i3 rfl ρ x
theorem grow2 (μ : Mem) (o1 o2 : Ob) : Grow μ ⟨(μ.obs.set μ.next o1).set μ.next o2, Nat.add μ.next 1⟩ := ⟨Nat.le_succ _, fun i hi => by show T.get _ i = _; rw [T.get_set, if_neg (by omega), T.get_set, if_neg (by omega)]⟩
set_option maxHeartbeats 4000000 in
theorem heap_kind {k hp ap wb N q kd pn n : Nat} {ws : Nat → Nat} {μ : Mem} (hH : HeapAt μ hp ap wb N ws) (hq : q < N) (hN : N < 1000000) (hw : ws q = headW kd pn n) (h1 : kd < 32) (h2 : pn < 8) (h3 : n < 1000000) :
  EndsF (aFun Tryz.prog (aCode Tryz.prog X S0 (k + 80)) 43 [.pointer (some ⟨hp, 0, none⟩), .int .u64 (.ofNat (placeW q))] μ) fun v μ' => v = .int .i64 (.ofNat kd) ∧ Grow μ μ' := by
 refine fun_enter Tryz.func43 rfl rfl (by show 2 ≤ 19; decide) ?_
 simp only [T.lay, Nat.zero_add, Tryz.ntmps43, Nat.reduceAdd]
 refine code_seq ?_
 refine code_region ?_ ?_
 ·rfl
 simp only [run1, aOne, aP, aev, regAt_set, aput_mk, ends_some, Nat.reduceLT, if_true, plainV, then_normal, Nat.reduceEqDiff, if_false, reduceIte]
 refine code_seq ?_
 refine code_region ?_ ?_
 ·rfl
 obtain ⟨v1, μ1, hat, hv1, hg1⟩ := heap_at (X := X) (k := k + 27) hH hq hN hw h1 h2 h3
 subst hv1
 have hat : aFun Tryz.prog (aCode Tryz.prog X S0 (k + 77)) 63 [.pointer (some ⟨hp, 0, none⟩), .int .u64 (.ofNat (placeW q))] μ = some (.tuple #[.int .i64 (.ofNat q), .agg #[.int .i64 (.ofNat kd), .int .i64 (.ofNat pn), .int .i64 (.ofNat n)], .bool true], μ1) := hat
 simp only [run1, aOne, aP, aR, aA, aT, aCall, aCallVal, gg63, hat, aExtract, alH0, stH, aev, regAt_set, aput_mk, aput_none, plainV, ends_some, Nat.reduceLT, if_true, then_normal, Nat.reduceEqDiff, if_false, reduceIte, List.map_cons, List.map_nil, List.nil_append, List.append_nil, List.getElem?_cons_zero, List.getElem?_cons_succ]
 refine code_seq ?_
 refine code_seq ?_
 refine code_region ?_ ?_
 ·rfl
 simp only [run1, aOne, aP, aev, regAt_set, aput_mk, ends_some, Nat.reduceLT, if_true, plainV, then_normal, Nat.reduceEqDiff, if_false, reduceIte, Bool.not_true]
 refine code_cond_false ?_ ?_
 ·simp only [aev, regAt_set, Nat.reduceEqDiff, reduceIte]
 refine code_skip ?_
 simp only [then_normal]
 refine code_seq ?_
 refine code_region ?_ ?_
 ·rfl
 simp only [run1, aOne, aP, aR, aA, aT, faD0, ld3, cH0, Addr.add, aev, regAt_set, aput_mk, ends_some, Nat.reduceLT, if_true, plainV, then_normal, Nat.reduceEqDiff, if_false, reduceIte]
 refine code_ret ?_
 refine ⟨rfl, .int .i64 (.ofNat kd), ?_, rfl, hg1.trans (grow2 _ _ _)⟩
 simp only [aResults, Tryz.results43, aRes, regAt_set, Nat.reduceEqDiff, reduceIte]
set_option maxHeartbeats 4000000 in
theorem heap_size {k hp ap wb N q kd pn n : Nat} {ws : Nat → Nat} {μ : Mem} (hH : HeapAt μ hp ap wb N ws) (hq : q < N) (hN : N < 1000000) (hw : ws q = headW kd pn n) (h1 : kd < 32) (h2 : pn < 8) (h3 : n < 1000000) :
  EndsF (aFun Tryz.prog (aCode Tryz.prog X S0 (k + 80)) 44 [.pointer (some ⟨hp, 0, none⟩), .int .u64 (.ofNat (placeW q))] μ) fun v μ' => v = .int .i64 (.ofNat n) ∧ Grow μ μ' := by
 refine fun_enter Tryz.func44 rfl rfl (by show 2 ≤ 19; decide) ?_
 simp only [T.lay, Nat.zero_add, Tryz.ntmps44, Nat.reduceAdd]
 refine code_seq ?_
 refine code_region ?_ ?_
 ·rfl
 simp only [run1, aOne, aP, aev, regAt_set, aput_mk, ends_some, Nat.reduceLT, if_true, plainV, then_normal, Nat.reduceEqDiff, if_false, reduceIte]
 refine code_seq ?_
 refine code_region ?_ ?_
 ·rfl
 obtain ⟨v1, μ1, hat, hv1, hg1⟩ := heap_at (X := X) (k := k + 27) hH hq hN hw h1 h2 h3
 subst hv1
 have hat : aFun Tryz.prog (aCode Tryz.prog X S0 (k + 77)) 63 [.pointer (some ⟨hp, 0, none⟩), .int .u64 (.ofNat (placeW q))] μ = some (.tuple #[.int .i64 (.ofNat q), .agg #[.int .i64 (.ofNat kd), .int .i64 (.ofNat pn), .int .i64 (.ofNat n)], .bool true], μ1) := hat
 simp only [run1, aOne, aP, aR, aA, aT, aCall, aCallVal, gg63, hat, aExtract, alH0, stH, aev, regAt_set, aput_mk, aput_none, plainV, ends_some, Nat.reduceLT, if_true, then_normal, Nat.reduceEqDiff, if_false, reduceIte, List.map_cons, List.map_nil, List.nil_append, List.append_nil, List.getElem?_cons_zero, List.getElem?_cons_succ]
 refine code_seq ?_
 refine code_seq ?_
 refine code_region ?_ ?_
 ·rfl
 simp only [run1, aOne, aP, aev, regAt_set, aput_mk, ends_some, Nat.reduceLT, if_true, plainV, then_normal, Nat.reduceEqDiff, if_false, reduceIte, Bool.not_true]
 refine code_cond_false ?_ ?_
 ·simp only [aev, regAt_set, Nat.reduceEqDiff, reduceIte]
 refine code_skip ?_
 simp only [then_normal]
 refine code_seq ?_
 refine code_region ?_ ?_
 ·rfl
 simp only [run1, aOne, aP, aR, aA, aT, faD2, ld3, cH2, Addr.add, Nat.zero_add, aev, regAt_set, aput_mk, ends_some, Nat.reduceLT, if_true, plainV, then_normal, Nat.reduceEqDiff, if_false, reduceIte]
 refine code_ret ?_
 refine ⟨rfl, .int .i64 (.ofNat n), ?_, rfl, hg1.trans (grow2 _ _ _)⟩
 simp only [aResults, Tryz.results44, aRes, regAt_set, Nat.reduceEqDiff, reduceIte]
set_option maxHeartbeats 4000000 in
theorem heap_get {k hp ap wb N q kd pn n i : Nat} {ws : Nat → Nat} {μ : Mem} (hH : HeapAt μ hp ap wb N ws) (hq : q + n < N) (hN : N < 1000000) (hw : ws q = headW kd pn n) (h1 : kd < 32) (h2 : pn < 8) (hi : i < n) :
  EndsF (aFun Tryz.prog (aCode Tryz.prog X S0 (k + 80)) 45 [.pointer (some ⟨hp, 0, none⟩), .int .u64 (.ofNat (placeW q)), .int .i64 (.ofNat i)] μ) fun v μ' => v = .tuple #[.int .u64 (.ofNat (ws (q + 1 + i))), .int .i64 0] ∧ Grow μ μ' := by
 have hq' : q < N := by omega
 have h3 : n < 1000000 := by omega
 refine fun_enter Tryz.func45 rfl rfl (by show 3 ≤ 47; decide) ?_
 simp only [T.lay, Nat.zero_add, Tryz.ntmps45, Nat.reduceAdd]
 refine code_seq ?_
 refine code_region ?_ ?_
 ·rfl
 simp only [run1, aOne, aP, aev, regAt_set, aput_mk, ends_some, Nat.reduceLT, if_true, plainV, then_normal, Nat.reduceEqDiff, if_false, reduceIte]
 refine code_seq ?_
 refine code_region ?_ ?_
 ·rfl
 obtain ⟨v1, μ1, hat, hv1, hg1⟩ := heap_at (X := X) (k := k + 27) hH hq' hN hw h1 h2 h3
 subst hv1
 have hat : aFun Tryz.prog (aCode Tryz.prog X S0 (k + 77)) 63 [.pointer (some ⟨hp, 0, none⟩), .int .u64 (.ofNat (placeW q))] μ = some (.tuple #[.int .i64 (.ofNat q), .agg #[.int .i64 (.ofNat kd), .int .i64 (.ofNat pn), .int .i64 (.ofNat n)], .bool true], μ1) := hat
 have hg2 := hg1.trans (grow2 μ1 hd0 (hd1 kd pn n))
 have hH2 := hH.keep hg2
 have a1 : qwrap .i64 (Int.add (.ofNat q) 1) = .ofNat (q + 1) := add_nat q 1 (by omega)
 have a2 : qwrap .i64 (Int.add (.ofNat (q + 1)) (.ofNat i)) = .ofNat (q + 1 + i) := add_nat (q + 1) i (by omega)
 simp only [run1, aOne, aP, aR, aA, aT, aCall, aCallVal, gg63, hat, aExtract, alH0, stH, aev, regAt_set, aput_mk, aput_none, plainV, ends_some, Nat.reduceLT, if_true, then_normal, Nat.reduceEqDiff, if_false, reduceIte, List.map_cons, List.map_nil, List.nil_append, List.append_nil, List.getElem?_cons_zero, List.getElem?_cons_succ]
 refine code_seq ?_
 refine code_seq ?_
 refine code_guards (gs := ?_) ?_ ?_
 rotate_left
 ·rfl
 simp only [run2, wanted, aOne, aP, aR, aA, aT, faD2, ld3, cH2, aev, regAt_set, aput_mk, plainV, aBin, aInt, ilt_z, ilt_nat, hi, aPick, Addr.add, Nat.zero_add,
  ends_some, Nat.reduceLT, if_true, then_normal, Nat.reduceEqDiff, if_false, reduceIte, reduceCtorEq, decide_true, decide_false, Bool.not_true, Bool.not_false, beq_self_eq_true, beq_tf, beq_ft]
 refine code_cond_false ?_ ?_
 ·simp only [aev, regAt_set, Nat.reduceEqDiff, reduceIte]
 refine code_skip ?_
 simp only [then_normal]
 refine code_seq ?_
 refine code_region ?_ ?_
 ·rfl
 have hG : ∀ f, 20 ≤ f → aFun Tryz.prog (aCode Tryz.prog X S0 f) 64 [.pointer (some ⟨ap, 0, none⟩), .int .i64 (.ofNat (q + 1 + i))] ⟨(μ1.obs.set μ1.next hd0).set μ1.next (hd1 kd pn n), Nat.add μ1.next 1⟩ = some (.tuple #[.int .u64 (.ofNat (ws (q + 1 + i))), .int .i64 0], ⟨(μ1.obs.set μ1.next hd0).set μ1.next (hd1 kd pn n), Nat.add μ1.next 1⟩) := fun f hf => get_eq hf hH2.arena (by omega)
 simp only [run1, aOne, aP, aR, aA, aT, aCall, aCallVal, gg64, hG, aNilCheck, faH0, ldA, hH2.head, aExtract, aBin, aInt, a1, a2, Addr.add, Nat.zero_add, aev, regAt_set, aput_mk, plainV, ends_some, Nat.reduceLT, if_true, then_normal, Nat.reduceEqDiff, if_false, reduceIte, decide_true, List.map_cons, List.map_nil, List.nil_append, List.append_nil, List.getElem?_cons_zero, List.getElem?_cons_succ, Nat.reduceLeDiff]
 refine code_seq ?_
 refine code_seq ?_
 refine code_region ?_ ?_
 ·rfl
 simp only [run1, aOne, aP, aev, regAt_set, aput_mk, plainV, aBin, aInt, ieq_00, decide_true, Bool.not_true, ends_some, Nat.reduceLT, if_true, then_normal, Nat.reduceEqDiff, if_false, reduceIte]
 refine code_cond_false ?_ ?_
 ·simp only [aev, regAt_set, Nat.reduceEqDiff, reduceIte]
 refine code_skip ?_
 simp only [then_normal]
 refine code_seq ?_
 refine code_region ?_ ?_
 ·rfl
 simp only [run1, aOne, aP, aev, regAt_set, aput_mk, plainV, ends_some, Nat.reduceLT, if_true, then_normal, Nat.reduceEqDiff, if_false, reduceIte]
 refine code_ret ?_
 refine ⟨rfl, _, ?_, rfl, hg2⟩
 simp only [aResults, Tryz.results45, aRes, regAt_set, Nat.reduceEqDiff, reduceIte]
set_option maxHeartbeats 4000000 in
theorem heap_set {k hp ap wb N q kd pn n i w : Nat} {ws : Nat → Nat} {μ : Mem} (hH : HeapAt μ hp ap wb N ws) (hq : q + n < N) (hN : N < 1000000) (hw : ws q = headW kd pn n) (h1 : kd < 32) (h2 : pn < 8) (hi : i < n) :
  EndsF (aFun Tryz.prog (aCode Tryz.prog X S0 (k + 80)) 54 [.pointer (some ⟨hp, 0, none⟩), .int .u64 (.ofNat (placeW q)), .int .i64 (.ofNat i), .int .u64 (.ofNat w)] μ) fun v μ' => v = .int .i64 0 ∧ HeapAt μ' hp ap wb N (put ws (q + 1 + i) w) ∧ μ.next ≤ μ'.next ∧ ∀ j, j < μ.next → j ≠ wb → μ'.obs.get j = μ.obs.get j := by
 have hq' : q < N := by omega
 have h3 : n < 1000000 := by omega
 refine fun_enter Tryz.func54 rfl rfl (by show 4 ≤ 44; decide) ?_
 simp only [T.lay, Nat.zero_add, Tryz.ntmps54, Nat.reduceAdd]
 refine code_seq ?_
 refine code_region ?_ ?_
 ·rfl
 simp only [run1, aOne, aP, aev, regAt_set, aput_mk, ends_some, Nat.reduceLT, if_true, plainV, then_normal, Nat.reduceEqDiff, if_false, reduceIte]
 refine code_seq ?_
 refine code_region ?_ ?_
 ·rfl
 obtain ⟨v1, μ1, hat, hv1, hg1⟩ := heap_at (X := X) (k := k + 27) hH hq' hN hw h1 h2 h3
 subst hv1
 have hat : aFun Tryz.prog (aCode Tryz.prog X S0 (k + 77)) 63 [.pointer (some ⟨hp, 0, none⟩), .int .u64 (.ofNat (placeW q))] μ = some (.tuple #[.int .i64 (.ofNat q), .agg #[.int .i64 (.ofNat kd), .int .i64 (.ofNat pn), .int .i64 (.ofNat n)], .bool true], μ1) := hat
 have hg2 := hg1.trans (grow2 μ1 hd0 (hd1 kd pn n))
 have hH2 := hH.keep hg2
 have a1 : qwrap .i64 (Int.add (.ofNat q) 1) = .ofNat (q + 1) := add_nat q 1 (by omega)
 have a2 : qwrap .i64 (Int.add (.ofNat (q + 1)) (.ofNat i)) = .ofNat (q + 1 + i) := add_nat (q + 1) i (by omega)
 simp only [run1, aOne, aP, aR, aA, aT, aCall, aCallVal, gg63, hat, aExtract, alH0, stH, aev, regAt_set, aput_mk, aput_none, plainV, ends_some, Nat.reduceLT, if_true, then_normal, Nat.reduceEqDiff, if_false, reduceIte, List.map_cons, List.map_nil, List.nil_append, List.append_nil, List.getElem?_cons_zero, List.getElem?_cons_succ]
 obtain ⟨v2, μ3, hS, hv2, hA3, hn3, hk3⟩ := arena_set (X := X) (S := S0) (k := k + 55) (w := w) hH2.arena (q := q + 1 + i) (by omega)
 subst hv2
 have hS : aFun Tryz.prog (aCode Tryz.prog X S0 (k + 75)) 73 [.pointer (some ⟨ap, 0, none⟩), .int .i64 (.ofNat (q + 1 + i)), .int .u64 (.ofNat w)] ⟨(μ1.obs.set μ1.next hd0).set μ1.next (hd1 kd pn n), Nat.add μ1.next 1⟩ = some (.int .i64 0, μ3) := hS
 refine code_seq ?_
 refine code_seq ?_
 refine code_guards (gs := ?_) ?_ ?_
 rotate_left
 ·rfl
 simp only [run2, wanted, aOne, aP, aR, aA, aT, aCall, aCallVal, gg73, hS, faD2, ld3, cH2, aNilCheck, faH0, ldA, hH2.head, a1, a2, ieq_00, aev, regAt_set, aput_mk, plainV, aBin, aInt, ilt_z, ilt_nat, hi, aPick, Addr.add, Nat.zero_add, List.map_cons, List.map_nil, List.nil_append, List.append_nil,
  ends_some, Nat.reduceLT, if_true, then_normal, Nat.reduceEqDiff, if_false, reduceIte, reduceCtorEq, decide_true, decide_false, Bool.not_true, Bool.not_false, beq_self_eq_true, beq_tf, beq_ft]
 refine code_cond_false ?_ ?_
 ·simp only [aev, regAt_set, Nat.reduceEqDiff, reduceIte]
 refine code_skip ?_
 simp only [then_normal]
 refine code_seq ?_
 refine code_region ?_ ?_
 ·rfl
 simp only [run1, aOne, aP, aev, regAt_set, aput_mk, plainV, ends_some, Nat.reduceLT, if_true, then_normal, Nat.reduceEqDiff, if_false, reduceIte]
 refine code_ret ?_
 have hle : μ.next ≤ μ3.next := by rw [hn3]; exact hg2.1
 refine ⟨rfl, .int .i64 0, ?_, rfl, ⟨?_, hA3, Nat.lt_of_lt_of_le hH.h1 hle, Nat.lt_of_lt_of_le hH.h2 hle, Nat.lt_of_lt_of_le hH.h3 hle, hH.h4⟩, hle, fun j hj hjw => (hk3 j hjw).trans (hg2.2 j hj)⟩
 ·simp only [aResults, Tryz.results54, aRes, regAt_set, Nat.reduceEqDiff, reduceIte]
 ·rw [← hH.head]
  unfold cellsAt
  rw [hk3 hp hH.h4, hg2.2 hp hH.h1]
end
noncomputable section
variable {X : FuncId → List Value → Mem → Option (Value × Mem)}
theorem quo16 (m : Nat) (h : m < 4611686018427387904) : aDiv false .i64 .i64 (.ofNat m) 16 = some (.int .i64 (.ofNat (m / 16))) := by
 show some (Value.int .i64 (qwrap .i64 (.ofNat (m / 16)))) = _
 rw [q64 _ (by omega)]
theorem quo256 (m : Nat) (h : m < 4611686018427387904) : aDiv false .i64 .i64 (.ofNat m) 256 = some (.int .i64 (.ofNat (m / 256))) := by
 show some (Value.int .i64 (qwrap .i64 (.ofNat (m / 256)))) = _
 rw [q64 _ (by omega)]
theorem cellAt_lay (z : Array Value) (ov : T Value) (o k : Nat) (vs : List Value) : cellAt z (ov.lay o vs) k = if h : o ≤ k ∧ k < o + vs.length then vs[k - o]'(by omega) else cellAt z ov k := by
 unfold cellAt
 rw [T.get_lay]
 by_cases h : o ≤ k ∧ k < o + vs.length
 ·rw [if_pos h, dif_pos h, List.getElem?_eq_getElem (by omega)]
 ·rw [if_neg h, dif_neg h]
theorem iR : Tryz.prog.info? 116 = some Tryz.t116 := by kernel_rfl
theorem faR0 (ρ : Operand → Value) (x : Operand) : aFieldAddr Tryz.prog ρ 116 x 0 = (match ρ x with | .pointer (some a) => some (.pointer (some (a.add 0))) | _ => none) := fieldAddr_at (ft := 3) (off := 0) Tryz.underlying116 rfl i3 rfl ρ x
theorem faR1 (ρ : Operand → Value) (x : Operand) : aFieldAddr Tryz.prog ρ 116 x 1 = (match ρ x with | .pointer (some a) => some (.pointer (some (a.add 1))) | _ => none) := fieldAddr_at (ft := 3) (off := 1) Tryz.underlying116 rfl i3 rfl ρ x
theorem blk_up {t : T Ob} {n m i a b : Nat} (h : Blk ⟨t, n⟩ i a b) : Blk ⟨t, m⟩ i a b := h
set_option maxHeartbeats 4000000 in
theorem take_no {k ap o f t n : Nat} {μ : Mem} (hf : cellsAt μ ap o = some (.int .i64 (.ofNat f))) (ht : cellsAt μ ap (o + 1) = some (.int .i64 (.ofNat t))) (hft : f ≤ t) (hT : t < 4611686018427387904) (hn : t - f < n) :
  EndsF (aFun Tryz.prog (aCode Tryz.prog X S0 (k + 20)) 100 [.pointer (some ⟨ap, o, none⟩), .int .i64 (.ofNat n)] μ) fun v μ' => v = .tuple #[.int .i64 0, .bool false] ∧ μ' = ⟨μ.obs, μ.next + 11⟩ := by
 have a1 := sub_nat t f hft hT
 have hf' : ∀ m, cellsAt ⟨μ.obs, m⟩ ap o = some (.int .i64 (.ofNat f)) := fun m => hf
 have ht' : ∀ m, cellsAt ⟨μ.obs, m⟩ ap (o + 1) = some (.int .i64 (.ofNat t)) := fun m => ht
 refine fun_enter Tryz.func100 rfl rfl (Nat.le_of_ble_eq_true rfl) ?_
 simp only [T.lay, Nat.zero_add, Tryz.ntmps100, Nat.reduceAdd]
 refine code_seq ?_
 refine code_region ?_ ?_
 ·rfl
 simp only [run1, go_sem, Nat.reduceLT, Nat.reduceAdd, Nat.reduceEqDiff, reduceIte, reduceCtorEq]
 refine code_seq ?_
 refine code_seq ?_
 refine code_draw (n := 11) (ms := [0, 1, 3, 7, 0, 16, 48, 112, 255, 0, 1023]) (ord := [0, 1, 2, 3, 4, 5, 6, 7, 8, 9, 10]) (ds := ?_) ?_ ?_ ?_ ?_ ?_ ?_
 rotate_left
 ·kernel_rfl
 ·kernel_rfl
 ·kernel_rfl
 ·rfl
 ·rfl
 simp only [dRun, wanted, aDrawOne, heavy, aP, aReads, aR, aev, regAt_set, aput_mk, aNilCheck, faR0, faR1, ld3, Addr.add, Nat.add_zero, hf', ht', aBin, aInt, a1, ilt_nat, hn, endsD_some, Nat.reduceLT, if_true, then_normal, Nat.reduceEqDiff, if_false, reduceIte, decide_true]
 refine code_cond_true ?_ ?_
 ·simp only [aev, regAt_set, Nat.reduceEqDiff, reduceIte]
 refine code_seq ?_
 refine code_region ?_ ?_
 ·rfl
 simp only [run1, go_sem, Nat.reduceLT, Nat.reduceAdd, Nat.reduceEqDiff, reduceIte, reduceCtorEq]
 refine code_ret ?_
 refine ⟨rfl, _, ?_, rfl, rfl⟩
 simp only [aResults, Tryz.results100, aRes, regAt_set, Nat.reduceEqDiff, reduceIte]
set_option maxHeartbeats 4000000 in
theorem take_ok {k ap o f t n c te : Nat} {μ : Mem} (hb : Blk μ ap c te) (ho : o < c) (hf : cellsAt μ ap o = some (.int .i64 (.ofNat f))) (ht : cellsAt μ ap (o + 1) = some (.int .i64 (.ofNat t))) (hft : f ≤ t) (hT : t < 4611686018427387904) (hn : f + n ≤ t) :
  EndsF (aFun Tryz.prog (aCode Tryz.prog X S0 (k + 20)) 100 [.pointer (some ⟨ap, o, none⟩), .int .i64 (.ofNat n)] μ) fun v μ' => v = .tuple #[.int .i64 (.ofNat f), .bool true] ∧ μ' = putL ⟨μ.obs, μ.next + 11⟩ ap o [.int .i64 (.ofNat (f + n))] := by
 have a1 := sub_nat t f hft hT
 have a2 := add_nat f n (by omega)
 have hn' : ¬ t - f < n := by omega
 have hf' : ∀ m, cellsAt ⟨μ.obs, m⟩ ap o = some (.int .i64 (.ofNat f)) := fun m => hf
 have ht' : ∀ m, cellsAt ⟨μ.obs, m⟩ ap (o + 1) = some (.int .i64 (.ofNat t)) := fun m => ht
 have hst := store_put (t := 3) (v := .int .i64 (.ofNat (f + n))) (μ := ⟨μ.obs, μ.next + 11⟩) i3 rfl rfl (blk_up hb) ho
 refine fun_enter Tryz.func100 rfl rfl (Nat.le_of_ble_eq_true rfl) ?_
 simp only [T.lay, Nat.zero_add, Tryz.ntmps100, Nat.reduceAdd]
 refine code_seq ?_
 refine code_region ?_ ?_
 ·rfl
 simp only [run1, go_sem, Nat.reduceLT, Nat.reduceAdd, Nat.reduceEqDiff, reduceIte, reduceCtorEq]
 refine code_seq ?_
 refine code_seq ?_
 refine code_draw (n := 11) (ms := [0, 1, 3, 7, 0, 16, 48, 112, 255, 0, 1023]) (ord := [0, 1, 2, 3, 4, 5, 6, 7, 8, 9, 10]) (ds := ?_) ?_ ?_ ?_ ?_ ?_ ?_
 rotate_left
 ·kernel_rfl
 ·kernel_rfl
 ·kernel_rfl
 ·rfl
 ·rfl
 simp only [dRun, wanted, aDrawOne, heavy, aP, aReads, aR, aev, regAt_set, aput_mk, aNilCheck, faR0, faR1, ld3, Addr.add, Nat.add_zero, hf', ht', aBin, aInt, a1, ilt_nat, hn', endsD_some, Nat.reduceLT, if_true, then_normal, Nat.reduceEqDiff, if_false, reduceIte, decide_true, decide_false]
 refine code_cond_false ?_ ?_
 ·simp only [aev, regAt_set, Nat.reduceEqDiff, reduceIte]
 refine code_skip ?_
 simp only [then_normal]
 refine code_seq ?_
 refine code_region ?_ ?_
 ·rfl
 simp only [run1, go_sem, Nat.reduceLT, Nat.reduceAdd, Nat.reduceEqDiff, reduceIte, reduceCtorEq, faR0, ld3, hf', Nat.add_zero]
 refine code_seq ?_
 refine code_region ?_ ?_
 ·rfl
 simp only [run1, go_sem, Nat.reduceLT, Nat.reduceAdd, Nat.reduceEqDiff, reduceIte, reduceCtorEq, faR0, ld3, hf', Nat.add_zero, a2, hst]
 refine code_seq ?_
 refine code_region ?_ ?_
 ·rfl
 simp only [run1, go_sem, Nat.reduceLT, Nat.reduceAdd, Nat.reduceEqDiff, reduceIte, reduceCtorEq]
 refine code_ret ?_
 refine ⟨rfl, _, ?_, rfl, rfl⟩
 simp only [aResults, Tryz.results100, aRes, regAt_set, Nat.reduceEqDiff, reduceIte]
end
noncomputable section
variable {X : FuncId → List Value → Mem → Option (Value × Mem)}
theorem iLs : Tryz.prog.info? 114 = some Tryz.t114 := by kernel_rfl
theorem iL : Tryz.prog.info? 180 = some Tryz.t180 := by kernel_rfl
theorem i4 : Tryz.prog.info? 4 = some Tryz.t4 := by kernel_rfl
theorem faA1 (ρ : Operand → Value) (x : Operand) : aFieldAddr Tryz.prog ρ 118 x 1 = (match ρ x with | .pointer (some a) => some (.pointer (some (a.add 1))) | _ => none) := fieldAddr_at (ft := 114) (off := 1) Tryz.underlying118 rfl iLs rfl ρ x
theorem faL0 (ρ : Operand → Value) (x : Operand) : aFieldAddr Tryz.prog ρ 180 x 0 = (match ρ x with | .pointer (some a) => some (.pointer (some (a.add 0))) | _ => none) := fieldAddr_at (ft := 4) (off := 0) Tryz.underlying180 rfl i4 rfl ρ x
theorem ldLs (μ : Mem) (i o : Nat) : aLoad Tryz.prog μ 114 (.pointer (some ⟨i, o, none⟩)) = cellsAt μ i o := load_at Tryz.underlying114 rfl μ i o
theorem ld4 (μ : Mem) (i o : Nat) : aLoad Tryz.prog μ 4 (.pointer (some ⟨i, o, none⟩)) = cellsAt μ i o := load_at Tryz.underlying4 rfl μ i o
structure Lines (μ : Mem) (ap lb L : Nat) (ln : Nat → Bool) : Prop where
 head : ∃ c, cellsAt μ ap 1 = some (.slice (some ⟨lb, 0, none⟩) L (2 * c)) ∧ L ≤ c
 blk : Blk μ lb (2 * L) 180
 ln : ∀ k, k < L → cellsAt μ lb (k * 2) = some (.bool (ln k))
 mrk : ∀ k, k < L → ∃ b, cellsAt μ lb (k * 2 + 1) = some (.bool b)
set_option maxHeartbeats 4000000 in
theorem hole_loop {ap lb L f t : Nat} {ln : Nat → Bool} {μ : Mem} (hL : Lines μ ap lb L ln) (h16 : f % 16 = 0) (ht : t = f + 16) (htL : t < L) (hT : L < 1000000) (hf : ∀ k, f ≤ k → k < t → ln k = false) :
  ∀ (e m p : Nat) (tm : T Value), p + m = t → f ≤ p → regAt tm 0 = .pointer (some ⟨ap, 0, none⟩) → regAt tm 1 = .int .i64 (.ofNat f) → regAt tm 5 = .int .i64 (.ofNat p) →
   EndsC (aCode Tryz.prog X S0 (e + m + 20) (.loop (loopBody Tryz.f120 0)) ⟨35, tm, [], none⟩ μ) fun x r μ' => x = .exit 0 ∧ μ' = μ ∧ ∃ tm', r = ⟨35, tm', [], none⟩ ∧ regAt tm' 5 = .int .i64 (.ofNat t) := by
 obtain ⟨c, hl, hc⟩ := hL.head
 obtain ⟨df, hdf⟩ : ∃ d, d = f / 16 := ⟨_, rfl⟩
 have q2 : aDiv false .i64 .i64 (.ofNat f) 16 = some (.int .i64 (.ofNat df)) := hdf ▸ quo16 f (by omega)
 intro e m
 induction m with
 | zero =>
   intro p tm hj hp h0 h1 h5
   obtain rfl : p = t := hj
   obtain ⟨dp, hdp⟩ : ∃ d, d = p / 16 := ⟨_, rfl⟩
   have q1 : aDiv false .i64 .i64 (.ofNat p) 16 = some (.int .i64 (.ofNat dp)) := hdp ▸ quo16 p (by omega)
   have hne : decide (dp = df) = false := decide_eq_false (by omega)
   refine code_loop ?_
   refine code_seq ?_
   refine code_seq ?_
   refine code_guards (gs := ?_) ?_ ?_
   rotate_left
   ·rfl
   iterate 15 (refine run2_true (by first | rfl | (simp only [wanted, go_sem, Nat.reduceLT, Nat.reduceAdd, Nat.reduceEqDiff, reduceIte, reduceCtorEq, h0, h1, h5, faA1, ldLs, hl, aBuiltin, aLen, Tryz.underlying114, cast_nat, ilt_nat, htL, q1, q2, ieq_nat, hne])) (by simp only [go_sem, Nat.reduceLT, Nat.reduceAdd, Nat.reduceEqDiff, reduceIte, reduceCtorEq, h0, h1, h5, faA1, ldLs, hl, aBuiltin, aLen, Tryz.underlying114, cast_nat, ilt_nat, htL, q1, q2, ieq_nat, hne]; try exact rfl) rfl ?_)
   iterate 9 (refine run2_false (by simp only [wanted, go_sem, Nat.reduceLT, Nat.reduceAdd, Nat.reduceEqDiff, reduceIte, reduceCtorEq, h0, h1, h5, faA1, ldLs, hl, aBuiltin, aLen, Tryz.underlying114, cast_nat, ilt_nat, htL, q1, q2, ieq_nat, hne]) rfl ?_)
   refine run2_true (by first | rfl | (simp only [wanted, go_sem, Nat.reduceLT, Nat.reduceAdd, Nat.reduceEqDiff, reduceIte, reduceCtorEq, h0, h1, h5, faA1, ldLs, hl, aBuiltin, aLen, Tryz.underlying114, cast_nat, ilt_nat, htL, q1, q2, ieq_nat, hne])) (by simp only [go_sem, Nat.reduceLT, Nat.reduceAdd, Nat.reduceEqDiff, reduceIte, reduceCtorEq, h0, h1, h5, faA1, ldLs, hl, aBuiltin, aLen, Tryz.underlying114, cast_nat, ilt_nat, htL, q1, q2, ieq_nat, hne]; try exact rfl) rfl ?_
   simp only [run2, ends_some, then_normal]
   refine code_cond_false ?_ ?_
   ·simp only [aev, regAt_set, Nat.reduceEqDiff, reduceIte]
   refine code_exit ?_
   simp only [then_exit]
   exact ⟨trivial, trivial, _, rfl, by simp only [regAt_set, Nat.reduceEqDiff, reduceIte, h5]⟩
 | succ m ih =>
   intro p tm hj hp h0 h1 h5
   have hlt : p < L := by omega
   obtain ⟨dp, hdp⟩ : ∃ d, d = p / 16 := ⟨_, rfl⟩
   have q1 : aDiv false .i64 .i64 (.ofNat p) 16 = some (.int .i64 (.ofNat dp)) := hdp ▸ quo16 p (by omega)
   have heq : decide (dp = df) = true := decide_eq_true (by omega)
   have hln : cellsAt μ lb (p * 2) = some (.bool false) := by rw [hL.ln _ hlt, hf p hp (by omega)]
   have hia : ∀ ρ : Operand → Value, ∀ a b', ρ a = .slice (some ⟨lb, 0, none⟩) L (2 * c) → ρ b' = .int .i64 (.ofNat p) → aIndexAddr Tryz.prog ρ 114 a b' = some (.pointer (some ⟨lb, p * 2, none⟩)) := fun ρ a b' g1 g2 => by
    rw [indexAddr_sz (P := Tryz.prog) Tryz.underlying114 iL g1 g2 hlt, Nat.zero_add]; rfl
   have a1 : qwrap .i64 (Int.add (.ofNat p) 1) = .ofNat (p + 1) := add_nat p 1 (by omega)
   refine code_loop ?_
   refine code_seq ?_
   refine code_seq ?_
   refine code_guards (gs := ?_) ?_ ?_
   rotate_left
   ·rfl
   iterate 25 (refine run2_true (by first | rfl | (simp only [wanted, go_sem, Nat.reduceLT, Nat.reduceAdd, Nat.reduceEqDiff, reduceIte, reduceCtorEq, h0, h1, h5, faA1, faL0, ldLs, ld4, hl, hia, hln, aBuiltin, aLen, Tryz.underlying114, cast_nat, ilt_nat, hlt, q1, q2, ieq_nat, heq, Nat.add_zero])) (by simp only [go_sem, Nat.reduceLT, Nat.reduceAdd, Nat.reduceEqDiff, reduceIte, reduceCtorEq, h0, h1, h5, faA1, faL0, ldLs, ld4, hl, hia, hln, aBuiltin, aLen, Tryz.underlying114, cast_nat, ilt_nat, hlt, q1, q2, ieq_nat, heq, Nat.add_zero]; try exact rfl) rfl ?_)
   simp only [run2, ends_some, then_normal]
   refine code_cond_true ?_ ?_
   ·simp only [aev, regAt_set, Nat.reduceEqDiff, reduceIte]
   refine code_skip ?_
   simp only [then_normal]
   refine code_block ?_
   refine code_region ?_ ?_
   ·rfl
   simp only [run1, go_sem, Nat.reduceLT, Nat.reduceAdd, Nat.reduceEqDiff, reduceIte, reduceCtorEq, h5, blockC, a1]
   rw [show e + (m + 1) + 19 = e + m + 20 from by omega]
   refine ih (p + 1) _ (by omega) (by omega) ?_ ?_ ?_
   ·simp only [regAt_set, Nat.reduceEqDiff, reduceIte, h0]
   ·simp only [regAt_set, Nat.reduceEqDiff, reduceIte, h1]
   ·simp only [regAt_set, Nat.reduceEqDiff, reduceIte]
set_option maxHeartbeats 4000000 in
theorem hole_eq {f ap lb L a t : Nat} {ln : Nat → Bool} {μ : Mem} (hf : 60 ≤ f) (hL : Lines μ ap lb L ln) (h16 : a % 16 = 0) (ht : t = a + 16) (htL : t < L) (hT : L < 1000000) (hln : ∀ k, a ≤ k → k < t → ln k = false) :
  aFun Tryz.prog (aCode Tryz.prog X S0 f) 120 [.pointer (some ⟨ap, 0, none⟩), .int .i64 (.ofNat a)] μ = some (.int .i64 (.ofNat t), μ) := by
 obtain ⟨k, rfl⟩ := Nat.exists_eq_add_of_le' hf
 refine ends_eq ?_
 refine fun_enter Tryz.func120 rfl rfl (Nat.le_of_ble_eq_true rfl) ?_
 simp only [T.lay, Nat.zero_add, Tryz.ntmps120, Nat.reduceAdd]
 refine code_seq ?_
 refine code_region ?_ ?_
 ·rfl
 simp only [run1, go_sem, Nat.reduceLT, Nat.reduceAdd, Nat.reduceEqDiff, reduceIte, reduceCtorEq]
 refine code_seq ?_
 refine code_region ?_ ?_
 ·rfl
 simp only [run1, go_sem, Nat.reduceLT, Nat.reduceAdd, Nat.reduceEqDiff, reduceIte, reduceCtorEq]
 refine code_seq ?_
 refine code_block ?_
 refine EndsC.mono (hole_loop hL h16 ht htL hT hln (k + 20) 16 a _ (by omega) (Nat.le_refl _) ?_ ?_ ?_) ?_
 ·simp only [regAt_set, Nat.reduceEqDiff, reduceIte]
 ·simp only [regAt_set, Nat.reduceEqDiff, reduceIte]
 ·simp only [regAt_set, Nat.reduceEqDiff, reduceIte]
 rintro x' r' μ' ⟨rfl, rfl, tm', rfl, g5⟩
 simp only [blockC, reduceIte, then_normal]
 refine code_seq ?_
 refine code_region ?_ ?_
 ·rfl
 simp only [run1, go_sem, Nat.reduceLT, Nat.reduceAdd, Nat.reduceEqDiff, reduceIte, reduceCtorEq, g5]
 refine code_ret ?_
 refine ⟨rfl, _, ?_, rfl, rfl⟩
 simp only [aResults, Tryz.results120, aRes, regAt_set, Nat.reduceEqDiff, reduceIte]
set_option maxHeartbeats 4000000 in
theorem find_eq {f ap lb L a t : Nat} {ln : Nat → Bool} {μ : Mem} (hf : 90 ≤ f) (hL : Lines μ ap lb L ln) (h16 : a % 16 = 0) (ht : t = a + 16) (htL : t < L) (hT : L < 1000000) (hln : ∀ k, a ≤ k → k < t → ln k = false) :
  aFun Tryz.prog (aCode Tryz.prog X S0 f) 101 [.pointer (some ⟨ap, 0, none⟩), .int .i64 (.ofNat a), .int .i64 1] μ = some (.tuple #[.int .i64 (.ofNat a), .int .i64 (.ofNat t), .bool true], μ) := by
 obtain ⟨k, rfl⟩ := Nat.exists_eq_add_of_le' hf
 refine ends_eq ?_
 obtain ⟨c, hl, hc⟩ := hL.head
 have hlt : a < L := by omega
 have hh : ∀ f, 60 ≤ f → aFun Tryz.prog (aCode Tryz.prog X S0 f) 120 [.pointer (some ⟨ap, 0, none⟩), .int .i64 (.ofNat a)] μ = some (.int .i64 (.ofNat t), μ) := fun f hf => hole_eq hf hL h16 ht htL hT hln
 have a1 := sub_nat t a (by omega) (by omega)
 have a2 : ilt (.ofNat (t - a)) 1 = false := (ilt_nat (t - a) 1).trans (decide_eq_false (by omega))
 refine fun_enter Tryz.func101 rfl rfl (Nat.le_of_ble_eq_true rfl) ?_
 simp only [T.lay, Nat.zero_add, Tryz.ntmps101, Nat.reduceAdd]
 refine code_seq ?_
 refine code_region ?_ ?_
 ·rfl
 simp only [run1, go_sem, Nat.reduceLT, Nat.reduceAdd, Nat.reduceEqDiff, reduceIte, reduceCtorEq]
 refine code_seq ?_
 refine code_seq ?_
 refine code_region ?_ ?_
 ·rfl
 simp only [run1, go_sem, Nat.reduceLT, Nat.reduceAdd, Nat.reduceEqDiff, reduceIte, reduceCtorEq]
 refine code_block ?_
 refine code_loop ?_
 refine code_seq ?_
 refine code_seq ?_
 refine code_region ?_ ?_
 ·rfl
 simp only [run1, go_sem, Nat.reduceLT, Nat.reduceAdd, Nat.reduceEqDiff, reduceIte, reduceCtorEq, faA1, ldLs, hl, aBuiltin, aLen, Tryz.underlying114, cast_nat, ilt_nat, hlt]
 refine code_cond_true ?_ ?_
 ·simp only [aev, regAt_set, Nat.reduceEqDiff, reduceIte]
 refine code_skip ?_
 simp only [then_normal]
 refine code_block ?_
 refine code_seq ?_
 refine code_region ?_ ?_
 ·rfl
 simp only [run1, go_sem, Nat.reduceLT, Nat.reduceAdd, Nat.reduceEqDiff, reduceIte, reduceCtorEq, gg120, hh, Nat.reduceLeDiff]
 refine code_seq ?_
 refine code_seq ?_
 refine code_region ?_ ?_
 ·rfl
 simp only [run1, go_sem, Nat.reduceLT, Nat.reduceAdd, Nat.reduceEqDiff, reduceIte, reduceCtorEq, a1, a2]
 refine code_cond_true ?_ ?_
 ·simp only [aev, regAt_set, Nat.reduceEqDiff, reduceIte]
 refine code_seq ?_
 refine code_region ?_ ?_
 ·rfl
 simp only [run1, go_sem, Nat.reduceLT, Nat.reduceAdd, Nat.reduceEqDiff, reduceIte, reduceCtorEq]
 refine code_ret ?_
 refine ⟨rfl, _, ?_, rfl, rfl⟩
 simp only [aResults, Tryz.results101, aRes, regAt_set, Nat.reduceEqDiff, reduceIte]
end
noncomputable section
variable {X : FuncId → List Value → Mem → Option (Value × Mem)}
theorem cells_set {t : T Ob} {i j p n m : Nat} {o : Ob} (h : j ≠ i) : cellsAt ⟨t.set i o, n⟩ j p = cellsAt ⟨t, m⟩ j p := by
 have : T.get (t.set i o) j = t.get j := by rw [T.get_set, if_neg h]
 unfold cellsAt
 simp only [this]
def fill (ln : Nat → Bool) (a p : Nat) : Nat → Bool := fun k => if a ≤ k ∧ k < p then true else ln k
theorem fill_self (ln : Nat → Bool) (a : Nat) : fill ln a a = ln := by
 funext k; unfold fill; rw [if_neg (by omega)]
theorem Lines.put {μ : Mem} {ap lb L a p : Nat} {ln : Nat → Bool} (h : Lines μ ap lb L (fill ln a p)) (hne : ap ≠ lb) (hp : p < L) (ha : a ≤ p) : Lines (putL μ lb (p * 2) [.bool true]) ap lb L (fill ln a (p + 1)) := by
 obtain ⟨c, h1, h2⟩ := h.head
 refine ⟨⟨c, by rw [cells_off hne]; exact h1, h2⟩, h.blk.put _ _, fun k hk => ?_, fun k hk => ?_⟩
 ·rw [cells_put h.blk (by show p * 2 + 1 ≤ 2 * L; omega)]
  by_cases e : k = p
  ·subst e
   rw [dif_pos ⟨rfl, Nat.le_refl _, by show k * 2 < k * 2 + 1; omega⟩]
   unfold fill
   rw [if_pos ⟨ha, by omega⟩]
   simp
  ·rw [dif_neg (by rintro ⟨_, g1, g2⟩; simp only [List.length_cons, List.length_nil] at g2; omega), h.ln k hk]
   unfold fill
   by_cases e2 : a ≤ k ∧ k < p
   ·rw [if_pos e2, if_pos ⟨e2.1, by omega⟩]
   ·rw [if_neg e2, if_neg (by omega)]
 ·rw [cells_put h.blk (by show p * 2 + 1 ≤ 2 * L; omega), dif_neg (by rintro ⟨_, g1, g2⟩; simp only [List.length_cons, List.length_nil] at g2; omega)]
  exact h.mrk k hk
theorem Lines.keep {μ μ' : Mem} {ap lb L : Nat} {ln : Nat → Bool} (h : Lines μ ap lb L ln) (h1 : cellsAt μ' ap 1 = cellsAt μ ap 1) (h2 : μ'.obs.get lb = μ.obs.get lb) : Lines μ' ap lb L ln := by
 obtain ⟨c, g1, g2⟩ := h.head
 refine ⟨⟨c, h1.trans g1, g2⟩, ?_, fun k hk => ?_, fun k hk => ?_⟩
 ·unfold Blk; rw [h2]; exact h.blk
 ·rw [← h.ln k hk]; unfold cellsAt; rw [h2]
 ·obtain ⟨b, hb⟩ := h.mrk k hk
  exact ⟨b, by rw [← hb]; unfold cellsAt; rw [h2]⟩
set_option maxHeartbeats 4000000 in
theorem claim_loop {ap lb L a t : Nat} {ln : Nat → Bool} {μ0 : Mem} (hne : ap ≠ lb) (htL : t ≤ L) (hT : L < 1000000) :
  ∀ (e m p : Nat) (tm : T Value) (μ : Mem), p + m = t → a ≤ p → Lines μ ap lb L (fill ln a p) → μ.next = μ0.next → (∀ i, i ≠ lb → μ.obs.get i = μ0.obs.get i) → regAt tm 0 = .pointer (some ⟨ap, 0, none⟩) → regAt tm 1 = .int .i64 (.ofNat a) → regAt tm 2 = .int .i64 (.ofNat t) → regAt tm 6 = .pointer (some ⟨μ0.next - 1, 0, none⟩) → regAt tm 7 = .int .i64 (.ofNat p) →
   EndsC (aCode Tryz.prog X S0 (e + m + 20) (.loop (loopBody Tryz.f102 0)) ⟨26, tm, [], none⟩ μ) fun x r μ' => x = .exit 0 ∧ Lines μ' ap lb L (fill ln a t) ∧ μ'.next = μ0.next ∧ (∀ i, i ≠ lb → μ'.obs.get i = μ0.obs.get i) ∧ ∃ tm', r = ⟨26, tm', [], none⟩ ∧ regAt tm' 1 = .int .i64 (.ofNat a) ∧ regAt tm' 2 = .int .i64 (.ofNat t) ∧ regAt tm' 6 = .pointer (some ⟨μ0.next - 1, 0, none⟩) := by
 intro e m
 induction m with
 | zero =>
   intro p tm μ hj hp hL hn hk h0 h1 h2 h6 h7
   obtain rfl : p = t := hj
   refine code_loop ?_
   refine code_seq ?_
   refine code_seq ?_
   refine code_region ?_ ?_
   ·rfl
   simp only [run1, go_sem, Nat.reduceLT, Nat.reduceAdd, Nat.reduceEqDiff, reduceIte, reduceCtorEq, h7, h2, ilt_nat, Nat.lt_irrefl]
   refine code_cond_false ?_ ?_
   ·simp only [aev, regAt_set, Nat.reduceEqDiff, reduceIte]
   refine code_exit ?_
   simp only [then_exit]
   exact ⟨trivial, hL, hn, hk, _, rfl, by simp only [regAt_set, Nat.reduceEqDiff, reduceIte, h1], by simp only [regAt_set, Nat.reduceEqDiff, reduceIte, h2], by simp only [regAt_set, Nat.reduceEqDiff, reduceIte, h6]⟩
 | succ m ih =>
   intro p tm μ hj hp hL hn hk h0 h1 h2 h6 h7
   obtain ⟨c, hl, hc⟩ := hL.head
   have hlt : p < t := by omega
   have hia : ∀ ρ : Operand → Value, ∀ a b', ρ a = .slice (some ⟨lb, 0, none⟩) L (2 * c) → ρ b' = .int .i64 (.ofNat p) → aIndexAddr Tryz.prog ρ 114 a b' = some (.pointer (some ⟨lb, p * 2, none⟩)) := fun ρ a b' g1 g2 => by
    rw [indexAddr_sz (P := Tryz.prog) Tryz.underlying114 iL g1 g2 (by omega), Nat.zero_add]; rfl
   have a1 : qwrap .i64 (Int.add (.ofNat p) 1) = .ofNat (p + 1) := add_nat p 1 (by omega)
   have hst := store_put (t := 4) (v := .bool true) i4 rfl rfl hL.blk (show p * 2 < 2 * L by omega)
   refine code_loop ?_
   refine code_seq ?_
   refine code_seq ?_
   refine code_region ?_ ?_
   ·rfl
   simp only [run1, go_sem, Nat.reduceLT, Nat.reduceAdd, Nat.reduceEqDiff, reduceIte, reduceCtorEq, h7, h2, ilt_nat, hlt]
   refine code_cond_true ?_ ?_
   ·simp only [aev, regAt_set, Nat.reduceEqDiff, reduceIte]
   refine code_skip ?_
   simp only [then_normal]
   refine code_seq ?_
   refine code_block ?_
   refine code_region ?_ ?_
   ·rfl
   simp only [run1, go_sem, Nat.reduceLT, Nat.reduceAdd, Nat.reduceEqDiff, reduceIte, reduceCtorEq, h0, h7, faA1, faL0, ldLs, hl, hia, hst, Nat.add_zero]
   simp only [blockC, then_normal]
   refine code_region ?_ ?_
   ·rfl
   simp only [run1, go_sem, Nat.reduceLT, Nat.reduceAdd, Nat.reduceEqDiff, reduceIte, reduceCtorEq, h7, a1]
   rw [show e + (m + 1) + 19 = e + m + 20 from by omega]
   refine ih (p + 1) _ _ (by omega) (by omega) (hL.put hne (by omega) hp) (by rw [putL_next]; exact hn) (fun i hi => by rw [putL_get _ _ _ _ hi]; exact hk i hi) ?_ ?_ ?_ ?_ ?_ <;> simp only [regAt_set, Nat.reduceEqDiff, reduceIte, h0, h1, h2, h6]
theorem zR : aZeroOf Tryz.prog 116 = some (.agg #[.int .i64 0, .int .i64 0]) := by unfold aZeroOf; rw [iR]; rfl
def rn0 : Ob := .cells 2 116 #[.int .i64 0, .int .i64 0] .e 0 0 false false
theorem alR : aAlloc Tryz.prog 116 = some (rn0, fun id => .pointer (some ⟨id, 0, none⟩)) := by unfold aAlloc; rw [zR]; rfl
theorem bdR (ρ : Operand → Value) (a b : Operand) (o1 : one (ρ a) = true) (o2 : one (ρ b) = true) : aBuild Tryz.prog ρ 116 #[(0, a), (1, b)] = some (.agg #[ρ a, ρ b]) := by
 refine build_struct (pl := [(0, 1), (1, 1)]) zR Tryz.underlying116 (by kernel_rfl) ?_
 show aFill _ [.int .i64 0, .int .i64 0] [(0, ρ a), (1, ρ b)] = some [ρ a, ρ b]
 rw [aFill_one (off := 0) rfl o1 (by simp), aFill_one (off := 1) rfl o2 (by simp)]
 rfl
theorem ldR {μ : Mem} {i : Nat} {x y : Value} (h : ∃ ov, μ.obs.get i = some (.cells 2 116 #[.int .i64 0, .int .i64 0] ov 0 0 false false) ∧ ov = T.lay .e 0 [x, y]) : aLoad Tryz.prog μ 116 (.pointer (some ⟨i, 0, none⟩)) = some (.agg #[x, y]) := by
 obtain ⟨ov, h1, rfl⟩ := h
 rw [load_struct (P := Tryz.prog) (n := 2) (z := #[.int .i64 0, .int .i64 0]) (ov := T.lay .e 0 [x, y]) Tryz.underlying116 iR (by rw [h1]; rfl) (by decide)]
 rfl
set_option maxHeartbeats 4000000 in
theorem claim {f ap lb L a t : Nat} {ln : Nat → Bool} {μ : Mem} (hf : 60 ≤ f) (hL : Lines μ ap lb L ln) (hne : ap ≠ lb) (h1 : ap < μ.next) (h2 : lb < μ.next) (hat : a ≤ t) (htL : t ≤ L) (hta : t - a ≤ 20) (hT : L < 1000000) :
  EndsF (aFun Tryz.prog (aCode Tryz.prog X S0 f) 102 [.pointer (some ⟨ap, 0, none⟩), .int .i64 (.ofNat a), .int .i64 (.ofNat t)] μ) fun v μ' => v = .agg #[.int .i64 (.ofNat (a * 16)), .int .i64 (.ofNat (t * 16))] ∧ Lines μ' ap lb L (fill ln a t) ∧ μ'.next = μ.next + 1 ∧ (∀ i, i < μ.next → i ≠ lb → μ'.obs.get i = μ.obs.get i) := by
 obtain ⟨k, rfl⟩ := Nat.exists_eq_add_of_le' hf
 have hL1 : Lines ⟨μ.obs.set μ.next rn0, μ.next + 1⟩ ap lb L (fill ln a a) := by
  rw [fill_self]
  refine hL.keep ?_ ?_
  ·exact cells_set (by omega)
  ·show T.get _ lb = _; rw [T.get_set, if_neg (by omega)]
 have m1 : qwrap .i64 (Int.mul (.ofNat a) 16) = .ofNat (a * 16) := mul_nat a 16 (by omega)
 have m2 : qwrap .i64 (Int.mul (.ofNat t) 16) = .ofNat (t * 16) := mul_nat t 16 (by omega)
 obtain ⟨a16, ha16⟩ : ∃ x, x = a * 16 := ⟨_, rfl⟩
 obtain ⟨t16, ht16⟩ : ∃ x, x = t * 16 := ⟨_, rfl⟩
 rw [← ha16] at m1
 rw [← ht16] at m2
 rw [← ha16, ← ht16]
 refine fun_enter Tryz.func102 rfl rfl (Nat.le_of_ble_eq_true rfl) ?_
 simp only [T.lay, Nat.zero_add, Tryz.ntmps102, Nat.reduceAdd]
 refine code_seq ?_
 refine code_region ?_ ?_
 ·rfl
 simp only [run1, go_sem, Nat.reduceLT, Nat.reduceAdd, Nat.reduceEqDiff, reduceIte, reduceCtorEq, alR]
 refine code_seq ?_
 refine code_seq ?_
 refine code_region ?_ ?_
 ·rfl
 simp only [run1, go_sem, Nat.reduceLT, Nat.reduceAdd, Nat.reduceEqDiff, reduceIte, reduceCtorEq]
 refine code_block ?_
 rw [show k + 56 = (k + 36 - (t - a)) + (t - a) + 20 from by omega]
 refine EndsC.mono (claim_loop hne htL hT (k + 36 - (t - a)) (t - a) a _ ⟨μ.obs.set μ.next rn0, μ.next + 1⟩ (by omega) (Nat.le_refl _) hL1 rfl (fun _ _ => rfl) ?_ ?_ ?_ ?_ ?_) ?_
 ·simp only [regAt_set, Nat.reduceEqDiff, reduceIte]
 ·simp only [regAt_set, Nat.reduceEqDiff, reduceIte]
 ·simp only [regAt_set, Nat.reduceEqDiff, reduceIte]
 ·simp only [regAt_set, Nat.reduceEqDiff, reduceIte]; rfl
 ·simp only [regAt_set, Nat.reduceEqDiff, reduceIte]
 rintro x' r' μ' ⟨rfl, hL2, hn2, hk2, tm', rfl, g1, g2, g6⟩
 simp only [blockC, reduceIte, then_normal]
 have g6' : regAt tm' 6 = .pointer (some ⟨μ.next, 0, none⟩) := g6
 have hob : μ'.obs.get μ.next = some rn0 := by
  rw [hk2 _ (by omega)]; show T.get _ _ = _; rw [T.get_set, if_pos rfl]
 have hb : Blk μ' μ.next 2 116 := ⟨_, _, _, _, hob⟩
 have hst : aStore Tryz.prog μ' 116 (.pointer (some ⟨μ.next, 0, none⟩)) (.agg #[.int .i64 (.ofNat a16), .int .i64 (.ofNat t16)]) = some (undef, putL μ' μ.next 0 [.int .i64 (.ofNat a16), .int .i64 (.ofNat t16)]) := store_puts (t := 116) (o := 0) (vs := [.int .i64 (.ofNat a16), .int .i64 (.ofNat t16)]) iR rfl rfl hb (by show 0 + 2 ≤ 2; decide)
 refine code_seq ?_
 refine code_region ?_ ?_
 ·rfl
 simp only [run1, go_sem, Nat.reduceLT, Nat.reduceAdd, Nat.reduceEqDiff, reduceIte, reduceCtorEq, g1, g2, g6', m1, m2, bdR, one, hst]
 refine code_ret ?_
 have e1 : (putL μ' μ.next 0 [.int .i64 (.ofNat a16), .int .i64 (.ofNat t16)]).obs.get μ.next = some (.cells 2 116 #[.int .i64 0, .int .i64 0] (T.lay .e 0 [.int .i64 (.ofNat a16), .int .i64 (.ofNat t16)]) 0 0 false false) := putL_at hob
 refine ⟨rfl, .agg #[.int .i64 (.ofNat a16), .int .i64 (.ofNat t16)], ?_, rfl, hL2.keep (cells_off (by omega)) (putL_get _ _ _ _ (by omega)), (putL_next _ _ _ _).trans hn2, fun i hi hil => ?_⟩
 ·simp only [aResults, Tryz.results102, aRes, regAt_set, Nat.reduceEqDiff, reduceIte, g6', ldR ⟨_, e1, rfl⟩]
 ·rw [putL_get _ _ _ _ (by omega), hk2 i hil]
  show T.get _ _ = _; rw [T.get_set, if_neg (by omega)]
set_option maxHeartbeats 4000000 in
theorem blocks_eq {f ap wb N : Nat} {ws : Nat → Nat} {μ : Mem} (hf : 20 ≤ f) (hA : Arena μ ap wb N ws) (hN : N < 1000000) : aFun Tryz.prog (aCode Tryz.prog X S0 f) 139 [.pointer (some ⟨ap, 0, none⟩)] μ = some (.int .i64 (.ofNat (N / 256)), μ) := by
 obtain ⟨k, rfl⟩ := Nat.exists_eq_add_of_le' hf
 obtain ⟨c, hl⟩ := hA.head
 obtain ⟨d, hd⟩ : ∃ d, d = N / 256 := ⟨_, rfl⟩
 have q1 : aDiv false .i64 .i64 (.ofNat N) 256 = some (.int .i64 (.ofNat d)) := hd ▸ quo256 N (by omega)
 rw [← hd]
 refine ends_eq ?_
 refine fun_enter Tryz.func139 rfl rfl (Nat.le_of_ble_eq_true rfl) ?_
 simp only [T.lay, Nat.zero_add, Tryz.ntmps139, Nat.reduceAdd]
 refine code_seq ?_
 refine code_region ?_ ?_
 ·rfl
 simp only [run1, go_sem, Nat.reduceLT, Nat.reduceAdd, Nat.reduceEqDiff, reduceIte, reduceCtorEq]
 refine code_seq ?_
 refine code_region ?_ ?_
 ·rfl
 simp only [run1, go_sem, Nat.reduceLT, Nat.reduceAdd, Nat.reduceEqDiff, reduceIte, reduceCtorEq, faA0, ldWs, hl, aBuiltin, aLen, Tryz.underlying81, cast_nat, q1]
 refine code_ret ?_
 refine ⟨rfl, _, ?_, rfl, rfl⟩
 simp only [aResults, Tryz.results139, aRes, regAt_set, Nat.reduceEqDiff, reduceIte]
end
noncomputable section
variable {X : FuncId → List Value → Mem → Option (Value × Mem)}
theorem slice_range {P : Program} {ρ : Operand → Value} {t e : TypeId} {inf : TypeInfo} {x y z : Operand} {i o n c l h : Nat} {kd kd' : IntKind} (hu : P.underlying t = some (.slice e)) (hi : P.info? e = some inf) (hx : ρ x = .slice (some ⟨i, o, none⟩) n (2 * c)) (hy : ρ y = .int kd (.ofNat l)) (hz : ρ z = .int kd' (.ofNat h)) (hlh : l ≤ h) (hhc : h ≤ c) (hlc : l < c) :
  aSlice P ρ t x (some y) (some z) none = some (.slice (some ⟨i, o + l * inf.size, none⟩) (h - l) (2 * (c - l))) := by
 unfold aSlice
 have e1 : Nat.beq (Nat.mod (2 * c) 2) 0 = true := by rw [show Nat.mod (2 * c) 2 = 0 from Nat.mul_mod_right 2 c]; rfl
 have e2 : Nat.div (2 * c) 2 = c := by show 2 * c / 2 = c; omega
 have e3 : Nat.ble h c = true := Nat.ble_eq_true_of_le hhc
 have e4 : Nat.ble l h = true := Nat.ble_eq_true_of_le hlh
 have e5 : Nat.beq c l = false := by
  cases hb : Nat.beq c l with
  | false => rfl
  | true => have := Nat.eq_of_beq_eq_true hb; omega
 simp only [hx, hu, hi, e1, e2, aBounds, aBound, hy, hz, e3, e4, e5]
 simp only [Addr.add, Nat.mul_eq, Nat.sub_eq]
 by_cases h0 : l * inf.size = 0
 ·rw [if_pos h0, h0]; rfl
 ·rw [if_neg h0]
def lnO : Ob := .cells 2 180 #[.bool false, .bool false] .e 0 0 false false
def lnI (x y : Bool) : Ob := .cells 2 180 #[.bool false, .bool false] (T.lay .e 0 [.bool x, .bool y]) 0 0 false false
theorem zL : aZeroOf Tryz.prog 180 = some (.agg #[.bool false, .bool false]) := by unfold aZeroOf; rw [iL]; rfl
theorem alL : aAlloc Tryz.prog 180 = some (lnO, fun id => .pointer (some ⟨id, 0, none⟩)) := by unfold aAlloc; rw [zL]; rfl
theorem stL (t : T Ob) (n a : Nat) (x y : Bool) : aStore Tryz.prog ⟨t.set a lnO, n⟩ 180 (.pointer (some ⟨a, 0, none⟩)) (.agg #[.bool x, .bool y]) = some (undef, ⟨(t.set a lnO).set a (lnI x y), n⟩) :=
 store_list (P := Tryz.prog) (t := 180) (vs := [.bool x, .bool y]) (μ := ⟨t.set a lnO, n⟩) (i := a) (o := 0) iL rfl rfl (by show T.get _ a = _; rw [T.get_set, if_pos rfl]; rfl) (by show 0 + 2 ≤ 2; decide)
theorem ldLi (t : T Ob) (n a : Nat) (x y : Bool) : aLoad Tryz.prog ⟨(t.set a lnO).set a (lnI x y), n⟩ 180 (.pointer (some ⟨a, 0, none⟩)) = some (.agg #[.bool x, .bool y]) := by
 rw [load_struct (P := Tryz.prog) (n := 2) (z := #[.bool false, .bool false]) (ov := T.lay .e 0 [.bool x, .bool y]) Tryz.underlying180 iL (by show obCells (T.get _ a) = _; rw [T.get_set, if_pos rfl]; rfl) (by decide)]
 rfl
theorem ldL2 {μ : Mem} {i o n te : Nat} {x y : Value} (h : Blk μ i n te) (ho : o + 2 ≤ n) (hx : cellsAt μ i o = some x) (hy : cellsAt μ i (o + 1) = some y) : aLoad Tryz.prog μ 180 (.pointer (some ⟨i, o, none⟩)) = some (.agg #[x, y]) := by
 obtain ⟨z, ov, fx, sh, hz⟩ := h
 have e : obCells (μ.obs.get i) = some (n, z, ov) := by rw [hz]; rfl
 rw [load_struct (P := Tryz.prog) Tryz.underlying180 iL e ho]
 rw [cellsAt_of e (by omega)] at hx hy
 cases hx; cases hy
 rfl
theorem bxL (x y : Bool) : aBox 180 (.agg #[.bool x, .bool y]) = some (.cells 2 180 #[.bool x, .bool y] .e 0 0 false false, fun id => .pointer (some ⟨id, 0, none⟩)) := rfl
set_option maxHeartbeats 4000000 in
theorem taken_eq {f : Nat} {x y : Bool} {μ : Mem} (hf : 20 ≤ f) : aFun Tryz.prog (aCode Tryz.prog X S0 f) 174 [.agg #[.bool x, .bool y]] μ = some (.bool (!x), ⟨μ.obs.set μ.next (.cells 2 180 #[.bool x, .bool y] .e 0 0 false false), μ.next + 1⟩) := by
 obtain ⟨k, rfl⟩ := Nat.exists_eq_add_of_le' hf
 refine ends_eq ?_
 have hc : ∀ n, cellsAt ⟨μ.obs.set μ.next (.cells 2 180 #[.bool x, .bool y] .e 0 0 false false), n⟩ μ.next 0 = some (.bool x) := fun n =>
  (cellsAt_of (n := 2) (z := #[.bool x, .bool y]) (ov := .e) (by show obCells (T.get _ μ.next) = _; rw [T.get_set, if_pos rfl]; rfl) (by decide)).trans rfl
 refine fun_enter Tryz.func174 rfl rfl (Nat.le_of_ble_eq_true rfl) ?_
 simp only [T.lay, Nat.zero_add, Tryz.ntmps174, Nat.reduceAdd]
 refine code_seq ?_
 refine code_region ?_ ?_
 ·rfl
 simp only [run1, go_sem, Nat.reduceLT, Nat.reduceAdd, Nat.reduceEqDiff, reduceIte, reduceCtorEq, bxL]
 refine code_seq ?_
 refine code_region ?_ ?_
 ·rfl
 simp only [run1, go_sem, Nat.reduceLT, Nat.reduceAdd, Nat.reduceEqDiff, reduceIte, reduceCtorEq, faL0, ld4, hc, Nat.add_zero]
 refine code_ret ?_
 refine ⟨rfl, _, ?_, rfl, rfl⟩
 simp only [aResults, Tryz.results174, aRes, regAt_set, Nat.reduceEqDiff, reduceIte]
def cnt (ln : Nat → Bool) (a : Nat) : Nat → Nat
 | 0 => 0
 | j + 1 => cnt ln a j + (if ln (a + j) then 0 else 1)
theorem cnt_le (ln : Nat → Bool) (a : Nat) : ∀ j, cnt ln a j ≤ j
 | 0 => Nat.le_refl _
 | j + 1 => by have := cnt_le ln a j; unfold cnt; split <;> omega
theorem Lines.grow {μ μ' : Mem} {ap lb L : Nat} {ln : Nat → Bool} (h : Lines μ ap lb L ln) (hg : Grow μ μ') (h1 : ap < μ.next) (h2 : lb < μ.next) : Lines μ' ap lb L ln :=
 h.keep (by unfold cellsAt; rw [hg.2 ap h1]) (hg.2 lb h2)
set_option maxHeartbeats 4000000 in
theorem count_loop {ap lb L a oa c : Nat} {ln : Nat → Bool} {μ0 : Mem} (h1 : ap < μ0.next) (h2 : lb < μ0.next) (hoa : oa = a * 2) (hL0 : Lines μ0 ap lb L ln) (haL : a + 16 ≤ L) :
  ∀ (e m j : Nat) (tm : T Value) (μ : Mem), j + m = 16 → Grow μ0 μ → regAt tm 1 = .func (.func 174) #[] #[] → regAt tm 5 = .int .i64 (.ofNat (cnt ln a j)) → regAt tm 8 = .slice (some ⟨lb, oa, none⟩) 16 c → regAt tm 9 = .int .i64 (.ofNat 16) → regAt tm 10 = .int .i64 (.ofNat j) →
   EndsC (aCode Tryz.prog X S0 (e + m + 60) (.loop (loopBody Tryz.f173 0)) ⟨21, tm, [], none⟩ μ) fun x r μ' => x = .exit 0 ∧ Grow μ0 μ' ∧ ∃ tm', r = ⟨21, tm', [], none⟩ ∧ regAt tm' 5 = .int .i64 (.ofNat (cnt ln a 16)) := by
 intro e m
 induction m with
 | zero =>
   intro j tm μ hj hg r1 r5 r8 r9 r10
   obtain rfl : j = 16 := hj
   refine code_loop ?_
   refine code_seq ?_
   refine code_region ?_ ?_
   ·rfl
   simp only [run1, go_sem, Nat.reduceLT, Nat.reduceAdd, Nat.reduceEqDiff, reduceIte, reduceCtorEq, r10, r9, ilt_nat, Nat.lt_irrefl]
   refine code_seq ?_
   refine code_cond_false ?_ ?_
   ·simp only [aev, regAt_set, Nat.reduceEqDiff, reduceIte]
   refine code_exit ?_
   simp only [then_exit]
   exact ⟨trivial, hg, _, rfl, by simp only [regAt_set, Nat.reduceEqDiff, reduceIte, r5]⟩
 | succ m ih =>
   intro j tm μ hj hg r1 r5 r8 r9 r10
   have hlt : j < 16 := by omega
   have hL := hL0.grow hg h1 h2
   obtain ⟨bm, hbm⟩ := hL.mrk (a + j) (by omega)
   have hbl := hL.ln (a + j) (by omega)
   obtain ⟨oj, hoj⟩ : ∃ x, x = oa + j * 2 := ⟨_, rfl⟩
   have eo : (a + j) * 2 = oj := by omega
   rw [eo] at hbm hbl
   have hia : ∀ ρ : Operand → Value, ∀ a b', ρ a = .slice (some ⟨lb, oa, none⟩) 16 c → ρ b' = .int .i64 (.ofNat j) → aIndexAddr Tryz.prog ρ 114 a b' = some (.pointer (some ⟨lb, oj, none⟩)) := fun ρ a b' g1 g2 => by
    rw [indexAddr_sz (P := Tryz.prog) Tryz.underlying114 iL g1 g2 hlt, hoj]; rfl
   have hld := ldL2 hL.blk (by omega) hbl hbm
   have a1 : qwrap .i64 (Int.add (.ofNat j) 1) = .ofNat (j + 1) := add_nat j 1 (by omega)
   have hcl := cnt_le ln a j
   obtain ⟨cj, hcj⟩ : ∃ x, x = cnt ln a j := ⟨_, rfl⟩
   have a2 : qwrap .i64 (Int.add (.ofNat cj) 1) = .ofNat (cj + 1) := add_nat cj 1 (by omega)
   rw [← hcj] at r5
   refine code_loop ?_
   refine code_seq ?_
   refine code_region ?_ ?_
   ·rfl
   simp only [run1, go_sem, Nat.reduceLT, Nat.reduceAdd, Nat.reduceEqDiff, reduceIte, reduceCtorEq, r10, r9, ilt_nat, hlt]
   refine code_seq ?_
   refine code_cond_true ?_ ?_
   ·simp only [aev, regAt_set, Nat.reduceEqDiff, reduceIte]
   refine code_skip ?_
   simp only [then_normal]
   refine code_seq ?_
   refine code_block ?_
   refine code_seq ?_
   refine code_region ?_ ?_
   ·rfl
   simp only [run1, go_sem, Nat.reduceLT, Nat.reduceAdd, Nat.reduceEqDiff, reduceIte, reduceCtorEq, r8, r10, hia, hld, alL, stL]
   refine code_seq ?_
   refine code_region ?_ ?_
   ·rfl
   simp only [run1, go_sem, Nat.reduceLT, Nat.reduceAdd, Nat.reduceEqDiff, reduceIte, reduceCtorEq, r1, ldLi, gg174, taken_eq, Nat.reduceLeDiff]
   have hg2 := hg.trans ((grow2 μ lnO (lnI (ln (a + j)) bm)).trans (grow1 _ (.cells 2 180 #[.bool (ln (a + j)), .bool bm] .e 0 0 false false)))
   cases hb : ln (a + j) with
   | true =>
     rw [hb] at hg2
     refine code_cond_false ?_ ?_
     ·simp only [aev, regAt_set, Nat.reduceEqDiff, reduceIte, Bool.not_true]
     refine code_skip ?_
     simp only [blockC, then_normal]
     refine code_region ?_ ?_
     ·rfl
     simp only [run1, go_sem, Nat.reduceLT, Nat.reduceAdd, Nat.reduceEqDiff, reduceIte, reduceCtorEq, r10, a1]
     rw [show e + (m + 1) + 59 = e + m + 60 from by omega]
     refine ih (j + 1) _ _ (by omega) hg2 ?_ ?_ ?_ ?_ ?_
     ·simp only [regAt_set, Nat.reduceEqDiff, reduceIte, r1]
     ·simp only [regAt_set, Nat.reduceEqDiff, reduceIte, r5]; unfold cnt; rw [hb, hcj]; rfl
     ·simp only [regAt_set, Nat.reduceEqDiff, reduceIte, r8]
     ·simp only [regAt_set, Nat.reduceEqDiff, reduceIte, r9]
     ·simp only [regAt_set, Nat.reduceEqDiff, reduceIte]
   | false =>
     rw [hb] at hg2
     refine code_cond_true ?_ ?_
     ·simp only [aev, regAt_set, Nat.reduceEqDiff, reduceIte, Bool.not_false]
     refine code_region ?_ ?_
     ·rfl
     simp only [run1, go_sem, Nat.reduceLT, Nat.reduceAdd, Nat.reduceEqDiff, reduceIte, reduceCtorEq, r5, a2]
     simp only [blockC, then_normal]
     refine code_region ?_ ?_
     ·rfl
     simp only [run1, go_sem, Nat.reduceLT, Nat.reduceAdd, Nat.reduceEqDiff, reduceIte, reduceCtorEq, r10, a1]
     rw [show e + (m + 1) + 59 = e + m + 60 from by omega]
     refine ih (j + 1) _ _ (by omega) hg2 ?_ ?_ ?_ ?_ ?_
     ·simp only [regAt_set, Nat.reduceEqDiff, reduceIte, r1]
     ·simp only [regAt_set, Nat.reduceEqDiff, reduceIte]; unfold cnt; rw [hb, hcj]; rfl
     ·simp only [regAt_set, Nat.reduceEqDiff, reduceIte, r8]
     ·simp only [regAt_set, Nat.reduceEqDiff, reduceIte, r9]
     ·simp only [regAt_set, Nat.reduceEqDiff, reduceIte]
end
noncomputable section
variable {X : FuncId → List Value → Mem → Option (Value × Mem)}
set_option maxHeartbeats 4000000 in
theorem count_ends {f ap lb L a oa c : Nat} {ln : Nat → Bool} {μ : Mem} (hf : 100 ≤ f) (h1 : ap < μ.next) (h2 : lb < μ.next) (hoa : oa = a * 2) (hL : Lines μ ap lb L ln) (haL : a + 16 ≤ L) :
  EndsF (aFun Tryz.prog (aCode Tryz.prog X S0 f) 173 [.slice (some ⟨lb, oa, none⟩) 16 c, .func (.func 174) #[] #[]] μ) fun v μ' => v = .int .i64 (.ofNat (cnt ln a 16)) ∧ Grow μ μ' := by
 obtain ⟨k, rfl⟩ := Nat.exists_eq_add_of_le' hf
 refine fun_enter Tryz.func173 rfl rfl (Nat.le_of_ble_eq_true rfl) ?_
 simp only [T.lay, Nat.zero_add, Tryz.ntmps173, Nat.reduceAdd]
 refine code_seq ?_
 refine code_region ?_ ?_
 ·rfl
 simp only [run1, go_sem, Nat.reduceLT, Nat.reduceAdd, Nat.reduceEqDiff, reduceIte, reduceCtorEq]
 refine code_seq ?_
 refine code_region ?_ ?_
 ·rfl
 simp only [run1, go_sem, Nat.reduceLT, Nat.reduceAdd, Nat.reduceEqDiff, reduceIte, reduceCtorEq]
 refine code_seq ?_
 refine code_seq ?_
 refine code_region ?_ ?_
 ·rfl
 simp only [run1, go_sem, Nat.reduceLT, Nat.reduceAdd, Nat.reduceEqDiff, reduceIte, reduceCtorEq, aBuiltin, aLen, Tryz.underlying114, cast_nat]
 refine code_block ?_
 refine EndsC.mono (count_loop (c := c) h1 h2 hoa hL haL (k + 19) 16 0 _ _ (by omega) (Grow.refl _) ?_ ?_ ?_ ?_ ?_) ?_
 ·simp only [regAt_set, Nat.reduceEqDiff, reduceIte]
 ·simp only [regAt_set, Nat.reduceEqDiff, reduceIte]; rfl
 ·simp only [regAt_set, Nat.reduceEqDiff, reduceIte]
 ·simp only [regAt_set, Nat.reduceEqDiff, reduceIte]
 ·simp only [regAt_set, Nat.reduceEqDiff, reduceIte]; rfl
 rintro x' r' μ' ⟨rfl, hg, tm', rfl, g5⟩
 simp only [blockC, reduceIte, then_normal]
 refine code_seq ?_
 refine code_region ?_ ?_
 ·rfl
 simp only [run1, go_sem, Nat.reduceLT, Nat.reduceAdd, Nat.reduceEqDiff, reduceIte, reduceCtorEq, g5]
 refine code_ret ?_
 refine ⟨rfl, _, ?_, rfl, hg⟩
 simp only [aResults, Tryz.results173, aRes, regAt_set, Nat.reduceEqDiff, reduceIte]
theorem ilt_z0 (q : Nat) : ilt (.ofNat q) 0 = false := rfl
set_option maxHeartbeats 4000000 in
theorem free_ends {f ap wb lb N L b nb a t : Nat} {ws : Nat → Nat} {ln : Nat → Bool} {μ : Mem} (hf : 130 ≤ f) (hA : Arena μ ap wb N ws) (hL : Lines μ ap lb L ln) (h1 : ap < μ.next) (h2 : lb < μ.next) (hnb : nb = N / 256) (hbn : b < nb) (ha : a = b * 16) (ht : t = (b + 1) * 16) (htL : t ≤ L) (hN : N < 1000000) (hLt : L < 1000000) :
  EndsF (aFun Tryz.prog (aCode Tryz.prog X S0 f) 140 [.pointer (some ⟨ap, 0, none⟩), .int .i64 (.ofNat b)] μ) fun v μ' => v = .int .i64 (.ofNat (cnt ln a 16)) ∧ Grow μ μ' := by
 obtain ⟨k, rfl⟩ := Nat.exists_eq_add_of_le' hf
 obtain ⟨c, hl, hc⟩ := hL.head
 have hB : ∀ f, 20 ≤ f → aFun Tryz.prog (aCode Tryz.prog X S0 f) 139 [.pointer (some ⟨ap, 0, none⟩)] μ = some (.int .i64 (.ofNat nb), μ) := fun f hf => hnb ▸ blocks_eq hf hA hN
 have a1 : qwrap .i64 (Int.mul (.ofNat b) 16) = .ofNat a := by rw [ha]; exact mul_nat b 16 (by omega)
 obtain ⟨b1, hb1⟩ : ∃ x, x = b + 1 := ⟨_, rfl⟩
 have a2 : qwrap .i64 (Int.add (.ofNat b) 1) = .ofNat b1 := by rw [hb1]; exact add_nat b 1 (by omega)
 have a3 : qwrap .i64 (Int.mul (.ofNat b1) 16) = .ofNat t := by rw [ht, ← hb1]; exact mul_nat b1 16 (by omega)
 obtain ⟨oa, hoa⟩ : ∃ x, x = a * 2 := ⟨_, rfl⟩
 have hsl : ∀ ρ : Operand → Value, ∀ x y z, ρ x = .slice (some ⟨lb, 0, none⟩) L (2 * c) → ρ y = .int .i64 (.ofNat a) → ρ z = .int .i64 (.ofNat t) → aSlice Tryz.prog ρ 114 x (some y) (some z) none = some (.slice (some ⟨lb, oa, none⟩) 16 (2 * (c - a))) := fun ρ x y z g1 g2 g3 => by
  rw [slice_range (P := Tryz.prog) Tryz.underlying114 iL g1 g2 g3 (by omega) (by omega) (by omega), Nat.zero_add, show t - a = 16 from by omega, hoa]; rfl
 obtain ⟨v1, μ1, hcnt, hv1, hg1⟩ := count_ends (X := X) (f := k + 126) (c := 2 * (c - a)) (by omega) h1 h2 hoa hL (by omega)
 subst hv1
 refine fun_enter Tryz.func140 rfl rfl (Nat.le_of_ble_eq_true rfl) ?_
 simp only [T.lay, Nat.zero_add, Tryz.ntmps140, Nat.reduceAdd]
 refine code_seq ?_
 refine code_region ?_ ?_
 ·rfl
 simp only [run1, go_sem, Nat.reduceLT, Nat.reduceAdd, Nat.reduceEqDiff, reduceIte, reduceCtorEq]
 refine code_seq ?_
 refine code_seq ?_
 refine code_guards (gs := ?_) ?_ ?_
 rotate_left
 ·rfl
 iterate 8 (refine run2_true (by first | rfl | (simp only [wanted, go_sem, Nat.reduceLT, Nat.reduceAdd, Nat.reduceEqDiff, reduceIte, reduceCtorEq, ilt_z0, ilt_nat, gg139, hB, hbn, Nat.reduceLeDiff])) (by simp only [go_sem, Nat.reduceLT, Nat.reduceAdd, Nat.reduceEqDiff, reduceIte, reduceCtorEq, ilt_z0, ilt_nat, gg139, hB, hbn, Nat.reduceLeDiff]; try exact rfl) rfl ?_)
 simp only [run2, ends_some, then_normal]
 refine code_cond_false ?_ ?_
 ·simp only [aev, regAt_set, Nat.reduceEqDiff, reduceIte]
 refine code_skip ?_
 simp only [then_normal]
 refine code_seq ?_
 refine code_region ?_ ?_
 ·rfl
 simp only [run1, go_sem, Nat.reduceLT, Nat.reduceAdd, Nat.reduceEqDiff, reduceIte, reduceCtorEq, faA1, ldLs, hl, a1, a2, a3, hsl, gg173, hcnt]
 refine code_ret ?_
 refine ⟨rfl, _, ?_, rfl, hg1⟩
 simp only [aResults, Tryz.results140, aRes, regAt_set, Nat.reduceEqDiff, reduceIte]
theorem Arena.grow {μ μ' : Mem} {ap wb N : Nat} {ws : Nat → Nat} (h : Arena μ ap wb N ws) (hg : Grow μ μ') (h1 : ap < μ.next) (h2 : wb < μ.next) : Arena μ' ap wb N ws := h.keep (hg.2 ap h1) (hg.2 wb h2)
set_option maxHeartbeats 4000000 in
theorem block_loop {ap wb lb N L nb d a t : Nat} {ws : Nat → Nat} {ln : Nat → Bool} {μ0 : Mem} (hA0 : Arena μ0 ap wb N ws) (hL0 : Lines μ0 ap lb L ln) (h1 : ap < μ0.next) (h2 : lb < μ0.next) (h3 : wb < μ0.next) (hnb : nb = N / 256) (hnL : nb * 16 ≤ L) (hN : N < 1000000) (hLt : L < 1000000)
  (ha : a = d * 16) (ht : t = (d + 1) * 16) (hd : cnt ln a 16 = 16) :
  ∀ (e m b : Nat) (tm : T Value) (μ : Mem), d + m = b → b < nb → (∀ x, d < x → x ≤ b → cnt ln (x * 16) 16 ≠ 16) → Grow μ0 μ → regAt tm 0 = .pointer (some ⟨ap, 0, none⟩) → regAt tm 5 = .int .i64 (.ofNat b) →
   EndsC (aCode Tryz.prog X S0 (e + m + 150) (.loop (loopBody Tryz.f119 0)) ⟨22, tm, [], none⟩ μ) fun x r μ' => x = .ret ∧ Grow μ0 μ' ∧ ∃ tm', r = ⟨22, tm', [], none⟩ ∧ regAt tm' 2 = .int .i64 (.ofNat a) ∧ regAt tm' 3 = .int .i64 (.ofNat t) ∧ regAt tm' 4 = .bool true := by
 intro e m
 induction m with
 | zero =>
   intro b tm μ hj hb hx hg r0 r5
   obtain rfl : d = b := hj
   obtain ⟨v1, μ1, hfr, hv1, hg1⟩ := free_ends (X := X) (f := e + 144) (by omega) (hA0.grow hg h1 h3) (hL0.grow hg h1 h2) (Nat.lt_of_lt_of_le h1 hg.1) (Nat.lt_of_lt_of_le h2 hg.1) hnb hb ha ht (by omega) hN hLt
   subst hv1
   rw [hd] at hfr
   have a1 : qwrap .i64 (Int.mul (.ofNat d) 16) = .ofNat a := by rw [ha]; exact mul_nat d 16 (by omega)
   obtain ⟨b1, hb1⟩ : ∃ x, x = d + 1 := ⟨_, rfl⟩
   have a2 : qwrap .i64 (Int.add (.ofNat d) 1) = .ofNat b1 := by rw [hb1]; exact add_nat d 1 (by omega)
   have a3 : qwrap .i64 (Int.mul (.ofNat b1) 16) = .ofNat t := by rw [ht, ← hb1]; exact mul_nat b1 16 (by omega)
   have e16 : ieq (.ofNat 16) 16 = true := rfl
   refine code_loop ?_
   refine code_seq ?_
   refine code_seq ?_
   refine code_region ?_ ?_
   ·rfl
   simp only [run1, go_sem, Nat.reduceLT, Nat.reduceAdd, Nat.reduceEqDiff, reduceIte, reduceCtorEq, r5, ilt_z0]
   refine code_cond_true ?_ ?_
   ·simp only [aev, regAt_set, Nat.reduceEqDiff, reduceIte]
   refine code_skip ?_
   simp only [then_normal]
   refine code_seq ?_
   refine code_block ?_
   refine code_seq ?_
   refine code_region ?_ ?_
   ·rfl
   simp only [run1, go_sem, Nat.reduceLT, Nat.reduceAdd, Nat.reduceEqDiff, reduceIte, reduceCtorEq, r0, r5, gg140, hfr, e16]
   refine code_cond_true ?_ ?_
   ·simp only [aev, regAt_set, Nat.reduceEqDiff, reduceIte]
   refine code_seq ?_
   refine code_region ?_ ?_
   ·rfl
   simp only [run1, go_sem, Nat.reduceLT, Nat.reduceAdd, Nat.reduceEqDiff, reduceIte, reduceCtorEq, r5, a1, a2, a3]
   refine code_ret ?_
   exact ⟨rfl, hg.trans hg1, _, rfl, by simp only [regAt_set, Nat.reduceEqDiff, reduceIte], by simp only [regAt_set, Nat.reduceEqDiff, reduceIte], by simp only [regAt_set, Nat.reduceEqDiff, reduceIte]⟩
 | succ m ih =>
   intro b tm μ hj hb hx hg r0 r5
   obtain ⟨ab, hab⟩ : ∃ x, x = b * 16 := ⟨_, rfl⟩
   obtain ⟨tb, htb⟩ : ∃ x, x = (b + 1) * 16 := ⟨_, rfl⟩
   obtain ⟨v1, μ1, hfr, hv1, hg1⟩ := free_ends (X := X) (f := e + (m + 1) + 144) (by omega) (hA0.grow hg h1 h3) (hL0.grow hg h1 h2) (Nat.lt_of_lt_of_le h1 hg.1) (Nat.lt_of_lt_of_le h2 hg.1) hnb hb hab htb (by omega) hN hLt
   subst hv1
   obtain ⟨cc, hcc⟩ : ∃ x, x = cnt ln ab 16 := ⟨_, rfl⟩
   rw [← hcc] at hfr
   have hne : cc ≠ 16 := by rw [hcc, hab]; exact hx b (by omega) (Nat.le_refl _)
   have e16 : ieq (.ofNat cc) 16 = false := (ieq_nat cc 16).trans (decide_eq_false hne)
   obtain ⟨b1, hb1⟩ : ∃ x, x = b - 1 := ⟨_, rfl⟩
   have a1 : qwrap .i64 (Int.sub (.ofNat b) 1) = .ofNat b1 := by rw [hb1]; exact sub_nat b 1 (by omega) (by omega)
   refine code_loop ?_
   refine code_seq ?_
   refine code_seq ?_
   refine code_region ?_ ?_
   ·rfl
   simp only [run1, go_sem, Nat.reduceLT, Nat.reduceAdd, Nat.reduceEqDiff, reduceIte, reduceCtorEq, r5, ilt_z0]
   refine code_cond_true ?_ ?_
   ·simp only [aev, regAt_set, Nat.reduceEqDiff, reduceIte]
   refine code_skip ?_
   simp only [then_normal]
   refine code_seq ?_
   refine code_block ?_
   refine code_seq ?_
   refine code_region ?_ ?_
   ·rfl
   simp only [run1, go_sem, Nat.reduceLT, Nat.reduceAdd, Nat.reduceEqDiff, reduceIte, reduceCtorEq, r0, r5, gg140, hfr, e16]
   refine code_cond_false ?_ ?_
   ·simp only [aev, regAt_set, Nat.reduceEqDiff, reduceIte]
   refine code_skip ?_
   simp only [blockC, then_normal]
   refine code_region ?_ ?_
   ·rfl
   simp only [run1, go_sem, Nat.reduceLT, Nat.reduceAdd, Nat.reduceEqDiff, reduceIte, reduceCtorEq, r5, a1]
   rw [show e + (m + 1) + 149 = e + m + 150 from by omega]
   refine ih b1 _ _ (by omega) (by omega) (fun x g1 g2 => hx x g1 (by omega)) (hg.trans hg1) ?_ ?_ <;> simp only [regAt_set, Nat.reduceEqDiff, reduceIte, r0]
set_option maxHeartbeats 4000000 in
theorem block_ends {f ap wb lb N L nb d a t : Nat} {ws : Nat → Nat} {ln : Nat → Bool} {μ : Mem} (hf : 200 ≤ f) (hA : Arena μ ap wb N ws) (hL : Lines μ ap lb L ln) (h1 : ap < μ.next) (h2 : lb < μ.next) (h3 : wb < μ.next) (hnb : nb = N / 256) (hnL : nb * 16 ≤ L) (hN : N < 1000000) (hLt : L < 1000000)
  (ha : a = d * 16) (ht : t = (d + 1) * 16) (hd : cnt ln a 16 = 16) (hdn : d < nb) (hdn2 : nb ≤ d + 20) (hx : ∀ x, d < x → x < nb → cnt ln (x * 16) 16 ≠ 16) :
  EndsF (aFun Tryz.prog (aCode Tryz.prog X S0 f) 119 [.pointer (some ⟨ap, 0, none⟩)] μ) fun v μ' => v = .tuple #[.int .i64 (.ofNat a), .int .i64 (.ofNat t), .bool true] ∧ Grow μ μ' := by
 obtain ⟨k, rfl⟩ := Nat.exists_eq_add_of_le' hf
 have hB : ∀ f, 20 ≤ f → aFun Tryz.prog (aCode Tryz.prog X S0 f) 139 [.pointer (some ⟨ap, 0, none⟩)] μ = some (.int .i64 (.ofNat nb), μ) := fun f hf => hnb ▸ blocks_eq hf hA hN
 obtain ⟨b1, hb1⟩ : ∃ x, x = nb - 1 := ⟨_, rfl⟩
 have a1 : qwrap .i64 (Int.sub (.ofNat nb) 1) = .ofNat b1 := by rw [hb1]; exact sub_nat nb 1 (by omega) (by omega)
 refine fun_enter Tryz.func119 rfl rfl (Nat.le_of_ble_eq_true rfl) ?_
 simp only [T.lay, Nat.zero_add, Tryz.ntmps119, Nat.reduceAdd]
 refine code_seq ?_
 refine code_region ?_ ?_
 ·rfl
 simp only [run1, go_sem, Nat.reduceLT, Nat.reduceAdd, Nat.reduceEqDiff, reduceIte, reduceCtorEq]
 refine code_seq ?_
 refine code_seq ?_
 refine code_region ?_ ?_
 ·rfl
 simp only [run1, go_sem, Nat.reduceLT, Nat.reduceAdd, Nat.reduceEqDiff, reduceIte, reduceCtorEq, gg139, hB, Nat.reduceLeDiff, a1]
 refine code_block ?_
 rw [show k + 196 = (k + 46 - (b1 - d)) + (b1 - d) + 150 from by omega]
 refine EndsC.mono (block_loop hA hL h1 h2 h3 hnb hnL hN hLt ha ht hd (k + 46 - (b1 - d)) (b1 - d) b1 _ _ (by omega) (by omega) (fun x g1 g2 => hx x g1 (by omega)) (Grow.refl _) ?_ ?_) ?_
 ·simp only [regAt_set, Nat.reduceEqDiff, reduceIte]
 ·simp only [regAt_set, Nat.reduceEqDiff, reduceIte]
 rintro x' r' μ' ⟨rfl, hg, tm', rfl, g2, g3, g4⟩
 simp only [blockC, then_ret]
 refine ⟨rfl, _, ?_, rfl, hg⟩
 simp only [aResults, Tryz.results119, aRes, regAt_set, Nat.reduceEqDiff, reduceIte]
 simp only [g2, g3, g4]
end
noncomputable section
variable {X : FuncId → List Value → Mem → Option (Value × Mem)}
structure AB (μ : Mem) (ap wb lb N L : Nat) (ws : Nat → Nat) (ln : Nat → Bool) : Prop where
 arena : Arena μ ap wb N ws
 lines : Lines μ ap lb L ln
 blk : Blk μ ap 9 118
 n1 : ap < μ.next
 n2 : wb < μ.next
 n3 : lb < μ.next
 d1 : ap ≠ lb
 d2 : wb ≠ lb
 N1 : N < 1000000
 L1 : L < 1000000
structure AC (μ : Mem) (ap sf st gf gt nx : Nat) : Prop where
 c2 : cellsAt μ ap 2 = some (.int .i64 (.ofNat sf))
 c3 : cellsAt μ ap 3 = some (.int .i64 (.ofNat st))
 c4 : cellsAt μ ap 4 = some (.int .i64 (.ofNat gf))
 c5 : cellsAt μ ap 5 = some (.int .i64 (.ofNat gt))
 c8 : cellsAt μ ap 8 = some (.int .i64 (.ofNat nx))
theorem AB.put {μ : Mem} {ap wb lb N L : Nat} {ws : Nat → Nat} {ln : Nat → Bool} (h : AB μ ap wb lb N L ws ln) {o : Nat} {vs : List Value} (ho : 2 ≤ o) (hl : o + vs.length ≤ 9) : AB (putL μ ap o vs) ap wb lb N L ws ln := by
 have e0 : cellsAt (putL μ ap o vs) ap 0 = cellsAt μ ap 0 := by rw [cells_put h.blk hl, dif_neg (by rintro ⟨_, g, _⟩; omega)]
 have e1 : cellsAt (putL μ ap o vs) ap 1 = cellsAt μ ap 1 := by rw [cells_put h.blk hl, dif_neg (by rintro ⟨_, g, _⟩; omega)]
 obtain ⟨c, hc⟩ := h.arena.head
 obtain ⟨z, ov, fx, sh, hwb, hws⟩ := h.arena.words
 exact ⟨⟨⟨c, e0.trans hc⟩, ⟨z, ov, fx, sh, (putL_get _ _ _ _ (Ne.symm h.arena.apart)).trans hwb, hws⟩, h.arena.apart⟩, h.lines.keep e1 (putL_get _ _ _ _ (Ne.symm h.d1)), h.blk.put _ _,
  by rw [putL_next]; exact h.n1, by rw [putL_next]; exact h.n2, by rw [putL_next]; exact h.n3, h.d1, h.d2, h.N1, h.L1⟩
theorem AB.grow {μ μ' : Mem} {ap wb lb N L : Nat} {ws : Nat → Nat} {ln : Nat → Bool} (h : AB μ ap wb lb N L ws ln) (hg : Grow μ μ') : AB μ' ap wb lb N L ws ln :=
 ⟨h.arena.grow hg h.n1 h.n2, h.lines.grow hg h.n1 h.n3, by unfold Blk; rw [hg.2 ap h.n1]; exact h.blk, Nat.lt_of_lt_of_le h.n1 hg.1, Nat.lt_of_lt_of_le h.n2 hg.1, Nat.lt_of_lt_of_le h.n3 hg.1, h.d1, h.d2, h.N1, h.L1⟩
theorem AC.grow {μ μ' : Mem} {ap sf st gf gt nx : Nat} (h : AC μ ap sf st gf gt nx) (hg : Grow μ μ') (hn : ap < μ.next) : AC μ' ap sf st gf gt nx := by
 have e : ∀ p, cellsAt μ' ap p = cellsAt μ ap p := fun p => by unfold cellsAt; rw [hg.2 ap hn]
 exact ⟨(e _).trans h.c2, (e _).trans h.c3, (e _).trans h.c4, (e _).trans h.c5, (e _).trans h.c8⟩
def Kept (μ μ' : Mem) (ap lb : Nat) : Prop := μ.next ≤ μ'.next ∧ ∀ i, i < μ.next → i ≠ ap → i ≠ lb → μ'.obs.get i = μ.obs.get i
theorem Kept.of {μ μ' : Mem} {ap lb : Nat} (h : Grow μ μ') : Kept μ μ' ap lb := ⟨h.1, fun i hi _ _ => h.2 i hi⟩
theorem Kept.trans {a b c : Mem} {ap lb : Nat} (h : Kept a b ap lb) (g : Kept b c ap lb) : Kept a c ap lb := ⟨Nat.le_trans h.1 g.1, fun i hi h1 h2 => (g.2 i (Nat.lt_of_lt_of_le hi h.1) h1 h2).trans (h.2 i hi h1 h2)⟩
theorem Kept.put (μ : Mem) (ap lb o : Nat) (vs : List Value) : Kept μ (putL μ ap o vs) ap lb := ⟨by rw [putL_next]; exact Nat.le_refl _, fun i _ h1 _ => putL_get _ _ _ _ h1⟩
theorem put2 {μ : Mem} {ap sf st gf gt nx f' t : Nat} (hb : Blk μ ap 9 t) (h : AC μ ap sf st gf gt nx) : AC (putL μ ap 2 [.int .i64 (.ofNat f')]) ap f' st gf gt nx := by
 have e : ∀ p, p ≠ 2 → cellsAt (putL μ ap 2 [.int .i64 (.ofNat f')]) ap p = cellsAt μ ap p := fun p hp => by
  rw [cells_put hb (by show 2 + 1 ≤ 9; decide), dif_neg (by rintro ⟨_, g1, g2⟩; simp only [List.length_cons, List.length_nil] at g2; omega)]
 exact ⟨by rw [cells_put hb (by show 2 + 1 ≤ 9; decide), dif_pos ⟨rfl, Nat.le_refl _, Nat.le_of_ble_eq_true rfl⟩]; rfl, (e _ (by decide)).trans h.c3, (e _ (by decide)).trans h.c4, (e _ (by decide)).trans h.c5, (e _ (by decide)).trans h.c8⟩
theorem put4 {μ : Mem} {ap sf st gf gt nx f' t : Nat} (hb : Blk μ ap 9 t) (h : AC μ ap sf st gf gt nx) : AC (putL μ ap 4 [.int .i64 (.ofNat f')]) ap sf st f' gt nx := by
 have e : ∀ p, p ≠ 4 → cellsAt (putL μ ap 4 [.int .i64 (.ofNat f')]) ap p = cellsAt μ ap p := fun p hp => by
  rw [cells_put hb (by show 4 + 1 ≤ 9; decide), dif_neg (by rintro ⟨_, g1, g2⟩; simp only [List.length_cons, List.length_nil] at g2; omega)]
 exact ⟨(e _ (by decide)).trans h.c2, (e _ (by decide)).trans h.c3, by rw [cells_put hb (by show 4 + 1 ≤ 9; decide), dif_pos ⟨rfl, Nat.le_refl _, Nat.le_of_ble_eq_true rfl⟩]; rfl, (e _ (by decide)).trans h.c5, (e _ (by decide)).trans h.c8⟩
theorem put8 {μ : Mem} {ap sf st gf gt nx f' t : Nat} (hb : Blk μ ap 9 t) (h : AC μ ap sf st gf gt nx) : AC (putL μ ap 8 [.int .i64 (.ofNat f')]) ap sf st gf gt f' := by
 have e : ∀ p, p ≠ 8 → cellsAt (putL μ ap 8 [.int .i64 (.ofNat f')]) ap p = cellsAt μ ap p := fun p hp => by
  rw [cells_put hb (by show 8 + 1 ≤ 9; decide), dif_neg (by rintro ⟨_, g1, g2⟩; simp only [List.length_cons, List.length_nil] at g2; omega)]
 exact ⟨(e _ (by decide)).trans h.c2, (e _ (by decide)).trans h.c3, (e _ (by decide)).trans h.c4, (e _ (by decide)).trans h.c5, by rw [cells_put hb (by show 8 + 1 ≤ 9; decide), dif_pos ⟨rfl, Nat.le_refl _, Nat.le_of_ble_eq_true rfl⟩]; rfl⟩
theorem put22 {μ : Mem} {ap sf st gf gt nx f' t' t : Nat} (hb : Blk μ ap 9 t) (h : AC μ ap sf st gf gt nx) : AC (putL μ ap 2 [.int .i64 (.ofNat f'), .int .i64 (.ofNat t')]) ap f' t' gf gt nx := by
 have e : ∀ p, p ≠ 2 → p ≠ 3 → cellsAt (putL μ ap 2 [.int .i64 (.ofNat f'), .int .i64 (.ofNat t')]) ap p = cellsAt μ ap p := fun p hp hq => by
  rw [cells_put hb (by show 2 + 2 ≤ 9; decide), dif_neg (by rintro ⟨_, g1, g2⟩; simp only [List.length_cons, List.length_nil] at g2; omega)]
 exact ⟨by rw [cells_put hb (by show 2 + 2 ≤ 9; decide), dif_pos ⟨rfl, by decide, Nat.le_of_ble_eq_true rfl⟩]; rfl, by rw [cells_put hb (by show 2 + 2 ≤ 9; decide), dif_pos ⟨rfl, by decide, Nat.le_of_ble_eq_true rfl⟩]; rfl,
  (e _ (by decide) (by decide)).trans h.c4, (e _ (by decide) (by decide)).trans h.c5, (e _ (by decide) (by decide)).trans h.c8⟩
theorem put42 {μ : Mem} {ap sf st gf gt nx f' t' t : Nat} (hb : Blk μ ap 9 t) (h : AC μ ap sf st gf gt nx) : AC (putL μ ap 4 [.int .i64 (.ofNat f'), .int .i64 (.ofNat t')]) ap sf st f' t' nx := by
 have e : ∀ p, p ≠ 4 → p ≠ 5 → cellsAt (putL μ ap 4 [.int .i64 (.ofNat f'), .int .i64 (.ofNat t')]) ap p = cellsAt μ ap p := fun p hp hq => by
  rw [cells_put hb (by show 4 + 2 ≤ 9; decide), dif_neg (by rintro ⟨_, g1, g2⟩; simp only [List.length_cons, List.length_nil] at g2; omega)]
 exact ⟨(e _ (by decide) (by decide)).trans h.c2, (e _ (by decide) (by decide)).trans h.c3, by rw [cells_put hb (by show 4 + 2 ≤ 9; decide), dif_pos ⟨rfl, by decide, Nat.le_of_ble_eq_true rfl⟩]; rfl, by rw [cells_put hb (by show 4 + 2 ≤ 9; decide), dif_pos ⟨rfl, by decide, Nat.le_of_ble_eq_true rfl⟩]; rfl,
  (e _ (by decide) (by decide)).trans h.c8⟩
end
noncomputable section
variable {X : FuncId → List Value → Mem → Option (Value × Mem)}
theorem takeno_eq {g ap o f t n : Nat} {μ : Mem} (hg : 20 ≤ g) (hf : cellsAt μ ap o = some (.int .i64 (.ofNat f))) (ht : cellsAt μ ap (o + 1) = some (.int .i64 (.ofNat t))) (hft : f ≤ t) (hT : t < 4611686018427387904) (hn : t - f < n) :
  aFun Tryz.prog (aCode Tryz.prog X S0 g) 100 [.pointer (some ⟨ap, o, none⟩), .int .i64 (.ofNat n)] μ = some (.tuple #[.int .i64 0, .bool false], ⟨μ.obs, μ.next + 11⟩) := by
 obtain ⟨k, rfl⟩ := Nat.exists_eq_add_of_le' hg
 exact ends_eq (take_no hf ht hft hT hn)
theorem takeok_eq {g ap o f t n c te : Nat} {μ : Mem} (hg : 20 ≤ g) (hb : Blk μ ap c te) (ho : o < c) (hf : cellsAt μ ap o = some (.int .i64 (.ofNat f))) (ht : cellsAt μ ap (o + 1) = some (.int .i64 (.ofNat t))) (hft : f ≤ t) (hT : t < 4611686018427387904) (hn : f + n ≤ t) :
  aFun Tryz.prog (aCode Tryz.prog X S0 g) 100 [.pointer (some ⟨ap, o, none⟩), .int .i64 (.ofNat n)] μ = some (.tuple #[.int .i64 (.ofNat f), .bool true], putL ⟨μ.obs, μ.next + 11⟩ ap o [.int .i64 (.ofNat (f + n))]) := by
 obtain ⟨k, rfl⟩ := Nat.exists_eq_add_of_le' hg
 exact ends_eq (take_ok hb ho hf ht hft hT hn)
theorem faA2 (ρ : Operand → Value) (x : Operand) : aFieldAddr Tryz.prog ρ 118 x 2 = (match ρ x with | .pointer (some a) => some (.pointer (some (a.add 2))) | _ => none) := fieldAddr_at (ft := 116) (off := 2) Tryz.underlying118 rfl iR rfl ρ x
theorem faA3 (ρ : Operand → Value) (x : Operand) : aFieldAddr Tryz.prog ρ 118 x 3 = (match ρ x with | .pointer (some a) => some (.pointer (some (a.add 4))) | _ => none) := fieldAddr_at (ft := 116) (off := 4) Tryz.underlying118 rfl iR rfl ρ x
theorem faA5 (ρ : Operand → Value) (x : Operand) : aFieldAddr Tryz.prog ρ 118 x 5 = (match ρ x with | .pointer (some a) => some (.pointer (some (a.add 8))) | _ => none) := fieldAddr_at (ft := 3) (off := 8) Tryz.underlying118 rfl i3 rfl ρ x
set_option maxHeartbeats 4000000 in
theorem great_old {g ap wb lb N L n sf st gf gt nx : Nat} {ws : Nat → Nat} {ln : Nat → Bool} {μ : Mem} (hg : 30 ≤ g) (hB : AB μ ap wb lb N L ws ln) (hC : AC μ ap sf st gf gt nx) (hgt : gf ≤ gt) (hgT : gt < 1000000) (hn : gf + n ≤ gt) :
  EndsF (aFun Tryz.prog (aCode Tryz.prog X S0 g) 99 [.pointer (some ⟨ap, 0, none⟩), .int .i64 (.ofNat n)] μ) fun v μ' => v = .tuple #[.int .i64 (.ofNat gf), .bool true] ∧ AB μ' ap wb lb N L ws ln ∧ AC μ' ap sf st (gf + n) gt nx ∧ Kept μ μ' ap lb := by
 obtain ⟨k, rfl⟩ := Nat.exists_eq_add_of_le' hg
 have ht : ∀ g, 20 ≤ g → aFun Tryz.prog (aCode Tryz.prog X S0 g) 100 [.pointer (some ⟨ap, 4, none⟩), .int .i64 (.ofNat n)] μ = some (.tuple #[.int .i64 (.ofNat gf), .bool true], putL ⟨μ.obs, μ.next + 11⟩ ap 4 [.int .i64 (.ofNat (gf + n))]) := fun g hg =>
  takeok_eq hg hB.blk (by decide) hC.c4 hC.c5 hgt (by omega) hn
 refine fun_enter Tryz.func99 rfl rfl (Nat.le_of_ble_eq_true rfl) ?_
 simp only [T.lay, Nat.zero_add, Tryz.ntmps99, Nat.reduceAdd]
 refine code_seq ?_
 refine code_region ?_ ?_
 ·rfl
 simp only [run1, go_sem, Nat.reduceLT, Nat.reduceAdd, Nat.reduceEqDiff, reduceIte, reduceCtorEq]
 refine code_seq ?_
 refine code_seq ?_
 refine code_region ?_ ?_
 ·rfl
 simp only [run1, go_sem, Nat.reduceLT, Nat.reduceAdd, Nat.reduceEqDiff, reduceIte, reduceCtorEq, faA3, gg100, ht, Nat.reduceLeDiff]
 refine code_seq ?_
 refine code_region ?_ ?_
 ·rfl
 simp only [run1, go_sem, Nat.reduceLT, Nat.reduceAdd, Nat.reduceEqDiff, reduceIte, reduceCtorEq]
 refine code_cond_true ?_ ?_
 ·simp only [aev, regAt_set, Nat.reduceEqDiff, reduceIte]
 refine code_seq ?_
 refine code_region ?_ ?_
 ·rfl
 simp only [run1, go_sem, Nat.reduceLT, Nat.reduceAdd, Nat.reduceEqDiff, reduceIte, reduceCtorEq]
 refine code_ret ?_
 have hg1 := grow_up μ 11
 refine ⟨rfl, _, ?_, rfl, (hB.grow hg1).put (by decide) (Nat.le_of_ble_eq_true rfl), put4 (hB.grow hg1).blk (hC.grow hg1 hB.n1), (Kept.of hg1).trans (Kept.put _ _ _ _ _)⟩
 simp only [aResults, Tryz.results99, aRes, regAt_set, Nat.reduceEqDiff, reduceIte]
set_option maxHeartbeats 4000000 in
theorem great_new {g ap wb lb N L n sf st gf gt nx nb d a t fa ta : Nat} {ws : Nat → Nat} {ln : Nat → Bool} {μ : Mem} (hg : 300 ≤ g) (hB : AB μ ap wb lb N L ws ln) (hC : AC μ ap sf st gf gt nx) (hgt : gf ≤ gt) (hgT : gt < 1000000) (hn : gt - gf < n) (hn2 : n ≤ 256)
  (hnb : nb = N / 256) (hnL : nb * 16 ≤ L) (ha : a = d * 16) (ht : t = (d + 1) * 16) (hd : cnt ln a 16 = 16) (hdn : d < nb) (hdn2 : nb ≤ d + 20) (hx : ∀ x, d < x → x < nb → cnt ln (x * 16) 16 ≠ 16) (hfa : fa = a * 16) (hta : ta = t * 16) :
  EndsF (aFun Tryz.prog (aCode Tryz.prog X S0 g) 99 [.pointer (some ⟨ap, 0, none⟩), .int .i64 (.ofNat n)] μ) fun v μ' => v = .tuple #[.int .i64 (.ofNat fa), .bool true] ∧ AB μ' ap wb lb N L ws (fill ln a t) ∧ AC μ' ap sf st (fa + n) ta nx ∧ Kept μ μ' ap lb := by
 obtain ⟨k, rfl⟩ := Nat.exists_eq_add_of_le' hg
 have htk : ∀ g, 20 ≤ g → aFun Tryz.prog (aCode Tryz.prog X S0 g) 100 [.pointer (some ⟨ap, 4, none⟩), .int .i64 (.ofNat n)] μ = some (.tuple #[.int .i64 0, .bool false], ⟨μ.obs, μ.next + 11⟩) := fun g hg =>
  takeno_eq hg hC.c4 hC.c5 hgt (by omega) hn
 have hg1 := grow_up μ 11
 have hB1 := hB.grow hg1
 have hC1 := hC.grow hg1 hB.n1
 have hN1 := hB.N1
 have hL1 := hB.L1
 obtain ⟨v2, μ2, hbl, hv2, hg2⟩ := block_ends (X := X) (f := k + 296) (by omega) hB1.arena hB1.lines hB1.n1 hB1.n3 hB1.n2 hnb hnL hN1 hL1 ha ht hd hdn hdn2 hx
 subst hv2
 have hB2 := hB1.grow hg2
 have hC2 := hC1.grow hg2 hB1.n1
 obtain ⟨v3, μ3, hcl, hv3, hL3, hn3, hk3⟩ := claim (X := X) (f := k + 293) (a := a) (t := t) (by omega) hB2.lines hB2.d1 hB2.n1 hB2.n3 (by omega) (by omega) (by omega) hL1
 rw [← hfa, ← hta] at hv3
 subst hv3
 have e3 : ∀ p, cellsAt μ3 ap p = cellsAt μ2 ap p := fun p => by unfold cellsAt; rw [hk3 ap hB2.n1 hB2.d1]
 have hB3 : AB μ3 ap wb lb N L ws (fill ln a t) := ⟨hB2.arena.keep (hk3 ap hB2.n1 hB2.d1) (hk3 wb hB2.n2 hB2.d2), hL3, by unfold Blk; rw [hk3 ap hB2.n1 hB2.d1]; exact hB2.blk,
  by rw [hn3]; exact Nat.lt_succ_of_lt hB2.n1, by rw [hn3]; exact Nat.lt_succ_of_lt hB2.n2, by rw [hn3]; exact Nat.lt_succ_of_lt hB2.n3, hB2.d1, hB2.d2, hN1, hL1⟩
 have hC3 : AC μ3 ap sf st gf gt nx := ⟨(e3 _).trans hC2.c2, (e3 _).trans hC2.c3, (e3 _).trans hC2.c4, (e3 _).trans hC2.c5, (e3 _).trans hC2.c8⟩
 have hst : aStore Tryz.prog μ3 116 (.pointer (some ⟨ap, 4, none⟩)) (.agg #[.int .i64 (.ofNat fa), .int .i64 (.ofNat ta)]) = some (undef, putL μ3 ap 4 [.int .i64 (.ofNat fa), .int .i64 (.ofNat ta)]) := store_puts (t := 116) (o := 4) (vs := [.int .i64 (.ofNat fa), .int .i64 (.ofNat ta)]) iR rfl rfl hB3.blk (by show 4 + 2 ≤ 9; decide)
 have hB4 := hB3.put (o := 4) (vs := [.int .i64 (.ofNat fa), .int .i64 (.ofNat ta)]) (by decide) (by show 4 + 2 ≤ 9; decide)
 have hC4 := put42 (f' := fa) (t' := ta) hB3.blk hC3
 obtain ⟨μ4, hμ4⟩ : ∃ x, x = putL μ3 ap 4 [.int .i64 (.ofNat fa), .int .i64 (.ofNat ta)] := ⟨_, rfl⟩
 rw [← hμ4] at hst hB4 hC4
 have ht2 : ∀ g, 20 ≤ g → aFun Tryz.prog (aCode Tryz.prog X S0 g) 100 [.pointer (some ⟨ap, 4, none⟩), .int .i64 (.ofNat n)] μ4 = some (.tuple #[.int .i64 (.ofNat fa), .bool true], putL ⟨μ4.obs, μ4.next + 11⟩ ap 4 [.int .i64 (.ofNat (fa + n))]) := fun g hg =>
  takeok_eq hg hB4.blk (by decide) hC4.c4 hC4.c5 (by omega) (by omega) (by omega)
 have hg5 := grow_up μ4 11
 have hk : Kept μ μ4 ap lb := by
  refine (Kept.of (hg1.trans hg2)).trans ⟨?_, fun i hi h1 h2 => ?_⟩
  ·rw [hμ4, putL_next, hn3]; exact Nat.le_succ _
  ·rw [hμ4, putL_get _ _ _ _ h1]; exact hk3 i hi h2
 refine fun_enter Tryz.func99 rfl rfl (Nat.le_of_ble_eq_true rfl) ?_
 simp only [T.lay, Nat.zero_add, Tryz.ntmps99, Nat.reduceAdd]
 refine code_seq ?_
 refine code_region ?_ ?_
 ·rfl
 simp only [run1, go_sem, Nat.reduceLT, Nat.reduceAdd, Nat.reduceEqDiff, reduceIte, reduceCtorEq]
 refine code_seq ?_
 refine code_seq ?_
 refine code_region ?_ ?_
 ·rfl
 simp only [run1, go_sem, Nat.reduceLT, Nat.reduceAdd, Nat.reduceEqDiff, reduceIte, reduceCtorEq, faA3, gg100, htk, Nat.reduceLeDiff]
 refine code_seq ?_
 refine code_region ?_ ?_
 ·rfl
 simp only [run1, go_sem, Nat.reduceLT, Nat.reduceAdd, Nat.reduceEqDiff, reduceIte, reduceCtorEq]
 refine code_cond_false ?_ ?_
 ·simp only [aev, regAt_set, Nat.reduceEqDiff, reduceIte]
 refine code_skip ?_
 simp only [then_normal]
 refine code_seq ?_
 refine code_region ?_ ?_
 ·rfl
 simp only [run1, go_sem, Nat.reduceLT, Nat.reduceAdd, Nat.reduceEqDiff, reduceIte, reduceCtorEq, gg119, hbl]
 refine code_seq ?_
 refine code_seq ?_
 refine code_region ?_ ?_
 ·rfl
 simp only [run1, go_sem, Nat.reduceLT, Nat.reduceAdd, Nat.reduceEqDiff, reduceIte, reduceCtorEq]
 refine code_cond_false ?_ ?_
 ·simp only [aev, regAt_set, Nat.reduceEqDiff, reduceIte]
 refine code_skip ?_
 simp only [then_normal]
 refine code_seq ?_
 refine code_seq ?_
 refine code_region ?_ ?_
 ·rfl
 simp only [run1, go_sem, Nat.reduceLT, Nat.reduceAdd, Nat.reduceEqDiff, reduceIte, reduceCtorEq]
 refine code_cond_false ?_ ?_
 ·simp only [aev, regAt_set, Nat.reduceEqDiff, reduceIte]
 refine code_skip ?_
 simp only [then_normal]
 refine code_seq ?_
 refine code_region ?_ ?_
 ·rfl
 simp only [run1, go_sem, Nat.reduceLT, Nat.reduceAdd, Nat.reduceEqDiff, reduceIte, reduceCtorEq, gg102, hcl, faA3, hst]
 refine code_seq ?_
 refine code_region ?_ ?_
 ·rfl
 simp only [run1, go_sem, Nat.reduceLT, Nat.reduceAdd, Nat.reduceEqDiff, reduceIte, reduceCtorEq, gg100, ht2, faA3, Nat.reduceLeDiff]
 refine code_ret ?_
 refine ⟨rfl, _, ?_, rfl, (hB4.grow hg5).put (by decide) (Nat.le_of_ble_eq_true rfl), put4 (hB4.grow hg5).blk (hC4.grow hg5 hB4.n1), (hk.trans (Kept.of hg5)).trans (Kept.put _ _ _ _ _)⟩
 simp only [aResults, Tryz.results99, aRes, regAt_set, Nat.reduceEqDiff, reduceIte]
end
noncomputable section
variable {X : FuncId → List Value → Mem → Option (Value × Mem)}
set_option maxHeartbeats 4000000 in
theorem alloc_great {g ap n : Nat} {μ μ2 : Mem} {v : Value} (h1 : 16 < n) (h2 : n ≤ 256) (hv : aFun Tryz.prog (aCode Tryz.prog X S0 g) 99 [.pointer (some ⟨ap, 0, none⟩), .int .i64 (.ofNat n)] μ = some (.tuple #[v, .bool true], μ2)) :
  aFun Tryz.prog (aCode Tryz.prog X S0 (g + 9)) 80 [.pointer (some ⟨ap, 0, none⟩), .int .i64 (.ofNat n)] μ = some (.tuple #[v, .bool true], μ2) := by
 refine ends_eq ?_
 have w1 : ilt (.ofNat n) 1 = false := (ilt_nat n 1).trans (decide_eq_false (by omega))
 have w2 : ilt 256 (.ofNat n) = false := (ilt_nat 256 n).trans (decide_eq_false (by omega))
 have w3 : ilt 16 (.ofNat n) = true := (ilt_nat 16 n).trans (decide_eq_true h1)
 refine fun_enter Tryz.func80 rfl rfl (Nat.le_of_ble_eq_true rfl) ?_
 simp only [T.lay, Nat.zero_add, Tryz.ntmps80, Nat.reduceAdd]
 refine code_seq ?_
 refine code_region ?_ ?_
 ·rfl
 simp only [run1, go_sem, Nat.reduceLT, Nat.reduceAdd, Nat.reduceEqDiff, reduceIte, reduceCtorEq]
 refine code_seq ?_
 refine code_block ?_
 refine code_seq ?_
 refine code_guards (gs := ?_) ?_ ?_
 rotate_left
 ·rfl
 iterate 7 (refine run2_true (by first | rfl | (simp only [wanted, go_sem, Nat.reduceLT, Nat.reduceAdd, Nat.reduceEqDiff, reduceIte, reduceCtorEq, w1, w2])) (by simp only [go_sem, Nat.reduceLT, Nat.reduceAdd, Nat.reduceEqDiff, reduceIte, reduceCtorEq, w1, w2]; try exact rfl) rfl ?_)
 simp only [run2, ends_some, then_normal]
 refine code_cond_false ?_ ?_
 ·simp only [aev, regAt_set, Nat.reduceEqDiff, reduceIte]
 refine code_seq ?_
 refine code_region ?_ ?_
 ·rfl
 simp only [run1, go_sem, Nat.reduceLT, Nat.reduceAdd, Nat.reduceEqDiff, reduceIte, reduceCtorEq, w3]
 refine code_cond_true ?_ ?_
 ·simp only [aev, regAt_set, Nat.reduceEqDiff, reduceIte]
 refine code_seq ?_
 refine code_region ?_ ?_
 ·rfl
 simp only [run1, go_sem, Nat.reduceLT, Nat.reduceAdd, Nat.reduceEqDiff, reduceIte, reduceCtorEq, gg99, hv]
 refine code_ret ?_
 simp only [blockC, then_ret]
 refine ⟨rfl, _, ?_, rfl, rfl⟩
 simp only [aResults, Tryz.results80, aRes, regAt_set, Nat.reduceEqDiff, reduceIte]
set_option maxHeartbeats 4000000 in
theorem small_old {g ap wb lb N L n sf st gf gt nx : Nat} {ws : Nat → Nat} {ln : Nat → Bool} {μ : Mem} (hg : 40 ≤ g) (hB : AB μ ap wb lb N L ws ln) (hC : AC μ ap sf st gf gt nx) (hst : sf ≤ st) (hsT : st < 1000000) (hn : sf + n ≤ st) (h1 : 1 ≤ n) (h2 : n ≤ 16) :
  EndsF (aFun Tryz.prog (aCode Tryz.prog X S0 g) 80 [.pointer (some ⟨ap, 0, none⟩), .int .i64 (.ofNat n)] μ) fun v μ' => v = .tuple #[.int .i64 (.ofNat sf), .bool true] ∧ AB μ' ap wb lb N L ws ln ∧ AC μ' ap (sf + n) st gf gt nx ∧ Kept μ μ' ap lb := by
 obtain ⟨k, rfl⟩ := Nat.exists_eq_add_of_le' hg
 have ht : ∀ g, 20 ≤ g → aFun Tryz.prog (aCode Tryz.prog X S0 g) 100 [.pointer (some ⟨ap, 2, none⟩), .int .i64 (.ofNat n)] μ = some (.tuple #[.int .i64 (.ofNat sf), .bool true], putL ⟨μ.obs, μ.next + 11⟩ ap 2 [.int .i64 (.ofNat (sf + n))]) := fun g hg =>
  takeok_eq hg hB.blk (by decide) hC.c2 hC.c3 hst (by omega) hn
 have w1 : ilt (.ofNat n) 1 = false := (ilt_nat n 1).trans (decide_eq_false (by omega))
 have w2 : ilt 256 (.ofNat n) = false := (ilt_nat 256 n).trans (decide_eq_false (by omega))
 have w3 : ilt 16 (.ofNat n) = false := (ilt_nat 16 n).trans (decide_eq_false (by omega))
 have hg1 := grow_up μ 11
 refine fun_enter Tryz.func80 rfl rfl (Nat.le_of_ble_eq_true rfl) ?_
 simp only [T.lay, Nat.zero_add, Tryz.ntmps80, Nat.reduceAdd]
 refine code_seq ?_
 refine code_region ?_ ?_
 ·rfl
 simp only [run1, go_sem, Nat.reduceLT, Nat.reduceAdd, Nat.reduceEqDiff, reduceIte, reduceCtorEq]
 refine code_seq ?_
 refine code_block ?_
 refine code_seq ?_
 refine code_guards (gs := ?_) ?_ ?_
 rotate_left
 ·rfl
 iterate 7 (refine run2_true (by first | rfl | (simp only [wanted, go_sem, Nat.reduceLT, Nat.reduceAdd, Nat.reduceEqDiff, reduceIte, reduceCtorEq, w1, w2])) (by simp only [go_sem, Nat.reduceLT, Nat.reduceAdd, Nat.reduceEqDiff, reduceIte, reduceCtorEq, w1, w2]; try exact rfl) rfl ?_)
 simp only [run2, ends_some, then_normal]
 refine code_cond_false ?_ ?_
 ·simp only [aev, regAt_set, Nat.reduceEqDiff, reduceIte]
 refine code_seq ?_
 refine code_region ?_ ?_
 ·rfl
 simp only [run1, go_sem, Nat.reduceLT, Nat.reduceAdd, Nat.reduceEqDiff, reduceIte, reduceCtorEq, w3]
 refine code_cond_false ?_ ?_
 ·simp only [aev, regAt_set, Nat.reduceEqDiff, reduceIte]
 refine code_skip ?_
 simp only [blockC, then_normal]
 refine code_seq ?_
 refine code_seq ?_
 refine code_region ?_ ?_
 ·rfl
 simp only [run1, go_sem, Nat.reduceLT, Nat.reduceAdd, Nat.reduceEqDiff, reduceIte, reduceCtorEq, faA2, gg100, ht, Nat.reduceLeDiff]
 refine code_seq ?_
 refine code_region ?_ ?_
 ·rfl
 simp only [run1, go_sem, Nat.reduceLT, Nat.reduceAdd, Nat.reduceEqDiff, reduceIte, reduceCtorEq]
 refine code_cond_true ?_ ?_
 ·simp only [aev, regAt_set, Nat.reduceEqDiff, reduceIte]
 refine code_seq ?_
 refine code_region ?_ ?_
 ·rfl
 simp only [run1, go_sem, Nat.reduceLT, Nat.reduceAdd, Nat.reduceEqDiff, reduceIte, reduceCtorEq]
 refine code_ret ?_
 refine ⟨rfl, _, ?_, rfl, (hB.grow hg1).put (by decide) (Nat.le_of_ble_eq_true rfl), put2 (hB.grow hg1).blk (hC.grow hg1 hB.n1), (Kept.of hg1).trans (Kept.put _ _ _ _ _)⟩
 simp only [aResults, Tryz.results80, aRes, regAt_set, Nat.reduceEqDiff, reduceIte]
set_option maxHeartbeats 4000000 in
theorem small_new {g ap wb lb N L n sf st gf gt nx t fa ta : Nat} {ws : Nat → Nat} {ln : Nat → Bool} {μ : Mem} (hg : 300 ≤ g) (hB : AB μ ap wb lb N L ws ln) (hC : AC μ ap sf st gf gt nx) (hst : sf ≤ st) (hsT : st < 1000000) (hn : st - sf < n) (h1 : 1 ≤ n) (h2 : n ≤ 16)
  (h16 : nx % 16 = 0) (ht : t = nx + 16) (htL : t < L) (hln : ∀ k, nx ≤ k → k < t → ln k = false) (hfa : fa = nx * 16) (hta : ta = t * 16) :
  EndsF (aFun Tryz.prog (aCode Tryz.prog X S0 g) 80 [.pointer (some ⟨ap, 0, none⟩), .int .i64 (.ofNat n)] μ) fun v μ' => v = .tuple #[.int .i64 (.ofNat fa), .bool true] ∧ AB μ' ap wb lb N L ws (fill ln nx t) ∧ AC μ' ap (fa + n) ta gf gt t ∧ Kept μ μ' ap lb := by
 obtain ⟨k, rfl⟩ := Nat.exists_eq_add_of_le' hg
 have htk : ∀ g, 20 ≤ g → aFun Tryz.prog (aCode Tryz.prog X S0 g) 100 [.pointer (some ⟨ap, 2, none⟩), .int .i64 (.ofNat n)] μ = some (.tuple #[.int .i64 0, .bool false], ⟨μ.obs, μ.next + 11⟩) := fun g hg =>
  takeno_eq hg hC.c2 hC.c3 hst (by omega) hn
 have w1 : ilt (.ofNat n) 1 = false := (ilt_nat n 1).trans (decide_eq_false (by omega))
 have w2 : ilt 256 (.ofNat n) = false := (ilt_nat 256 n).trans (decide_eq_false (by omega))
 have w3 : ilt 16 (.ofNat n) = false := (ilt_nat 16 n).trans (decide_eq_false (by omega))
 have hg1 := grow_up μ 11
 have hB1 := hB.grow hg1
 have hC1 := hC.grow hg1 hB.n1
 have hN1 := hB.N1
 have hL1 := hB.L1
 have hfd : ∀ g, 90 ≤ g → aFun Tryz.prog (aCode Tryz.prog X S0 g) 101 [.pointer (some ⟨ap, 0, none⟩), .int .i64 (.ofNat nx), .int .i64 1] ⟨μ.obs, μ.next + 11⟩ = some (.tuple #[.int .i64 (.ofNat nx), .int .i64 (.ofNat t), .bool true], ⟨μ.obs, μ.next + 11⟩) := fun g hg =>
  find_eq hg hB1.lines h16 ht htL hL1 hln
 have hc8 := hC1.c8
 obtain ⟨v3, μ3, hcl, hv3, hL3, hn3, hk3⟩ := claim (X := X) (f := k + 293) (a := nx) (t := t) (by omega) hB1.lines hB1.d1 hB1.n1 hB1.n3 (by omega) (by omega) (by omega) hL1
 rw [← hfa, ← hta] at hv3
 subst hv3
 have e3 : ∀ p, cellsAt μ3 ap p = cellsAt ⟨μ.obs, μ.next + 11⟩ ap p := fun p => by unfold cellsAt; rw [hk3 ap hB1.n1 hB1.d1]
 have hB3 : AB μ3 ap wb lb N L ws (fill ln nx t) := ⟨hB1.arena.keep (hk3 ap hB1.n1 hB1.d1) (hk3 wb hB1.n2 hB1.d2), hL3, by unfold Blk; rw [hk3 ap hB1.n1 hB1.d1]; exact hB1.blk,
  by rw [hn3]; exact Nat.lt_succ_of_lt hB1.n1, by rw [hn3]; exact Nat.lt_succ_of_lt hB1.n2, by rw [hn3]; exact Nat.lt_succ_of_lt hB1.n3, hB1.d1, hB1.d2, hN1, hL1⟩
 have hC3 : AC μ3 ap sf st gf gt nx := ⟨(e3 _).trans hC1.c2, (e3 _).trans hC1.c3, (e3 _).trans hC1.c4, (e3 _).trans hC1.c5, (e3 _).trans hC1.c8⟩
 have hs1 : aStore Tryz.prog μ3 116 (.pointer (some ⟨ap, 2, none⟩)) (.agg #[.int .i64 (.ofNat fa), .int .i64 (.ofNat ta)]) = some (undef, putL μ3 ap 2 [.int .i64 (.ofNat fa), .int .i64 (.ofNat ta)]) := store_puts (t := 116) (o := 2) (vs := [.int .i64 (.ofNat fa), .int .i64 (.ofNat ta)]) iR rfl rfl hB3.blk (by show 2 + 2 ≤ 9; decide)
 have hB4 := hB3.put (o := 2) (vs := [.int .i64 (.ofNat fa), .int .i64 (.ofNat ta)]) (by decide) (by show 2 + 2 ≤ 9; decide)
 have hC4 := put22 (f' := fa) (t' := ta) hB3.blk hC3
 obtain ⟨μ4, hμ4⟩ : ∃ x, x = putL μ3 ap 2 [.int .i64 (.ofNat fa), .int .i64 (.ofNat ta)] := ⟨_, rfl⟩
 rw [← hμ4] at hs1 hB4 hC4
 have hs2 := store_put (t := 3) (v := .int .i64 (.ofNat t)) i3 rfl rfl hB4.blk (show 8 < 9 by decide)
 have hB5 := hB4.put (o := 8) (vs := [.int .i64 (.ofNat t)]) (by decide) (by show 8 + 1 ≤ 9; decide)
 have hC5 := put8 (f' := t) hB4.blk hC4
 obtain ⟨μ5, hμ5⟩ : ∃ x, x = putL μ4 ap 8 [.int .i64 (.ofNat t)] := ⟨_, rfl⟩
 rw [← hμ5] at hs2 hB5 hC5
 have ht2 : ∀ g, 20 ≤ g → aFun Tryz.prog (aCode Tryz.prog X S0 g) 100 [.pointer (some ⟨ap, 2, none⟩), .int .i64 (.ofNat n)] μ5 = some (.tuple #[.int .i64 (.ofNat fa), .bool true], putL ⟨μ5.obs, μ5.next + 11⟩ ap 2 [.int .i64 (.ofNat (fa + n))]) := fun g hg =>
  takeok_eq hg hB5.blk (by decide) hC5.c2 hC5.c3 (by omega) (by omega) (by omega)
 have hg5 := grow_up μ5 11
 have hk : Kept μ μ5 ap lb := by
  refine (Kept.of hg1).trans ⟨?_, fun i hi h1 h2 => ?_⟩
  ·rw [hμ5, putL_next, hμ4, putL_next, hn3]; exact Nat.le_succ _
  ·rw [hμ5, putL_get _ _ _ _ h1, hμ4, putL_get _ _ _ _ h1]; exact hk3 i hi h2
 refine fun_enter Tryz.func80 rfl rfl (Nat.le_of_ble_eq_true rfl) ?_
 simp only [T.lay, Nat.zero_add, Tryz.ntmps80, Nat.reduceAdd]
 refine code_seq ?_
 refine code_region ?_ ?_
 ·rfl
 simp only [run1, go_sem, Nat.reduceLT, Nat.reduceAdd, Nat.reduceEqDiff, reduceIte, reduceCtorEq]
 refine code_seq ?_
 refine code_block ?_
 refine code_seq ?_
 refine code_guards (gs := ?_) ?_ ?_
 rotate_left
 ·rfl
 iterate 7 (refine run2_true (by first | rfl | (simp only [wanted, go_sem, Nat.reduceLT, Nat.reduceAdd, Nat.reduceEqDiff, reduceIte, reduceCtorEq, w1, w2])) (by simp only [go_sem, Nat.reduceLT, Nat.reduceAdd, Nat.reduceEqDiff, reduceIte, reduceCtorEq, w1, w2]; try exact rfl) rfl ?_)
 simp only [run2, ends_some, then_normal]
 refine code_cond_false ?_ ?_
 ·simp only [aev, regAt_set, Nat.reduceEqDiff, reduceIte]
 refine code_seq ?_
 refine code_region ?_ ?_
 ·rfl
 simp only [run1, go_sem, Nat.reduceLT, Nat.reduceAdd, Nat.reduceEqDiff, reduceIte, reduceCtorEq, w3]
 refine code_cond_false ?_ ?_
 ·simp only [aev, regAt_set, Nat.reduceEqDiff, reduceIte]
 refine code_skip ?_
 simp only [blockC, then_normal]
 refine code_seq ?_
 refine code_seq ?_
 refine code_region ?_ ?_
 ·rfl
 simp only [run1, go_sem, Nat.reduceLT, Nat.reduceAdd, Nat.reduceEqDiff, reduceIte, reduceCtorEq, faA2, gg100, htk, Nat.reduceLeDiff]
 refine code_seq ?_
 refine code_region ?_ ?_
 ·rfl
 simp only [run1, go_sem, Nat.reduceLT, Nat.reduceAdd, Nat.reduceEqDiff, reduceIte, reduceCtorEq]
 refine code_cond_false ?_ ?_
 ·simp only [aev, regAt_set, Nat.reduceEqDiff, reduceIte]
 refine code_skip ?_
 simp only [then_normal]
 refine code_seq ?_
 refine code_region ?_ ?_
 ·rfl
 simp only [run1, go_sem, Nat.reduceLT, Nat.reduceAdd, Nat.reduceEqDiff, reduceIte, reduceCtorEq, faA5, ld3, hc8, gg101, hfd, Nat.reduceLeDiff]
 refine code_seq ?_
 refine code_seq ?_
 refine code_region ?_ ?_
 ·rfl
 simp only [run1, go_sem, Nat.reduceLT, Nat.reduceAdd, Nat.reduceEqDiff, reduceIte, reduceCtorEq]
 refine code_cond_false ?_ ?_
 ·simp only [aev, regAt_set, Nat.reduceEqDiff, reduceIte]
 refine code_skip ?_
 simp only [then_normal]
 refine code_seq ?_
 refine code_region ?_ ?_
 ·rfl
 simp only [run1, go_sem, Nat.reduceLT, Nat.reduceAdd, Nat.reduceEqDiff, reduceIte, reduceCtorEq, gg102, hcl, faA2, hs1]
 refine code_seq ?_
 refine code_region ?_ ?_
 ·rfl
 simp only [run1, go_sem, Nat.reduceLT, Nat.reduceAdd, Nat.reduceEqDiff, reduceIte, reduceCtorEq, faA5, hs2]
 refine code_seq ?_
 refine code_region ?_ ?_
 ·rfl
 simp only [run1, go_sem, Nat.reduceLT, Nat.reduceAdd, Nat.reduceEqDiff, reduceIte, reduceCtorEq, gg100, ht2, faA2, Nat.reduceLeDiff]
 refine code_ret ?_
 refine ⟨rfl, _, ?_, rfl, (hB5.grow hg5).put (by decide) (Nat.le_of_ble_eq_true rfl), put2 (hB5.grow hg5).blk (hC5.grow hg5 hB5.n1), (hk.trans (Kept.of hg5)).trans (Kept.put _ _ _ _ _)⟩
 simp only [aResults, Tryz.results80, aRes, regAt_set, Nat.reduceEqDiff, reduceIte]
end
noncomputable section
variable {X : FuncId → List Value → Mem → Option (Value × Mem)}
theorem shl_u (m y r : Nat) (hy : y ≤ 64) (hr : r = m * 2 ^ y) (h : r < 18446744073709551616) : aShift true .u64 (.ofNat m) (.ofNat y) = some (.int .u64 (.ofNat r)) := by
 unfold aShift
 simp only [wide64, show Nat.ble y 64 = true from Nat.ble_eq_true_of_le hy]
 rw [show Nat.mul m (Nat.pow 2 y) = r from hr.symm, qu64 r h]
theorem shl_i (m y r : Nat) (hy : y ≤ 64) (hr : r = m * 2 ^ y) (h : r < 9223372036854775808) : aShift true .i64 (.ofNat m) (.ofNat y) = some (.int .i64 (.ofNat r)) := by
 unfold aShift
 simp only [wide64, show Nat.ble y 64 = true from Nat.ble_eq_true_of_le hy]
 rw [show Nat.mul m (Nat.pow 2 y) = r from hr.symm, q64 r h]
theorem lor_u (a b r : Nat) (hr : r = a ||| b) (ha : a < 18446744073709551616) (hb : b < 18446744073709551616) : aBits Nat.lor .u64 .u64 (.ofNat a) (.ofNat b) = some (.int .u64 (.ofNat r)) := by
 have h1 : Nat.blt a 18446744073709551616 = true := by simpa using ha
 have h2 : Nat.blt b 18446744073709551616 = true := by simpa using hb
 have h3 : r < 18446744073709551616 := by rw [hr]; exact Nat.or_lt_two_pow (n := 64) ha hb
 unfold aBits
 simp only [decide_true, wide64, h1, h2]
 rw [show Nat.lor a b = r from hr.symm, qu64 r h3]
theorem lor_i (a b r : Nat) (hr : r = a ||| b) (ha : a < 9223372036854775808) (hb : b < 9223372036854775808) : aBits Nat.lor .i64 .i64 (.ofNat a) (.ofNat b) = some (.int .i64 (.ofNat r)) := by
 have h1 : Nat.blt a 18446744073709551616 = true := by
  have : a < 18446744073709551616 := by omega
  simpa using this
 have h2 : Nat.blt b 18446744073709551616 = true := by
  have : b < 18446744073709551616 := by omega
  simpa using this
 have h3 : r < 9223372036854775808 := by rw [hr]; exact Nat.or_lt_two_pow (n := 63) ha hb
 unfold aBits
 simp only [decide_true, wide64, h1, h2]
 rw [show Nat.lor a b = r from hr.symm, q64 r h3]
theorem or_add (a b i : Nat) (h : b < 2 ^ i) : a * 2 ^ i ||| b = a * 2 ^ i + b := by
 rw [Nat.mul_comm]; exact (Nat.two_pow_add_eq_or_of_lt h a).symm
set_option maxHeartbeats 4000000 in
theorem made_eq {g tag n r : Nat} {μ : Mem} (hg : 20 ≤ g) (ht : tag < 8) (hn : n < 1000000000) (hr : r = n * 8 + tag) : aFun Tryz.prog (aCode Tryz.prog X S0 g) 38 [.int .u64 (.ofNat tag), .int .i64 (.ofNat n)] μ = some (.int .u64 (.ofNat r), μ) := by
 obtain ⟨k, rfl⟩ := Nat.exists_eq_add_of_le' hg
 refine ends_eq ?_
 obtain ⟨n8, hn8⟩ : ∃ x, x = n * 8 := ⟨_, rfl⟩
 have e1 : aShift true .u64 (.ofNat n) 3 = some (.int .u64 (.ofNat n8)) := shl_u n 3 n8 (by decide) hn8 (by omega)
 have e2 : aBits Nat.lor .u64 .u64 (.ofNat n8) (.ofNat tag) = some (.int .u64 (.ofNat r)) := lor_u n8 tag r (by rw [hn8, hr]; exact (or_add n tag 3 ht).symm) (by omega) (by omega)
 have e0 := qu64 n (by omega)
 refine fun_enter Tryz.func38 rfl rfl (Nat.le_of_ble_eq_true rfl) ?_
 simp only [T.lay, Nat.zero_add, Tryz.ntmps38, Nat.reduceAdd]
 refine code_seq ?_
 refine code_region ?_ ?_
 ·rfl
 simp only [run1, go_sem, Nat.reduceLT, Nat.reduceAdd, Nat.reduceEqDiff, reduceIte, reduceCtorEq]
 refine code_seq ?_
 refine code_region ?_ ?_
 ·rfl
 simp only [run1, go_sem, Nat.reduceLT, Nat.reduceAdd, Nat.reduceEqDiff, reduceIte, reduceCtorEq, cviW, e0, e1, e2]
 refine code_ret ?_
 refine ⟨rfl, _, ?_, rfl, rfl⟩
 simp only [aResults, Tryz.results38, aRes, regAt_set, Nat.reduceEqDiff, reduceIte]
set_option maxHeartbeats 4000000 in
theorem place_eq {g n : Nat} {μ : Mem} (hg : 40 ≤ g) (hn : n < 1000000000) : aFun Tryz.prog (aCode Tryz.prog X S0 g) 82 [.int .i64 (.ofNat n)] μ = some (.int .u64 (.ofNat (placeW n)), μ) := by
 obtain ⟨k, rfl⟩ := Nat.exists_eq_add_of_le' hg
 refine ends_eq ?_
 have hm : ∀ g, 20 ≤ g → aFun Tryz.prog (aCode Tryz.prog X S0 g) 38 [.int .u64 1, .int .i64 (.ofNat n)] μ = some (.int .u64 (.ofNat (placeW n)), μ) := fun g hg => made_eq (tag := 1) hg (by decide) hn (by unfold placeW; omega)
 refine fun_enter Tryz.func82 rfl rfl (Nat.le_of_ble_eq_true rfl) ?_
 simp only [T.lay, Nat.zero_add, Tryz.ntmps82, Nat.reduceAdd]
 refine code_seq ?_
 refine code_region ?_ ?_
 ·rfl
 simp only [run1, go_sem, Nat.reduceLT, Nat.reduceAdd, Nat.reduceEqDiff, reduceIte, reduceCtorEq]
 refine code_seq ?_
 refine code_region ?_ ?_
 ·rfl
 simp only [run1, go_sem, Nat.reduceLT, Nat.reduceAdd, Nat.reduceEqDiff, reduceIte, reduceCtorEq, gg38, hm, Nat.reduceLeDiff]
 refine code_ret ?_
 refine ⟨rfl, _, ?_, rfl, rfl⟩
 simp only [aResults, Tryz.results82, aRes, regAt_set, Nat.reduceEqDiff, reduceIte]
set_option maxHeartbeats 4000000 in
theorem single5_eq {g : Nat} {μ : Mem} (hg : 40 ≤ g) : aFun Tryz.prog (aCode Tryz.prog X S0 g) 17 [.int .i64 5] μ = some (.int .u64 45, μ) := by
 obtain ⟨k, rfl⟩ := Nat.exists_eq_add_of_le' hg
 refine ends_eq ?_
 have hm : ∀ g, 20 ≤ g → aFun Tryz.prog (aCode Tryz.prog X S0 g) 38 [.int .u64 5, .int .i64 5] μ = some (.int .u64 45, μ) := fun g hg => made_eq (tag := 5) (n := 5) (r := 45) hg (by decide) (by decide) rfl
 refine fun_enter Tryz.func17 rfl rfl (Nat.le_of_ble_eq_true rfl) ?_
 simp only [T.lay, Nat.zero_add, Tryz.ntmps17, Nat.reduceAdd]
 refine code_seq ?_
 refine code_region ?_ ?_
 ·rfl
 simp only [run1, go_sem, Nat.reduceLT, Nat.reduceAdd, Nat.reduceEqDiff, reduceIte, reduceCtorEq]
 refine code_seq ?_
 refine code_region ?_ ?_
 ·rfl
 simp only [run1, go_sem, Nat.reduceLT, Nat.reduceAdd, Nat.reduceEqDiff, reduceIte, reduceCtorEq, gg38, hm, Nat.reduceLeDiff]
 refine code_ret ?_
 refine ⟨rfl, _, ?_, rfl, rfl⟩
 simp only [aResults, Tryz.results17, aRes, regAt_set, Nat.reduceEqDiff, reduceIte]
set_option maxHeartbeats 4000000 in
theorem raw_eq {g kd : Nat} {μ : Mem} (hg : 20 ≤ g) (h1 : 16 ≤ kd) (h2 : kd < 32) : aFun Tryz.prog (aCode Tryz.prog X S0 g) 40 [.int .i64 (.ofNat kd)] μ = some (.bool true, μ) := by
 obtain ⟨k, rfl⟩ := Nat.exists_eq_add_of_le' hg
 refine ends_eq ?_
 have w1 : ilt (.ofNat kd) 16 = false := (ilt_nat kd 16).trans (decide_eq_false (by omega))
 have w2 : ilt (.ofNat kd) 32 = true := (ilt_nat kd 32).trans (decide_eq_true h2)
 refine fun_enter Tryz.func40 rfl rfl (Nat.le_of_ble_eq_true rfl) ?_
 simp only [T.lay, Nat.zero_add, Tryz.ntmps40, Nat.reduceAdd]
 refine code_seq ?_
 refine code_region ?_ ?_
 ·rfl
 simp only [run1, go_sem, Nat.reduceLT, Nat.reduceAdd, Nat.reduceEqDiff, reduceIte, reduceCtorEq]
 refine code_seq ?_
 refine code_guards (gs := ?_) ?_ ?_
 rotate_left
 ·rfl
 iterate 7 (refine run2_true (by first | rfl | (simp only [wanted, go_sem, Nat.reduceLT, Nat.reduceAdd, Nat.reduceEqDiff, reduceIte, reduceCtorEq, w1, w2])) (by simp only [go_sem, Nat.reduceLT, Nat.reduceAdd, Nat.reduceEqDiff, reduceIte, reduceCtorEq, w1, w2]; try exact rfl) rfl ?_)
 simp only [run2, ends_some, then_normal]
 refine code_ret ?_
 refine ⟨rfl, _, ?_, rfl, rfl⟩
 simp only [aResults, Tryz.results40, aRes, regAt_set, Nat.reduceEqDiff, reduceIte]
theorem bxH (x y z : Value) : aBox 122 (.agg #[x, y, z]) = some (.cells 3 122 #[x, y, z] .e 0 0 false false, fun id => .pointer (some ⟨id, 0, none⟩)) := rfl
theorem faD1 (ρ : Operand → Value) (x : Operand) : aFieldAddr Tryz.prog ρ 122 x 1 = (match ρ x with | .pointer (some a) => some (.pointer (some (a.add 1))) | _ => none) := fieldAddr_at (ft := 3) (off := 1) Tryz.underlying122 rfl i3 rfl ρ x
set_option maxHeartbeats 4000000 in
theorem head_word_eq {g kd n r : Nat} {μ : Mem} (hg : 20 ≤ g) (h1 : kd < 32) (hn : n < 1000000) (hr : r = headW kd 0 n) : EndsF (aFun Tryz.prog (aCode Tryz.prog X S0 g) 81 [.agg #[.int .i64 (.ofNat kd), .int .i64 0, .int .i64 (.ofNat n)]] μ) fun v μ' => v = .int .u64 (.ofNat r) ∧ μ' = ⟨μ.obs.set μ.next (.cells 3 122 #[.int .i64 (.ofNat kd), .int .i64 0, .int .i64 (.ofNat n)] .e 0 0 false false), μ.next + 1⟩ := by
 obtain ⟨k, rfl⟩ := Nat.exists_eq_add_of_le' hg
 obtain ⟨a1, ha1⟩ : ∃ x, x = n * 256 := ⟨_, rfl⟩
 obtain ⟨a2, ha2⟩ : ∃ x, x = n * 256 + kd := ⟨_, rfl⟩
 obtain ⟨a3, ha3⟩ : ∃ x, x = a2 * 8 := ⟨_, rfl⟩
 have hcl : ∀ p, p < 3 → ∀ x, cellsAt ⟨μ.obs.set μ.next (.cells 3 122 #[.int .i64 (.ofNat kd), .int .i64 0, .int .i64 (.ofNat n)] .e 0 0 false false), x⟩ μ.next p = some (cellAt #[.int .i64 (.ofNat kd), .int .i64 0, .int .i64 (.ofNat n)] .e p) := fun p hp x => cellsAt_of (by show obCells (T.get _ μ.next) = _; rw [T.get_set, if_pos rfl]; rfl) hp
 have c0 : ∀ x, cellsAt ⟨μ.obs.set μ.next (.cells 3 122 #[.int .i64 (.ofNat kd), .int .i64 0, .int .i64 (.ofNat n)] .e 0 0 false false), x⟩ μ.next 0 = some (.int .i64 (.ofNat kd)) := fun x => (hcl 0 (by decide) x).trans rfl
 have c1 : ∀ x, cellsAt ⟨μ.obs.set μ.next (.cells 3 122 #[.int .i64 (.ofNat kd), .int .i64 0, .int .i64 (.ofNat n)] .e 0 0 false false), x⟩ μ.next 1 = some (.int .i64 0) := fun x => (hcl 1 (by decide) x).trans rfl
 have c2 : ∀ x, cellsAt ⟨μ.obs.set μ.next (.cells 3 122 #[.int .i64 (.ofNat kd), .int .i64 0, .int .i64 (.ofNat n)] .e 0 0 false false), x⟩ μ.next 2 = some (.int .i64 (.ofNat n)) := fun x => (hcl 2 (by decide) x).trans rfl
 have e1 : aShift true .i64 (.ofNat n) 8 = some (.int .i64 (.ofNat a1)) := shl_i n 8 a1 (by decide) ha1 (by omega)
 have e2 : aShift true .i64 0 5 = some (.int .i64 0) := shl_i 0 5 0 (by decide) rfl (by decide)
 have e3 : aBits Nat.lor .i64 .i64 (.ofNat a1) 0 = some (.int .i64 (.ofNat a1)) := lor_i a1 0 a1 (Nat.or_zero a1).symm (by omega) (by decide)
 have e4 : aBits Nat.lor .i64 .i64 (.ofNat a1) (.ofNat kd) = some (.int .i64 (.ofNat a2)) := lor_i a1 kd a2 (by rw [ha1, ha2]; exact (or_add n kd 8 (by omega)).symm) (by omega) (by omega)
 have e5 := qu64 a2 (by omega)
 have e6 : aShift true .u64 (.ofNat a2) 3 = some (.int .u64 (.ofNat a3)) := shl_u a2 3 a3 (by decide) ha3 (by omega)
 have e7 : aBits Nat.lor .u64 .u64 (.ofNat a3) 6 = some (.int .u64 (.ofNat r)) := lor_u a3 6 r (by rw [hr, ha3]; unfold headW; rw [show (n * 256 + 0 * 32 + kd) = a2 from by omega]; exact (or_add a2 6 3 (by decide)).symm) (by omega) (by decide)
 refine fun_enter Tryz.func81 rfl rfl (Nat.le_of_ble_eq_true rfl) ?_
 simp only [T.lay, Nat.zero_add, Tryz.ntmps81, Nat.reduceAdd]
 refine code_seq ?_
 refine code_region ?_ ?_
 ·rfl
 simp only [run1, go_sem, Nat.reduceLT, Nat.reduceAdd, Nat.reduceEqDiff, reduceIte, reduceCtorEq, bxH]
 refine code_seq ?_
 refine code_region ?_ ?_
 ·rfl
 simp only [run1, go_sem, Nat.reduceLT, Nat.reduceAdd, Nat.reduceEqDiff, reduceIte, reduceCtorEq, faD0, faD1, faD2, ld3, c0, c1, c2, e1, e2, e3, e4, e5, e6, e7, cviW, Nat.add_zero]
 refine code_ret ?_
 refine ⟨rfl, _, ?_, rfl, rfl⟩
 simp only [aResults, Tryz.results81, aRes, regAt_set, Nat.reduceEqDiff, reduceIte]
end
noncomputable section
variable {X : FuncId → List Value → Mem → Option (Value × Mem)}
theorem bdH2 (ρ : Operand → Value) (a c : Operand) (o1 : one (ρ a) = true) (o3 : one (ρ c) = true) : aBuild Tryz.prog ρ 122 #[(0, a), (2, c)] = some (.agg #[ρ a, .int .i64 0, ρ c]) := by
 refine build_struct (pl := [(0, 1), (1, 1), (2, 1)]) zH Tryz.underlying122 (by kernel_rfl) ?_
 show aFill _ [.int .i64 0, .int .i64 0, .int .i64 0] [(0, ρ a), (2, ρ c)] = some [ρ a, .int .i64 0, ρ c]
 rw [aFill_one (off := 0) rfl o1 (by simp), aFill_one (off := 2) rfl o3 (by simp)]
 rfl
def Only (μ μ' : Mem) (wb : Nat) : Prop := μ'.next = μ.next ∧ ∀ i, i ≠ wb → μ'.obs.get i = μ.obs.get i
theorem Only.refl (μ : Mem) (wb : Nat) : Only μ μ wb := ⟨rfl, fun _ _ => rfl⟩
theorem Only.trans {a b c : Mem} {wb : Nat} (h : Only a b wb) (g : Only b c wb) : Only a c wb := ⟨g.1.trans h.1, fun i hi => (g.2 i hi).trans (h.2 i hi)⟩
theorem Only.cell {μ μ' : Mem} {wb i p : Nat} (h : Only μ μ' wb) (hi : i ≠ wb) : cellsAt μ' i p = cellsAt μ i p := by unfold cellsAt; rw [h.2 i hi]
theorem AB.only {μ μ' : Mem} {ap wb lb N L : Nat} {ws ws' : Nat → Nat} {ln : Nat → Bool} (h : AB μ ap wb lb N L ws ln) (g : Only μ μ' wb) (hA : Arena μ' ap wb N ws') : AB μ' ap wb lb N L ws' ln :=
 ⟨hA, h.lines.keep (g.cell h.arena.apart) (g.2 lb (Ne.symm h.d2)), by unfold Blk; rw [g.2 ap h.arena.apart]; exact h.blk, by rw [g.1]; exact h.n1, by rw [g.1]; exact h.n2, by rw [g.1]; exact h.n3, h.d1, h.d2, h.N1, h.L1⟩
theorem AC.only {μ μ' : Mem} {ap wb sf st gf gt nx : Nat} (h : AC μ ap sf st gf gt nx) (g : Only μ μ' wb) (hw : ap ≠ wb) : AC μ' ap sf st gf gt nx :=
 ⟨(g.cell hw).trans h.c2, (g.cell hw).trans h.c3, (g.cell hw).trans h.c4, (g.cell hw).trans h.c5, (g.cell hw).trans h.c8⟩
def zeros (fw : Nat) (ws : Nat → Nat) (q j : Nat) : Nat → Nat := fun k => if q < k ∧ k ≤ q + j then fw else ws k
theorem zeros_zero (fw : Nat) (ws : Nat → Nat) (q : Nat) : zeros fw ws q 0 = ws := by funext k; unfold zeros; rw [if_neg (by omega)]
theorem zeros_succ (fw : Nat) (ws : Nat → Nat) (q j : Nat) : put (zeros fw ws q j) (q + 1 + j) fw = zeros fw ws q (j + 1) := by
 funext k; unfold put zeros
 by_cases h : k = q + 1 + j
 ·rw [if_pos h, if_pos (by omega)]
 ·rw [if_neg h]
  by_cases h2 : q < k ∧ k ≤ q + j
  ·rw [if_pos h2, if_pos (by omega)]
  ·rw [if_neg h2, if_neg (by omega)]
set_option maxHeartbeats 4000000 in
theorem make_loop {hp ap wb N q n fw : Nat} {ws : Nat → Nat} {μ0 : Mem} (hH : cellsAt μ0 hp 0 = some (.pointer (some ⟨ap, 0, none⟩))) (hw : hp ≠ wb) (hq : q + n < N) (hN : N < 1000000) :
  ∀ (e m j : Nat) (tm : T Value) (μ : Mem), j + m = n → Only μ0 μ wb → Arena μ ap wb N (zeros fw ws q j) → regAt tm 0 = .pointer (some ⟨hp, 0, none⟩) → regAt tm 8 = .int .i64 (.ofNat q) → regAt tm 10 = .int .u64 (.ofNat fw) → regAt tm 51 = .int .i64 (.ofNat n) → regAt tm 52 = .int .i64 (.ofNat j) →
   EndsC (aCode Tryz.prog X S0 (e + m + 60) (.loop (loopBody Tryz.f62 0)) ⟨68, tm, [], none⟩ μ) fun x r μ' => x = .exit 0 ∧ Only μ0 μ' wb ∧ Arena μ' ap wb N (zeros fw ws q n) ∧ ∃ tm', r = ⟨68, tm', [], none⟩ ∧ regAt tm' 8 = .int .i64 (.ofNat q) := by
 intro e m
 induction m with
 | zero =>
   intro j tm μ hj hO hA r0 r8 r10 r51 r52
   obtain rfl : j = n := hj
   refine code_loop ?_
   refine code_seq ?_
   refine code_region ?_ ?_
   ·rfl
   simp only [run1, go_sem, Nat.reduceLT, Nat.reduceAdd, Nat.reduceEqDiff, reduceIte, reduceCtorEq, r52, r51, ilt_nat, Nat.lt_irrefl]
   refine code_seq ?_
   refine code_cond_false ?_ ?_
   ·simp only [aev, regAt_set, Nat.reduceEqDiff, reduceIte]
   refine code_exit ?_
   simp only [then_exit]
   exact ⟨trivial, hO, hA, _, rfl, by simp only [regAt_set, Nat.reduceEqDiff, reduceIte, r8]⟩
 | succ m ih =>
   intro j tm μ hj hO hA r0 r8 r10 r51 r52
   have hlt : j < n := by omega
   have hH' := (hO.cell (p := 0) hw).trans hH
   obtain ⟨q1, hq1⟩ : ∃ x, x = q + 1 := ⟨_, rfl⟩
   obtain ⟨qj, hqj⟩ : ∃ x, x = q1 + j := ⟨_, rfl⟩
   have a1 : qwrap .i64 (Int.add (.ofNat q) 1) = .ofNat q1 := hq1 ▸ add_nat q 1 (by omega)
   have a2 : qwrap .i64 (Int.add (.ofNat q1) (.ofNat j)) = .ofNat qj := hqj ▸ add_nat q1 j (by omega)
   have a3 : qwrap .i64 (Int.add (.ofNat j) 1) = .ofNat (j + 1) := add_nat j 1 (by omega)
   obtain ⟨v1, μ1, hS, hv1, hA1, hn1, hk1⟩ := arena_set (X := X) (S := S0) (k := e + (m + 1) + 33) (w := fw) hA (q := qj) (by omega)
   subst hv1
   have hS : aFun Tryz.prog (aCode Tryz.prog X S0 (e + (m + 1) + 53)) 73 [.pointer (some ⟨ap, 0, none⟩),   .int .i64 (.ofNat qj), .int .u64 (.ofNat fw)] μ = some (.int .i64 0, μ1) := hS
   rw [show qj = q + 1 + j from by omega, zeros_succ] at hA1
   refine code_loop ?_
   refine code_seq ?_
   refine code_region ?_ ?_
   ·rfl
   simp only [run1, go_sem, Nat.reduceLT, Nat.reduceAdd, Nat.reduceEqDiff, reduceIte, reduceCtorEq, r52, r51, ilt_nat, hlt]
   refine code_seq ?_
   refine code_cond_true ?_ ?_
   ·simp only [aev, regAt_set, Nat.reduceEqDiff, reduceIte]
   refine code_skip ?_
   simp only [then_normal]
   refine code_seq ?_
   refine code_block ?_
   refine code_seq ?_
   refine code_region ?_ ?_
   ·rfl
   simp only [run1, go_sem, Nat.reduceLT, Nat.reduceAdd, Nat.reduceEqDiff, reduceIte, reduceCtorEq, r52]
   refine code_region ?_ ?_
   ·rfl
   simp only [run1, go_sem, Nat.reduceLT, Nat.reduceAdd, Nat.reduceEqDiff, reduceIte, reduceCtorEq, r0, r8, r10, faH0, ldA, hH', a1, a2, gg73, hS]
   simp only [blockC, then_normal]
   refine code_region ?_ ?_
   ·rfl
   simp only [run1, go_sem, Nat.reduceLT, Nat.reduceAdd, Nat.reduceEqDiff, reduceIte, reduceCtorEq, r52, a3]
   rw [show e + (m + 1) + 59 = e + m + 60 from by omega]
   refine ih (j + 1) _ _ (by omega) (hO.trans ⟨hn1, hk1⟩) hA1 ?_ ?_ ?_ ?_ ?_ <;> simp only [regAt_set, Nat.reduceEqDiff, reduceIte, r0, r8, r10, r51]
structure HS (μ : Mem) (hp ap wb lb N L : Nat) (ws : Nat → Nat) (ln : Nat → Bool) : Prop where
 head : cellsAt μ hp 0 = some (.pointer (some ⟨ap, 0, none⟩))
 ab : AB μ ap wb lb N L ws ln
 hn : hp < μ.next
 ha : hp ≠ ap
 hw : hp ≠ wb
 hl : hp ≠ lb
def Keeps (μ μ' : Mem) (ap wb lb : Nat) : Prop := μ.next ≤ μ'.next ∧ ∀ i, i < μ.next → i ≠ ap → i ≠ wb → i ≠ lb → μ'.obs.get i = μ.obs.get i
theorem Keeps.trans {a b c : Mem} {ap wb lb : Nat} (h : Keeps a b ap wb lb) (g : Keeps b c ap wb lb) : Keeps a c ap wb lb := ⟨Nat.le_trans h.1 g.1, fun i hi h1 h2 h3 => (g.2 i (Nat.lt_of_lt_of_le hi h.1) h1 h2 h3).trans (h.2 i hi h1 h2 h3)⟩
theorem Keeps.grow {a b : Mem} {ap wb lb : Nat} (h : Grow a b) : Keeps a b ap wb lb := ⟨h.1, fun i hi _ _ _ => h.2 i hi⟩
theorem Keeps.kept {a b : Mem} {ap wb lb : Nat} (h : Kept a b ap lb) : Keeps a b ap wb lb := ⟨h.1, fun i hi h1 _ h3 => h.2 i hi h1 h3⟩
theorem Keeps.only {a b : Mem} {ap wb lb : Nat} (h : Only a b wb) : Keeps a b ap wb lb := ⟨Nat.le_of_eq h.1.symm, fun i hi _ h2 _ => h.2 i h2⟩
theorem HS.keeps {μ μ' : Mem} {hp ap wb lb N L : Nat} {ws ws' : Nat → Nat} {ln ln' : Nat → Bool} (h : HS μ hp ap wb lb N L ws ln) (g : Keeps μ μ' ap wb lb) (hB : AB μ' ap wb lb N L ws' ln') : HS μ' hp ap wb lb N L ws' ln' :=
 ⟨by rw [← h.head]; unfold cellsAt; rw [g.2 hp h.hn h.ha h.hw h.hl], hB, Nat.lt_of_lt_of_le h.hn g.1, h.ha, h.hw, h.hl⟩
theorem HS.grow {μ μ' : Mem} {hp ap wb lb N L : Nat} {ws : Nat → Nat} {ln : Nat → Bool} (h : HS μ hp ap wb lb N L ws ln) (g : Grow μ μ') : HS μ' hp ap wb lb N L ws ln := h.keeps (Keeps.grow g) (h.ab.grow g)
theorem HS.at {μ : Mem} {hp ap wb lb N L : Nat} {ws : Nat → Nat} {ln : Nat → Bool} (h : HS μ hp ap wb lb N L ws ln) : HeapAt μ hp ap wb N ws := ⟨h.head, h.ab.arena, h.hn, h.ab.n1, h.ab.n2, h.hw⟩
def fillW (kd : Nat) : Nat := if 16 ≤ kd then 0 else 45
theorem rawb_eq {g kd : Nat} {μ : Mem} (hg : 20 ≤ g) (h2 : kd < 32) : aFun Tryz.prog (aCode Tryz.prog X S0 g) 40 [.int .i64 (.ofNat kd)] μ = some (.bool (decide (16 ≤ kd)), μ) := by
 by_cases h1 : 16 ≤ kd
 ·rw [raw_eq hg h1 h2, decide_eq_true h1]
 obtain ⟨k, rfl⟩ := Nat.exists_eq_add_of_le' hg
 refine ends_eq ?_
 have w1 : ilt (.ofNat kd) 16 = true := (ilt_nat kd 16).trans (decide_eq_true (by omega))
 rw [decide_eq_false h1]
 refine fun_enter Tryz.func40 rfl rfl (Nat.le_of_ble_eq_true rfl) ?_
 simp only [T.lay, Nat.zero_add, Tryz.ntmps40, Nat.reduceAdd]
 repeat (first | refine code_seq ?_ | ((first | (refine code_region ?_ ?_; (focus rfl)) | (refine code_guards (gs := ?_) ?_ ?_; rotate_left; (focus rfl))); simp only [run1, run2, wanted, go_sem, Nat.reduceLT, Nat.reduceAdd, Nat.reduceEqDiff, reduceIte, reduceCtorEq, w1]) | (refine code_cond_true ?_ ?_; (focus (simp only [aev, regAt_set, Nat.reduceEqDiff, reduceIte, w1]; done))) | (refine code_cond_false ?_ ?_; (focus (simp only [aev, regAt_set, Nat.reduceEqDiff, reduceIte, w1]; done))) | ((first | refine code_skip ?_ | refine code_label ?_ | refine code_exit ?_); try simp only [then_exit, then_normal, blockC, Nat.reduceEqDiff, reduceIte]) | refine code_block ?_)
 refine code_ret ?_
 refine ⟨rfl, _, ?_, rfl, rfl⟩
 simp only [aResults, Tryz.results40, aRes, regAt_set, Nat.reduceEqDiff, reduceIte]
theorem befM : bef [0, 1, 3, 7, 0, 0, 0, 96, 224, 511] 8 3 = false := by kernel_rfl
set_option maxHeartbeats 4000000 in
theorem heap_make {g hp ap wb lb N L q kd n sf' st' gf' gt' nx' : Nat} {ws : Nat → Nat} {ln ln' : Nat → Bool} {μ μ1 : Mem} (hg : 400 ≤ g) (hH : HS μ hp ap wb lb N L ws ln) (h2 : kd < 32) (hn : n ≤ 240) (hq : q + n < N)
  (hal : aFun Tryz.prog (aCode Tryz.prog X S0 (g - 4)) 80 [.pointer (some ⟨ap, 0, none⟩), .int .i64 (.ofNat (n + 1))] μ = some (.tuple #[.int .i64 (.ofNat q), .bool true], μ1)) (hB1 : AB μ1 ap wb lb N L ws ln') (hC1 : AC μ1 ap sf' st' gf' gt' nx') (hK1 : Kept μ μ1 ap lb) :
  EndsF (aFun Tryz.prog (aCode Tryz.prog X S0 g) 62 [.pointer (some ⟨hp, 0, none⟩), .int .i64 (.ofNat kd), .int .i64 (.ofNat n)] μ) fun v μ' => v = .tuple #[.int .u64 (.ofNat (placeW q)), .bool true] ∧ HS μ' hp ap wb lb N L (zeros (fillW kd) (put ws q (headW kd 0 n)) q n) ln' ∧ AC μ' ap sf' st' gf' gt' nx' ∧ Keeps μ μ' ap wb lb := by
 obtain ⟨k, rfl⟩ := Nat.exists_eq_add_of_le' hg
 have hN := hH.ab.N1
 obtain ⟨n1, hn1⟩ : ∃ x, x = n + 1 := ⟨_, rfl⟩
 rw [← hn1, show k + 400 - 4 = k + 396 from rfl] at hal
 have a0 : qwrap .i64 (Int.add (.ofNat n) 1) = .ofNat n1 := hn1 ▸ add_nat n 1 (by omega)
 have z1 : ilt (.ofNat kd) 0 = false := rfl
 have z2 : ilt (.ofNat kd) 32 = true := (ilt_nat kd 32).trans (decide_eq_true h2)
 have z3 : ilt (.ofNat n) 0 = false := rfl
 have z4 : ilt 240 (.ofNat n) = false := (ilt_nat 240 n).trans (decide_eq_false (by omega))
 have hd0 := hH.head
 have hH1 := hH.keeps (Keeps.kept hK1) hB1
 have hd1 := hH1.head
 obtain ⟨hwd, hhw⟩ : ∃ x, x = headW kd 0 n := ⟨_, rfl⟩
 obtain ⟨v2, μ2, hwe, hv2, hm2⟩ := head_word_eq (X := X) (g := k + 394) (kd := kd) (n := n) (r := hwd) (μ := ⟨μ1.obs, μ1.next + 10⟩) (by omega) h2 (by omega) hhw
 subst hv2
 have hg2 : Grow μ1 μ2 := by
  rw [hm2]
  exact (grow_up μ1 10).trans (grow1 ⟨μ1.obs, μ1.next + 10⟩ _)
 have hH2 := hH1.grow hg2
 have hC2 := hC1.grow hg2 hB1.n1
 have hd1' : ∀ x, cellsAt ⟨μ1.obs, x⟩ hp 0 = some (.pointer (some ⟨ap, 0, none⟩)) := fun x => hd1
 have hd2 := hH2.head
 obtain ⟨v3, μ3, hS, hv3, hA3, hn3, hk3⟩ := arena_set (X := X) (S := S0) (k := k + 374) (w := hwd) hH2.ab.arena (q := q) (by omega)
 subst hv3
 have hS : aFun Tryz.prog (aCode Tryz.prog X S0 (k + 394)) 73 [.pointer (some ⟨ap, 0, none⟩), .int .i64 (.ofNat q), .int .u64 (.ofNat hwd)] μ2 = some (.int .i64 0, μ3) := hS
 have hO3 : Only μ2 μ3 wb := ⟨hn3, hk3⟩
 have hB3 := hH2.ab.only hO3 hA3
 have hC3 := hC2.only hO3 hH2.ab.arena.apart
 have hH3 := hH2.keeps (Keeps.only hO3) hB3
 have hraw : ∀ g (μ : Mem), 20 ≤ g → aFun Tryz.prog (aCode Tryz.prog X S0 g) 40 [.int .i64 (.ofNat kd)] μ = some (.bool (decide (16 ≤ kd)), μ) := fun g μ hg => rawb_eq hg h2
 refine fun_enter Tryz.func62 rfl rfl (Nat.le_of_ble_eq_true rfl) ?_
 simp only [T.lay, Nat.zero_add, Tryz.ntmps62, Nat.reduceAdd]
 refine code_seq ?_
 refine code_region ?_ ?_
 ·rfl
 simp only [run1, go_sem, Nat.reduceLT, Nat.reduceAdd, Nat.reduceEqDiff, reduceIte, reduceCtorEq]
 refine code_seq ?_
 refine code_seq ?_
 refine code_guards (gs := ?_) ?_ ?_
 rotate_left
 ·rfl
 iterate 14 (refine run2_true (by first | rfl | (simp only [wanted, go_sem, Nat.reduceLT, Nat.reduceAdd, Nat.reduceEqDiff, reduceIte, reduceCtorEq, z1, z2, z3, z4])) (by simp only [go_sem, Nat.reduceLT, Nat.reduceAdd, Nat.reduceEqDiff, reduceIte, reduceCtorEq, z1, z2, z3, z4]; try exact rfl) rfl ?_)
 simp only [run2, ends_some, then_normal]
 refine code_cond_false ?_ ?_
 ·simp only [aev, regAt_set, Nat.reduceEqDiff, reduceIte]
 refine code_skip ?_
 simp only [then_normal]
 refine code_seq ?_
 refine code_region ?_ ?_
 ·rfl
 simp only [run1, go_sem, Nat.reduceLT, Nat.reduceAdd, Nat.reduceEqDiff, reduceIte, reduceCtorEq, faH0, ldA, hd0, a0, gg80, hal]
 refine code_seq ?_
 refine code_seq ?_
 refine code_region ?_ ?_
 ·rfl
 simp only [run1, go_sem, Nat.reduceLT, Nat.reduceAdd, Nat.reduceEqDiff, reduceIte, reduceCtorEq]
 refine code_cond_false ?_ ?_
 ·simp only [aev, regAt_set, Nat.reduceEqDiff, reduceIte]
 refine code_skip ?_
 simp only [then_normal]
 refine code_seq ?_
 refine code_draw (n := 10) (ms := [0, 1, 3, 7, 0, 0, 0, 96, 224, 511]) (ord := [5, 6, 7, 8, 0, 1, 2, 3, 4, 9]) (ds := ?_) ?_ ?_ ?_ ?_ ?_ ?_
 rotate_left
 ·kernel_rfl
 ·kernel_rfl
 ·kernel_rfl
 ·rfl
 ·rfl
 simp only [dRun, wanted, aDrawOne, heavy, aP, aReads, aR, aT, aCall, aCallVal, aev, regAt_set, aput_mk, aput_none, aNilCheck, faH0, ldA, hd1', hd2, bdH2, one, Addr.add, Nat.add_zero, Nat.zero_add, befM, eqVal_self, gg81, gg73, hwe, hS, endsD_some, Nat.reduceLT, if_true, then_normal, Nat.reduceEqDiff, if_false, reduceIte, decide_true, List.map_cons, List.map_nil, List.nil_append, List.append_nil]
 refine code_seq ?_
 refine code_region ?_ ?_
 ·rfl
 simp only [run1, go_sem, Nat.reduceLT, Nat.reduceAdd, Nat.reduceEqDiff, reduceIte, reduceCtorEq, gg17, single5_eq, Nat.reduceLeDiff]
 refine code_seq ?_
 by_cases h16 : 16 ≤ kd
 ·have hf : fillW kd = 0 := if_pos h16
  rw [hf]
  have hdd : decide (16 ≤ kd) = true := decide_eq_true h16
  refine code_seq ?_
  refine code_region ?_ ?_
  ·rfl
  simp only [run1, go_sem, Nat.reduceLT, Nat.reduceAdd, Nat.reduceEqDiff, reduceIte, reduceCtorEq, gg40, hraw, hdd, Nat.reduceLeDiff]
  refine code_cond_true ?_ ?_
  ·simp only [aev, regAt_set, Nat.reduceEqDiff, reduceIte]
  refine code_region ?_ ?_
  ·rfl
  simp only [run1, go_sem, Nat.reduceLT, Nat.reduceAdd, Nat.reduceEqDiff, reduceIte, reduceCtorEq]
  refine code_seq ?_
  refine code_seq ?_
  refine code_region ?_ ?_
  ·rfl
  simp only [run1, go_sem, Nat.reduceLT, Nat.reduceAdd, Nat.reduceEqDiff, reduceIte, reduceCtorEq]
  refine code_block ?_
  rw [show k + 390 = (k + 330 - n) + n + 60 from by omega]
  refine EndsC.mono (make_loop (q := q) (n := n) (fw := 0) (ws := put ws q hwd) hH3.head hH3.hw hq hN (k + 330 - n) n 0 _ μ3 (by omega) (Only.refl _ _) (by rw [zeros_zero]; exact hB3.arena) ?_ ?_ ?_ ?_ ?_) ?_
  ·simp only [regAt_set, Nat.reduceEqDiff, reduceIte] <;> rfl
  ·simp only [regAt_set, Nat.reduceEqDiff, reduceIte] <;> rfl
  ·simp only [regAt_set, Nat.reduceEqDiff, reduceIte] <;> rfl
  ·simp only [regAt_set, Nat.reduceEqDiff, reduceIte] <;> rfl
  ·simp only [regAt_set, Nat.reduceEqDiff, reduceIte]; rfl
  rintro x' r' μ' ⟨rfl, hO4, hA4, tm', rfl, g8⟩
  simp only [blockC, reduceIte, then_normal]
  have hB4 := hB3.only hO4 hA4
  have hC4 := hC3.only hO4 hB3.arena.apart
  have hpl : ∀ g, 40 ≤ g → aFun Tryz.prog (aCode Tryz.prog X S0 g) 82 [.int .i64 (.ofNat q)] μ' = some (.int .u64 (.ofNat (placeW q)), μ') := fun g hg => place_eq hg (by omega)
  refine code_seq ?_
  refine code_region ?_ ?_
  ·rfl
  simp only [run1, go_sem, Nat.reduceLT, Nat.reduceAdd, Nat.reduceEqDiff, reduceIte, reduceCtorEq, g8, gg82, hpl, Nat.reduceLeDiff]
  refine code_ret ?_
  refine ⟨rfl, _, ?_, rfl, hH3.keeps (Keeps.only hO4) (hhw ▸ hB4), hC4, (((Keeps.kept hK1).trans (Keeps.grow hg2)).trans (Keeps.only hO3)).trans (Keeps.only hO4)⟩
  simp only [aResults, Tryz.results62, aRes, regAt_set, Nat.reduceEqDiff, reduceIte]
 ·have hf : fillW kd = 45 := if_neg h16
  rw [hf]
  have hdd : decide (16 ≤ kd) = false := decide_eq_false h16
  refine code_seq ?_
  refine code_region ?_ ?_
  ·rfl
  simp only [run1, go_sem, Nat.reduceLT, Nat.reduceAdd, Nat.reduceEqDiff, reduceIte, reduceCtorEq, gg40, hraw, hdd, Nat.reduceLeDiff]
  refine code_cond_false ?_ ?_
  ·simp only [aev, regAt_set, Nat.reduceEqDiff, reduceIte]
  refine code_skip ?_
  simp only [then_normal]
  refine code_seq ?_
  refine code_seq ?_
  refine code_region ?_ ?_
  ·rfl
  simp only [run1, go_sem, Nat.reduceLT, Nat.reduceAdd, Nat.reduceEqDiff, reduceIte, reduceCtorEq]
  refine code_block ?_
  rw [show k + 390 = (k + 330 - n) + n + 60 from by omega]
  refine EndsC.mono (make_loop (q := q) (n := n) (fw := 45) (ws := put ws q hwd) hH3.head hH3.hw hq hN (k + 330 - n) n 0 _ μ3 (by omega) (Only.refl _ _) (by rw [zeros_zero]; exact hB3.arena) ?_ ?_ ?_ ?_ ?_) ?_
  ·simp only [regAt_set, Nat.reduceEqDiff, reduceIte] <;> rfl
  ·simp only [regAt_set, Nat.reduceEqDiff, reduceIte] <;> rfl
  ·simp only [regAt_set, Nat.reduceEqDiff, reduceIte] <;> rfl
  ·simp only [regAt_set, Nat.reduceEqDiff, reduceIte] <;> rfl
  ·simp only [regAt_set, Nat.reduceEqDiff, reduceIte]; rfl
  rintro x' r' μ' ⟨rfl, hO4, hA4, tm', rfl, g8⟩
  simp only [blockC, reduceIte, then_normal]
  have hB4 := hB3.only hO4 hA4
  have hC4 := hC3.only hO4 hB3.arena.apart
  have hpl : ∀ g, 40 ≤ g → aFun Tryz.prog (aCode Tryz.prog X S0 g) 82 [.int .i64 (.ofNat q)] μ' = some (.int .u64 (.ofNat (placeW q)), μ') := fun g hg => place_eq hg (by omega)
  refine code_seq ?_
  refine code_region ?_ ?_
  ·rfl
  simp only [run1, go_sem, Nat.reduceLT, Nat.reduceAdd, Nat.reduceEqDiff, reduceIte, reduceCtorEq, g8, gg82, hpl, Nat.reduceLeDiff]
  refine code_ret ?_
  refine ⟨rfl, _, ?_, rfl, hH3.keeps (Keeps.only hO4) (hhw ▸ hB4), hC4, (((Keeps.kept hK1).trans (Keeps.grow hg2)).trans (Keeps.only hO3)).trans (Keeps.only hO4)⟩
  simp only [aResults, Tryz.results62, aRes, regAt_set, Nat.reduceEqDiff, reduceIte]
end
noncomputable section
variable {X : FuncId → List Value → Mem → Option (Value × Mem)}
theorem iHp : Tryz.prog.info? 53 = some Tryz.t53 := by kernel_rfl
theorem faS0 (ρ : Operand → Value) (x : Operand) : aFieldAddr Tryz.prog ρ 58 x 0 = (match ρ x with | .pointer (some a) => some (.pointer (some (a.add 0))) | _ => none) := fieldAddr_at (ft := 53) (off := 0) Tryz.underlying58 rfl iHp rfl ρ x
theorem ldHp (μ : Mem) (i o : Nat) : aLoad Tryz.prog μ 53 (.pointer (some ⟨i, o, none⟩)) = cellsAt μ i o := load_at Tryz.underlying53 rfl μ i o
theorem AB.setw {μ μ' : Mem} {ap wb lb N L : Nat} {ws ws' : Nat → Nat} {ln : Nat → Bool} (h : AB μ ap wb lb N L ws ln) (hA : Arena μ' ap wb N ws') (hle : μ.next ≤ μ'.next) (hk : ∀ j, j < μ.next → j ≠ wb → μ'.obs.get j = μ.obs.get j) : AB μ' ap wb lb N L ws' ln :=
 ⟨hA, h.lines.keep (by unfold cellsAt; rw [hk ap h.n1 h.arena.apart]) (hk lb h.n3 (Ne.symm h.d2)), by unfold Blk; rw [hk ap h.n1 h.arena.apart]; exact h.blk, Nat.lt_of_lt_of_le h.n1 hle, Nat.lt_of_lt_of_le h.n2 hle, Nat.lt_of_lt_of_le h.n3 hle, h.d1, h.d2, h.N1, h.L1⟩
theorem AC.keeps {μ μ' : Mem} {ap sf st gf gt nx : Nat} (h : AC μ ap sf st gf gt nx) (g : μ'.obs.get ap = μ.obs.get ap) : AC μ' ap sf st gf gt nx := by
 have e : ∀ p, cellsAt μ' ap p = cellsAt μ ap p := fun p => by unfold cellsAt; rw [g]
 exact ⟨(e _).trans h.c2, (e _).trans h.c3, (e _).trans h.c4, (e _).trans h.c5, (e _).trans h.c8⟩
theorem Keeps.of {μ μ' : Mem} {ap wb lb : Nat} (hle : μ.next ≤ μ'.next) (hk : ∀ j, j < μ.next → j ≠ wb → μ'.obs.get j = μ.obs.get j) : Keeps μ μ' ap wb lb := ⟨hle, fun i hi _ h2 _ => hk i hi h2⟩
theorem Keeps.cell {μ μ' : Mem} {ap wb lb i p : Nat} (h : Keeps μ μ' ap wb lb) (hi : i < μ.next) (h1 : i ≠ ap) (h2 : i ≠ wb) (h3 : i ≠ lb) : cellsAt μ' i p = cellsAt μ i p := by unfold cellsAt; rw [h.2 i hi h1 h2 h3]
def wr (ws : Nat → Nat) (q : Nat) (f : Nat → Nat) (j : Nat) : Nat → Nat := fun k => if q < k ∧ k ≤ q + j then f (k - q - 1) else ws k
theorem wr_zero (ws : Nat → Nat) (q : Nat) (f : Nat → Nat) : wr ws q f 0 = ws := by funext k; unfold wr; rw [if_neg (by omega)]
theorem wr_succ (ws : Nat → Nat) (q : Nat) (f : Nat → Nat) (j : Nat) : put (wr ws q f j) (q + 1 + j) (f j) = wr ws q f (j + 1) := by
 funext k; unfold put wr
 by_cases h : k = q + 1 + j
 ·rw [if_pos h, if_pos (by omega), show k - q - 1 = j from by omega]
 ·rw [if_neg h]
  by_cases h2 : q < k ∧ k ≤ q + j
  ·rw [if_pos h2, if_pos (by omega)]
  ·rw [if_neg h2, if_neg (by omega)]
set_option maxHeartbeats 4000000 in
theorem raw_loop {sp hp ap wb lb N L q kd n li c : Nat} {f : Nat → Nat} {ws : Nat → Nat} {ln : Nat → Bool} {μ0 : Mem} (hsp : cellsAt μ0 sp 0 = some (.pointer (some ⟨hp, 0, none⟩))) (hsn : sp < μ0.next) (s1 : sp ≠ ap) (s2 : sp ≠ wb) (s3 : sp ≠ lb)
  (hli : ∀ k, k < n → cellsAt μ0 li k = some (.int .u64 (.ofNat (f k)))) (hln : li < μ0.next) (l1 : li ≠ ap) (l2 : li ≠ wb) (l3 : li ≠ lb) (hq : q + n < N) (hw : ws q = headW kd 0 n) (hkd : kd < 32) :
  ∀ (e m j : Nat) (tm : T Value) (μ : Mem), j + m = n → HS μ hp ap wb lb N L (wr ws q f j) ln → Keeps μ0 μ ap wb lb → μ.obs.get ap = μ0.obs.get ap → regAt tm 0 = .pointer (some ⟨sp, 0, none⟩) → regAt tm 8 = .int .u64 (.ofNat (placeW q)) → regAt tm 25 = .slice (some ⟨li, 0, none⟩) n c → regAt tm 26 = .int .i64 (.ofNat n) → regAt tm 27 = .int .i64 (.ofNat j) →
   EndsC (aCode Tryz.prog X S0 (e + m + 100) (.loop (loopBody Tryz.f41 0)) ⟨42, tm, [], none⟩ μ) fun x r μ' => x = .exit 0 ∧ HS μ' hp ap wb lb N L (wr ws q f n) ln ∧ Keeps μ0 μ' ap wb lb ∧ μ'.obs.get ap = μ0.obs.get ap ∧ ∃ tm', r = ⟨42, tm', [], none⟩ ∧ regAt tm' 8 = .int .u64 (.ofNat (placeW q)) := by
 intro e m
 induction m with
 | zero =>
   intro j tm μ hj hH hK hap r0 r8 r25 r26 r27
   obtain rfl : j = n := hj
   refine code_loop ?_
   refine code_seq ?_
   refine code_region ?_ ?_
   ·rfl
   simp only [run1, go_sem, Nat.reduceLT, Nat.reduceAdd, Nat.reduceEqDiff, reduceIte, reduceCtorEq, r27, r26, ilt_nat, Nat.lt_irrefl]
   refine code_seq ?_
   refine code_cond_false ?_ ?_
   ·simp only [aev, regAt_set, Nat.reduceEqDiff, reduceIte]
   refine code_exit ?_
   simp only [then_exit]
   exact ⟨trivial, hH, hK, hap, _, rfl, by simp only [regAt_set, Nat.reduceEqDiff, reduceIte, r8]⟩
 | succ m ih =>
   intro j tm μ hj hH hK hap r0 r8 r25 r26 r27
   have hlt : j < n := by omega
   have hsp' := (hK.cell (p := 0) hsn s1 s2 s3).trans hsp
   have hli' := (hK.cell (p := j) hln l1 l2 l3).trans (hli j hlt)
   have hia : ∀ ρ : Operand → Value, ∀ a b', ρ a = .slice (some ⟨li, 0, none⟩) n c → ρ b' = .int .i64 (.ofNat j) → aIndexAddr Tryz.prog ρ 81 a b' = some (.pointer (some ⟨li, j, none⟩)) := fun ρ a b' g1 g2 => by
    rw [indexAddr_slice (P := Tryz.prog) Tryz.underlying81 iW rfl g1 g2 hlt, Nat.zero_add]
   have a3 : qwrap .i64 (Int.add (.ofNat j) 1) = .ofNat (j + 1) := add_nat j 1 (by have := hH.ab.N1; omega)
   have hwq : wr ws q f j q = headW kd 0 n := by unfold wr; rw [if_neg (by omega)]; exact hw
   obtain ⟨v1, μ1, hS, hv1, hA1, hn1, hk1⟩ := heap_set (X := X) (k := e + (m + 1) + 13) (w := f j) (i := j) hH.at hq hH.ab.N1 hwq hkd (by decide) hlt
   subst hv1
   have hS : aFun Tryz.prog (aCode Tryz.prog X S0 (e + (m + 1) + 93)) 54 [.pointer (some ⟨hp, 0, none⟩), .int .u64 (.ofNat (placeW q)), .int .i64 (.ofNat j), .int .u64 (.ofNat (f j))] μ = some (.int .i64 0, μ1) := hS
   rw [wr_succ] at hA1
   have hK1 : Keeps μ μ1 ap wb lb := Keeps.of hn1 hk1
   have hH1 := hH.keeps hK1 (hH.ab.setw hA1.arena hn1 hk1)
   refine code_loop ?_
   refine code_seq ?_
   refine code_region ?_ ?_
   ·rfl
   simp only [run1, go_sem, Nat.reduceLT, Nat.reduceAdd, Nat.reduceEqDiff, reduceIte, reduceCtorEq, r27, r26, ilt_nat, hlt]
   refine code_seq ?_
   refine code_cond_true ?_ ?_
   ·simp only [aev, regAt_set, Nat.reduceEqDiff, reduceIte]
   refine code_skip ?_
   simp only [then_normal]
   refine code_seq ?_
   refine code_block ?_
   refine code_seq ?_
   refine code_region ?_ ?_
   ·rfl
   simp only [run1, go_sem, Nat.reduceLT, Nat.reduceAdd, Nat.reduceEqDiff, reduceIte, reduceCtorEq, r25, r27, hia, ldW, hli']
   refine code_region ?_ ?_
   ·rfl
   simp only [run1, go_sem, Nat.reduceLT, Nat.reduceAdd, Nat.reduceEqDiff, reduceIte, reduceCtorEq, r0, r8, faS0, ldHp, hsp', gg54, hS]
   simp only [blockC, then_normal]
   refine code_region ?_ ?_
   ·rfl
   simp only [run1, go_sem, Nat.reduceLT, Nat.reduceAdd, Nat.reduceEqDiff, reduceIte, reduceCtorEq, r27, a3]
   rw [show e + (m + 1) + 99 = e + m + 100 from by omega]
   refine ih (j + 1) _ _ (by omega) hH1 (hK.trans hK1) ((hk1 ap hH.ab.n1 hH.ab.arena.apart).trans hap) ?_ ?_ ?_ ?_ ?_ <;> simp only [regAt_set, Nat.reduceEqDiff, reduceIte, r0, r8, r25, r26]
set_option maxHeartbeats 4000000 in
theorem raw_ends {g sp hp ap wb lb N L q kd n li c sf' st' gf' gt' nx' : Nat} {f : Nat → Nat} {ws : Nat → Nat} {ln ln' : Nat → Bool} {μ μ1 : Mem} (hg : 500 ≤ g) (hsp : cellsAt μ sp 0 = some (.pointer (some ⟨hp, 0, none⟩))) (hsn : sp < μ.next) (s1 : sp ≠ ap) (s2 : sp ≠ wb) (s3 : sp ≠ lb)
  (hli : ∀ k, k < n → cellsAt μ li k = some (.int .u64 (.ofNat (f k)))) (hln : li < μ.next) (l1 : li ≠ ap) (l2 : li ≠ wb) (l3 : li ≠ lb) (hH : HS μ hp ap wb lb N L ws ln) (h2 : kd < 32) (hn : n ≤ 240) (hq : q + n < N)
  (hal : aFun Tryz.prog (aCode Tryz.prog X S0 (g - 7)) 80 [.pointer (some ⟨ap, 0, none⟩), .int .i64 (.ofNat (n + 1))] μ = some (.tuple #[.int .i64 (.ofNat q), .bool true], μ1)) (hB1 : AB μ1 ap wb lb N L ws ln') (hC1 : AC μ1 ap sf' st' gf' gt' nx') (hK1 : Kept μ μ1 ap lb) :
  EndsF (aFun Tryz.prog (aCode Tryz.prog X S0 g) 41 [.pointer (some ⟨sp, 0, none⟩), .int .i64 (.ofNat kd), .slice (some ⟨li, 0, none⟩) n c] μ) fun v μ' => v = .tuple #[.int .u64 (.ofNat (placeW q)), .bool true] ∧ HS μ' hp ap wb lb N L (wr (zeros (fillW kd) (put ws q (headW kd 0 n)) q n) q f n) ln' ∧ AC μ' ap sf' st' gf' gt' nx' ∧ Keeps μ μ' ap wb lb := by
 obtain ⟨k, rfl⟩ := Nat.exists_eq_add_of_le' hg
 obtain ⟨v2, μ2, hmk, hv2, hH2, hC2, hK2⟩ := heap_make (X := X) (g := k + 497) (by omega) hH h2 hn hq hal hB1 hC1 hK1
 subst hv2
 have hsp2 := (hK2.cell (p := 0) hsn s1 s2 s3).trans hsp
 have hli2 : ∀ k, k < n → cellsAt μ2 li k = some (.int .u64 (.ofNat (f k))) := fun k hk => (hK2.cell hln l1 l2 l3).trans (hli k hk)
 refine fun_enter Tryz.func41 rfl rfl (Nat.le_of_ble_eq_true rfl) ?_
 simp only [T.lay, Nat.zero_add, Tryz.ntmps41, Nat.reduceAdd]
 refine code_seq ?_
 refine code_region ?_ ?_
 ·rfl
 simp only [run1, go_sem, Nat.reduceLT, Nat.reduceAdd, Nat.reduceEqDiff, reduceIte, reduceCtorEq]
 refine code_seq ?_
 refine code_region ?_ ?_
 ·rfl
 simp only [run1, go_sem, Nat.reduceLT, Nat.reduceAdd, Nat.reduceEqDiff, reduceIte, reduceCtorEq, faS0, ldHp, hsp, aBuiltin, aLen, Tryz.underlying81, cast_nat, gg62, hmk]
 refine code_seq ?_
 refine code_seq ?_
 refine code_region ?_ ?_
 ·rfl
 simp only [run1, go_sem, Nat.reduceLT, Nat.reduceAdd, Nat.reduceEqDiff, reduceIte, reduceCtorEq]
 refine code_cond_false ?_ ?_
 ·simp only [aev, regAt_set, Nat.reduceEqDiff, reduceIte]
 refine code_skip ?_
 simp only [then_normal]
 refine code_seq ?_
 refine code_seq ?_
 refine code_region ?_ ?_
 ·rfl
 simp only [run1, go_sem, Nat.reduceLT, Nat.reduceAdd, Nat.reduceEqDiff, reduceIte, reduceCtorEq, aBuiltin, aLen, Tryz.underlying81, cast_nat]
 refine code_block ?_
 rw [show k + 494 = (k + 394 - n) + n + 100 from by omega]
 refine EndsC.mono (raw_loop (c := c) (f := f) (ws := zeros (fillW kd) (put ws q (headW kd 0 n)) q n) (ln := ln') hsp2 (Nat.lt_of_lt_of_le hsn hK2.1) s1 s2 s3 hli2 (Nat.lt_of_lt_of_le hln hK2.1) l1 l2 l3 hq (by unfold zeros; rw [if_neg (by omega)]; unfold put; rw [if_pos rfl]) h2 (k + 394 - n) n 0 _ μ2 (by omega) (by rw [wr_zero]; exact hH2) ⟨Nat.le_refl _, fun _ _ _ _ _ => rfl⟩ rfl ?_ ?_ ?_ ?_ ?_) ?_
 ·simp only [regAt_set, Nat.reduceEqDiff, reduceIte]
 ·simp only [regAt_set, Nat.reduceEqDiff, reduceIte]
 ·simp only [regAt_set, Nat.reduceEqDiff, reduceIte]
 ·simp only [regAt_set, Nat.reduceEqDiff, reduceIte]
 ·simp only [regAt_set, Nat.reduceEqDiff, reduceIte]; rfl
 rintro x' r' μ' ⟨rfl, hH3, hK3, hap3, tm', rfl, g8⟩
 simp only [blockC, reduceIte, then_normal]
 refine code_seq ?_
 refine code_region ?_ ?_
 ·rfl
 simp only [run1, go_sem, Nat.reduceLT, Nat.reduceAdd, Nat.reduceEqDiff, reduceIte, reduceCtorEq, g8]
 refine code_ret ?_
 refine ⟨rfl, _, ?_, rfl, hH3, hC2.keeps hap3, hK2.trans hK3⟩
 simp only [aResults, Tryz.results41, aRes, regAt_set, Nat.reduceEqDiff, reduceIte]
end
noncomputable section
variable {X : FuncId → List Value → Mem → Option (Value × Mem)}
def wsO (n : Nat) : Ob := .cells n 27 #[.int .u64 0] .e 0 0 false false
theorem zW : aZeroOf Tryz.prog 27 = some (.int .u64 0) := by unfold aZeroOf; rw [iW]; rfl
theorem msW (n : Nat) (h : n < 1000000) : aMakeSlice Tryz.prog 81 (.int .i64 (.ofNat n)) (.int .i64 (.ofNat n)) = some (wsO n, fun id => .slice (some ⟨id, 0, none⟩) n (2 * n)) := by
 have e1 : Nat.ble n n = true := Nat.ble_eq_true_of_le (Nat.le_refl _)
 have e2 : Nat.ble n 1073741824 = true := Nat.ble_eq_true_of_le (by omega)
 have e3 : Nat.ble (Nat.mul n Tryz.t27.bytes) 1099511627776 = true := Nat.ble_eq_true_of_le (by show n * 8 ≤ 1099511627776; omega)
 have e4 : Nat.mul n Tryz.t27.size = n := Nat.mul_one n
 have e5 : Nat.beq (cellsL (.int .u64 0)).length Tryz.t27.size = true := rfl
 unfold aMakeSlice
 simp only [Tryz.underlying81, iW, e1, e2, e3, zW, e5, e4]
 rfl
set_option maxHeartbeats 4000000 in
theorem fields_no {g sp hp ap wb N q kd kd' pn n : Nat} {ws : Nat → Nat} {μ : Mem} (hg : 150 ≤ g) (hsp : cellsAt μ sp 0 = some (.pointer (some ⟨hp, 0, none⟩))) (hH : HeapAt μ hp ap wb N ws) (hq : q < N) (hN : N < 1000000) (hw : ws q = headW kd pn n) (h1 : kd < 32) (h2 : pn < 8) (h3 : n < 1000000) (hne : kd ≠ kd') :
  EndsF (aFun Tryz.prog (aCode Tryz.prog X S0 g) 66 [.pointer (some ⟨sp, 0, none⟩), .int .i64 (.ofNat kd'), .int .u64 (.ofNat (placeW q))] μ) fun v μ' => v = .tuple #[.slice none 0 0, .bool false] ∧ Grow μ μ' := by
 obtain ⟨k, rfl⟩ := Nat.exists_eq_add_of_le' hg
 obtain ⟨v1, μ1, hk, hv1, hg1⟩ := heap_kind (X := X) (k := k + 66) hH hq hN hw h1 h2 h3
 subst hv1
 have hk : aFun Tryz.prog (aCode Tryz.prog X S0 (k + 146)) 43 [.pointer (some ⟨hp, 0, none⟩), .int .u64 (.ofNat (placeW q))] μ = some (.int .i64 (.ofNat kd), μ1) := hk
 have hd : decide (kd = kd') = false := decide_eq_false hne
 refine fun_enter Tryz.func66 rfl rfl (Nat.le_of_ble_eq_true rfl) ?_
 simp only [T.lay, Nat.zero_add, Tryz.ntmps66, Nat.reduceAdd]
 refine code_seq ?_
 refine code_region ?_ ?_
 ·rfl
 simp only [run1, go_sem, Nat.reduceLT, Nat.reduceAdd, Nat.reduceEqDiff, reduceIte, reduceCtorEq]
 refine code_seq ?_
 refine code_seq ?_
 refine code_region ?_ ?_
 ·rfl
 simp only [run1, go_sem, Nat.reduceLT, Nat.reduceAdd, Nat.reduceEqDiff, reduceIte, reduceCtorEq, faS0, ldHp, hsp, gg43, hk, ieq_nat, hd]
 refine code_cond_true ?_ ?_
 ·simp only [aev, regAt_set, Nat.reduceEqDiff, reduceIte]
 refine code_seq ?_
 refine code_region ?_ ?_
 ·rfl
 simp only [run1, go_sem, Nat.reduceLT, Nat.reduceAdd, Nat.reduceEqDiff, reduceIte, reduceCtorEq]
 refine code_ret ?_
 refine ⟨rfl, _, ?_, rfl, hg1⟩
 simp only [aResults, Tryz.results66, aRes, regAt_set, Nat.reduceEqDiff, reduceIte]
set_option maxHeartbeats 4000000 in
theorem fields_loop {sp hp ap wb N q kd n oi c : Nat} {ws : Nat → Nat} {μ0 : Mem} (hsp : cellsAt μ0 sp 0 = some (.pointer (some ⟨hp, 0, none⟩))) (hsn : sp < μ0.next) (hH0 : HeapAt μ0 hp ap wb N ws) (hq : q + n < N) (hN : N < 1000000) (hw : ws q = headW kd 0 n) (hkd : kd < 32) (hoi : μ0.next ≤ oi) :
  ∀ (e m j : Nat) (tm : T Value) (μ : Mem), j + m = n → Grow μ0 μ → oi < μ.next → Blk μ oi n 27 → (∀ i, i < j → cellsAt μ oi i = some (.int .u64 (.ofNat (ws (q + 1 + i))))) → regAt tm 0 = .pointer (some ⟨sp, 0, none⟩) → regAt tm 2 = .int .u64 (.ofNat (placeW q)) → regAt tm 8 = .slice (some ⟨oi, 0, none⟩) n c → regAt tm 26 = .int .i64 (.ofNat n) → regAt tm 27 = .int .i64 (.ofNat j) →
   EndsC (aCode Tryz.prog X S0 (e + m + 100) (.loop (loopBody Tryz.f66 0)) ⟨45, tm, [], none⟩ μ) fun x r μ' => x = .exit 0 ∧ Grow μ0 μ' ∧ oi < μ'.next ∧ Blk μ' oi n 27 ∧ (∀ i, i < n → cellsAt μ' oi i = some (.int .u64 (.ofNat (ws (q + 1 + i))))) ∧ ∃ tm', r = ⟨45, tm', [], none⟩ ∧ regAt tm' 8 = .slice (some ⟨oi, 0, none⟩) n c := by
 intro e m
 induction m with
 | zero =>
   intro j tm μ hj hG hon hb hc r0 r2 r8 r26 r27
   obtain rfl : j = n := hj
   refine code_loop ?_
   refine code_seq ?_
   refine code_region ?_ ?_
   ·rfl
   simp only [run1, go_sem, Nat.reduceLT, Nat.reduceAdd, Nat.reduceEqDiff, reduceIte, reduceCtorEq, r27, r26, ilt_nat, Nat.lt_irrefl]
   refine code_seq ?_
   refine code_cond_false ?_ ?_
   ·simp only [aev, regAt_set, Nat.reduceEqDiff, reduceIte]
   refine code_exit ?_
   simp only [then_exit]
   exact ⟨trivial, hG, hon, hb, hc, _, rfl, by simp only [regAt_set, Nat.reduceEqDiff, reduceIte, r8]⟩
 | succ m ih =>
   intro j tm μ hj hG hon hb hc r0 r2 r8 r26 r27
   have hlt : j < n := by omega
   have hsp' : cellsAt μ sp 0 = some (.pointer (some ⟨hp, 0, none⟩)) := by rw [← hsp]; unfold cellsAt; rw [hG.2 sp hsn]
   have hH := hH0.keep hG
   have a3 : qwrap .i64 (Int.add (.ofNat j) 1) = .ofNat (j + 1) := add_nat j 1 (by omega)
   obtain ⟨v1, μ1, hS, hv1, hg1⟩ := heap_get (X := X) (k := e + (m + 1) + 13) (i := j) hH hq hN hw hkd (by decide) hlt
   subst hv1
   obtain ⟨w, hwd⟩ : ∃ w, w = ws (q + 1 + j) := ⟨_, rfl⟩
   rw [← hwd] at hS
   have hS : aFun Tryz.prog (aCode Tryz.prog X S0 (e + (m + 1) + 93)) 45 [.pointer (some ⟨hp, 0, none⟩), .int .u64 (.ofNat (placeW q)), .int .i64 (.ofNat j)] μ = some (.tuple #[.int .u64 (.ofNat w), .int .i64 0], μ1) := hS
   have hia : ∀ ρ : Operand → Value, ∀ a b', ρ a = .slice (some ⟨oi, 0, none⟩) n c → ρ b' = .int .i64 (.ofNat j) → aIndexAddr Tryz.prog ρ 81 a b' = some (.pointer (some ⟨oi, j, none⟩)) := fun ρ a b' g1 g2 => by
    rw [indexAddr_slice (P := Tryz.prog) Tryz.underlying81 iW rfl g1 g2 hlt, Nat.zero_add]
   have hb1 : Blk μ1 oi n 27 := by unfold Blk; rw [hg1.2 oi hon]; exact hb
   have hst := store_put (t := 27) (v := .int .u64 (.ofNat w)) iW rfl rfl hb1 hlt
   have hG1 := hG.trans hg1
   have hG2 : Grow μ0 (putL μ1 oi j [.int .u64 (.ofNat w)]) := ⟨by rw [putL_next]; exact hG1.1, fun i hi => by rw [putL_get _ _ _ _ (by omega)]; exact hG1.2 i hi⟩
   refine code_loop ?_
   refine code_seq ?_
   refine code_region ?_ ?_
   ·rfl
   simp only [run1, go_sem, Nat.reduceLT, Nat.reduceAdd, Nat.reduceEqDiff, reduceIte, reduceCtorEq, r27, r26, ilt_nat, hlt]
   refine code_seq ?_
   refine code_cond_true ?_ ?_
   ·simp only [aev, regAt_set, Nat.reduceEqDiff, reduceIte]
   refine code_skip ?_
   simp only [then_normal]
   refine code_seq ?_
   refine code_block ?_
   refine code_seq ?_
   refine code_region ?_ ?_
   ·rfl
   simp only [run1, go_sem, Nat.reduceLT, Nat.reduceAdd, Nat.reduceEqDiff, reduceIte, reduceCtorEq, r27]
   refine code_region ?_ ?_
   ·rfl
   simp only [run1, go_sem, Nat.reduceLT, Nat.reduceAdd, Nat.reduceEqDiff, reduceIte, reduceCtorEq, r0, r2, r8, faS0, ldHp, hsp', gg45, hS, hia, hst]
   simp only [blockC, then_normal]
   refine code_region ?_ ?_
   ·rfl
   simp only [run1, go_sem, Nat.reduceLT, Nat.reduceAdd, Nat.reduceEqDiff, reduceIte, reduceCtorEq, r27, a3]
   rw [show e + (m + 1) + 99 = e + m + 100 from by omega]
   refine ih (j + 1) _ _ (by omega) hG2 (by rw [putL_next]; exact Nat.lt_of_lt_of_le hon hg1.1) (hb1.put _ _) (fun i hi => ?_) ?_ ?_ ?_ ?_ ?_
   ·rw [cells_put hb1 (by show j + 1 ≤ n; omega)]
    by_cases hij : i = j
    ·subst hij
     rw [dif_pos ⟨rfl, Nat.le_refl _, by show i < i + 1; omega⟩, ← hwd]
     simp
    ·rw [dif_neg (by rintro ⟨_, g1, g2⟩; simp only [List.length_cons, List.length_nil] at g2; omega)]
     rw [← hc i (by omega)]; unfold cellsAt; rw [hg1.2 oi hon]
   all_goals simp only [regAt_set, Nat.reduceEqDiff, reduceIte, r0, r2, r8, r26]
set_option maxHeartbeats 4000000 in
theorem fields_yes {g sp hp ap wb N q kd n : Nat} {ws : Nat → Nat} {μ : Mem} (hg : 400 ≤ g) (hsp : cellsAt μ sp 0 = some (.pointer (some ⟨hp, 0, none⟩))) (hsn : sp < μ.next) (hH : HeapAt μ hp ap wb N ws) (hq : q + n < N) (hN : N < 1000000) (hw : ws q = headW kd 0 n) (h1 : kd < 32) (hn : n ≤ 240) :
  EndsF (aFun Tryz.prog (aCode Tryz.prog X S0 g) 66 [.pointer (some ⟨sp, 0, none⟩), .int .i64 (.ofNat kd), .int .u64 (.ofNat (placeW q))] μ) fun v μ' => ∃ oi, v = .tuple #[.slice (some ⟨oi, 0, none⟩) n (2 * n), .bool true] ∧ Grow μ μ' ∧ μ.next ≤ oi ∧ oi < μ'.next ∧ ∀ i, i < n → cellsAt μ' oi i = some (.int .u64 (.ofNat (ws (q + 1 + i)))) := by
 obtain ⟨k, rfl⟩ := Nat.exists_eq_add_of_le' hg
 obtain ⟨v1, μ1, hk, hv1, hg1⟩ := heap_kind (X := X) (k := k + 316) hH (by omega) hN hw h1 (by decide) (by omega)
 subst hv1
 have hk : aFun Tryz.prog (aCode Tryz.prog X S0 (k + 396)) 43 [.pointer (some ⟨hp, 0, none⟩), .int .u64 (.ofNat (placeW q))] μ = some (.int .i64 (.ofNat kd), μ1) := hk
 have hH1 := hH.keep hg1
 have hsp1 : cellsAt μ1 sp 0 = some (.pointer (some ⟨hp, 0, none⟩)) := by rw [← hsp]; unfold cellsAt; rw [hg1.2 sp hsn]
 obtain ⟨v2, μ2, hs, hv2, hg2⟩ := heap_size (X := X) (k := k + 316) hH1 (by omega) hN hw h1 (by decide) (by omega)
 subst hv2
 have hs : aFun Tryz.prog (aCode Tryz.prog X S0 (k + 396)) 44 [.pointer (some ⟨hp, 0, none⟩), .int .u64 (.ofNat (placeW q))] μ1 = some (.int .i64 (.ofNat n), μ2) := hs
 have hg12 := hg1.trans hg2
 have hsn2 := Nat.lt_of_lt_of_le hsn hg12.1
 have hH2 := hH.keep hg12
 have hsp2 : cellsAt μ2 sp 0 = some (.pointer (some ⟨hp, 0, none⟩)) := by rw [← hsp]; unfold cellsAt; rw [hg12.2 sp hsn]
 have hgn := grow1 μ2 (wsO n)
 have hd : decide (kd = kd) = true := decide_eq_true rfl
 have hms := msW n (by omega)
 refine fun_enter Tryz.func66 rfl rfl (Nat.le_of_ble_eq_true rfl) ?_
 simp only [T.lay, Nat.zero_add, Tryz.ntmps66, Nat.reduceAdd]
 refine code_seq ?_
 refine code_region ?_ ?_
 ·rfl
 simp only [run1, go_sem, Nat.reduceLT, Nat.reduceAdd, Nat.reduceEqDiff, reduceIte, reduceCtorEq]
 refine code_seq ?_
 refine code_seq ?_
 refine code_region ?_ ?_
 ·rfl
 simp only [run1, go_sem, Nat.reduceLT, Nat.reduceAdd, Nat.reduceEqDiff, reduceIte, reduceCtorEq, faS0, ldHp, hsp, gg43, hk, ieq_nat, hd]
 refine code_cond_false ?_ ?_
 ·simp only [aev, regAt_set, Nat.reduceEqDiff, reduceIte]
 refine code_skip ?_
 simp only [then_normal]
 refine code_seq ?_
 refine code_region ?_ ?_
 ·rfl
 simp only [run1, go_sem, Nat.reduceLT, Nat.reduceAdd, Nat.reduceEqDiff, reduceIte, reduceCtorEq, faS0, ldHp, hsp1, gg44, hs, hms]
 refine code_seq ?_
 refine code_seq ?_
 refine code_region ?_ ?_
 ·rfl
 simp only [run1, go_sem, Nat.reduceLT, Nat.reduceAdd, Nat.reduceEqDiff, reduceIte, reduceCtorEq, aBuiltin, aLen, Tryz.underlying81, cast_nat]
 refine code_block ?_
 rw [show k + 394 = (k + 294 - n) + n + 100 from by omega]
 refine EndsC.mono (fields_loop (c := 2 * n) (oi := μ2.next) hsp2 hsn2 hH2 hq hN hw h1 (Nat.le_refl _) (k + 294 - n) n 0 _ ⟨μ2.obs.set μ2.next (wsO n), μ2.next + 1⟩ (by omega) hgn (Nat.lt_succ_self _) ⟨_, _, _, _, by show T.get _ _ = _; rw [T.get_set, if_pos rfl]; rfl⟩ (fun i hi => absurd hi (Nat.not_lt_zero i)) ?_ ?_ ?_ ?_ ?_) ?_
 ·simp only [regAt_set, Nat.reduceEqDiff, reduceIte]
 ·simp only [regAt_set, Nat.reduceEqDiff, reduceIte]
 ·simp only [regAt_set, Nat.reduceEqDiff, reduceIte]
 ·simp only [regAt_set, Nat.reduceEqDiff, reduceIte]
 ·simp only [regAt_set, Nat.reduceEqDiff, reduceIte]; rfl
 rintro x' r' μ' ⟨rfl, hG, hon, hb, hc, tm', rfl, g8⟩
 simp only [blockC, reduceIte, then_normal]
 refine code_seq ?_
 refine code_region ?_ ?_
 ·rfl
 simp only [run1, go_sem, Nat.reduceLT, Nat.reduceAdd, Nat.reduceEqDiff, reduceIte, reduceCtorEq, g8]
 refine code_ret ?_
 refine ⟨rfl, _, ?_, μ2.next, rfl, hg12.trans hG, hg12.1, hon, hc⟩
 simp only [aResults, Tryz.results66, aRes, regAt_set, Nat.reduceEqDiff, reduceIte]
end
noncomputable section
variable {X : FuncId → List Value → Mem → Option (Value × Mem)}
structure Own (e : TypeId) (μ0 μ : Mem) (v : Value) (xs : List Value) : Prop where
 good : GoodSl μ e v xs
 grow : Grow μ0 μ
 above : ∀ i, SlAt v i → μ0.next ≤ i ∧ i < μ.next
theorem Own.nil (e : TypeId) (μ : Mem) : Own e μ μ (.slice none 0 0) [] := ⟨.inl ⟨rfl, rfl⟩, Grow.refl _, fun i h => by obtain ⟨l, c, h⟩ := h; cases h⟩
theorem Own.keep {e : TypeId} {μ0 μ μ' : Mem} {v : Value} {xs : List Value} (h : Own e μ0 μ v xs) (hg : Grow μ μ') : Own e μ0 μ' v xs :=
 ⟨h.good.keep fun i hi => hg.2 i (h.above i hi).2, h.grow.trans hg, fun i hi => ⟨(h.above i hi).1, Nat.lt_of_lt_of_le (h.above i hi).2 hg.1⟩⟩
theorem Own.push {st e : TypeId} {inf : TypeInfo} {z0 : Value} (hu : Tryz.prog.underlying st = some (.slice e)) (hi : Tryz.prog.info? e = some inf) (hsz : inf.size = 1) (hby : Nat.ble inf.bytes 4096 = true) (hz : aZeroOf Tryz.prog e = some z0) (hzl : (cellsL z0).length = 1)
  {μ0 μ : Mem} {v x : Value} {xs : List Value} (h : Own e μ0 μ v xs) (hn : xs.length < 1000000) (hs : scalar x = true) :
  ∃ v' μ', aAppend Tryz.prog ⟨μ.obs.set μ.next (.cells 1 e #[x] .e 0 0 false false), Nat.add μ.next 1⟩ st st v (.slice (some ⟨μ.next, 0, none⟩) 1 2) = some (v', μ') ∧ Own e μ0 μ' v' (xs ++ [x]) := by
 have hg1 : Grow μ ⟨μ.obs.set μ.next (.cells 1 e #[x] .e 0 0 false false), Nat.add μ.next 1⟩ := grow1 μ _
 have h1 := h.keep hg1
 obtain ⟨v', μ', ha, hg, hnx, hat, hk⟩ := append_one (P := Tryz.prog) (st := st) (x := x) (q := μ.next) hu hi hsz hby hz hzl h1.good (by show T.get _ _ = _; rw [T.get_set, if_pos rfl]) hn hs
 have hnx' : μ'.next = μ.next + 1 + 1 := hnx
 refine ⟨v', μ', ha, hg, ⟨?_, fun i hi => ?_⟩, fun i hi => ?_⟩
 ·have := h.grow.1; omega
 ·have h0 := h.grow.1
  rw [hk i (by show i ≠ μ.next + 1; omega) (fun hv => by have := (h1.above i hv).1; omega)]
  exact h1.grow.2 i hi
 ·obtain ⟨l, c, hv⟩ := hat
  obtain ⟨l', c', hv'⟩ := hi
  rw [hv] at hv'
  injection hv' with e1
  injection e1 with e2
  injection e2 with e3
  have e4 : i = μ.next + 1 := e3.symm
  have h0 := h.grow.1
  omega
def wl (k : IntKind) (f : Nat → Nat) (m : Nat) : List Value := (List.range m).map fun i => .int k (.ofNat (f i))
theorem wl_length (k : IntKind) (f : Nat → Nat) (m : Nat) : (wl k f m).length = m := by simp [wl]
theorem wl_succ (k : IntKind) (f : Nat → Nat) (m : Nat) : wl k f (m + 1) = wl k f m ++ [.int k (.ofNat (f m))] := by simp [wl, List.range_succ]
theorem wl_get (k : IntKind) (f : Nat → Nat) (m i : Nat) (h : i < (wl k f m).length) : (wl k f m)[i] = .int k (.ofNat (f i)) := by simp [wl]
theorem GoodSl.cell {μ : Mem} {e : TypeId} {v : Value} {kd : IntKind} {f : Nat → Nat} {m : Nat} (h : GoodSl μ e v (wl kd f m)) {i c k : Nat} (hv : v = .slice (some ⟨i, 0, none⟩) m c) (hk : k < m) : cellsAt μ i k = some (.int kd (.ofNat (f k))) := by
 rw [cellsAt_good h hv (by rw [wl_length]; exact hk), wl_get]
theorem Own.set {e : TypeId} {μ0 μ : Mem} {kd : IntKind} {f g : Nat → Nat} {m i c : Nat} {b : Nat} (h : Own e μ0 μ (.slice (some ⟨b, 0, none⟩) m c) (wl kd f m)) (hi : i < m) (hgf : ∀ j, j < m → j ≠ i → g j = f j) : Own e μ0 (putL μ b i [.int kd (.ofNat (g i))]) (.slice (some ⟨b, 0, none⟩) m c) (wl kd g m) := by
 obtain ⟨hg, hgr, hab⟩ := h
 have hb := hab b ⟨m, c, rfl⟩
 refine ⟨?_, ⟨by rw [putL_next]; exact hgr.1, fun j hj => by rw [putL_get _ _ _ _ (by omega)]; exact hgr.2 j hj⟩, fun j hj => by rw [putL_next]; exact hab j hj⟩
 rcases hg with ⟨h1, _⟩ | ⟨i', M, z, ov, fx, sh, c', h1, hob, hM, hc, hcc⟩
 ·cases h1
 ·injection h1 with e1 e2 e3
  injection e1 with e1
  injection e1 with e1
  subst e1
  refine .inr ⟨b, M, z, ov.lay i [.int kd (.ofNat (g i))], fx, sh, c, by rw [wl_length], putL_at hob, by rw [wl_length]; rw [wl_length] at hM; exact hM, fun j hj => ?_, ?_⟩
  ·rw [wl_length] at hj
   rw [cellAt_lay, wl_get]
   by_cases e4 : j = i
   ·subst e4
    rw [dif_pos ⟨Nat.le_refl _, by show j < j + 1; omega⟩]
    simp
   ·rw [dif_neg (by rintro ⟨g1, g2⟩; simp only [List.length_cons, List.length_nil] at g2; omega), hc j (by rw [wl_length]; exact hj), wl_get, hgf j hj e4]
  ·rw [wl_length]; rw [wl_length] at hcc; rw [e3]; exact hcc
theorem Own.blk {e : TypeId} {μ0 μ : Mem} {xs : List Value} {m c b : Nat} (h : Own e μ0 μ (.slice (some ⟨b, 0, none⟩) m c) xs) : ∃ M, Blk μ b M e ∧ xs.length ≤ M := by
 rcases h.good with ⟨h1, _⟩ | ⟨i', M, z, ov, fx, sh, c', h1, hob, hM, hc, hcc⟩
 ·cases h1
 ·injection h1 with e1 e2 e3
  injection e1 with e1
  injection e1 with e1
  subst e1
  exact ⟨M, ⟨z, ov, fx, sh, hob⟩, hM⟩
end
noncomputable section
def pw (x : Nat → Nat) (each wide : Nat) : Nat → Nat → Nat
 | 0 => fun _ => 0
 | i + 1 => fun k => if k = 1 + i / each then pw x each wide i k + x i * 2 ^ (i % each * wide) else pw x each wide i k
theorem pw_bound (x : Nat → Nat) (each wide : Nat) (he : 0 < each) (hx : ∀ t, x t < 2 ^ wide) : ∀ i, pw x each wide i (1 + i / each) < 2 ^ (i % each * wide) ∧ ∀ k, 1 + i / each < k → pw x each wide i k = 0 := by
 intro i
 induction i with
 | zero => exact ⟨by show 0 < _; exact Nat.two_pow_pos _, fun k hk => rfl⟩
 | succ i ih =>
   obtain ⟨h1, h2⟩ := ih
   have hd := Nat.div_add_mod i each
   by_cases hm : (i + 1) % each = 0
   ·have hq : (i + 1) / each = i / each + 1 := Nat.succ_div_of_mod_eq_zero hm
    refine ⟨?_, fun k hk => ?_⟩
    ·rw [hm, hq, Nat.zero_mul]
     unfold pw
     rw [if_neg (by omega), h2 _ (by omega)]
     exact Nat.one_pos
    ·unfold pw
     rw [if_neg (by omega), h2 _ (by omega)]
   ·have hq : (i + 1) / each = i / each := Nat.succ_div_of_mod_ne_zero hm
    have hr : (i + 1) % each = i % each + 1 := by
     have := Nat.div_add_mod (i + 1) each
     rw [hq] at this
     omega
    refine ⟨?_, fun k hk => ?_⟩
    ·rw [hr, hq]
     unfold pw
     rw [if_pos rfl, Nat.add_mul, Nat.one_mul, Nat.pow_add]
     have h3 := hx i
     have h4 : (x i + 1) * 2 ^ (i % each * wide) ≤ 2 ^ wide * 2 ^ (i % each * wide) := Nat.mul_le_mul_right _ h3
     rw [Nat.add_mul, Nat.one_mul] at h4
     rw [Nat.mul_comm (2 ^ (i % each * wide)) (2 ^ wide)]
     omega
    ·rw [hq] at hk
     unfold pw
     rw [if_neg (by omega), h2 _ hk]
theorem pw_lt (x : Nat → Nat) (each wide : Nat) (he : 0 < each) (hx : ∀ t, x t < 2 ^ wide) : ∀ i k, pw x each wide i k < 2 ^ (each * wide) := by
 intro i
 induction i with
 | zero => exact fun k => Nat.two_pow_pos _
 | succ i ih =>
   intro k
   unfold pw
   split
   ·rename_i hk
    subst hk
    have h1 := (pw_bound x each wide he hx i).1
    have h3 := hx i
    have h4 : (x i + 1) * 2 ^ (i % each * wide) ≤ 2 ^ wide * 2 ^ (i % each * wide) := Nat.mul_le_mul_right _ h3
    rw [Nat.add_mul, Nat.one_mul, ← Nat.pow_add] at h4
    have h5 : i % each < each := Nat.mod_lt _ he
    have h6 : wide + i % each * wide ≤ each * wide := by
     calc wide + i % each * wide = (i % each + 1) * wide := by rw [Nat.add_mul, Nat.one_mul, Nat.add_comm]
      _ ≤ each * wide := Nat.mul_le_mul_right _ h5
    have h7 : 2 ^ (wide + i % each * wide) ≤ 2 ^ (each * wide) := Nat.pow_le_pow_right (by decide) h6
    omega
   ·exact ih k
theorem pw_read (x : Nat → Nat) (each wide : Nat) (he : 0 < each) (hx : ∀ t, x t < 2 ^ wide) : ∀ i j, j < i → pw x each wide i (1 + j / each) / 2 ^ (j % each * wide) % 2 ^ wide = x j := by
 intro i
 induction i with
 | zero => intro j hj; omega
 | succ i ih =>
   intro j hj
   by_cases hji : j = i
   ·subst hji
    have h1 := (pw_bound x each wide he hx j).1
    unfold pw
    rw [if_pos rfl, Nat.add_mul_div_right _ _ (Nat.two_pow_pos _), Nat.div_eq_of_lt h1, Nat.zero_add, Nat.mod_eq_of_lt (hx j)]
   ·have hj' : j < i := by omega
    have h0 := ih j hj'
    unfold pw
    split
    ·rename_i hk
     have hq : j / each = i / each := by omega
     have hd1 := Nat.div_add_mod i each
     have hd2 := Nat.div_add_mod j each
     rw [hq] at hd2
     have hr : j % each + 1 ≤ i % each := by omega
     obtain ⟨d, hd⟩ : ∃ d, i % each = j % each + 1 + d := ⟨i % each - (j % each + 1), by omega⟩
     rw [← h0, hd]
     rw [show (j % each + 1 + d) * wide = j % each * wide + (wide + d * wide) from by rw [Nat.add_mul, Nat.add_mul, Nat.one_mul, Nat.add_assoc]]
     rw [Nat.pow_add, Nat.mul_comm (2 ^ (j % each * wide)), ← Nat.mul_assoc, Nat.add_mul_div_right _ _ (Nat.two_pow_pos _)]
     rw [Nat.pow_add, Nat.mul_comm (2 ^ wide), ← Nat.mul_assoc, Nat.add_mul_mod_self_right]
    ·exact h0
end
noncomputable section
variable {X : FuncId → List Value → Mem → Option (Value × Mem)}
theorem rem_nat (m n r : Nat) (hn : 0 < n) (hr : r = m % n) : aDiv true .i64 .i64 (.ofNat m) (.ofNat n) = some (.int .i64 (.ofNat r)) := by
 obtain ⟨n', rfl⟩ : ∃ n', n = n' + 1 := ⟨n - 1, by omega⟩
 subst hr; rfl
theorem quo_nat (m n r : Nat) (hn : 0 < n) (hr : r = m / n) (hm : m < 4611686018427387904) : aDiv false .i64 .i64 (.ofNat m) (.ofNat n) = some (.int .i64 (.ofNat r)) := by
 obtain ⟨n', rfl⟩ : ∃ n', n = n' + 1 := ⟨n - 1, by omega⟩
 subst hr
 show some (Value.int .i64 (qwrap .i64 (.ofNat (m / (n' + 1))))) = _
 rw [q64 _ (by have := Nat.div_le_self m (n' + 1); omega)]
def nw (each : Nat) : Nat → Nat
 | 0 => 1
 | j + 1 => if j % each = 0 then nw each j + 1 else nw each j
theorem nw_succ (each : Nat) (he : 0 < each) : ∀ j, nw each (j + 1) = 2 + j / each := by
 intro j
 induction j with
 | zero => show (if 0 % each = 0 then _ else _) = _; rw [Nat.zero_mod, if_pos rfl, Nat.zero_div]; rfl
 | succ j ih =>
   show (if (j + 1) % each = 0 then nw each (j + 1) + 1 else nw each (j + 1)) = _
   rw [ih]
   by_cases hm : (j + 1) % each = 0
   ·rw [if_pos hm, Nat.succ_div_of_mod_eq_zero hm]; omega
   ·rw [if_neg hm, Nat.succ_div_of_mod_ne_zero hm]
theorem nw_le (each : Nat) (he : 0 < each) (j : Nat) : nw each j ≤ 1 + j := by
 cases j with
 | zero => exact Nat.le_refl _
 | succ j => rw [nw_succ each he]; have := Nat.div_le_self j each; omega
def pf (x : Nat → Nat) (each wide n j : Nat) : Nat → Nat := fun k => if k = 0 then n else pw x each wide j k
end
noncomputable section
variable {X : FuncId → List Value → Mem → Option (Value × Mem)}
set_option maxHeartbeats 4000000 in
theorem unpacked_loop {n m oi co b c each wide : Nat} {x : Nat → Nat} {μ0 : Mem} (hcell : ∀ k, k < m → cellsAt μ0 oi k = some (.int .u64 (.ofNat (pf x each wide n n k)))) (hm : m = nw each n) (hon : oi < μ0.next) (hn : n < 100000) (he : 0 < each) (hew : each * wide = 64) (hw32 : wide ≤ 32) (hx : ∀ t, x t < 2 ^ wide) (hb0 : μ0.next ≤ b) :
  ∀ (e r j : Nat) (tm : T Value) (μ : Mem), j + r = n → Grow μ0 μ → b < μ.next → Blk μ b n 27 → (∀ i, i < j → cellsAt μ b i = some (.int .u64 (.ofNat (x i)))) → regAt tm 0 = .slice (some ⟨oi, 0, none⟩) m co → regAt tm 1 = .int .i64 (.ofNat each) → regAt tm 2 = .int .i64 (.ofNat wide) → regAt tm 8 = .slice (some ⟨b, 0, none⟩) n c → regAt tm 27 = .int .i64 (.ofNat n) → regAt tm 28 = .int .i64 (.ofNat j) →
   EndsC (aCode Tryz.prog X S0 (e + r + 60) (.loop (loopBody Tryz.f71 0)) ⟨53, tm, [], none⟩ μ) fun a rg μ' => a = .exit 0 ∧ Grow μ0 μ' ∧ b < μ'.next ∧ (∀ i, i < n → cellsAt μ' b i = some (.int .u64 (.ofNat (x i)))) ∧ Blk μ' b n 27 ∧ ∃ tm', rg = ⟨53, tm', [], none⟩ ∧ regAt tm' 8 = .slice (some ⟨b, 0, none⟩) n c := by
 have hel : each ≤ 64 := by
  cases Nat.eq_zero_or_pos wide with
  | inl h => rw [h, Nat.mul_zero] at hew; omega
  | inr h => have : each * 1 ≤ each * wide := Nat.mul_le_mul_left _ h; omega
 intro e r
 induction r with
 | zero =>
   intro j tm μ hj hG hbn hB hc r0 r1 r2 r8 r27 r28
   obtain rfl : j = n := hj
   refine code_loop ?_
   refine code_seq ?_
   refine code_region ?_ ?_
   ·rfl
   simp only [run1, go_sem, Nat.reduceLT, Nat.reduceAdd, Nat.reduceEqDiff, reduceIte, reduceCtorEq, r27, r28, ilt_nat, Nat.lt_irrefl]
   refine code_seq ?_
   refine code_cond_false ?_ ?_
   ·simp only [aev, regAt_set, Nat.reduceEqDiff, reduceIte]
   refine code_exit ?_
   simp only [then_exit]
   exact ⟨trivial, hG, hbn, hc, hB, _, rfl, by simp only [regAt_set, Nat.reduceEqDiff, reduceIte, r8]⟩
 | succ r ih =>
   intro j tm μ hj hG hbn hB hc r0 r1 r2 r8 r27 r28
   have hlt : j < n := by omega
   have a3 : qwrap .i64 (Int.add (.ofNat j) 1) = .ofNat (j + 1) := add_nat j 1 (by omega)
   obtain ⟨rj, hrj⟩ : ∃ r, r = j % each := ⟨_, rfl⟩
   obtain ⟨dj, hdj⟩ : ∃ d, d = j / each := ⟨_, rfl⟩
   have hrl : rj < each := by rw [hrj]; exact Nat.mod_lt _ he
   have hdl : dj ≤ j := by rw [hdj]; exact Nat.div_le_self _ _
   have e1 := rem_nat j each rj he hrj
   have e1' := quo_nat j each dj he hdj (by omega)
   obtain ⟨sj, hsj⟩ : ∃ s, s = rj * wide := ⟨_, rfl⟩
   obtain ⟨d1, hd1⟩ : ∃ d, d = 1 + dj := ⟨_, rfl⟩
   have hd1m : d1 < m := by
    obtain ⟨n', rfl⟩ : ∃ n', n = n' + 1 := ⟨n - 1, by omega⟩
    have : j / each ≤ n' / each := Nat.div_le_div_right (by omega)
    rw [hm, nw_succ each he]; omega
   obtain ⟨w1, hw1⟩ : ∃ w, w = pw x each wide n d1 := ⟨_, rfl⟩
   have hb1 : w1 < 18446744073709551616 := by rw [hw1]; have := pw_lt x each wide he hx n d1; rw [hew] at this; exact this
   have hs64 : sj ≤ 64 := by rw [hsj, ← hew]; exact Nat.mul_le_mul_right _ (Nat.le_of_lt hrl)
   obtain ⟨w2, hw2⟩ : ∃ w, w = w1 / 2 ^ sj := ⟨_, rfl⟩
   have hb2 : w2 < 18446744073709551616 := by rw [hw2]; exact Nat.lt_of_le_of_lt (Nat.div_le_self _ _) hb1
   have hxj : w2 % 2 ^ wide = x j := by rw [hw2, hw1, hsj, hd1, hrj, hdj]; exact pw_read x each wide he hx n j hlt
   have hP2 : 2 ^ wide ≤ 2 ^ 32 := Nat.pow_le_pow_right (by decide) hw32
   have hP1 : 0 < 2 ^ wide := Nat.two_pow_pos _
   have e5 : aBits Nat.land .u64 .u64 (.ofNat w2) (.ofNat (2 ^ wide - 1)) = some (.int .u64 (.ofNat (x j))) := by rw [← hxj]; exact land_u w2 wide hw32 hb2
   obtain ⟨P2, hP⟩ : ∃ p, p = 2 ^ wide := ⟨_, rfl⟩
   have e6 : aShift true .u64 1 (.ofNat wide) = some (.int .u64 (.ofNat P2)) := shl_u 1 wide P2 (by omega) (by rw [hP, Nat.one_mul]) (by rw [hP]; omega)
   rw [← hP] at hP1 hP2 e5
   obtain ⟨P3, hP3⟩ : ∃ p, p = P2 - 1 := ⟨_, rfl⟩
   rw [← hP3] at e5
   have e7 : qwrap .u64 (Int.sub (.ofNat P2) 1) = .ofNat P3 := by
    rw [hP3]
    show qwrap .u64 ((P2 : Int) - 1) = _
    rw [show ((P2 : Int) - 1) = ((P2 - 1 : Nat) : Int) from by omega]
    exact qu64 (P2 - 1) (by omega)
   have s1 : qwrap .i64 (Int.add 1 (.ofNat dj)) = .ofNat d1 := by rw [hd1]; exact add_nat 1 dj (by omega)
   have e2 : qwrap .i64 (Int.mul (.ofNat rj) (.ofNat wide)) = .ofNat sj := by rw [hsj]; exact mul_nat rj wide (by rw [← hsj]; omega)
   have e3 : aShift false .u64 (.ofNat w1) (.ofNat sj) = some (.int .u64 (.ofNat w2)) := by rw [hw2]; exact shr_u w1 sj hs64
   have hia1 : ∀ ρ : Operand → Value, ∀ a b', ρ a = .slice (some ⟨oi, 0, none⟩) m co → ρ b' = .int .i64 (.ofNat d1) → aIndexAddr Tryz.prog ρ 81 a b' = some (.pointer (some ⟨oi, d1, none⟩)) := fun ρ a b' g1 g2 => by
    rw [indexAddr_slice (P := Tryz.prog) Tryz.underlying81 iW rfl g1 g2 hd1m, Nat.zero_add]
   have hia2 : ∀ ρ : Operand → Value, ∀ a b', ρ a = .slice (some ⟨b, 0, none⟩) n c → ρ b' = .int .i64 (.ofNat j) → aIndexAddr Tryz.prog ρ 81 a b' = some (.pointer (some ⟨b, j, none⟩)) := fun ρ a b' g1 g2 => by
    rw [indexAddr_slice (P := Tryz.prog) Tryz.underlying81 iW rfl g1 g2 hlt, Nat.zero_add]
   have hG1 := hG.trans (grow_up μ 21)
   have hc1 : ∀ y, cellsAt ⟨μ.obs, y⟩ oi d1 = some (.int .u64 (.ofNat w1)) := fun y => by
    have := hcell d1 hd1m
    rw [show pf x each wide n n d1 = w1 from by unfold pf; rw [if_neg (by omega), hw1]] at this
    rw [← this]; unfold cellsAt; rw [← hG.2 oi hon]
   have hB1 : Blk ⟨μ.obs, μ.next + 21⟩ b n 27 := hB
   have hst := store_put (t := 27) (v := .int .u64 (.ofNat (x j))) iW rfl rfl hB1 hlt
   have hG2 : Grow μ0 (putL ⟨μ.obs, μ.next + 21⟩ b j [.int .u64 (.ofNat (x j))]) := ⟨by rw [putL_next]; exact hG1.1, fun i hi => by rw [putL_get _ _ _ _ (by omega)]; exact hG1.2 i hi⟩
   refine code_loop ?_
   refine code_seq ?_
   refine code_region ?_ ?_
   ·rfl
   simp only [run1, go_sem, Nat.reduceLT, Nat.reduceAdd, Nat.reduceEqDiff, reduceIte, reduceCtorEq, r27, r28, ilt_nat, hlt]
   refine code_seq ?_
   refine code_cond_true ?_ ?_
   ·simp only [aev, regAt_set, Nat.reduceEqDiff, reduceIte]
   refine code_skip ?_
   simp only [then_normal]
   refine code_seq ?_
   refine code_block ?_
   refine code_seq ?_
   refine code_region ?_ ?_
   ·rfl
   simp only [run1, go_sem, Nat.reduceLT, Nat.reduceAdd, Nat.reduceEqDiff, reduceIte, reduceCtorEq, r28]
   refine code_draw (n := 21) (ms := [0, 0, 0, 0, 0, 24, 56, 124, 252, 0, 0, 1536, 0, 7680, 16380, 0, 32768, 98304, 262140, 524287, 1048575]) (ord := [0, 1, 2, 3, 4, 5, 6, 7, 8, 9, 10, 11, 12, 13, 14, 15, 16, 17, 18, 19, 20]) (ds := ?_) ?_ ?_ ?_ ?_ ?_ ?_
   rotate_left
   ·kernel_rfl
   ·kernel_rfl
   ·kernel_rfl
   ·rfl
   ·rfl
   simp only [dRun, wanted, aDrawOne, heavy, aP, aReads, aR, aT, aCall, aBuiltin, aLen, Tryz.underlying81, cast_nat, aev, regAt_set, aput_mk, aput_none, plainV, r0, r1, r2, r8, r28, hia1, hia2, ldW, hc1, aBin, aInt, s1, e1, e1', e2, e3, e5, e6, e7, hst, endsD_some, Nat.reduceLT, if_true, then_normal, Nat.reduceEqDiff, if_false, reduceIte, decide_true]
   simp only [blockC, then_normal]
   refine code_region ?_ ?_
   ·rfl
   simp only [run1, go_sem, Nat.reduceLT, Nat.reduceAdd, Nat.reduceEqDiff, reduceIte, reduceCtorEq, r28, a3]
   rw [show e + (r + 1) + 59 = e + r + 60 from by omega]
   refine ih (j + 1) _ _ (by omega) hG2 (by rw [putL_next]; exact Nat.lt_of_lt_of_le hbn (Nat.le_add_right _ _)) (hB1.put _ _) (fun i hi => ?_) ?_ ?_ ?_ ?_ ?_ ?_
   ·rw [cells_put hB1 (by show j + 1 ≤ n; omega)]
    by_cases hij : i = j
    ·subst hij
     rw [dif_pos ⟨rfl, Nat.le_refl _, by show i < i + 1; omega⟩]
     simp
    ·rw [dif_neg (by rintro ⟨_, g1, g2⟩; simp only [List.length_cons, List.length_nil] at g2; omega)]
     exact hc i (by omega)
   all_goals simp only [regAt_set, Nat.reduceEqDiff, reduceIte, r0, r1, r2, r8, r27]
theorem min_nat (a c : Nat) (h : a ≤ c) : (if (Int.ofNat c) < (Int.ofNat a) then Int.ofNat c else Int.ofNat a) = .ofNat a := by
 rw [if_neg]; simp only [Int.ofNat_eq_natCast]; omega
theorem nw_cover (each : Nat) (he : 0 < each) (n : Nat) : n ≤ (nw each n - 1) * each := by
 cases n with
 | zero => exact Nat.zero_le _
 | succ n =>
   rw [nw_succ each he, show 2 + n / each - 1 = n / each + 1 from by rw [Nat.add_comm]; rfl, Nat.add_mul, Nat.one_mul, Nat.mul_comm]
   have h1 := Nat.div_add_mod n each
   have h2 := Nat.mod_lt n he
   omega
set_option maxHeartbeats 4000000 in
theorem unpacked_ends {g n m oi co each wide : Nat} {x : Nat → Nat} {μ : Mem} (hg : 100 + n ≤ g) (hcell : ∀ k, k < m → cellsAt μ oi k = some (.int .u64 (.ofNat (pf x each wide n n k)))) (hm : m = nw each n) (hon : oi < μ.next) (hn : n < 100000) (he : 0 < each) (hew : each * wide = 64) (hw32 : wide ≤ 32) (hx : ∀ t, x t < 2 ^ wide) :
  EndsF (aFun Tryz.prog (aCode Tryz.prog X S0 g) 71 [.slice (some ⟨oi, 0, none⟩) m co, .int .i64 (.ofNat each), .int .i64 (.ofNat wide)] μ) fun v μ' => ∃ b, v = .slice (some ⟨b, 0, none⟩) n (2 * n) ∧ Grow μ μ' ∧ μ.next ≤ b ∧ b < μ'.next ∧ Blk μ' b n 27 ∧ ∀ i, i < n → cellsAt μ' b i = some (.int .u64 (.ofNat (x i))) := by
 obtain ⟨k, rfl⟩ : ∃ k, g = k + 100 := ⟨g - 100, by omega⟩
 have hkn : n ≤ k := by omega
 have hel : each ≤ 64 := by
  cases Nat.eq_zero_or_pos wide with
  | inl h => rw [h, Nat.mul_zero] at hew; omega
  | inr h => have : each * 1 ≤ each * wide := Nat.mul_le_mul_left _ h; omega
 have hm0 : 0 < m := by
  rw [hm]
  cases n with
  | zero => exact Nat.one_pos
  | succ n => rw [nw_succ each he]; exact Nat.add_pos_left (by decide) _
 have hm1 : m ≤ 1 + n := by rw [hm]; exact nw_le each he n
 obtain ⟨m1, hm1'⟩ : ∃ m1, m1 = m - 1 := ⟨_, rfl⟩
 obtain ⟨mm, hmm⟩ : ∃ mm, mm = m1 * each := ⟨_, rfl⟩
 have hmm1 : mm ≤ 100000 * 64 := by rw [hmm]; exact Nat.mul_le_mul (by omega) hel
 have hnm : n ≤ mm := by rw [hmm, hm1', hm]; exact nw_cover each he n
 have e1 : qwrap .i64 (Int.sub (.ofNat m) 1) = .ofNat m1 := by rw [hm1']; exact sub_nat m 1 (by omega) (by omega)
 have e2 : qwrap .i64 (Int.mul (.ofNat m1) (.ofNat each)) = .ofNat mm := by rw [hmm]; exact mul_nat m1 each (by omega)
 have e3 := min_nat n mm hnm
 have e4 : aBits Nat.land .u64 .u64 (.ofNat n) 4294967295 = some (.int .u64 (.ofNat n)) := by
  have := land_u n 32 (by decide) (by omega)
  rw [Nat.mod_eq_of_lt (by omega)] at this
  exact this
 have e5 : qwrap .i64 (.ofNat n) = .ofNat n := q64 n (by omega)
 have hia : ∀ (r : Rg) (a : Operand), aev Tryz.prog r a = .slice (some ⟨oi, 0, none⟩) m co → aIndexAddr Tryz.prog (aev Tryz.prog r) 81 a (.const (.int .i64 0)) = some (.pointer (some ⟨oi, 0, none⟩)) := fun r a g1 => indexAddr_slice (P := Tryz.prog) Tryz.underlying81 iW rfl g1 (m := 0) (show aev Tryz.prog r (.const (.int .i64 0)) = .int .i64 (.ofNat 0) from rfl) hm0
 have hc0 : cellsAt μ oi 0 = some (.int .u64 (.ofNat n)) := by rw [hcell 0 hm0]; rfl
 have hpos : ilt 0 (.ofNat m) = true := by
  exact (ilt_nat 0 m).trans (decide_eq_true hm0)
 have hms := msW n (by omega)
 have hgn := grow1 μ (wsO n)
 refine fun_enter Tryz.func71 rfl rfl (Nat.le_of_ble_eq_true rfl) ?_
 simp only [T.lay, Nat.zero_add, Tryz.ntmps71, Nat.reduceAdd]
 refine code_seq ?_
 refine code_region ?_ ?_
 ·rfl
 simp only [run1, go_sem, Nat.reduceLT, Nat.reduceAdd, Nat.reduceEqDiff, reduceIte, reduceCtorEq]
 refine code_seq ?_
 refine code_region ?_ ?_
 ·rfl
 simp only [run1, go_sem, Nat.reduceLT, Nat.reduceAdd, Nat.reduceEqDiff, reduceIte, reduceCtorEq]
 refine code_seq ?_
 refine code_seq ?_
 refine code_region ?_ ?_
 ·rfl
 simp only [run1, go_sem, Nat.reduceLT, Nat.reduceAdd, Nat.reduceEqDiff, reduceIte, reduceCtorEq, aBuiltin, aLen, Tryz.underlying81, cast_nat, hpos]
 refine code_cond_true ?_ ?_
 ·simp only [aev, regAt_set, Nat.reduceEqDiff, reduceIte]
 refine code_region ?_ ?_
 ·rfl
 simp only [run1, go_sem, Nat.reduceLT, Nat.reduceAdd, Nat.reduceEqDiff, reduceIte, reduceCtorEq, aBuiltin, aLen, Tryz.underlying81, cast_nat, hia, ldW, hc0, e4, cvWi, e5, e1, e2, e3]
 refine code_seq ?_
 refine code_region ?_ ?_
 ·rfl
 simp only [run1, go_sem, Nat.reduceLT, Nat.reduceAdd, Nat.reduceEqDiff, reduceIte, reduceCtorEq, hms]
 refine code_seq ?_
 refine code_seq ?_
 refine code_region ?_ ?_
 ·rfl
 simp only [run1, go_sem, Nat.reduceLT, Nat.reduceAdd, Nat.reduceEqDiff, reduceIte, reduceCtorEq, aBuiltin, aLen, Tryz.underlying81, cast_nat]
 refine code_block ?_
 rw [show k + 93 = (k - n + 33) + n + 60 from by omega]
 refine EndsC.mono (unpacked_loop (b := μ.next) (c := 2 * n) (co := co) (each := each) (wide := wide) (x := x) hcell hm hon hn he hew hw32 hx (Nat.le_refl _) (k - n + 33) n 0 _ ⟨μ.obs.set μ.next (wsO n), μ.next + 1⟩ (by omega) hgn (Nat.lt_succ_self _) ⟨_, _, _, _, by show T.get _ _ = _; rw [T.get_set, if_pos rfl]; rfl⟩ (fun i hi => absurd hi (Nat.not_lt_zero i)) ?_ ?_ ?_ ?_ ?_ ?_) ?_
 ·simp only [regAt_set, Nat.reduceEqDiff, reduceIte]
 ·simp only [regAt_set, Nat.reduceEqDiff, reduceIte]
 ·simp only [regAt_set, Nat.reduceEqDiff, reduceIte]
 ·simp only [regAt_set, Nat.reduceEqDiff, reduceIte]
 ·simp only [regAt_set, Nat.reduceEqDiff, reduceIte]
 ·simp only [regAt_set, Nat.reduceEqDiff, reduceIte]; rfl
 rintro x' r' μ' ⟨rfl, hG, hbn, hc, hB, tm', rfl, g8⟩
 simp only [blockC, reduceIte, then_normal]
 refine code_seq ?_
 refine code_region ?_ ?_
 ·rfl
 simp only [run1, go_sem, Nat.reduceLT, Nat.reduceAdd, Nat.reduceEqDiff, reduceIte, reduceCtorEq, g8]
 refine code_ret ?_
 refine ⟨rfl, _, ?_, μ.next, rfl, hG, Nat.le_refl _, hbn, hB, hc⟩
 simp only [aResults, Tryz.results71, aRes, regAt_set, Nat.reduceEqDiff, reduceIte]
end
noncomputable section
variable {X : FuncId → List Value → Mem → Option (Value × Mem)}
structure Pos where
 ln : Nat → Bool
 sf : Nat
 st : Nat
 gf : Nat
 gt : Nat
 nx : Nat
structure SP (μ : Mem) (sp hp ap wb lb N L : Nat) (ws : Nat → Nat) (p : Pos) : Prop where
 sp0 : cellsAt μ sp 0 = some (.pointer (some ⟨hp, 0, none⟩))
 spn : sp < μ.next
 s1 : sp ≠ ap
 s2 : sp ≠ wb
 s3 : sp ≠ lb
 hs : HS μ hp ap wb lb N L ws p.ln
 ac : AC μ ap p.sf p.st p.gf p.gt p.nx
theorem SP.grow {μ μ' : Mem} {sp hp ap wb lb N L : Nat} {ws : Nat → Nat} {p : Pos} (h : SP μ sp hp ap wb lb N L ws p) (g : Grow μ μ') : SP μ' sp hp ap wb lb N L ws p :=
 ⟨by rw [← h.sp0]; unfold cellsAt; rw [g.2 sp h.spn], Nat.lt_of_lt_of_le h.spn g.1, h.s1, h.s2, h.s3, h.hs.grow g, h.ac.grow g h.hs.ab.n1⟩
def Al (X : FuncId → List Value → Mem → Option (Value × Mem)) (N L n q : Nat) (p p' : Pos) : Prop :=
 ∀ (g ap wb lb : Nat) (ws : Nat → Nat) (μ : Mem), 400 ≤ g → AB μ ap wb lb N L ws p.ln → AC μ ap p.sf p.st p.gf p.gt p.nx →
  EndsF (aFun Tryz.prog (aCode Tryz.prog X S0 g) 80 [.pointer (some ⟨ap, 0, none⟩), .int .i64 (.ofNat n)] μ) fun v μ' => v = .tuple #[.int .i64 (.ofNat q), .bool true] ∧ AB μ' ap wb lb N L ws p'.ln ∧ AC μ' ap p'.sf p'.st p'.gf p'.gt p'.nx ∧ Kept μ μ' ap lb
def obj (ws : Nat → Nat) (q kd m : Nat) (f : Nat → Nat) : Nat → Nat := wr (zeros (fillW kd) (put ws q (headW kd 0 m)) q m) q f m
theorem obj_head (ws : Nat → Nat) (q kd m : Nat) (f : Nat → Nat) : obj ws q kd m f q = headW kd 0 m := by
 unfold obj wr zeros put
 rw [if_neg (by omega), if_neg (by omega), if_pos rfl]
theorem obj_in (ws : Nat → Nat) (q kd m : Nat) (f : Nat → Nat) (k : Nat) (hk : k < m) : obj ws q kd m f (q + 1 + k) = f k := by
 unfold obj wr
 rw [if_pos (by omega), show q + 1 + k - q - 1 = k from by omega]
theorem obj_out (ws : Nat → Nat) (q kd m : Nat) (f : Nat → Nat) (k : Nat) (hk : k < q ∨ q + m < k) : obj ws q kd m f k = ws k := by
 unfold obj wr zeros put
 rw [if_neg (by omega), if_neg (by omega), if_neg (by omega)]
set_option maxHeartbeats 4000000 in
theorem raw_al {g sp hp ap wb lb N L q kd n li c : Nat} {f : Nat → Nat} {ws : Nat → Nat} {p p' : Pos} {μ : Mem} (hg : 500 ≤ g) (h : SP μ sp hp ap wb lb N L ws p)
  (hli : ∀ k, k < n → cellsAt μ li k = some (.int .u64 (.ofNat (f k)))) (hln : li < μ.next) (l1 : li ≠ ap) (l2 : li ≠ wb) (l3 : li ≠ lb) (h2 : kd < 32) (hn : n ≤ 240) (hq : q + n < N) (hal : Al X N L (n + 1) q p p') :
  EndsF (aFun Tryz.prog (aCode Tryz.prog X S0 g) 41 [.pointer (some ⟨sp, 0, none⟩), .int .i64 (.ofNat kd), .slice (some ⟨li, 0, none⟩) n c] μ) fun v μ' => v = .tuple #[.int .u64 (.ofNat (placeW q)), .bool true] ∧ SP μ' sp hp ap wb lb N L (obj ws q kd n f) p' ∧ Keeps μ μ' ap wb lb := by
 obtain ⟨v1, μ1, ha, hv, hB1, hC1, hK1⟩ := hal (g - 7) ap wb lb ws μ (by omega) h.hs.ab h.ac
 subst hv
 obtain ⟨v2, μ2, hr, hv2, hH2, hC2, hK2⟩ := raw_ends (X := X) (c := c) hg h.sp0 h.spn h.s1 h.s2 h.s3 hli hln l1 l2 l3 h.hs h2 hn hq ha hB1 hC1 hK1
 exact ⟨v2, μ2, hr, hv2, ⟨by rw [← h.sp0]; exact hK2.cell h.spn h.s1 h.s2 h.s3, Nat.lt_of_lt_of_le h.spn hK2.1, h.s1, h.s2, h.s3, hH2, hC2⟩, hK2⟩
theorem cnt_false {ln : Nat → Bool} {a n : Nat} (h : ∀ k, a ≤ k → k < a + n → ln k = false) : cnt ln a n = n := by
 induction n with
 | zero => rfl
 | succ n ih => unfold cnt; rw [ih fun k h1 h2 => h k h1 (by omega), h (a + n) (by omega) (by omega)]; rfl
theorem fill_off {ln : Nat → Bool} {a p k : Nat} (h : k < a ∨ p ≤ k) : fill ln a p k = ln k := by unfold fill; rw [if_neg (by omega)]
theorem fill_on {ln : Nat → Bool} {a p k : Nat} (h : a ≤ k ∧ k < p) : fill ln a p k = true := by unfold fill; rw [if_pos h]
theorem cnt_true {ln : Nat → Bool} {a n : Nat} (h : ln a = true) (hn : 0 < n) : cnt ln a n ≠ n := by
 have e : ∀ m, cnt ln a (m + 1) ≤ m := by
  intro m
  induction m with
  | zero => unfold cnt; rw [Nat.add_zero, h]; exact Nat.le_refl _
  | succ m ih => unfold cnt; split <;> omega
 obtain ⟨m, rfl⟩ : ∃ m, n = m + 1 := ⟨n - 1, by omega⟩
 have := e m
 omega
theorem al_great {n q N L : Nat} {p p' : Pos} (h1 : 16 < n) (h2 : n ≤ 256) (h : ∀ (g ap wb lb : Nat) (ws : Nat → Nat) (μ : Mem), 300 ≤ g → AB μ ap wb lb N L ws p.ln → AC μ ap p.sf p.st p.gf p.gt p.nx →
  EndsF (aFun Tryz.prog (aCode Tryz.prog X S0 g) 99 [.pointer (some ⟨ap, 0, none⟩), .int .i64 (.ofNat n)] μ) fun v μ' => v = .tuple #[.int .i64 (.ofNat q), .bool true] ∧ AB μ' ap wb lb N L ws p'.ln ∧ AC μ' ap p'.sf p'.st p'.gf p'.gt p'.nx ∧ Kept μ μ' ap lb) : Al X N L n q p p' := by
 intro g ap wb lb ws μ hg hB hC
 obtain ⟨v1, μ1, ha, hv, hR⟩ := h (g - 9) ap wb lb ws μ (by omega) hB hC
 subst hv
 have := alloc_great (X := X) h1 h2 ha
 rw [Nat.sub_add_cancel (by omega)] at this
 exact ⟨_, μ1, this, rfl, hR⟩
class Sz where
 nb : Nat
 N : Nat
 L : Nat
 eN : N = 256 * nb
 eL : L = 16 * nb
 lo : 2 ≤ nb
 hi : nb ≤ 6
variable [Z : Sz]
theorem Sz.N1 : Sz.N < 1000000 := by have := Sz.eN; have := Sz.hi; omega
theorem Sz.L1 : Sz.L < 1000000 := by have := Sz.eL; have := Sz.hi; omega
structure Gp (p : Pos) (b s : Nat) : Prop where
 hi : ∀ k, 16 * b ≤ k → k < Sz.L → p.ln k = true
 mid : ∀ k, 16 ≤ k → k < 16 * b → p.ln k = false
 g1 : p.gf ≤ p.gt
 g2 : p.gt = 0 ∨ (256 * b ≤ p.gf ∧ p.gt = 256 * (b + 1) ∧ b < Sz.nb)
 s1 : p.sf = s ∧ s ≤ 256
 s2 : (s = 0 ∧ p.st = 0 ∧ p.nx = 0 ∧ ∀ k, k < 16 → p.ln k = false) ∨ (p.st = 256 ∧ p.nx = 16 ∧ ∀ k, k < 16 → p.ln k = true)
def Free (p : Pos) (k : Nat) : Prop := (p.gf ≤ k ∧ k < p.gt) ∨ (256 ≤ k ∧ k < Sz.N ∧ p.ln (k / 16) = false) ∨ (p.sf ≤ k ∧ k < 256)
structure Took (p p' : Pos) (q n : Nat) : Prop where
 was : ∀ k, q ≤ k → k < q + n → Free p k ∧ ¬ Free p' k
 sub : ∀ k, Free p' k → Free p k
 top : q + n ≤ Sz.N
def P0 : Pos := ⟨fun _ => false, 0, 0, 0, 0, 0⟩
theorem gp0 : Gp P0 Sz.nb 0 := ⟨fun k h1 h2 => by have := Sz.eL; omega, fun _ _ _ => rfl, Nat.le_refl _, .inl rfl, ⟨rfl, by omega⟩, .inl ⟨rfl, rfl, rfl, fun _ _ => rfl⟩⟩
theorem al_big {p : Pos} {b s n : Nat} (h : Gp p b s) (hb : 2 ≤ b ∨ p.gf + n ≤ p.gt) (hb1 : 1 ≤ b) (hb2 : b ≤ Sz.nb) (h1 : 16 < n) (h2 : n ≤ 241) :
  ∃ q p' b', Al X Sz.N Sz.L n q p p' ∧ Gp p' b' s ∧ (1 ≤ b' ∧ b ≤ b' + 1) ∧ b' ≤ b ∧ (Took p p' q n ∧ (¬ p.gf + n ≤ p.gt → p'.gf + 256 = p'.gt + n)) := by
 have z1 := Sz.eN
 have z2 := Sz.eL
 have z3 := Sz.lo
 have z4 := Sz.hi
 by_cases hf : p.gf + n ≤ p.gt
 ·have hg2 : 256 * b ≤ p.gf ∧ p.gt = 256 * (b + 1) ∧ b < Sz.nb := h.g2.resolve_left (by omega)
  refine ⟨p.gf, ⟨p.ln, p.sf, p.st, p.gf + n, p.gt, p.nx⟩, b, al_great h1 (by omega) fun g ap wb lb ws μ hg hB hC => ?_, ⟨h.hi, h.mid, hf, .inr ⟨Nat.le_trans hg2.1 (Nat.le_add_right _ _), hg2.2⟩, h.s1, h.s2⟩, ⟨hb1, Nat.le_succ _⟩, Nat.le_refl _, ⟨fun k k1 k2 => ⟨.inl ⟨k1, by omega⟩, ?_⟩, fun k hk => ?_, by omega⟩, fun h => absurd hf h⟩
  ·exact great_old (X := X) (by omega) hB hC h.g1 (by show p.gt < _; omega) hf
  ·rintro (⟨f1, _⟩ | ⟨_, _, f3⟩ | ⟨_, f2⟩)
   ·have f1 : p.gf + n ≤ k := f1
    omega
   ·have f3 : p.ln (k / 16) = false := f3
    rw [h.hi (k / 16) (by omega) (by omega)] at f3
    cases f3
   ·omega
  ·rcases hk with ⟨f1, f2⟩ | f | f
   ·have f1 : p.gf + n ≤ k := f1
    exact .inl ⟨by omega, f2⟩
   ·exact .inr (.inl f)
   ·exact .inr (.inr f)
 ·have hb : 2 ≤ b := hb.resolve_right hf
  have hT : p.gt < 1000000 := by rcases h.g2 with e | ⟨_, e, _⟩ <;> omega
  refine ⟨256 * (b - 1), ⟨fill p.ln (16 * (b - 1)) (16 * b), p.sf, p.st, 256 * (b - 1) + n, 256 * b, p.nx⟩, b - 1, al_great h1 (by omega) fun g ap wb lb ws μ hg hB hC => ?_, ⟨fun k k1 k2 => ?_, fun k k1 k2 => ?_, ?_, .inr ⟨by show _ ≤ 256 * (b - 1) + n; omega, by show 256 * b = _; omega, by omega⟩, h.s1, ?_⟩, ⟨by omega, by omega⟩, by omega, ⟨fun k k1 k2 => ⟨.inr (.inl ⟨by omega, by omega, h.mid _ (by omega) (by omega)⟩), ?_⟩, fun k hk => ?_, by omega⟩, fun _ => by show 256 * (b - 1) + n + 256 = 256 * b + n; omega⟩
  ·exact great_new (X := X) (nb := Sz.nb) (d := b - 1) (a := 16 * (b - 1)) (t := 16 * b) (fa := 256 * (b - 1)) (ta := 256 * b) hg hB hC h.g1 hT (by omega) (by omega) (by omega) (by omega) (by omega) (by omega) (cnt_false fun k k1 k2 => h.mid k (by omega) (by omega)) (by omega) (by omega) (fun x x1 x2 => cnt_true (h.hi _ (by omega) (by omega)) (by decide)) (by omega) (by omega)
  ·by_cases e : k < 16 * b
   ·exact fill_on ⟨k1, e⟩
   ·exact (fill_off (.inr (by omega))).trans (h.hi k (by omega) k2)
  ·exact (fill_off (.inl k2)).trans (h.mid k k1 (by omega))
  ·show 256 * (b - 1) + n ≤ 256 * b; omega
  ·rcases h.s2 with ⟨a1, a2, a3, a4⟩ | a
   ·exact .inl ⟨a1, a2, a3, fun k hk => (fill_off (.inl (by omega))).trans (a4 k hk)⟩
   ·exact .inr ⟨a.1, a.2.1, fun k hk => (fill_off (.inl (by omega))).trans (a.2.2 k hk)⟩
  ·rintro (⟨f1, _⟩ | ⟨_, _, f3⟩ | ⟨_, f2⟩)
   ·have f1 : 256 * (b - 1) + n ≤ k := f1
    omega
   ·have f3 : fill p.ln (16 * (b - 1)) (16 * b) (k / 16) = false := f3
    rw [fill_on (by omega)] at f3
    cases f3
   ·omega
  ·rcases hk with ⟨f1, f2⟩ | ⟨f1, f2, f3⟩ | f
   ·have f1 : 256 * (b - 1) + n ≤ k := f1
    have f2 : k < 256 * b := f2
    exact .inr (.inl ⟨by omega, by omega, h.mid _ (by omega) (by omega)⟩)
   ·have f3 : fill p.ln (16 * (b - 1)) (16 * b) (k / 16) = false := f3
    by_cases e : 16 * (b - 1) ≤ k / 16 ∧ k / 16 < 16 * b
    ·rw [fill_on e] at f3; cases f3
    ·exact .inr (.inl ⟨f1, f2, by rw [fill_off (by omega)] at f3; exact f3⟩)
   ·exact .inr (.inr f)
theorem al_small {p : Pos} {b s n : Nat} (h : Gp p b s) (hb : 1 ≤ b) (hb2 : b ≤ Sz.nb) (h1 : 1 ≤ n) (h2 : n ≤ 16) (hs : s + n ≤ 256) :
  ∃ p', Al X Sz.N Sz.L n s p p' ∧ Gp p' b (s + n) ∧ Took p p' s n := by
 have z1 := Sz.eN
 have z2 := Sz.eL
 have z3 := Sz.lo
 have z4 := Sz.hi
 obtain ⟨e1, e2⟩ := h.s1
 have far : ∀ k, k < 256 → ¬ (p.gf ≤ k ∧ k < p.gt) := fun k hk => by rcases h.g2 with e | ⟨e, _⟩ <;> omega
 rcases h.s2 with ⟨a1, a2, a3, a4⟩ | ⟨a1, a2, a5⟩
 ·subst a1
  refine ⟨⟨fill p.ln 0 16, 0 + n, 256, p.gf, p.gt, 16⟩, fun g ap wb lb ws μ hg hB hC => ?_, ⟨fun k k1 k2 => ?_, fun k k1 k2 => ?_, h.g1, h.g2, ⟨rfl, hs⟩, .inr ⟨rfl, rfl, fun k hk => fill_on ⟨Nat.zero_le _, hk⟩⟩⟩, fun k k1 k2 => ⟨.inr (.inr ⟨by omega, by omega⟩), ?_⟩, fun k hk => ?_, by omega⟩
  ·have := small_new (X := X) (g := g) (n := n) (t := 16) (fa := 0) (ta := 256) (by omega) hB hC (by omega) (by omega) (by omega) h1 h2 (by omega) (by omega) (by omega) (fun k _ k2 => a4 k (by omega)) (by omega) rfl
   rw [a3] at this
   exact this
  ·exact (fill_off (.inr (by omega))).trans (h.hi k k1 k2)
  ·exact (fill_off (.inr k1)).trans (h.mid k k1 k2)
  ·rintro (f | ⟨f, _⟩ | ⟨f1, _⟩)
   ·exact far k (by omega) f
   ·omega
   ·have f1 : 0 + n ≤ k := f1
    omega
  ·rcases hk with f | ⟨f1, f2, f3⟩ | ⟨f1, f2⟩
   ·exact .inl f
   ·have f3 : fill p.ln 0 16 (k / 16) = false := f3
    rw [fill_off (.inr (by omega))] at f3
    exact .inr (.inl ⟨f1, f2, f3⟩)
   ·exact .inr (.inr ⟨by omega, f2⟩)
 ·refine ⟨⟨p.ln, p.sf + n, p.st, p.gf, p.gt, p.nx⟩, fun g ap wb lb ws μ hg hB hC => ?_, ⟨h.hi, h.mid, h.g1, h.g2, ⟨by show p.sf + n = _; omega, hs⟩, .inr ⟨a1, a2, a5⟩⟩, fun k k1 k2 => ⟨.inr (.inr ⟨by omega, by omega⟩), ?_⟩, fun k hk => ?_, by omega⟩
  ·have := small_old (X := X) (g := g) (n := n) (by omega) hB hC (by omega) (by omega) (by omega) h1 h2
   rw [e1] at this ⊢
   exact this
  ·rintro (f | ⟨f, _⟩ | ⟨f1, _⟩)
   ·exact far k (by omega) f
   ·omega
   ·have f1 : p.sf + n ≤ k := f1
    omega
  ·rcases hk with f | f | ⟨f1, f2⟩
   ·exact .inl f
   ·exact .inr (.inl f)
   ·have f1 : p.sf + n ≤ k := f1
    exact .inr (.inr ⟨by omega, f2⟩)
end
noncomputable section
variable {X : FuncId → List Value → Mem → Option (Value × Mem)}
theorem z3 : aZeroOf Tryz.prog 3 = some (.int .i64 0) := by unfold aZeroOf; rw [i3]; rfl
end
noncomputable section
variable {X : FuncId → List Value → Mem → Option (Value × Mem)}
end
noncomputable section
variable {X : FuncId → List Value → Mem → Option (Value × Mem)}
theorem bs22 (ρ : Operand → Value) (x : Operand) (hv : one (ρ x) = true) : aBuildSlice Tryz.prog ρ 22 1 #[(0, x)] = some (.cells 1 3 #[ρ x] .e 0 0 false false, fun id => .slice (some ⟨id, 0, none⟩) 1 2) := buildSlice_if Tryz.underlying22 i3 rfl z3 rfl ρ x hv
set_option maxHeartbeats 4000000 in
theorem astext_loop {n b c : Nat} {x : Nat → Nat} {μ0 : Mem} (hcell : ∀ k, k < n → cellsAt μ0 b k = some (.int .u64 (.ofNat (x k)))) (hbn : b < μ0.next) (hn : n < 100000) (hx : ∀ t, x t < 2 ^ 32) :
  ∀ (e m j : Nat) (tm : T Value) (v : Value) (μ : Mem), j + m = n → Own 3 μ0 μ v (wl .i64 x j) → regAt tm 8 = v → regAt tm 20 = .slice (some ⟨b, 0, none⟩) n c → regAt tm 21 = .int .i64 (.ofNat n) → regAt tm 22 = .int .i64 (.ofNat j) →
   EndsC (aCode Tryz.prog X S0 (e + m + 60) (.loop (loopBody Tryz.f50 0)) ⟨33, tm, [], none⟩ μ) fun a r μ' => a = .exit 0 ∧ ∃ tm' v', r = ⟨33, tm', [], none⟩ ∧ Own 3 μ0 μ' v' (wl .i64 x n) ∧ regAt tm' 8 = v' := by
 intro e m
 induction m with
 | zero =>
   intro j tm v μ hj hO r8 r20 r21 r22
   obtain rfl : j = n := hj
   refine code_loop ?_
   refine code_seq ?_
   refine code_region ?_ ?_
   ·rfl
   simp only [run1, go_sem, Nat.reduceLT, Nat.reduceAdd, Nat.reduceEqDiff, reduceIte, reduceCtorEq, r21, r22, ilt_nat, Nat.lt_irrefl]
   refine code_seq ?_
   refine code_cond_false ?_ ?_
   ·simp only [aev, regAt_set, Nat.reduceEqDiff, reduceIte]
   refine code_exit ?_
   simp only [then_exit]
   exact ⟨trivial, _, v, rfl, hO, by simp only [regAt_set, Nat.reduceEqDiff, reduceIte, r8]⟩
 | succ m ih =>
   intro j tm v μ hj hO r8 r20 r21 r22
   have hlt : j < n := by omega
   have hc' : cellsAt μ b j = some (.int .u64 (.ofNat (x j))) := by rw [← hcell j hlt]; unfold cellsAt; rw [hO.grow.2 b hbn]
   have hia : ∀ ρ : Operand → Value, ∀ a b', ρ a = .slice (some ⟨b, 0, none⟩) n c → ρ b' = .int .i64 (.ofNat j) → aIndexAddr Tryz.prog ρ 81 a b' = some (.pointer (some ⟨b, j, none⟩)) := fun ρ a b' g1 g2 => by
    rw [indexAddr_slice (P := Tryz.prog) Tryz.underlying81 iW rfl g1 g2 hlt, Nat.zero_add]
   have a3 : qwrap .i64 (Int.add (.ofNat j) 1) = .ofNat (j + 1) := add_nat j 1 (by omega)
   have qA : qwrap .i64 (.ofNat (x j)) = .ofNat (x j) := q64 (x j) (by have := hx j; omega)
   obtain ⟨v7, μ7, hap, hO7⟩ := hO.push (st := 22) (x := .int .i64 (.ofNat (x j))) Tryz.underlying22 i3 rfl rfl z3 rfl (by rw [wl_length]; omega) rfl
   have hap : aAppend Tryz.prog ⟨μ.obs.set μ.next (.cells 1 3 #[.int .i64 (.ofNat (x j))] .e 0 0 false false), Nat.add μ.next 1⟩ 22 22 v (.slice (some ⟨μ.next, 0, none⟩) 1 2) = some (v7, μ7) := hap
   rw [← wl_succ] at hO7
   refine code_loop ?_
   refine code_seq ?_
   refine code_region ?_ ?_
   ·rfl
   simp only [run1, go_sem, Nat.reduceLT, Nat.reduceAdd, Nat.reduceEqDiff, reduceIte, reduceCtorEq, r21, r22, ilt_nat, hlt]
   refine code_seq ?_
   refine code_cond_true ?_ ?_
   ·simp only [aev, regAt_set, Nat.reduceEqDiff, reduceIte]
   refine code_skip ?_
   simp only [then_normal]
   refine code_seq ?_
   refine code_block ?_
   refine code_seq ?_
   refine code_region ?_ ?_
   ·rfl
   simp only [run1, go_sem, Nat.reduceLT, Nat.reduceAdd, Nat.reduceEqDiff, reduceIte, reduceCtorEq, r20, r22, hia, ldW, hc']
   refine code_region ?_ ?_
   ·rfl
   simp only [run1, go_sem, Nat.reduceLT, Nat.reduceAdd, Nat.reduceEqDiff, reduceIte, reduceCtorEq, r8, cvWi, qA, bs22, one, aBuiltin, hap]
   simp only [blockC, then_normal]
   refine code_region ?_ ?_
   ·rfl
   simp only [run1, go_sem, Nat.reduceLT, Nat.reduceAdd, Nat.reduceEqDiff, reduceIte, reduceCtorEq, r22, a3]
   rw [show e + (m + 1) + 59 = e + m + 60 from by omega]
   refine ih (j + 1) _ _ _ (by omega) hO7 ?_ ?_ ?_ ?_ <;> simp only [regAt_set, Nat.reduceEqDiff, reduceIte, r20, r21]
set_option maxHeartbeats 4000000 in
theorem astext_ends {g sp hp ap wb lb N L q m n : Nat} {x ws : Nat → Nat} {p : Pos} {μ : Mem} (hg : 2000 ≤ g) (h : SP μ sp hp ap wb lb N L ws p) (hm : m = nw 2 n) (hq : q + m < N) (hw : ws q = headW 18 0 m) (hws : ∀ k, k < m → ws (q + 1 + k) = pf x 2 32 n n k) (hn : n ≤ 400) (hx : ∀ t, x t < 2 ^ 32) :
  EndsF (aFun Tryz.prog (aCode Tryz.prog X S0 g) 50 [.pointer (some ⟨sp, 0, none⟩), .int .u64 (.ofNat (placeW q))] μ) fun v μ' => ∃ v', v = .tuple #[v', .bool true] ∧ Own 3 μ μ' v' (wl .i64 x n) := by
 obtain ⟨k, rfl⟩ := Nat.exists_eq_add_of_le' hg
 have hnw : m ≤ 240 := by
  rw [hm]
  cases n with
  | zero => exact Nat.le_of_ble_eq_true rfl
  | succ n => rw [nw_succ 2 (by decide)]; omega
 obtain ⟨v1, μ1, hf, oi, hv1, hg1, ho1, ho2, hc1⟩ := fields_yes (X := X) (g := k + 1997) (kd := 18) (by omega) h.sp0 h.spn h.hs.at hq h.hs.ab.N1 hw (by decide) hnw
 subst hv1
 have hf : aFun Tryz.prog (aCode Tryz.prog X S0 (k + 1997)) 66 [.pointer (some ⟨sp, 0, none⟩), .int .i64 18, .int .u64 (.ofNat (placeW q))] μ = some (.tuple #[.slice (some ⟨oi, 0, none⟩) m (2 * m), .bool true], μ1) := hf
 obtain ⟨v2, μ2, hu, b, hv2, hg2, hb1, hb2, hB2, hc2⟩ := unpacked_ends (X := X) (g := k + 1993) (co := 2 * m) (each := 2) (wide := 32) (x := x) (n := n) (by omega) (fun k hk => by rw [hc1 k hk, hws k hk]) hm ho2 (by omega) (by decide) (by decide) (by decide) hx
 subst hv2
 have hu : aFun Tryz.prog (aCode Tryz.prog X S0 (k + 1993)) 71 [.slice (some ⟨oi, 0, none⟩) m (2 * m), .int .i64 2, .int .i64 32] μ1 = some (.slice (some ⟨b, 0, none⟩) n (2 * n), μ2) := hu
 have hg12 := hg1.trans hg2
 refine fun_enter Tryz.func50 rfl rfl (Nat.le_of_ble_eq_true rfl) ?_
 simp only [T.lay, Nat.zero_add, Tryz.ntmps50, Nat.reduceAdd]
 refine code_seq ?_
 refine code_region ?_ ?_
 ·rfl
 simp only [run1, go_sem, Nat.reduceLT, Nat.reduceAdd, Nat.reduceEqDiff, reduceIte, reduceCtorEq]
 refine code_seq ?_
 refine code_region ?_ ?_
 ·rfl
 simp only [run1, go_sem, Nat.reduceLT, Nat.reduceAdd, Nat.reduceEqDiff, reduceIte, reduceCtorEq, gg66, hf]
 refine code_seq ?_
 refine code_seq ?_
 refine code_region ?_ ?_
 ·rfl
 simp only [run1, go_sem, Nat.reduceLT, Nat.reduceAdd, Nat.reduceEqDiff, reduceIte, reduceCtorEq]
 refine code_cond_false ?_ ?_
 ·simp only [aev, regAt_set, Nat.reduceEqDiff, reduceIte]
 refine code_skip ?_
 simp only [then_normal]
 refine code_seq ?_
 refine code_region ?_ ?_
 ·rfl
 simp only [run1, go_sem, Nat.reduceLT, Nat.reduceAdd, Nat.reduceEqDiff, reduceIte, reduceCtorEq]
 refine code_seq ?_
 refine code_seq ?_
 refine code_region ?_ ?_
 ·rfl
 simp only [run1, go_sem, Nat.reduceLT, Nat.reduceAdd, Nat.reduceEqDiff, reduceIte, reduceCtorEq, gg71, hu, aBuiltin, aLen, Tryz.underlying81, cast_nat]
 refine code_block ?_
 rw [show k + 1993 = (k + 1933 - n) + n + 60 from by omega]
 refine EndsC.mono (astext_loop (c := 2 * n) (x := x) hc2 hb2 (by omega) hx (k + 1933 - n) n 0 _ _ μ2 (by omega) (Own.nil _ _) ?_ ?_ ?_ ?_) ?_
 ·simp only [regAt_set, Nat.reduceEqDiff, reduceIte]
 ·simp only [regAt_set, Nat.reduceEqDiff, reduceIte]
 ·simp only [regAt_set, Nat.reduceEqDiff, reduceIte]
 ·simp only [regAt_set, Nat.reduceEqDiff, reduceIte]; rfl
 rintro x' r' μ' ⟨rfl, tm', v', rfl, hO, g8⟩
 simp only [blockC, reduceIte, then_normal]
 refine code_seq ?_
 refine code_region ?_ ?_
 ·rfl
 simp only [run1, go_sem, Nat.reduceLT, Nat.reduceAdd, Nat.reduceEqDiff, reduceIte, reduceCtorEq, g8]
 refine code_ret ?_
 refine ⟨rfl, _, ?_, v', rfl, ⟨hO.good, hg12.trans hO.grow, fun i hi => ⟨Nat.le_trans hg12.1 (hO.above i hi).1, (hO.above i hi).2⟩⟩⟩
 simp only [aResults, Tryz.results50, aRes, regAt_set, Nat.reduceEqDiff, reduceIte]
end
noncomputable section
variable {X : FuncId → List Value → Mem → Option (Value × Mem)}
theorem one_ne : decide (1 = 0) = false := rfl
theorem iN : Tryz.prog.info? 46 = some Tryz.t46 := by kernel_rfl
theorem alN : ∃ l : List Value, aAlloc Tryz.prog 46 = some (.cells 4 46 l.toArray .e 0 0 false false, fun id => .pointer (some ⟨id, 0, none⟩)) ∧ (∀ ρ, aBuild Tryz.prog ρ 46 #[] = some (.agg l.toArray)) ∧ l.all one = true ∧ l.length = 4 := by
 have hz : ∃ l : List Value, aZeroOf Tryz.prog 46 = some (.agg l.toArray) ∧ l.all one = true ∧ l.length = 4 ∧ cellsL (.agg l.toArray) = l ∧ (cellsL (.agg l.toArray)).toArray = l.toArray := by
  unfold aZeroOf; rw [iN]
  exact ⟨_, rfl, rfl, rfl, rfl, rfl⟩
 obtain ⟨l, hz, ho, hl, hc, hc2⟩ := hz
 refine ⟨l, ?_, fun ρ => ?_, ho, hl⟩
 ·unfold aAlloc; rw [hz]
  simp only [hc, hl]
 ·refine build_struct (pl := [(0, 1), (1, 1), (2, 2)]) hz Tryz.underlying46 (by kernel_rfl) ?_
  rw [hc]; rfl
set_option maxHeartbeats 4000000 in
theorem asnum_no {g sp hp ap wb lb N L q kd pn n : Nat} {ws : Nat → Nat} {p : Pos} {μ : Mem} (hg : 400 ≤ g) (h : SP μ sp hp ap wb lb N L ws p) (hq : q < N) (hw : ws q = headW kd pn n) (h1 : kd < 32) (h2 : pn < 8) (h3 : n < 1000000) (hne : kd ≠ 16) (hne2 : kd ≠ 17) :
  EndsF (aFun Tryz.prog (aCode Tryz.prog X S0 g) 47 [.pointer (some ⟨sp, 0, none⟩), .int .u64 (.ofNat (placeW q))] μ) fun v μ' => (∃ l : List Value, v = .tuple #[.agg l.toArray, .bool false] ∧ l.all one = true ∧ l.length = 4) ∧ Grow μ μ' := by
 obtain ⟨k, rfl⟩ := Nat.exists_eq_add_of_le' hg
 obtain ⟨l, hal, hbd, hlo, hll⟩ := alN
 have hN := h.hs.ab.N1
 have g0 := grow1 μ (.cells 4 46 l.toArray .e 0 0 false false)
 obtain ⟨μ0, hμ0⟩ : ∃ m : Mem, m = ⟨μ.obs.set μ.next (.cells 4 46 l.toArray .e 0 0 false false), μ.next + 1⟩ := ⟨_, rfl⟩
 rw [← hμ0] at g0
 have hS0 := h.grow g0
 have hob0 : μ0.obs.get μ.next = some (.cells 4 46 l.toArray .e 0 0 false false) := by rw [hμ0]; show T.get _ _ = _; rw [T.get_set, if_pos rfl]
 have hn0 : μ.next < μ0.next := by rw [hμ0]; exact Nat.lt_succ_self _
 have hμ0' : (⟨μ.obs.set μ.next (.cells 4 46 l.toArray .e 0 0 false false), Nat.add μ.next 1⟩ : Mem) = μ0 := hμ0.symm
 have hK : ∀ f, 20 ≤ f → aFun Tryz.prog (aCode Tryz.prog X S0 f) 51 [.int .u64 (.ofNat (placeW q))] μ0 = some (.int .i64 (.ofNat 1), μ0) := fun f hf => by
  rw [kind_eq hf (by unfold placeW; omega), show placeW q % 8 = 1 from by unfold placeW; omega]
 have hK := hK (k + 396) (by omega)
 obtain ⟨v1, μ1, hf, hv1, hg1⟩ := fields_no (X := X) (g := k + 395) (kd' := 16) (by omega) hS0.sp0 hS0.hs.at hq hN hw h1 h2 h3 hne
 subst hv1
 have hf : aFun Tryz.prog (aCode Tryz.prog X S0 (k + 395)) 66 [.pointer (some ⟨sp, 0, none⟩), .int .i64 16, .int .u64 (.ofNat (placeW q))] μ0 = some (.tuple #[.slice none 0 0, .bool false], μ1) := hf
 have hS1 := hS0.grow hg1
 obtain ⟨v2, μ2, hf2, hv2, hg2⟩ := fields_no (X := X) (g := k + 395) (kd' := 17) (by omega) hS1.sp0 hS1.hs.at hq hN hw h1 h2 h3 hne2
 subst hv2
 have hf2 : aFun Tryz.prog (aCode Tryz.prog X S0 (k + 395)) 66 [.pointer (some ⟨sp, 0, none⟩), .int .i64 17, .int .u64 (.ofNat (placeW q))] μ1 = some (.tuple #[.slice none 0 0, .bool false], μ2) := hf2
 have hg12 := hg1.trans hg2
 have hob2 : μ2.obs.get μ.next = some (.cells 4 46 l.toArray .e 0 0 false false) := by rw [hg12.2 _ hn0]; exact hob0
 have hst := store_list (P := Tryz.prog) (t := 46) (vs := l) (o := 0) iN (by rw [hll]; rfl) hlo hob2 (by rw [hll]; exact Nat.le_refl _)
 have hld : aLoad Tryz.prog ⟨μ2.obs.set μ.next (.cells 4 46 l.toArray (T.lay .e 0 l) 0 0 false false), μ2.next⟩ 46 (.pointer (some ⟨μ.next, 0, none⟩)) = some (.agg l.toArray) := by
  have e : cellsFrom l.toArray (T.lay .e 0 l) 0 4 = l := cellsFrom_eq 4 0 l hll fun k hk => by
   rw [cellAt_lay, dif_pos ⟨by omega, by omega⟩]; simp
  rw [← congrArg (fun l => some (Value.agg l.toArray)) e]
  exact load_struct (P := Tryz.prog) (n := 4) Tryz.underlying46 iN (by show obCells (T.get _ _) = _; rw [T.get_set, if_pos rfl]; rfl) (by decide)
 refine fun_enter Tryz.func47 rfl rfl (Nat.le_of_ble_eq_true rfl) ?_
 simp only [T.lay, Nat.zero_add, Tryz.ntmps47, Nat.reduceAdd]
 refine code_seq ?_
 refine code_region ?_ ?_
 ·rfl
 simp only [run1, go_sem, Nat.reduceLT, Nat.reduceAdd, Nat.reduceEqDiff, reduceIte, reduceCtorEq, hal, hμ0']
 refine code_seq ?_
 refine code_seq ?_
 refine code_region ?_ ?_
 ·rfl
 simp only [run1, go_sem, Nat.reduceLT, Nat.reduceAdd, Nat.reduceEqDiff, reduceIte, reduceCtorEq, gg51, hK, ieq_lit0, one_ne]
 refine code_cond_false ?_ ?_
 ·simp only [aev, regAt_set, Nat.reduceEqDiff, reduceIte]
 refine code_skip ?_
 simp only [then_normal]
 refine code_seq ?_
 refine code_seq ?_
 refine code_region ?_ ?_
 ·rfl
 simp only [run1, go_sem, Nat.reduceLT, Nat.reduceAdd, Nat.reduceEqDiff, reduceIte, reduceCtorEq, gg66, hf]
 refine code_seq ?_
 refine code_guards (gs := ?_) ?_ ?_
 rotate_left
 ·rfl
 iterate 2 (refine run2_true (by first | rfl | (simp only [wanted, go_sem, Nat.reduceLT, Nat.reduceAdd, Nat.reduceEqDiff, reduceIte, reduceCtorEq])) (by simp only [go_sem, Nat.reduceLT, Nat.reduceAdd, Nat.reduceEqDiff, reduceIte, reduceCtorEq]; try exact rfl) rfl ?_)
 iterate 3 (refine run2_false (by simp only [wanted, go_sem, Nat.reduceLT, Nat.reduceAdd, Nat.reduceEqDiff, reduceIte, reduceCtorEq]) rfl ?_)
 refine run2_true (by first | rfl | (simp only [wanted, go_sem, Nat.reduceLT, Nat.reduceAdd, Nat.reduceEqDiff, reduceIte, reduceCtorEq])) (by simp only [go_sem, Nat.reduceLT, Nat.reduceAdd, Nat.reduceEqDiff, reduceIte, reduceCtorEq]; try exact rfl) rfl ?_
 simp only [run2, ends_some, then_normal]
 refine code_cond_false ?_ ?_
 ·simp only [aev, regAt_set, Nat.reduceEqDiff, reduceIte]
 refine code_skip ?_
 simp only [then_normal]
 refine code_seq ?_
 refine code_region ?_ ?_
 ·rfl
 simp only [run1, go_sem, Nat.reduceLT, Nat.reduceAdd, Nat.reduceEqDiff, reduceIte, reduceCtorEq, gg66, hf2]
 refine code_seq ?_
 refine code_seq ?_
 refine code_guards (gs := ?_) ?_ ?_
 rotate_left
 ·rfl
 iterate 3 (refine run2_true (by first | rfl | (simp only [wanted, go_sem, Nat.reduceLT, Nat.reduceAdd, Nat.reduceEqDiff, reduceIte, reduceCtorEq])) (by simp only [go_sem, Nat.reduceLT, Nat.reduceAdd, Nat.reduceEqDiff, reduceIte, reduceCtorEq]; try exact rfl) rfl ?_)
 iterate 3 (refine run2_false (by simp only [wanted, go_sem, Nat.reduceLT, Nat.reduceAdd, Nat.reduceEqDiff, reduceIte, reduceCtorEq]) rfl ?_)
 refine run2_true (by first | rfl | (simp only [wanted, go_sem, Nat.reduceLT, Nat.reduceAdd, Nat.reduceEqDiff, reduceIte, reduceCtorEq])) (by simp only [go_sem, Nat.reduceLT, Nat.reduceAdd, Nat.reduceEqDiff, reduceIte, reduceCtorEq]; try exact rfl) rfl ?_
 simp only [run2, ends_some, then_normal]
 refine code_cond_true ?_ ?_
 ·simp only [aev, regAt_set, Nat.reduceEqDiff, reduceIte]
 refine code_seq ?_
 refine code_region ?_ ?_
 ·rfl
 simp only [run1, go_sem, Nat.reduceLT, Nat.reduceAdd, Nat.reduceEqDiff, reduceIte, reduceCtorEq, hbd, hst]
 refine code_ret ?_
 refine ⟨rfl, .tuple #[.agg l.toArray, .bool false], ?_, ⟨l, rfl, hlo, hll⟩, ?_⟩
 ·simp only [aResults, Tryz.results47, aRes, regAt_set, Nat.reduceEqDiff, reduceIte, hld]
 ·exact ⟨Nat.le_trans g0.1 hg12.1, fun i hi => by show T.get _ i = _; rw [T.get_set, if_neg (by omega)]; exact (g0.trans hg12).2 i hi⟩
end
end Go.Proofs.YthpcpheejblbhaaGreatDoor.tr
