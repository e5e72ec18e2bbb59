/-
  distafflaw18.ValueRings, part P: its walk and its law. No conditions.
-/
import Derived.Test.YtohkikbhgcgmfaaGreatDoorEvSk
import Derived.Test.YtohkikbhgcgmfaaGreatDoorEvZd
import Derived.Test.YtohkikbhgcgmfaaGreatDoorRows
set_option linter.unusedSimpArgs false
set_option linter.unusedVariables false
set_option linter.unusedSectionVars false
namespace Go.Proofs.YtohkikbhgcgmfaaGreatDoor.vr
open Go Go.Proofs Go.Proofs.YtohkikbhgcgmfaaGreatDoor.Ev
noncomputable section
attribute [go_sem] aOne aP aR aA aT aCall aCallVal aev regAt_set aput_mk aput_none plainV aNilCheck aExtract aBin aInt Addr.add Nat.zero_add ends_some if_true then_normal if_false decide_true decide_false Bool.not_true Bool.not_false beq_self_eq_true beq_tf beq_ft aPick List.map_cons List.map_nil List.nil_append List.append_nil List.getElem?_cons_zero List.getElem?_cons_succ
def rom5 : List Value := (flatL 3 Rows.laid_internal_strconv_uint64pow10).getD []
def rom6 : List Value := (flatL 3 Rows.laid_internal_strconv_pow10Tab).getD []
def roms : List (Nat × List Value × TypeId) := [(10, rom6, 362), (7, rom5, 316)]
abbrev S0 : List (FuncId × LK) := [(4, .alive roms)]
section
set_option linter.defProp false
variable {X : FuncId → List Value → Mem → Option (Value × Mem)} {ev : Code → Rg → Mem → Option (Ax × Rg × Mem)}
def gg114 := go_call (P := Tryz.prog) (X := X) (ev := ev) (S := S0) Tryz.func114 rfl rfl
def gg59 := go_call (P := Tryz.prog) (X := X) (ev := ev) (S := S0) Tryz.func59 rfl rfl
def gg26 := go_call (P := Tryz.prog) (X := X) (ev := ev) (S := S0) Tryz.func26 rfl rfl
def gg146 := go_call (P := Tryz.prog) (X := X) (ev := ev) (S := S0) Tryz.func146 rfl rfl
def gg145 := go_call (P := Tryz.prog) (X := X) (ev := ev) (S := S0) Tryz.func145 rfl rfl
def gg172 := go_call (P := Tryz.prog) (X := X) (ev := ev) (S := S0) Tryz.func172 rfl rfl
def gg144 := go_call (P := Tryz.prog) (X := X) (ev := ev) (S := S0) Tryz.func144 rfl rfl
def gg51 := go_call (P := Tryz.prog) (X := X) (ev := ev) (S := S0) Tryz.func51 rfl rfl
def gg47 := go_call (P := Tryz.prog) (X := X) (ev := ev) (S := S0) Tryz.func47 rfl rfl
def gg80 := go_call (P := Tryz.prog) (X := X) (ev := ev) (S := S0) Tryz.func80 rfl rfl
def gg11 := go_call (P := Tryz.prog) (X := X) (ev := ev) (S := S0) Tryz.func11 rfl rfl
def gg81 := go_call (P := Tryz.prog) (X := X) (ev := ev) (S := S0) Tryz.func81 rfl rfl
def gg25 := go_call (P := Tryz.prog) (X := X) (ev := ev) (S := S0) Tryz.func25 rfl rfl
def gg83 := go_call (P := Tryz.prog) (X := X) (ev := ev) (S := S0) Tryz.func83 rfl rfl
def gg9 := go_call (P := Tryz.prog) (X := X) (ev := ev) (S := S0) Tryz.func9 rfl rfl
def gg55 := go_call (P := Tryz.prog) (X := X) (ev := ev) (S := S0) Tryz.func55 rfl rfl
def gg10 := go_call (P := Tryz.prog) (X := X) (ev := ev) (S := S0) Tryz.func10 rfl rfl
def gg18 := go_call (P := Tryz.prog) (X := X) (ev := ev) (S := S0) Tryz.func18 rfl rfl
def gg23 := go_call (P := Tryz.prog) (X := X) (ev := ev) (S := S0) Tryz.func23 rfl rfl
def gg44 := go_call (P := Tryz.prog) (X := X) (ev := ev) (S := S0) Tryz.func44 rfl rfl
def gg42 := go_call (P := Tryz.prog) (X := X) (ev := ev) (S := S0) Tryz.func42 rfl rfl
def gg115 := go_call (P := Tryz.prog) (X := X) (ev := ev) (S := S0) Tryz.func115 rfl rfl
def gg12 := go_call (P := Tryz.prog) (X := X) (ev := ev) (S := S0) Tryz.func12 rfl rfl
def gg17 := go_call (P := Tryz.prog) (X := X) (ev := ev) (S := S0) Tryz.func17 rfl rfl
def gg147 := go_call (P := Tryz.prog) (X := X) (ev := ev) (S := S0) Tryz.func147 rfl rfl
def gg122 := go_call (P := Tryz.prog) (X := X) (ev := ev) (S := S0) Tryz.func122 rfl rfl
def gg166 := go_call (P := Tryz.prog) (X := X) (ev := ev) (S := S0) Tryz.func166 rfl rfl
def gg41 := go_call (P := Tryz.prog) (X := X) (ev := ev) (S := S0) Tryz.func41 rfl rfl
def gg173 := go_call (P := Tryz.prog) (X := X) (ev := ev) (S := S0) Tryz.func173 rfl rfl
def gg154 := go_call (P := Tryz.prog) (X := X) (ev := ev) (S := S0) Tryz.func154 rfl rfl
def gg141 := go_call (P := Tryz.prog) (X := X) (ev := ev) (S := S0) Tryz.func141 rfl rfl
def gg180 := go_call (P := Tryz.prog) (X := X) (ev := ev) (S := S0) Tryz.func180 rfl rfl
def gg181 := go_call (P := Tryz.prog) (X := X) (ev := ev) (S := S0) Tryz.func181 rfl rfl
def gg118 := go_call (P := Tryz.prog) (X := X) (ev := ev) (S := S0) Tryz.func118 rfl rfl
def gg84 := go_call (P := Tryz.prog) (X := X) (ev := ev) (S := S0) Tryz.func84 rfl rfl
def gg138 := go_call (P := Tryz.prog) (X := X) (ev := ev) (S := S0) Tryz.func138 rfl rfl
def gg5 := go_call (P := Tryz.prog) (X := X) (ev := ev) (S := S0) Tryz.func5 rfl rfl
def gg57 := go_call (P := Tryz.prog) (X := X) (ev := ev) (S := S0) Tryz.func57 rfl rfl
def gg116 := go_call (P := Tryz.prog) (X := X) (ev := ev) (S := S0) Tryz.func116 rfl rfl
def gg37 := go_call (P := Tryz.prog) (X := X) (ev := ev) (S := S0) Tryz.func37 rfl rfl
def gg58 := go_call (P := Tryz.prog) (X := X) (ev := ev) (S := S0) Tryz.func58 rfl rfl
def gg73 := go_call (P := Tryz.prog) (X := X) (ev := ev) (S := S0) Tryz.func73 rfl rfl
def gg184 := go_call (P := Tryz.prog) (X := X) (ev := ev) (S := S0) Tryz.func184 rfl rfl
def gg155 := go_call (P := Tryz.prog) (X := X) (ev := ev) (S := S0) Tryz.func155 rfl rfl
def gg243 := go_call (P := Tryz.prog) (X := X) (ev := ev) (S := S0) Tryz.func243 rfl rfl
def gg211 := go_call (P := Tryz.prog) (X := X) (ev := ev) (S := S0) Tryz.func211 rfl rfl
def gg229 := go_call (P := Tryz.prog) (X := X) (ev := ev) (S := S0) Tryz.func229 rfl rfl
def gg210 := go_call (P := Tryz.prog) (X := X) (ev := ev) (S := S0) Tryz.func210 rfl rfl
def gg209 := go_call (P := Tryz.prog) (X := X) (ev := ev) (S := S0) Tryz.func209 rfl rfl
def gg226 := go_call (P := Tryz.prog) (X := X) (ev := ev) (S := S0) Tryz.func226 rfl rfl
def gg182 := go_call (P := Tryz.prog) (X := X) (ev := ev) (S := S0) Tryz.func182 rfl rfl
def gg170 := go_call (P := Tryz.prog) (X := X) (ev := ev) (S := S0) Tryz.func170 rfl rfl
def gg24 := go_call (P := Tryz.prog) (X := X) (ev := ev) (S := S0) Tryz.func24 rfl rfl
def gg124 := go_call (P := Tryz.prog) (X := X) (ev := ev) (S := S0) Tryz.func124 rfl rfl
def gg8 := go_call (P := Tryz.prog) (X := X) (ev := ev) (S := S0) Tryz.func8 rfl rfl
def gg7 := go_call (P := Tryz.prog) (X := X) (ev := ev) (S := S0) Tryz.func7 rfl rfl
def gg50 := go_call (P := Tryz.prog) (X := X) (ev := ev) (S := S0) Tryz.func50 rfl rfl
def gg21 := go_call (P := Tryz.prog) (X := X) (ev := ev) (S := S0) Tryz.func21 rfl rfl
def gg52 := go_call (P := Tryz.prog) (X := X) (ev := ev) (S := S0) Tryz.func52 rfl rfl
def gg48 := go_call (P := Tryz.prog) (X := X) (ev := ev) (S := S0) Tryz.func48 rfl rfl
def gg43 := go_call (P := Tryz.prog) (X := X) (ev := ev) (S := S0) Tryz.func43 rfl rfl
def gg19 := go_call (P := Tryz.prog) (X := X) (ev := ev) (S := S0) Tryz.func19 rfl rfl
def gg49 := go_call (P := Tryz.prog) (X := X) (ev := ev) (S := S0) Tryz.func49 rfl rfl
def gg45 := go_call (P := Tryz.prog) (X := X) (ev := ev) (S := S0) Tryz.func45 rfl rfl
def gg82 := go_call (P := Tryz.prog) (X := X) (ev := ev) (S := S0) Tryz.func82 rfl rfl
def gg53 := go_call (P := Tryz.prog) (X := X) (ev := ev) (S := S0) Tryz.func53 rfl rfl
def gg6 := go_call (P := Tryz.prog) (X := X) (ev := ev) (S := S0) Tryz.func6 rfl rfl
def gg93 := go_call (P := Tryz.prog) (X := X) (ev := ev) (S := S0) Tryz.func93 rfl rfl
end
variable {X : FuncId → List Value → Mem → Option (Value × Mem)} {S : List (FuncId × LK)}
theorem iWs : Tryz.prog.info? 114 = some Tryz.t114 := by kernel_rfl
theorem iW : Tryz.prog.info? 27 = some Tryz.t27 := by kernel_rfl
theorem faA0 (ρ : Operand → Value) (x : Operand) : aFieldAddr Tryz.prog ρ 149 x 0 = (match ρ x with | .pointer (some a) => some (.pointer (some (a.add 0))) | _ => none) := fieldAddr_at (ft := 114) (off := 0) Tryz.underlying149 rfl iWs rfl ρ x
theorem ldWs (μ : Mem) (i o : Nat) : aLoad Tryz.prog μ 114 (.pointer (some ⟨i, o, none⟩)) = cellsAt μ i o := load_at Tryz.underlying114 rfl μ i o
theorem ldW (μ : Mem) (i o : Nat) : aLoad Tryz.prog μ 27 (.pointer (some ⟨i, o, none⟩)) = cellsAt μ i o := load_at Tryz.underlying27 rfl μ i o
structure Arena (μ : Mem) (ap wb N : Nat) (ws : Nat → Nat) : Prop where
 head : ∃ c, cellsAt μ ap 0 = some (.slice (some ⟨wb, 0, none⟩) N c)
 words : ∃ z ov fx sh, μ.obs.get wb = some (.cells N 27 z ov 0 0 fx sh) ∧ ∀ k, k < N → cellAt z ov k = .int .u64 (.ofNat (ws k))
 apart : ap ≠ wb
def put (ws : Nat → Nat) (at_ w : Nat) : Nat → Nat := fun k => if k = at_ then w else ws k
theorem ilt_z (q : Nat) : ilt (.ofNat q) 0 = false := rfl
set_option maxHeartbeats 4000000 in
theorem arena_set {k ap wb N q w : Nat} {ws : Nat → Nat} {μ : Mem} (hA : Arena μ ap wb N ws) (hq : q < N) :
  EndsF (aFun Tryz.prog (aCode Tryz.prog X S (k + 20)) 26 [.pointer (some ⟨ap, 0, none⟩), .int .i64 (.ofNat q), .int .u64 (.ofNat w)] μ) fun v μ' => v = .int .i64 0 ∧ Arena μ' ap wb N (put ws q w) ∧ μ'.next = μ.next ∧ ∀ i, i ≠ wb → μ'.obs.get i = μ.obs.get i := by
 obtain ⟨c, hl⟩ := hA.head
 obtain ⟨z, ov, fx, sh, hwb, hws⟩ := hA.words
 have hia : ∀ ρ : Operand → Value, ∀ a b, ρ a = .slice (some ⟨wb, 0, none⟩) N c → ρ b = .int .i64 (.ofNat q) → aIndexAddr Tryz.prog ρ 114 a b = some (.pointer (some ⟨wb, q, none⟩)) := fun ρ a b h1 h2 => by
  rw [indexAddr_slice (P := Tryz.prog) Tryz.underlying114 iW rfl h1 h2 hq, Nat.zero_add]
 have hst := store_one (P := Tryz.prog) (t := 27) (v := .int .u64 (.ofNat w)) iW rfl rfl hwb hq
 refine fun_enter Tryz.func26 rfl rfl (by show 3 ≤ 25; decide) ?_
 simp only [T.lay, Nat.zero_add, Tryz.ntmps26, Nat.reduceAdd]
 refine code_seq ?_
 refine code_region ?_ ?_
 ·rfl
 simp only [run1, aOne, aP, aev, regAt_set, aput_mk, ends_some, Nat.reduceLT, if_true, plainV, then_normal, Nat.reduceEqDiff, if_false, reduceIte]
 refine code_seq ?_
 refine code_seq ?_
 refine code_guards (gs := ?_) ?_ ?_
 rotate_left
 ·rfl
 simp only [run2, wanted, aOne, aP, aR, aA, aT, aCall, aev, regAt_set, aput_mk, plainV, aBin, aInt, ilt_z, ilt_nat, hq, aNilCheck, faA0, ldWs, hl, aBuiltin, aLen, Tryz.underlying114, cast_nat, aPick, Addr.add, Nat.zero_add,
  ends_some, Nat.reduceLT, if_true, then_normal, Nat.reduceEqDiff, if_false, reduceIte, reduceCtorEq, decide_true, decide_false, Bool.not_true, Bool.not_false, beq_self_eq_true, beq_tf, beq_ft]
 refine code_cond_false ?_ ?_
 ·simp only [aev, regAt_set, Nat.reduceEqDiff, reduceIte]
 refine code_skip ?_
 simp only [then_normal]
 refine code_seq ?_
 refine code_region ?_ ?_
 ·rfl
 simp only [run1, aOne, aP, aR, aA, aT, aCall, aev, regAt_set, aput_mk, aput_none, aNilCheck, faA0, ldWs, hl, hia, hst, Addr.add, Nat.zero_add,
  ends_some, Nat.reduceLT, if_true, then_normal, Nat.reduceEqDiff, if_false, reduceIte, reduceCtorEq]
 refine code_seq ?_
 refine code_region ?_ ?_
 ·rfl
 simp only [run1, aOne, aP, aev, regAt_set, aput_mk, ends_some, Nat.reduceLT, if_true, plainV, then_normal, Nat.reduceEqDiff, if_false, reduceIte]
 refine code_ret ?_
 refine ⟨rfl, .int .i64 0, ?_, rfl, ⟨⟨c, ?_⟩, ⟨z, ov.set q (.int .u64 (.ofNat w)), fx, sh, ?_, fun j hj => ?_⟩, hA.apart⟩, rfl, fun i hi => ?_⟩
 ·simp only [aResults, Tryz.results26, aRes, regAt_set, Nat.reduceEqDiff, reduceIte]
 ·rw [← hl]; unfold cellsAt; rw [T.get_set, if_neg hA.apart]
 ·show T.get _ wb = _
  rw [T.get_set, if_pos rfl]
 ·rw [cellAt_set]
  unfold put
  by_cases h : j = q
  ·rw [if_pos h, if_pos h]
  ·rw [if_neg h, if_neg h]; exact hws j hj
 ·show T.get _ i = _
  rw [T.get_set, if_neg hi]
end
noncomputable section
variable {X : FuncId → List Value → Mem → Option (Value × Mem)} {S : List (FuncId × LK)}
theorem Arena.cell {μ : Mem} {ap wb N : Nat} {ws : Nat → Nat} (hA : Arena μ ap wb N ws) {q : Nat} (hq : q < N) : cellsAt μ wb q = some (.int .u64 (.ofNat (ws q))) := by
 obtain ⟨z, ov, fx, sh, hwb, hws⟩ := hA.words
 rw [cellsAt_of (n := N) (z := z) (ov := ov) (by rw [hwb]; rfl) hq, hws q hq]
theorem Arena.keep {μ μ' : Mem} {ap wb N : Nat} {ws : Nat → Nat} (hA : Arena μ ap wb N ws) (h1 : μ'.obs.get ap = μ.obs.get ap) (h2 : μ'.obs.get wb = μ.obs.get wb) : Arena μ' ap wb N ws := by
 obtain ⟨c, hl⟩ := hA.head
 obtain ⟨z, ov, fx, sh, hwb, hws⟩ := hA.words
 exact ⟨⟨c, by rw [← hl]; unfold cellsAt; rw [h1]⟩, ⟨z, ov, fx, sh, h2.trans hwb, hws⟩, hA.apart⟩
set_option maxHeartbeats 4000000 in
theorem arena_get {k ap wb N q : Nat} {ws : Nat → Nat} {μ : Mem} (hA : Arena μ ap wb N ws) (hq : q < N) :
  EndsF (aFun Tryz.prog (aCode Tryz.prog X S (k + 20)) 59 [.pointer (some ⟨ap, 0, none⟩), .int .i64 (.ofNat q)] μ) fun v μ' => v = .tuple #[.int .u64 (.ofNat (ws q)), .int .i64 0] ∧ μ' = μ := by
 obtain ⟨c, hl⟩ := hA.head
 have hcell := hA.cell hq
 have hia : ∀ ρ : Operand → Value, ∀ a b, ρ a = .slice (some ⟨wb, 0, none⟩) N c → ρ b = .int .i64 (.ofNat q) → aIndexAddr Tryz.prog ρ 114 a b = some (.pointer (some ⟨wb, q, none⟩)) := fun ρ a b h1 h2 => by
  rw [indexAddr_slice (P := Tryz.prog) Tryz.underlying114 iW rfl h1 h2 hq, Nat.zero_add]
 refine fun_enter Tryz.func59 rfl rfl (by show 2 ≤ 24; decide) ?_
 simp only [T.lay, Nat.zero_add, Tryz.ntmps59, Nat.reduceAdd]
 refine code_seq ?_
 refine code_region ?_ ?_
 ·rfl
 simp only [run1, aOne, aP, aev, regAt_set, aput_mk, ends_some, Nat.reduceLT, if_true, plainV, then_normal, Nat.reduceEqDiff, if_false, reduceIte]
 refine code_seq ?_
 refine code_seq ?_
 refine code_guards (gs := ?_) ?_ ?_
 rotate_left
 ·rfl
 simp only [run2, wanted, aOne, aP, aR, aA, aT, aCall, aev, regAt_set, aput_mk, plainV, aBin, aInt, ilt_z, ilt_nat, hq, aNilCheck, faA0, ldWs, hl, aBuiltin, aLen, Tryz.underlying114, cast_nat, aPick, Addr.add, Nat.zero_add,
  ends_some, Nat.reduceLT, if_true, then_normal, Nat.reduceEqDiff, if_false, reduceIte, reduceCtorEq, decide_true, decide_false, Bool.not_true, Bool.not_false, beq_self_eq_true, beq_tf, beq_ft]
 refine code_cond_false ?_ ?_
 ·simp only [aev, regAt_set, Nat.reduceEqDiff, reduceIte]
 refine code_skip ?_
 simp only [then_normal]
 refine code_seq ?_
 refine code_region ?_ ?_
 ·rfl
 simp only [run1, aOne, aP, aR, aA, aT, aCall, aev, regAt_set, aput_mk, aput_none, aNilCheck, faA0, ldWs, ldW, hl, hia, hcell, plainV, Addr.add, Nat.zero_add,
  ends_some, Nat.reduceLT, if_true, then_normal, Nat.reduceEqDiff, if_false, reduceIte, reduceCtorEq]
 refine code_ret ?_
 refine ⟨rfl, _, ?_, rfl, rfl⟩
 simp only [aResults, Tryz.results59, aRes, regAt_set, Nat.reduceEqDiff, reduceIte]
end
noncomputable section
variable {X : FuncId → List Value → Mem → Option (Value × Mem)} {S : List (FuncId × LK)}
theorem land_u (m b : Nat) (hb : b ≤ 32) (h : m < 18446744073709551616) : aBits Nat.land .u64 .u64 (.ofNat m) (.ofNat (2 ^ b - 1)) = some (.int .u64 (.ofNat (m % 2 ^ b))) := by
 have h1 : Nat.blt m 18446744073709551616 = true := by simpa using h
 have hp : 2 ^ b ≤ 2 ^ 32 := Nat.pow_le_pow_right (by decide) hb
 have h2 : Nat.blt (2 ^ b - 1) 18446744073709551616 = true := by
  have : 2 ^ b - 1 < 18446744073709551616 := by omega
  simpa using this
 have h3 : Nat.land m (2 ^ b - 1) = m % 2 ^ b := Nat.and_two_pow_sub_one_eq_mod m b
 have h4 : m % 2 ^ b < 18446744073709551616 := Nat.lt_of_le_of_lt (Nat.mod_le _ _) h
 unfold aBits
 simp only [decide_true, wide64, h1, h2, h3, qu64 _ h4]
theorem land_i (m b : Nat) (hb : b ≤ 32) (h : m < 9223372036854775808) : aBits Nat.land .i64 .i64 (.ofNat m) (.ofNat (2 ^ b - 1)) = some (.int .i64 (.ofNat (m % 2 ^ b))) := by
 have h1 : Nat.blt m 18446744073709551616 = true := by simp; omega
 have hp : 2 ^ b ≤ 2 ^ 32 := Nat.pow_le_pow_right (by decide) hb
 have h2 : Nat.blt (2 ^ b - 1) 18446744073709551616 = true := by
  have : 2 ^ b - 1 < 18446744073709551616 := by omega
  simpa using this
 have h3 : Nat.land m (2 ^ b - 1) = m % 2 ^ b := Nat.and_two_pow_sub_one_eq_mod m b
 have h4 : m % 2 ^ b < 9223372036854775808 := Nat.lt_of_le_of_lt (Nat.mod_le _ _) h
 unfold aBits
 simp only [decide_true, wide64, h1, h2, h3, q64 _ h4]
theorem land7 (m : Nat) (h : m < 18446744073709551616) : aBits Nat.land .u64 .u64 (.ofNat m) 7 = some (.int .u64 (.ofNat (m % 8))) := land_u m 3 (by decide) h
theorem land7i (m : Nat) (h : m < 9223372036854775808) : aBits Nat.land .i64 .i64 (.ofNat m) 7 = some (.int .i64 (.ofNat (m % 8))) := land_i m 3 (by decide) h
theorem shr_u (m y : Nat) (hy : y ≤ 64) : aShift false .u64 (.ofNat m) (.ofNat y) = some (.int .u64 (.ofNat (m / 2 ^ y))) := by
 unfold aShift
 simp only [wide64, show Nat.ble y 64 = true from Nat.ble_eq_true_of_le hy]
 rfl
theorem shr_i (m y : Nat) (hy : y ≤ 64) : aShift false .i64 (.ofNat m) (.ofNat y) = some (.int .i64 (.ofNat (m / 2 ^ y))) := by
 unfold aShift
 simp only [wide64, show Nat.ble y 64 = true from Nat.ble_eq_true_of_le hy]
 rfl
theorem shr3 (m : Nat) : aShift false .u64 (.ofNat m) 3 = some (.int .u64 (.ofNat (m / 8))) := shr_u m 3 (by decide)
theorem shr3i (m : Nat) : aShift false .i64 (.ofNat m) 3 = some (.int .i64 (.ofNat (m / 8))) := shr_i m 3 (by decide)
theorem shr5i (m : Nat) : aShift false .i64 (.ofNat m) 5 = some (.int .i64 (.ofNat (m / 32))) := shr_i m 5 (by decide)
theorem shr8i (m : Nat) : aShift false .i64 (.ofNat m) 8 = some (.int .i64 (.ofNat (m / 256))) := shr_i m 8 (by decide)
theorem rem32 (m : Nat) : aDiv true .i64 .i64 (.ofNat m) 32 = some (.int .i64 (.ofNat (m % 32))) := rfl
theorem cvWi (n : Int) : aConvInt Tryz.prog 27 3 (.int .u64 n) = some (.int .i64 (qwrap .i64 n)) := by
 simp only [aConvInt, Tryz.underlying3, Tryz.underlying27]
theorem cviW (n : Int) : aConvInt Tryz.prog 3 27 (.int .i64 n) = some (.int .u64 (qwrap .u64 n)) := by
 simp only [aConvInt, Tryz.underlying3, Tryz.underlying27]
theorem ieq_00 : ieq 0 0 = true := rfl
theorem ieq_lit0 (m : Nat) : ieq (.ofNat m) 0 = decide (m = 0) := ieq_nat m 0
theorem ieq_lit1 (m : Nat) : ieq (.ofNat m) 1 = decide (m = 1) := ieq_nat m 1
theorem ieq_lit6 (m : Nat) : ieq (.ofNat m) 6 = decide (m = 6) := ieq_nat m 6
set_option maxHeartbeats 4000000 in
theorem word_kind {k m : Nat} {μ : Mem} (hm : m < 9223372036854775808) :
  EndsF (aFun Tryz.prog (aCode Tryz.prog X S (k + 20)) 57 [.int .u64 (.ofNat m)] μ) fun v μ' => v = .int .i64 (.ofNat (m % 8)) ∧ μ' = μ := by
 refine fun_enter Tryz.func57 rfl rfl (by show 1 ≤ 6; decide) ?_
 simp only [T.lay, Nat.zero_add, Tryz.ntmps57, Nat.reduceAdd]
 refine code_seq ?_
 refine code_region ?_ ?_
 ·rfl
 simp only [run1, aOne, aP, aev, regAt_set, aput_mk, ends_some, Nat.reduceLT, if_true, plainV, then_normal, Nat.reduceEqDiff, if_false, reduceIte]
 refine code_seq ?_
 refine code_region ?_ ?_
 ·rfl
 simp only [run1, aOne, aP, aev, regAt_set, aput_mk, plainV, aBin, aInt, land7 m (by omega), cvWi, q64 (m % 8) (by omega), ends_some, Nat.reduceLT, if_true, then_normal, Nat.reduceEqDiff, if_false, reduceIte]
 refine code_ret ?_
 refine ⟨rfl, _, ?_, rfl, rfl⟩
 simp only [aResults, Tryz.results57, aRes, regAt_set, Nat.reduceEqDiff, reduceIte]
set_option maxHeartbeats 4000000 in
theorem word_value {k m : Nat} {μ : Mem} (hm : m < 9223372036854775808) (h0 : m % 8 ≠ 0) :
  EndsF (aFun Tryz.prog (aCode Tryz.prog X S (k + 20)) 58 [.int .u64 (.ofNat m)] μ) fun v μ' => v = .int .i64 (.ofNat (m / 8)) ∧ μ' = μ := by
 refine fun_enter Tryz.func58 rfl rfl (by show 1 ≤ 12; decide) ?_
 simp only [T.lay, Nat.zero_add, Tryz.ntmps58, Nat.reduceAdd]
 refine code_seq ?_
 refine code_region ?_ ?_
 ·rfl
 simp only [run1, aOne, aP, aev, regAt_set, aput_mk, ends_some, Nat.reduceLT, if_true, plainV, then_normal, Nat.reduceEqDiff, if_false, reduceIte]
 refine code_seq ?_
 refine code_seq ?_
 refine code_region ?_ ?_
 ·rfl
 simp only [run1, aOne, aP, aev, regAt_set, aput_mk, plainV, aBin, aInt, land7 m (by omega), ieq_lit0, h0, decide_true, decide_false, ends_some, Nat.reduceLT, if_true, then_normal, Nat.reduceEqDiff, if_false, reduceIte]
 refine code_cond_false ?_ ?_
 ·simp only [aev, regAt_set, Nat.reduceEqDiff, reduceIte]
 refine code_skip ?_
 simp only [then_normal]
 refine code_seq ?_
 refine code_region ?_ ?_
 ·rfl
 simp only [run1, aOne, aP, aev, regAt_set, aput_mk, plainV, aBin, aInt, shr3, cvWi, q64 (m / 8) (by omega), ends_some, Nat.reduceLT, if_true, then_normal, Nat.reduceEqDiff, if_false, reduceIte]
 refine code_ret ?_
 refine ⟨rfl, _, ?_, rfl, rfl⟩
 simp only [aResults, Tryz.results58, aRes, regAt_set, Nat.reduceEqDiff, reduceIte]
end
noncomputable section
variable {X : FuncId → List Value → Mem → Option (Value × Mem)}
theorem kind_eq {f m : Nat} {μ : Mem} (hf : 20 ≤ f) (hm : m < 9223372036854775808) : aFun Tryz.prog (aCode Tryz.prog X S0 f) 57 [.int .u64 (.ofNat m)] μ = some (.int .i64 (.ofNat (m % 8)), μ) := by
 obtain ⟨k, rfl⟩ := Nat.exists_eq_add_of_le' hf
 exact ends_eq (word_kind hm)
theorem value_eq {f m : Nat} {μ : Mem} (hf : 20 ≤ f) (hm : m < 9223372036854775808) (h0 : m % 8 ≠ 0) : aFun Tryz.prog (aCode Tryz.prog X S0 f) 58 [.int .u64 (.ofNat m)] μ = some (.int .i64 (.ofNat (m / 8)), μ) := by
 obtain ⟨k, rfl⟩ := Nat.exists_eq_add_of_le' hf
 exact ends_eq (word_value hm h0)
theorem get_eq {f ap wb N q : Nat} {ws : Nat → Nat} {μ : Mem} (hf : 20 ≤ f) (hA : Arena μ ap wb N ws) (hq : q < N) : aFun Tryz.prog (aCode Tryz.prog X S0 f) 59 [.pointer (some ⟨ap, 0, none⟩), .int .i64 (.ofNat q)] μ = some (.tuple #[.int .u64 (.ofNat (ws q)), .int .i64 0], μ) := by
 obtain ⟨k, rfl⟩ := Nat.exists_eq_add_of_le' hf
 exact ends_eq (arena_get hA hq)
theorem iH : Tryz.prog.info? 86 = some Tryz.t86 := by kernel_rfl
theorem iA : Tryz.prog.info? 89 = some Tryz.t89 := by kernel_rfl
theorem i3 : Tryz.prog.info? 3 = some Tryz.t3 := by kernel_rfl
theorem zH : aZeroOf Tryz.prog 86 = some (.agg #[.int .i64 0, .int .i64 0, .int .i64 0]) := by unfold aZeroOf; rw [iH]; rfl
theorem alH : aAlloc Tryz.prog 86 = some (.cells 3 86 #[.int .i64 0, .int .i64 0, .int .i64 0] .e 0 0 false false, fun id => .pointer (some ⟨id, 0, none⟩)) := by unfold aAlloc; rw [zH]; rfl
theorem faH0 (ρ : Operand → Value) (x : Operand) : aFieldAddr Tryz.prog ρ 91 x 0 = (match ρ x with | .pointer (some a) => some (.pointer (some (a.add 0))) | _ => none) := fieldAddr_at (ft := 89) (off := 0) Tryz.underlying91 rfl iA rfl ρ x
theorem ldA (μ : Mem) (i o : Nat) : aLoad Tryz.prog μ 89 (.pointer (some ⟨i, o, none⟩)) = cellsAt μ i o := load_at Tryz.underlying89 rfl μ i o
theorem bdH {ρ : Operand → Value} {a b c : Operand} {x y z : Value} (h1 : ρ a = x) (h2 : ρ b = y) (h3 : ρ c = z) (o1 : one x = true) (o2 : one y = true) (o3 : one z = true) : aBuild Tryz.prog ρ 86 #[(0, a), (1, b), (2, c)] = some (.agg #[x, y, z]) := by
 refine build_struct (pl := [(0, 1), (1, 1), (2, 1)]) zH Tryz.underlying86 (by kernel_rfl) ?_
 show aFill _ [.int .i64 0, .int .i64 0, .int .i64 0] [(0, ρ a), (1, ρ b), (2, ρ c)] = some [x, y, z]
 rw [h1, h2, h3, aFill_one (off := 0) rfl o1 (by simp), aFill_one (off := 1) rfl o2 (by simp), aFill_one (off := 2) rfl o3 (by simp)]
 rfl
theorem bdH' (ρ : Operand → Value) (a b c : Operand) (o1 : one (ρ a) = true) (o2 : one (ρ b) = true) (o3 : one (ρ c) = true) : aBuild Tryz.prog ρ 86 #[(0, a), (1, b), (2, c)] = some (.agg #[ρ a, ρ b, ρ c]) := bdH rfl rfl rfl o1 o2 o3
def headW (kd pn n : Nat) : Nat := ((n * 256 + pn * 32 + kd) * 8) + 6
def placeW (q : Nat) : Nat := 8 * q + 1
structure HeapAt (μ : Mem) (hp ap wb N : Nat) (ws : Nat → Nat) : Prop where
 head : cellsAt μ hp 0 = some (.pointer (some ⟨ap, 0, none⟩))
 arena : Arena μ ap wb N ws
 h1 : hp < μ.next
 h2 : ap < μ.next
 h3 : wb < μ.next
 h4 : hp ≠ wb
theorem HeapAt.keep {μ μ' : Mem} {hp ap wb N : Nat} {ws : Nat → Nat} (h : HeapAt μ hp ap wb N ws) (hg : Grow μ μ') : HeapAt μ' hp ap wb N ws :=
 ⟨by rw [← h.head]; unfold cellsAt; rw [hg.2 hp h.h1], h.arena.keep (hg.2 ap h.h2) (hg.2 wb h.h3), Nat.lt_of_lt_of_le h.h1 hg.1, Nat.lt_of_lt_of_le h.h2 hg.1, Nat.lt_of_lt_of_le h.h3 hg.1, h.h4⟩
set_option maxHeartbeats 4000000 in
theorem heap_at {k hp ap wb N q kd pn n : Nat} {ws : Nat → Nat} {μ : Mem} (hH : HeapAt μ hp ap wb N ws) (hq : q < N) (hN : N < 1000000) (hw : ws q = headW kd pn n) (h1 : kd < 32) (h2 : pn < 8) (h3 : n < 1000000) :
  EndsF (aFun Tryz.prog (aCode Tryz.prog X S0 (k + 50)) 25 [.pointer (some ⟨hp, 0, none⟩), .int .u64 (.ofNat (placeW q))] μ) fun v μ' => v = .tuple #[.int .i64 (.ofNat q), .agg #[.int .i64 (.ofNat kd), .int .i64 (.ofNat pn), .int .i64 (.ofNat n)], .bool true] ∧ Grow μ μ' := by
 have hpw : placeW q < 9223372036854775808 := by unfold placeW; omega
 have hm8 : placeW q % 8 = 1 := by unfold placeW; omega
 have hd8 : placeW q / 8 = q := by unfold placeW; omega
 have hhw : headW kd pn n < 9223372036854775808 := by unfold headW; omega
 have e1 : headW kd pn n % 8 = 6 := by unfold headW; omega
 have e2 : headW kd pn n / 8 = n * 256 + pn * 32 + kd := by unfold headW; omega
 have e3 : (n * 256 + pn * 32 + kd) % 32 = kd := by omega
 have e4 : (n * 256 + pn * 32 + kd) / 32 % 8 = pn := by omega
 have e5 : (n * 256 + pn * 32 + kd) / 256 = n := by omega
 have hg1 : Grow μ ⟨μ.obs.set μ.next (.cells 3 86 #[.int .i64 0, .int .i64 0, .int .i64 0] .e 0 0 false false), Nat.add μ.next 1⟩ := ⟨Nat.le_succ _, fun i hi => by show T.get _ i = _; rw [T.get_set, if_neg (by omega)]⟩
 have hH1 := hH.keep hg1
 have hKq : ∀ f, 20 ≤ f → aFun Tryz.prog (aCode Tryz.prog X S0 f) 57 [.int .u64 (.ofNat (placeW q))] ⟨μ.obs.set μ.next (.cells 3 86 #[.int .i64 0, .int .i64 0, .int .i64 0] .e 0 0 false false), Nat.add μ.next 1⟩ = some (.int .i64 (.ofNat 1), ⟨μ.obs.set μ.next (.cells 3 86 #[.int .i64 0, .int .i64 0, .int .i64 0] .e 0 0 false false), Nat.add μ.next 1⟩) := fun f hf => by
  rw [kind_eq hf hpw, hm8]
 have hVq : ∀ f, 20 ≤ f → aFun Tryz.prog (aCode Tryz.prog X S0 f) 58 [.int .u64 (.ofNat (placeW q))] ⟨μ.obs.set μ.next (.cells 3 86 #[.int .i64 0, .int .i64 0, .int .i64 0] .e 0 0 false false), Nat.add μ.next 1⟩ = some (.int .i64 (.ofNat q), ⟨μ.obs.set μ.next (.cells 3 86 #[.int .i64 0, .int .i64 0, .int .i64 0] .e 0 0 false false), Nat.add μ.next 1⟩) := fun f hf => by
  rw [value_eq hf hpw (by omega), hd8]
 have hGq : ∀ f, 20 ≤ f → aFun Tryz.prog (aCode Tryz.prog X S0 f) 59 [.pointer (some ⟨ap, 0, none⟩), .int .i64 (.ofNat q)] ⟨μ.obs.set μ.next (.cells 3 86 #[.int .i64 0, .int .i64 0, .int .i64 0] .e 0 0 false false), Nat.add μ.next 1⟩ = some (.tuple #[.int .u64 (.ofNat (headW kd pn n)), .int .i64 0], ⟨μ.obs.set μ.next (.cells 3 86 #[.int .i64 0, .int .i64 0, .int .i64 0] .e 0 0 false false), Nat.add μ.next 1⟩) := fun f hf => by
  rw [get_eq hf hH1.arena hq, hw]
 refine fun_enter Tryz.func25 rfl rfl (by show 2 ≤ 46; decide) ?_
 simp only [T.lay, Nat.zero_add, Tryz.ntmps25, Nat.reduceAdd]
 refine code_seq ?_
 refine code_region ?_ ?_
 ·rfl
 simp only [run1, aOne, aP, aR, aA, alH, aev, regAt_set, aput_mk, ends_some, Nat.reduceLT, if_true, plainV, then_normal, Nat.reduceEqDiff, if_false, reduceIte]
 refine code_seq ?_
 refine code_seq ?_
 refine code_region ?_ ?_
 ·rfl
 simp only [run1, aOne, aP, aR, aA, aT, aCall, aCallVal, gg57, hKq, aev, regAt_set, aput_mk, plainV, aBin, aInt, ieq_lit1, ends_some, Nat.reduceLT, if_true, then_normal, Nat.reduceEqDiff, if_false, reduceIte, List.map_cons, List.map_nil, List.nil_append, List.append_nil, decide_true, Bool.not_true, Nat.reduceLeDiff]
 refine code_cond_false ?_ ?_
 ·simp only [aev, regAt_set, Nat.reduceEqDiff, reduceIte]
 refine code_skip ?_
 simp only [then_normal]
 refine code_seq ?_
 refine code_region ?_ ?_
 ·rfl
 simp only [run1, aOne, aP, aR, aA, aT, aCall, aCallVal, gg58, hVq, aev, regAt_set, aput_mk, plainV, ends_some, Nat.reduceLT, if_true, then_normal, Nat.reduceEqDiff, if_false, reduceIte, List.map_cons, List.map_nil, List.nil_append, List.append_nil, Nat.reduceLeDiff]
 refine code_seq ?_
 refine code_region ?_ ?_
 ·rfl
 simp only [run1, aOne, aP, aR, aA, aT, aCall, aCallVal, gg59, hGq, aNilCheck, faH0, ldA, hH1.head, aExtract, Addr.add, aev, regAt_set, aput_mk, plainV, ends_some, Nat.reduceLT, if_true, then_normal, Nat.reduceEqDiff, if_false, reduceIte, List.map_cons, List.map_nil, List.nil_append, List.append_nil, Nat.reduceLeDiff, List.getElem?_cons_zero, List.getElem?_cons_succ]
 refine code_seq ?_
 refine code_seq ?_
 refine code_guards (gs := ?_) ?_ ?_
 rotate_left
 ·rfl
 simp only [run2, wanted, aOne, aP, aR, aA, aT, aev, regAt_set, aput_mk, plainV, aBin, aInt, land7 _ (Nat.lt_trans hhw (by decide)), e1, ieq_00, ieq_lit6, ieq_lit0, aPick,
  ends_some, Nat.reduceLT, if_true, then_normal, Nat.reduceEqDiff, if_false, reduceIte, reduceCtorEq, decide_true, decide_false, Bool.not_true, Bool.not_false, beq_self_eq_true, beq_tf, beq_ft]
 refine code_cond_false ?_ ?_
 ·simp only [aev, regAt_set, Nat.reduceEqDiff, reduceIte]
 refine code_skip ?_
 simp only [then_normal]
 refine code_seq ?_
 refine code_region ?_ ?_
 ·rfl
 simp only [run1, aOne, aP, aR, aA, aT, aev, regAt_set, aput_mk, plainV, aBin, aInt, shr3, e2, cvWi, q64 (n * 256 + pn * 32 + kd) (by omega), ends_some, Nat.reduceLT, if_true, then_normal, Nat.reduceEqDiff, if_false, reduceIte, reduceCtorEq]
 refine code_seq ?_
 refine code_region ?_ ?_
 ·rfl
 have hst := store_list (P := Tryz.prog) (t := 86) (vs := [.int .i64 (.ofNat kd), .int .i64 (.ofNat pn), .int .i64 (.ofNat n)]) (μ := ⟨μ.obs.set μ.next (.cells 3 86 #[.int .i64 0, .int .i64 0, .int .i64 0] .e 0 0 false false), Nat.add μ.next 1⟩) (i := μ.next) (o := 0) iH rfl rfl (by rw [T.get_set, if_pos rfl]) (by simp)
 simp only [run1, aOne, aP, aR, aA, aT, aev, regAt_set, aput_mk, aput_none, plainV, aBin, aInt, rem32, shr5i, shr8i, land7i _ (Nat.lt_of_le_of_lt (Nat.div_le_self _ _) (by omega : n * 256 + pn * 32 + kd < 9223372036854775808)), e3, e4, e5, bdH', one, hst, ends_some, Nat.reduceLT, if_true, then_normal, Nat.reduceEqDiff, if_false, reduceIte, reduceCtorEq]
 refine code_ret ?_
 refine ⟨rfl, _, ?_, rfl, ?_⟩
 ·have hld := load_struct (P := Tryz.prog) (t := 86) (μ := ⟨(μ.obs.set μ.next (.cells 3 86 #[.int .i64 0, .int .i64 0, .int .i64 0] .e 0 0 false false)).set μ.next (.cells 3 86 #[.int .i64 0, .int .i64 0, .int .i64 0] (T.lay .e 0 [.int .i64 (.ofNat kd), .int .i64 (.ofNat pn), .int .i64 (.ofNat n)]) 0 0 false false), Nat.add μ.next 1⟩) (i := μ.next) (o := 0) (n := 3) (z := #[.int .i64 0, .int .i64 0, .int .i64 0]) (ov := T.lay .e 0 [.int .i64 (.ofNat kd), .int .i64 (.ofNat pn), .int .i64 (.ofNat n)]) Tryz.underlying86 iH (by rw [T.get_set, if_pos rfl]; rfl) (by decide)
  simp only [aResults, Tryz.results25, aRes, regAt_set, Nat.reduceEqDiff, reduceIte, hld]
  rfl
 ·refine ⟨Nat.le_succ _, fun i hi => ?_⟩
  show T.get _ i = _
  rw [T.get_set, if_neg (by omega), T.get_set, if_neg (by omega)]
end
noncomputable section
variable {X : FuncId → List Value → Mem → Option (Value × Mem)}
def hd0 : Ob := .cells 3 86 #[.int .i64 0, .int .i64 0, .int .i64 0] .e 0 0 false false
def hd1 (kd pn n : Nat) : Ob := .cells 3 86 #[.int .i64 0, .int .i64 0, .int .i64 0] (T.lay .e 0 [.int .i64 (.ofNat kd), .int .i64 (.ofNat pn), .int .i64 (.ofNat n)]) 0 0 false false
theorem alH0 : aAlloc Tryz.prog 86 = some (hd0, fun id => .pointer (some ⟨id, 0, none⟩)) := alH
theorem stH (t : T Ob) (x a kd pn n : Nat) : aStore Tryz.prog ⟨t.set a hd0, x⟩ 86 (.pointer (some ⟨a, 0, none⟩)) (.agg #[.int .i64 (.ofNat kd), .int .i64 (.ofNat pn), .int .i64 (.ofNat n)]) = some (undef, ⟨(t.set a hd0).set a (hd1 kd pn n), x⟩) :=
 store_list (P := Tryz.prog) (t := 86) (vs := [.int .i64 (.ofNat kd), .int .i64 (.ofNat pn), .int .i64 (.ofNat n)]) (μ := ⟨t.set a hd0, x⟩) (i := a) (o := 0) iH rfl rfl (by show T.get _ a = _; rw [T.get_set, if_pos rfl]; rfl) (by simp)
theorem cH (t : T Ob) (x a kd pn n : Nat) : obCells (Mem.obs ⟨(t.set a hd0).set a (hd1 kd pn n), x⟩ |>.get a) = some (3, #[.int .i64 0, .int .i64 0, .int .i64 0], T.lay .e 0 [.int .i64 (.ofNat kd), .int .i64 (.ofNat pn), .int .i64 (.ofNat n)]) := by
 show obCells (T.get _ a) = _
 rw [T.get_set, if_pos rfl]; rfl
theorem cH0 (t : T Ob) (x a kd pn n : Nat) : cellsAt ⟨(t.set a hd0).set a (hd1 kd pn n), x⟩ a 0 = some (.int .i64 (.ofNat kd)) := (cellsAt_of (cH t x a kd pn n) (by decide)).trans rfl
theorem cH2 (t : T Ob) (x a kd pn n : Nat) : cellsAt ⟨(t.set a hd0).set a (hd1 kd pn n), x⟩ a 2 = some (.int .i64 (.ofNat n)) := (cellsAt_of (cH t x a kd pn n) (by decide)).trans rfl
theorem ld3 (μ : Mem) (i o : Nat) : aLoad Tryz.prog μ 3 (.pointer (some ⟨i, o, none⟩)) = cellsAt μ i o := load_at Tryz.underlying3 rfl μ i o
theorem faD0 (ρ : Operand → Value) (x : Operand) : aFieldAddr Tryz.prog ρ 86 x 0 = (match ρ x with | .pointer (some a) => some (.pointer (some (a.add 0))) | _ => none) := fieldAddr_at (ft := 3) (off := 0) Tryz.underlying86 rfl i3 rfl ρ x
theorem faD2 (ρ : Operand → Value) (x : Operand) : aFieldAddr Tryz.prog ρ 86 x 2 = (match ρ x with | .pointer (some a) => some (.pointer (some (a.add 2))) | _ => none) := fieldAddr_at (ft := 3) (off := 2) Tryz.underlying86 rfl i3 rfl ρ x
theorem grow2 (μ : Mem) (o1 o2 : Ob) : Grow μ ⟨(μ.obs.set μ.next o1).set μ.next o2, Nat.add μ.next 1⟩ := ⟨Nat.le_succ _, fun i hi => by show T.get _ i = _; rw [T.get_set, if_neg (by omega), T.get_set, if_neg (by omega)]⟩
set_option maxHeartbeats 4000000 in
theorem heap_kind {k hp ap wb N q kd pn n : Nat} {ws : Nat → Nat} {μ : Mem} (hH : HeapAt μ hp ap wb N ws) (hq : q < N) (hN : N < 1000000) (hw : ws q = headW kd pn n) (h1 : kd < 32) (h2 : pn < 8) (h3 : n < 1000000) :
  EndsF (aFun Tryz.prog (aCode Tryz.prog X S0 (k + 80)) 47 [.pointer (some ⟨hp, 0, none⟩), .int .u64 (.ofNat (placeW q))] μ) fun v μ' => v = .int .i64 (.ofNat kd) ∧ Grow μ μ' := by
 refine fun_enter Tryz.func47 rfl rfl (by show 2 ≤ 19; decide) ?_
 simp only [T.lay, Nat.zero_add, Tryz.ntmps47, Nat.reduceAdd]
 refine code_seq ?_
 refine code_region ?_ ?_
 ·rfl
 simp only [run1, aOne, aP, aev, regAt_set, aput_mk, ends_some, Nat.reduceLT, if_true, plainV, then_normal, Nat.reduceEqDiff, if_false, reduceIte]
 refine code_seq ?_
 refine code_region ?_ ?_
 ·rfl
 obtain ⟨v1, μ1, hat, hv1, hg1⟩ := heap_at (X := X) (k := k + 27) hH hq hN hw h1 h2 h3
 subst hv1
 have hat : aFun Tryz.prog (aCode Tryz.prog X S0 (k + 77)) 25 [.pointer (some ⟨hp, 0, none⟩), .int .u64 (.ofNat (placeW q))] μ = some (.tuple #[.int .i64 (.ofNat q), .agg #[.int .i64 (.ofNat kd), .int .i64 (.ofNat pn), .int .i64 (.ofNat n)], .bool true], μ1) := hat
 simp only [run1, aOne, aP, aR, aA, aT, aCall, aCallVal, gg25, hat, aExtract, alH0, stH, aev, regAt_set, aput_mk, aput_none, plainV, ends_some, Nat.reduceLT, if_true, then_normal, Nat.reduceEqDiff, if_false, reduceIte, List.map_cons, List.map_nil, List.nil_append, List.append_nil, List.getElem?_cons_zero, List.getElem?_cons_succ]
 refine code_seq ?_
 refine code_seq ?_
 refine code_region ?_ ?_
 ·rfl
 simp only [run1, aOne, aP, aev, regAt_set, aput_mk, ends_some, Nat.reduceLT, if_true, plainV, then_normal, Nat.reduceEqDiff, if_false, reduceIte, Bool.not_true]
 refine code_cond_false ?_ ?_
 ·simp only [aev, regAt_set, Nat.reduceEqDiff, reduceIte]
 refine code_skip ?_
 simp only [then_normal]
 refine code_seq ?_
 refine code_region ?_ ?_
 ·rfl
 simp only [run1, aOne, aP, aR, aA, aT, faD0, ld3, cH0, Addr.add, aev, regAt_set, aput_mk, ends_some, Nat.reduceLT, if_true, plainV, then_normal, Nat.reduceEqDiff, if_false, reduceIte]
 refine code_ret ?_
 refine ⟨rfl, .int .i64 (.ofNat kd), ?_, rfl, hg1.trans (grow2 _ _ _)⟩
 simp only [aResults, Tryz.results47, aRes, regAt_set, Nat.reduceEqDiff, reduceIte]
set_option maxHeartbeats 4000000 in
theorem heap_size {k hp ap wb N q kd pn n : Nat} {ws : Nat → Nat} {μ : Mem} (hH : HeapAt μ hp ap wb N ws) (hq : q < N) (hN : N < 1000000) (hw : ws q = headW kd pn n) (h1 : kd < 32) (h2 : pn < 8) (h3 : n < 1000000) :
  EndsF (aFun Tryz.prog (aCode Tryz.prog X S0 (k + 80)) 81 [.pointer (some ⟨hp, 0, none⟩), .int .u64 (.ofNat (placeW q))] μ) fun v μ' => v = .int .i64 (.ofNat n) ∧ Grow μ μ' := by
 refine fun_enter Tryz.func81 rfl rfl (by show 2 ≤ 19; decide) ?_
 simp only [T.lay, Nat.zero_add, Tryz.ntmps81, Nat.reduceAdd]
 refine code_seq ?_
 refine code_region ?_ ?_
 ·rfl
 simp only [run1, aOne, aP, aev, regAt_set, aput_mk, ends_some, Nat.reduceLT, if_true, plainV, then_normal, Nat.reduceEqDiff, if_false, reduceIte]
 refine code_seq ?_
 refine code_region ?_ ?_
 ·rfl
 obtain ⟨v1, μ1, hat, hv1, hg1⟩ := heap_at (X := X) (k := k + 27) hH hq hN hw h1 h2 h3
 subst hv1
 have hat : aFun Tryz.prog (aCode Tryz.prog X S0 (k + 77)) 25 [.pointer (some ⟨hp, 0, none⟩), .int .u64 (.ofNat (placeW q))] μ = some (.tuple #[.int .i64 (.ofNat q), .agg #[.int .i64 (.ofNat kd), .int .i64 (.ofNat pn), .int .i64 (.ofNat n)], .bool true], μ1) := hat
 simp only [run1, aOne, aP, aR, aA, aT, aCall, aCallVal, gg25, hat, aExtract, alH0, stH, aev, regAt_set, aput_mk, aput_none, plainV, ends_some, Nat.reduceLT, if_true, then_normal, Nat.reduceEqDiff, if_false, reduceIte, List.map_cons, List.map_nil, List.nil_append, List.append_nil, List.getElem?_cons_zero, List.getElem?_cons_succ]
 refine code_seq ?_
 refine code_seq ?_
 refine code_region ?_ ?_
 ·rfl
 simp only [run1, aOne, aP, aev, regAt_set, aput_mk, ends_some, Nat.reduceLT, if_true, plainV, then_normal, Nat.reduceEqDiff, if_false, reduceIte, Bool.not_true]
 refine code_cond_false ?_ ?_
 ·simp only [aev, regAt_set, Nat.reduceEqDiff, reduceIte]
 refine code_skip ?_
 simp only [then_normal]
 refine code_seq ?_
 refine code_region ?_ ?_
 ·rfl
 simp only [run1, aOne, aP, aR, aA, aT, faD2, ld3, cH2, Addr.add, Nat.zero_add, aev, regAt_set, aput_mk, ends_some, Nat.reduceLT, if_true, plainV, then_normal, Nat.reduceEqDiff, if_false, reduceIte]
 refine code_ret ?_
 refine ⟨rfl, .int .i64 (.ofNat n), ?_, rfl, hg1.trans (grow2 _ _ _)⟩
 simp only [aResults, Tryz.results81, aRes, regAt_set, Nat.reduceEqDiff, reduceIte]
set_option maxHeartbeats 4000000 in
theorem heap_get {k hp ap wb N q kd pn n i : Nat} {ws : Nat → Nat} {μ : Mem} (hH : HeapAt μ hp ap wb N ws) (hq : q + n < N) (hN : N < 1000000) (hw : ws q = headW kd pn n) (h1 : kd < 32) (h2 : pn < 8) (hi : i < n) :
  EndsF (aFun Tryz.prog (aCode Tryz.prog X S0 (k + 80)) 51 [.pointer (some ⟨hp, 0, none⟩), .int .u64 (.ofNat (placeW q)), .int .i64 (.ofNat i)] μ) fun v μ' => v = .tuple #[.int .u64 (.ofNat (ws (q + 1 + i))), .int .i64 0] ∧ Grow μ μ' := by
 have hq' : q < N := by omega
 have h3 : n < 1000000 := by omega
 refine fun_enter Tryz.func51 rfl rfl (by show 3 ≤ 47; decide) ?_
 simp only [T.lay, Nat.zero_add, Tryz.ntmps51, Nat.reduceAdd]
 refine code_seq ?_
 refine code_region ?_ ?_
 ·rfl
 simp only [run1, aOne, aP, aev, regAt_set, aput_mk, ends_some, Nat.reduceLT, if_true, plainV, then_normal, Nat.reduceEqDiff, if_false, reduceIte]
 refine code_seq ?_
 refine code_region ?_ ?_
 ·rfl
 obtain ⟨v1, μ1, hat, hv1, hg1⟩ := heap_at (X := X) (k := k + 27) hH hq' hN hw h1 h2 h3
 subst hv1
 have hat : aFun Tryz.prog (aCode Tryz.prog X S0 (k + 77)) 25 [.pointer (some ⟨hp, 0, none⟩), .int .u64 (.ofNat (placeW q))] μ = some (.tuple #[.int .i64 (.ofNat q), .agg #[.int .i64 (.ofNat kd), .int .i64 (.ofNat pn), .int .i64 (.ofNat n)], .bool true], μ1) := hat
 have hg2 := hg1.trans (grow2 μ1 hd0 (hd1 kd pn n))
 have hH2 := hH.keep hg2
 have a1 : qwrap .i64 (Int.add (.ofNat q) 1) = .ofNat (q + 1) := add_nat q 1 (by omega)
 have a2 : qwrap .i64 (Int.add (.ofNat (q + 1)) (.ofNat i)) = .ofNat (q + 1 + i) := add_nat (q + 1) i (by omega)
 simp only [run1, aOne, aP, aR, aA, aT, aCall, aCallVal, gg25, hat, aExtract, alH0, stH, aev, regAt_set, aput_mk, aput_none, plainV, ends_some, Nat.reduceLT, if_true, then_normal, Nat.reduceEqDiff, if_false, reduceIte, List.map_cons, List.map_nil, List.nil_append, List.append_nil, List.getElem?_cons_zero, List.getElem?_cons_succ]
 refine code_seq ?_
 refine code_seq ?_
 refine code_guards (gs := ?_) ?_ ?_
 rotate_left
 ·rfl
 simp only [run2, wanted, aOne, aP, aR, aA, aT, faD2, ld3, cH2, aev, regAt_set, aput_mk, plainV, aBin, aInt, ilt_z, ilt_nat, hi, aPick, Addr.add, Nat.zero_add,
  ends_some, Nat.reduceLT, if_true, then_normal, Nat.reduceEqDiff, if_false, reduceIte, reduceCtorEq, decide_true, decide_false, Bool.not_true, Bool.not_false, beq_self_eq_true, beq_tf, beq_ft]
 refine code_cond_false ?_ ?_
 ·simp only [aev, regAt_set, Nat.reduceEqDiff, reduceIte]
 refine code_skip ?_
 simp only [then_normal]
 refine code_seq ?_
 refine code_region ?_ ?_
 ·rfl
 have hG : ∀ f, 20 ≤ f → aFun Tryz.prog (aCode Tryz.prog X S0 f) 59 [.pointer (some ⟨ap, 0, none⟩), .int .i64 (.ofNat (q + 1 + i))] ⟨(μ1.obs.set μ1.next hd0).set μ1.next (hd1 kd pn n), Nat.add μ1.next 1⟩ = some (.tuple #[.int .u64 (.ofNat (ws (q + 1 + i))), .int .i64 0], ⟨(μ1.obs.set μ1.next hd0).set μ1.next (hd1 kd pn n), Nat.add μ1.next 1⟩) := fun f hf => get_eq hf hH2.arena (by omega)
 simp only [run1, aOne, aP, aR, aA, aT, aCall, aCallVal, gg59, hG, aNilCheck, faH0, ldA, hH2.head, aExtract, aBin, aInt, a1, a2, Addr.add, Nat.zero_add, aev, regAt_set, aput_mk, plainV, ends_some, Nat.reduceLT, if_true, then_normal, Nat.reduceEqDiff, if_false, reduceIte, decide_true, List.map_cons, List.map_nil, List.nil_append, List.append_nil, List.getElem?_cons_zero, List.getElem?_cons_succ, Nat.reduceLeDiff]
 refine code_seq ?_
 refine code_seq ?_
 refine code_region ?_ ?_
 ·rfl
 simp only [run1, aOne, aP, aev, regAt_set, aput_mk, plainV, aBin, aInt, ieq_00, decide_true, Bool.not_true, ends_some, Nat.reduceLT, if_true, then_normal, Nat.reduceEqDiff, if_false, reduceIte]
 refine code_cond_false ?_ ?_
 ·simp only [aev, regAt_set, Nat.reduceEqDiff, reduceIte]
 refine code_skip ?_
 simp only [then_normal]
 refine code_seq ?_
 refine code_region ?_ ?_
 ·rfl
 simp only [run1, aOne, aP, aev, regAt_set, aput_mk, plainV, ends_some, Nat.reduceLT, if_true, then_normal, Nat.reduceEqDiff, if_false, reduceIte]
 refine code_ret ?_
 refine ⟨rfl, _, ?_, rfl, hg2⟩
 simp only [aResults, Tryz.results51, aRes, regAt_set, Nat.reduceEqDiff, reduceIte]
set_option maxHeartbeats 4000000 in
theorem heap_set {k hp ap wb N q kd pn n i w : Nat} {ws : Nat → Nat} {μ : Mem} (hH : HeapAt μ hp ap wb N ws) (hq : q + n < N) (hN : N < 1000000) (hw : ws q = headW kd pn n) (h1 : kd < 32) (h2 : pn < 8) (hi : i < n) :
  EndsF (aFun Tryz.prog (aCode Tryz.prog X S0 (k + 80)) 11 [.pointer (some ⟨hp, 0, none⟩), .int .u64 (.ofNat (placeW q)), .int .i64 (.ofNat i), .int .u64 (.ofNat w)] μ) fun v μ' => v = .int .i64 0 ∧ HeapAt μ' hp ap wb N (put ws (q + 1 + i) w) ∧ μ.next ≤ μ'.next ∧ ∀ j, j < μ.next → j ≠ wb → μ'.obs.get j = μ.obs.get j := by
 have hq' : q < N := by omega
 have h3 : n < 1000000 := by omega
 refine fun_enter Tryz.func11 rfl rfl (by show 4 ≤ 44; decide) ?_
 simp only [T.lay, Nat.zero_add, Tryz.ntmps11, Nat.reduceAdd]
 refine code_seq ?_
 refine code_region ?_ ?_
 ·rfl
 simp only [run1, aOne, aP, aev, regAt_set, aput_mk, ends_some, Nat.reduceLT, if_true, plainV, then_normal, Nat.reduceEqDiff, if_false, reduceIte]
 refine code_seq ?_
 refine code_region ?_ ?_
 ·rfl
 obtain ⟨v1, μ1, hat, hv1, hg1⟩ := heap_at (X := X) (k := k + 27) hH hq' hN hw h1 h2 h3
 subst hv1
 have hat : aFun Tryz.prog (aCode Tryz.prog X S0 (k + 77)) 25 [.pointer (some ⟨hp, 0, none⟩), .int .u64 (.ofNat (placeW q))] μ = some (.tuple #[.int .i64 (.ofNat q), .agg #[.int .i64 (.ofNat kd), .int .i64 (.ofNat pn), .int .i64 (.ofNat n)], .bool true], μ1) := hat
 have hg2 := hg1.trans (grow2 μ1 hd0 (hd1 kd pn n))
 have hH2 := hH.keep hg2
 have a1 : qwrap .i64 (Int.add (.ofNat q) 1) = .ofNat (q + 1) := add_nat q 1 (by omega)
 have a2 : qwrap .i64 (Int.add (.ofNat (q + 1)) (.ofNat i)) = .ofNat (q + 1 + i) := add_nat (q + 1) i (by omega)
 simp only [run1, aOne, aP, aR, aA, aT, aCall, aCallVal, gg25, hat, aExtract, alH0, stH, aev, regAt_set, aput_mk, aput_none, plainV, ends_some, Nat.reduceLT, if_true, then_normal, Nat.reduceEqDiff, if_false, reduceIte, List.map_cons, List.map_nil, List.nil_append, List.append_nil, List.getElem?_cons_zero, List.getElem?_cons_succ]
 obtain ⟨v2, μ3, hS, hv2, hA3, hn3, hk3⟩ := arena_set (X := X) (S := S0) (k := k + 55) (w := w) hH2.arena (q := q + 1 + i) (by omega)
 subst hv2
 have hS : aFun Tryz.prog (aCode Tryz.prog X S0 (k + 75)) 26 [.pointer (some ⟨ap, 0, none⟩), .int .i64 (.ofNat (q + 1 + i)), .int .u64 (.ofNat w)] ⟨(μ1.obs.set μ1.next hd0).set μ1.next (hd1 kd pn n), Nat.add μ1.next 1⟩ = some (.int .i64 0, μ3) := hS
 refine code_seq ?_
 refine code_seq ?_
 refine code_guards (gs := ?_) ?_ ?_
 rotate_left
 ·rfl
 simp only [run2, wanted, aOne, aP, aR, aA, aT, aCall, aCallVal, gg26, hS, faD2, ld3, cH2, aNilCheck, faH0, ldA, hH2.head, a1, a2, ieq_00, aev, regAt_set, aput_mk, plainV, aBin, aInt, ilt_z, ilt_nat, hi, aPick, Addr.add, Nat.zero_add, List.map_cons, List.map_nil, List.nil_append, List.append_nil,
  ends_some, Nat.reduceLT, if_true, then_normal, Nat.reduceEqDiff, if_false, reduceIte, reduceCtorEq, decide_true, decide_false, Bool.not_true, Bool.not_false, beq_self_eq_true, beq_tf, beq_ft]
 refine code_cond_false ?_ ?_
 ·simp only [aev, regAt_set, Nat.reduceEqDiff, reduceIte]
 refine code_skip ?_
 simp only [then_normal]
 refine code_seq ?_
 refine code_region ?_ ?_
 ·rfl
 simp only [run1, aOne, aP, aev, regAt_set, aput_mk, plainV, ends_some, Nat.reduceLT, if_true, then_normal, Nat.reduceEqDiff, if_false, reduceIte]
 refine code_ret ?_
 have hle : μ.next ≤ μ3.next := by rw [hn3]; exact hg2.1
 refine ⟨rfl, .int .i64 0, ?_, rfl, ⟨?_, hA3, Nat.lt_of_lt_of_le hH.h1 hle, Nat.lt_of_lt_of_le hH.h2 hle, Nat.lt_of_lt_of_le hH.h3 hle, hH.h4⟩, hle, fun j hj hjw => (hk3 j hjw).trans (hg2.2 j hj)⟩
 ·simp only [aResults, Tryz.results11, aRes, regAt_set, Nat.reduceEqDiff, reduceIte]
 ·rw [← hH.head]
  unfold cellsAt
  rw [hk3 hp hH.h4, hg2.2 hp hH.h1]
end
noncomputable section
variable {X : FuncId → List Value → Mem → Option (Value × Mem)}
theorem quo16 (m : Nat) (h : m < 4611686018427387904) : aDiv false .i64 .i64 (.ofNat m) 16 = some (.int .i64 (.ofNat (m / 16))) := by
 show some (Value.int .i64 (qwrap .i64 (.ofNat (m / 16)))) = _
 rw [q64 _ (by omega)]
theorem cellAt_lay (z : Array Value) (ov : T Value) (o k : Nat) (vs : List Value) : cellAt z (ov.lay o vs) k = if h : o ≤ k ∧ k < o + vs.length then vs[k - o]'(by omega) else cellAt z ov k := by
 unfold cellAt
 rw [T.get_lay]
 by_cases h : o ≤ k ∧ k < o + vs.length
 ·rw [if_pos h, dif_pos h, List.getElem?_eq_getElem (by omega)]
 ·rw [if_neg h, dif_neg h]
theorem iR : Tryz.prog.info? 147 = some Tryz.t147 := by kernel_rfl
theorem faR0 (ρ : Operand → Value) (x : Operand) : aFieldAddr Tryz.prog ρ 147 x 0 = (match ρ x with | .pointer (some a) => some (.pointer (some (a.add 0))) | _ => none) := fieldAddr_at (ft := 3) (off := 0) Tryz.underlying147 rfl i3 rfl ρ x
theorem faR1 (ρ : Operand → Value) (x : Operand) : aFieldAddr Tryz.prog ρ 147 x 1 = (match ρ x with | .pointer (some a) => some (.pointer (some (a.add 1))) | _ => none) := fieldAddr_at (ft := 3) (off := 1) Tryz.underlying147 rfl i3 rfl ρ x
theorem blk_up {t : T Ob} {n m i a b : Nat} (h : Blk ⟨t, n⟩ i a b) : Blk ⟨t, m⟩ i a b := h
set_option maxHeartbeats 4000000 in
theorem take_no {k ap o f t n : Nat} {μ : Mem} (hf : cellsAt μ ap o = some (.int .i64 (.ofNat f))) (ht : cellsAt μ ap (o + 1) = some (.int .i64 (.ofNat t))) (hft : f ≤ t) (hT : t < 4611686018427387904) (hn : t - f < n) :
  EndsF (aFun Tryz.prog (aCode Tryz.prog X S0 (k + 20)) 144 [.pointer (some ⟨ap, o, none⟩), .int .i64 (.ofNat n)] μ) fun v μ' => v = .tuple #[.int .i64 0, .bool false] ∧ μ' = ⟨μ.obs, μ.next + 11⟩ := by
 have a1 := sub_nat t f hft hT
 have hf' : ∀ m, cellsAt ⟨μ.obs, m⟩ ap o = some (.int .i64 (.ofNat f)) := fun m => hf
 have ht' : ∀ m, cellsAt ⟨μ.obs, m⟩ ap (o + 1) = some (.int .i64 (.ofNat t)) := fun m => ht
 refine fun_enter Tryz.func144 rfl rfl (Nat.le_of_ble_eq_true rfl) ?_
 simp only [T.lay, Nat.zero_add, Tryz.ntmps144, Nat.reduceAdd]
 refine code_seq ?_
 refine code_region ?_ ?_
 ·rfl
 simp only [run1, go_sem, Nat.reduceLT, Nat.reduceAdd, Nat.reduceEqDiff, reduceIte, reduceCtorEq]
 refine code_seq ?_
 refine code_seq ?_
 refine code_draw (n := 11) (ms := [0, 1, 3, 7, 0, 16, 48, 112, 255, 0, 1023]) (ord := [0, 1, 2, 3, 4, 5, 6, 7, 8, 9, 10]) (ds := ?_) ?_ ?_ ?_ ?_ ?_ ?_
 rotate_left
 ·kernel_rfl
 ·kernel_rfl
 ·kernel_rfl
 ·rfl
 ·rfl
 simp only [dRun, wanted, aDrawOne, heavy, aP, aReads, aR, aev, regAt_set, aput_mk, aNilCheck, faR0, faR1, ld3, Addr.add, Nat.add_zero, hf', ht', aBin, aInt, a1, ilt_nat, hn, endsD_some, Nat.reduceLT, if_true, then_normal, Nat.reduceEqDiff, if_false, reduceIte, decide_true]
 refine code_cond_true ?_ ?_
 ·simp only [aev, regAt_set, Nat.reduceEqDiff, reduceIte]
 refine code_seq ?_
 refine code_region ?_ ?_
 ·rfl
 simp only [run1, go_sem, Nat.reduceLT, Nat.reduceAdd, Nat.reduceEqDiff, reduceIte, reduceCtorEq]
 refine code_ret ?_
 refine ⟨rfl, _, ?_, rfl, rfl⟩
 simp only [aResults, Tryz.results144, aRes, regAt_set, Nat.reduceEqDiff, reduceIte]
set_option maxHeartbeats 4000000 in
theorem take_ok {k ap o f t n c te : Nat} {μ : Mem} (hb : Blk μ ap c te) (ho : o < c) (hf : cellsAt μ ap o = some (.int .i64 (.ofNat f))) (ht : cellsAt μ ap (o + 1) = some (.int .i64 (.ofNat t))) (hft : f ≤ t) (hT : t < 4611686018427387904) (hn : f + n ≤ t) :
  EndsF (aFun Tryz.prog (aCode Tryz.prog X S0 (k + 20)) 144 [.pointer (some ⟨ap, o, none⟩), .int .i64 (.ofNat n)] μ) fun v μ' => v = .tuple #[.int .i64 (.ofNat f), .bool true] ∧ μ' = putL ⟨μ.obs, μ.next + 11⟩ ap o [.int .i64 (.ofNat (f + n))] := by
 have a1 := sub_nat t f hft hT
 have a2 := add_nat f n (by omega)
 have hn' : ¬ t - f < n := by omega
 have hf' : ∀ m, cellsAt ⟨μ.obs, m⟩ ap o = some (.int .i64 (.ofNat f)) := fun m => hf
 have ht' : ∀ m, cellsAt ⟨μ.obs, m⟩ ap (o + 1) = some (.int .i64 (.ofNat t)) := fun m => ht
 have hst := store_put (t := 3) (v := .int .i64 (.ofNat (f + n))) (μ := ⟨μ.obs, μ.next + 11⟩) i3 rfl rfl (blk_up hb) ho
 refine fun_enter Tryz.func144 rfl rfl (Nat.le_of_ble_eq_true rfl) ?_
 simp only [T.lay, Nat.zero_add, Tryz.ntmps144, Nat.reduceAdd]
 refine code_seq ?_
 refine code_region ?_ ?_
 ·rfl
 simp only [run1, go_sem, Nat.reduceLT, Nat.reduceAdd, Nat.reduceEqDiff, reduceIte, reduceCtorEq]
 refine code_seq ?_
 refine code_seq ?_
 refine code_draw (n := 11) (ms := [0, 1, 3, 7, 0, 16, 48, 112, 255, 0, 1023]) (ord := [0, 1, 2, 3, 4, 5, 6, 7, 8, 9, 10]) (ds := ?_) ?_ ?_ ?_ ?_ ?_ ?_
 rotate_left
 ·kernel_rfl
 ·kernel_rfl
 ·kernel_rfl
 ·rfl
 ·rfl
 simp only [dRun, wanted, aDrawOne, heavy, aP, aReads, aR, aev, regAt_set, aput_mk, aNilCheck, faR0, faR1, ld3, Addr.add, Nat.add_zero, hf', ht', aBin, aInt, a1, ilt_nat, hn', endsD_some, Nat.reduceLT, if_true, then_normal, Nat.reduceEqDiff, if_false, reduceIte, decide_true, decide_false]
 refine code_cond_false ?_ ?_
 ·simp only [aev, regAt_set, Nat.reduceEqDiff, reduceIte]
 refine code_skip ?_
 simp only [then_normal]
 refine code_seq ?_
 refine code_region ?_ ?_
 ·rfl
 simp only [run1, go_sem, Nat.reduceLT, Nat.reduceAdd, Nat.reduceEqDiff, reduceIte, reduceCtorEq, faR0, ld3, hf', Nat.add_zero]
 refine code_seq ?_
 refine code_region ?_ ?_
 ·rfl
 simp only [run1, go_sem, Nat.reduceLT, Nat.reduceAdd, Nat.reduceEqDiff, reduceIte, reduceCtorEq, faR0, ld3, hf', Nat.add_zero, a2, hst]
 refine code_seq ?_
 refine code_region ?_ ?_
 ·rfl
 simp only [run1, go_sem, Nat.reduceLT, Nat.reduceAdd, Nat.reduceEqDiff, reduceIte, reduceCtorEq]
 refine code_ret ?_
 refine ⟨rfl, _, ?_, rfl, rfl⟩
 simp only [aResults, Tryz.results144, aRes, regAt_set, Nat.reduceEqDiff, reduceIte]
end
noncomputable section
variable {X : FuncId → List Value → Mem → Option (Value × Mem)}
theorem iLs : Tryz.prog.info? 145 = some Tryz.t145 := by kernel_rfl
theorem iL : Tryz.prog.info? 255 = some Tryz.t255 := by kernel_rfl
theorem i4 : Tryz.prog.info? 4 = some Tryz.t4 := by kernel_rfl
theorem faA1 (ρ : Operand → Value) (x : Operand) : aFieldAddr Tryz.prog ρ 149 x 1 = (match ρ x with | .pointer (some a) => some (.pointer (some (a.add 1))) | _ => none) := fieldAddr_at (ft := 145) (off := 1) Tryz.underlying149 rfl iLs rfl ρ x
theorem faL0 (ρ : Operand → Value) (x : Operand) : aFieldAddr Tryz.prog ρ 255 x 0 = (match ρ x with | .pointer (some a) => some (.pointer (some (a.add 0))) | _ => none) := fieldAddr_at (ft := 4) (off := 0) Tryz.underlying255 rfl i4 rfl ρ x
theorem ldLs (μ : Mem) (i o : Nat) : aLoad Tryz.prog μ 145 (.pointer (some ⟨i, o, none⟩)) = cellsAt μ i o := load_at Tryz.underlying145 rfl μ i o
theorem ld4 (μ : Mem) (i o : Nat) : aLoad Tryz.prog μ 4 (.pointer (some ⟨i, o, none⟩)) = cellsAt μ i o := load_at Tryz.underlying4 rfl μ i o
structure Lines (μ : Mem) (ap lb L : Nat) (ln : Nat → Bool) : Prop where
 head : ∃ c, cellsAt μ ap 1 = some (.slice (some ⟨lb, 0, none⟩) L (2 * c)) ∧ L ≤ c
 blk : Blk μ lb (2 * L) 255
 ln : ∀ k, k < L → cellsAt μ lb (k * 2) = some (.bool (ln k))
 mrk : ∀ k, k < L → ∃ b, cellsAt μ lb (k * 2 + 1) = some (.bool b)
set_option maxHeartbeats 4000000 in
theorem hole_loop {ap lb L f t : Nat} {ln : Nat → Bool} {μ : Mem} (hL : Lines μ ap lb L ln) (h16 : f % 16 = 0) (ht : t = f + 16) (htL : t < L) (hT : L < 1000000) (hf : ∀ k, f ≤ k → k < t → ln k = false) :
  ∀ (e m p : Nat) (tm : T Value), p + m = t → f ≤ p → regAt tm 0 = .pointer (some ⟨ap, 0, none⟩) → regAt tm 1 = .int .i64 (.ofNat f) → regAt tm 5 = .int .i64 (.ofNat p) →
   EndsC (aCode Tryz.prog X S0 (e + m + 20) (.loop (loopBody Tryz.f172 0)) ⟨35, tm, [], none⟩ μ) fun x r μ' => x = .exit 0 ∧ μ' = μ ∧ ∃ tm', r = ⟨35, tm', [], none⟩ ∧ regAt tm' 5 = .int .i64 (.ofNat t) := by
 obtain ⟨c, hl, hc⟩ := hL.head
 obtain ⟨df, hdf⟩ : ∃ d, d = f / 16 := ⟨_, rfl⟩
 have q2 : aDiv false .i64 .i64 (.ofNat f) 16 = some (.int .i64 (.ofNat df)) := hdf ▸ quo16 f (by omega)
 intro e m
 induction m with
 | zero =>
   intro p tm hj hp h0 h1 h5
   obtain rfl : p = t := hj
   obtain ⟨dp, hdp⟩ : ∃ d, d = p / 16 := ⟨_, rfl⟩
   have q1 : aDiv false .i64 .i64 (.ofNat p) 16 = some (.int .i64 (.ofNat dp)) := hdp ▸ quo16 p (by omega)
   have hne : decide (dp = df) = false := decide_eq_false (by omega)
   refine code_loop ?_
   refine code_seq ?_
   refine code_seq ?_
   refine code_guards (gs := ?_) ?_ ?_
   rotate_left
   ·rfl
   iterate 15 (refine run2_true (by first | rfl | (simp only [wanted, go_sem, Nat.reduceLT, Nat.reduceAdd, Nat.reduceEqDiff, reduceIte, reduceCtorEq, h0, h1, h5, faA1, ldLs, hl, aBuiltin, aLen, Tryz.underlying145, cast_nat, ilt_nat, htL, q1, q2, ieq_nat, hne])) (by simp only [go_sem, Nat.reduceLT, Nat.reduceAdd, Nat.reduceEqDiff, reduceIte, reduceCtorEq, h0, h1, h5, faA1, ldLs, hl, aBuiltin, aLen, Tryz.underlying145, cast_nat, ilt_nat, htL, q1, q2, ieq_nat, hne]; try exact rfl) rfl ?_)
   iterate 9 (refine run2_false (by simp only [wanted, go_sem, Nat.reduceLT, Nat.reduceAdd, Nat.reduceEqDiff, reduceIte, reduceCtorEq, h0, h1, h5, faA1, ldLs, hl, aBuiltin, aLen, Tryz.underlying145, cast_nat, ilt_nat, htL, q1, q2, ieq_nat, hne]) rfl ?_)
   refine run2_true (by first | rfl | (simp only [wanted, go_sem, Nat.reduceLT, Nat.reduceAdd, Nat.reduceEqDiff, reduceIte, reduceCtorEq, h0, h1, h5, faA1, ldLs, hl, aBuiltin, aLen, Tryz.underlying145, cast_nat, ilt_nat, htL, q1, q2, ieq_nat, hne])) (by simp only [go_sem, Nat.reduceLT, Nat.reduceAdd, Nat.reduceEqDiff, reduceIte, reduceCtorEq, h0, h1, h5, faA1, ldLs, hl, aBuiltin, aLen, Tryz.underlying145, cast_nat, ilt_nat, htL, q1, q2, ieq_nat, hne]; try exact rfl) rfl ?_
   simp only [run2, ends_some, then_normal]
   refine code_cond_false ?_ ?_
   ·simp only [aev, regAt_set, Nat.reduceEqDiff, reduceIte]
   refine code_exit ?_
   simp only [then_exit]
   exact ⟨trivial, trivial, _, rfl, by simp only [regAt_set, Nat.reduceEqDiff, reduceIte, h5]⟩
 | succ m ih =>
   intro p tm hj hp h0 h1 h5
   have hlt : p < L := by omega
   obtain ⟨dp, hdp⟩ : ∃ d, d = p / 16 := ⟨_, rfl⟩
   have q1 : aDiv false .i64 .i64 (.ofNat p) 16 = some (.int .i64 (.ofNat dp)) := hdp ▸ quo16 p (by omega)
   have heq : decide (dp = df) = true := decide_eq_true (by omega)
   have hln : cellsAt μ lb (p * 2) = some (.bool false) := by rw [hL.ln _ hlt, hf p hp (by omega)]
   have hia : ∀ ρ : Operand → Value, ∀ a b', ρ a = .slice (some ⟨lb, 0, none⟩) L (2 * c) → ρ b' = .int .i64 (.ofNat p) → aIndexAddr Tryz.prog ρ 145 a b' = some (.pointer (some ⟨lb, p * 2, none⟩)) := fun ρ a b' g1 g2 => by
    rw [indexAddr_sz (P := Tryz.prog) Tryz.underlying145 iL g1 g2 hlt, Nat.zero_add]; rfl
   have a1 : qwrap .i64 (Int.add (.ofNat p) 1) = .ofNat (p + 1) := add_nat p 1 (by omega)
   refine code_loop ?_
   refine code_seq ?_
   refine code_seq ?_
   refine code_guards (gs := ?_) ?_ ?_
   rotate_left
   ·rfl
   iterate 25 (refine run2_true (by first | rfl | (simp only [wanted, go_sem, Nat.reduceLT, Nat.reduceAdd, Nat.reduceEqDiff, reduceIte, reduceCtorEq, h0, h1, h5, faA1, faL0, ldLs, ld4, hl, hia, hln, aBuiltin, aLen, Tryz.underlying145, cast_nat, ilt_nat, hlt, q1, q2, ieq_nat, heq, Nat.add_zero])) (by simp only [go_sem, Nat.reduceLT, Nat.reduceAdd, Nat.reduceEqDiff, reduceIte, reduceCtorEq, h0, h1, h5, faA1, faL0, ldLs, ld4, hl, hia, hln, aBuiltin, aLen, Tryz.underlying145, cast_nat, ilt_nat, hlt, q1, q2, ieq_nat, heq, Nat.add_zero]; try exact rfl) rfl ?_)
   simp only [run2, ends_some, then_normal]
   refine code_cond_true ?_ ?_
   ·simp only [aev, regAt_set, Nat.reduceEqDiff, reduceIte]
   refine code_skip ?_
   simp only [then_normal]
   refine code_block ?_
   refine code_region ?_ ?_
   ·rfl
   simp only [run1, go_sem, Nat.reduceLT, Nat.reduceAdd, Nat.reduceEqDiff, reduceIte, reduceCtorEq, h5, blockC, a1]
   rw [show e + (m + 1) + 19 = e + m + 20 from by omega]
   refine ih (p + 1) _ (by omega) (by omega) ?_ ?_ ?_
   ·simp only [regAt_set, Nat.reduceEqDiff, reduceIte, h0]
   ·simp only [regAt_set, Nat.reduceEqDiff, reduceIte, h1]
   ·simp only [regAt_set, Nat.reduceEqDiff, reduceIte]
set_option maxHeartbeats 4000000 in
theorem hole_eq {f ap lb L a t : Nat} {ln : Nat → Bool} {μ : Mem} (hf : 60 ≤ f) (hL : Lines μ ap lb L ln) (h16 : a % 16 = 0) (ht : t = a + 16) (htL : t < L) (hT : L < 1000000) (hln : ∀ k, a ≤ k → k < t → ln k = false) :
  aFun Tryz.prog (aCode Tryz.prog X S0 f) 172 [.pointer (some ⟨ap, 0, none⟩), .int .i64 (.ofNat a)] μ = some (.int .i64 (.ofNat t), μ) := by
 obtain ⟨k, rfl⟩ := Nat.exists_eq_add_of_le' hf
 refine ends_eq ?_
 refine fun_enter Tryz.func172 rfl rfl (Nat.le_of_ble_eq_true rfl) ?_
 simp only [T.lay, Nat.zero_add, Tryz.ntmps172, Nat.reduceAdd]
 refine code_seq ?_
 refine code_region ?_ ?_
 ·rfl
 simp only [run1, go_sem, Nat.reduceLT, Nat.reduceAdd, Nat.reduceEqDiff, reduceIte, reduceCtorEq]
 refine code_seq ?_
 refine code_region ?_ ?_
 ·rfl
 simp only [run1, go_sem, Nat.reduceLT, Nat.reduceAdd, Nat.reduceEqDiff, reduceIte, reduceCtorEq]
 refine code_seq ?_
 refine code_block ?_
 refine EndsC.mono (hole_loop hL h16 ht htL hT hln (k + 20) 16 a _ (by omega) (Nat.le_refl _) ?_ ?_ ?_) ?_
 ·simp only [regAt_set, Nat.reduceEqDiff, reduceIte]
 ·simp only [regAt_set, Nat.reduceEqDiff, reduceIte]
 ·simp only [regAt_set, Nat.reduceEqDiff, reduceIte]
 rintro x' r' μ' ⟨rfl, rfl, tm', rfl, g5⟩
 simp only [blockC, reduceIte, then_normal]
 refine code_seq ?_
 refine code_region ?_ ?_
 ·rfl
 simp only [run1, go_sem, Nat.reduceLT, Nat.reduceAdd, Nat.reduceEqDiff, reduceIte, reduceCtorEq, g5]
 refine code_ret ?_
 refine ⟨rfl, _, ?_, rfl, rfl⟩
 simp only [aResults, Tryz.results172, aRes, regAt_set, Nat.reduceEqDiff, reduceIte]
set_option maxHeartbeats 4000000 in
theorem find_eq {f ap lb L a t : Nat} {ln : Nat → Bool} {μ : Mem} (hf : 90 ≤ f) (hL : Lines μ ap lb L ln) (h16 : a % 16 = 0) (ht : t = a + 16) (htL : t < L) (hT : L < 1000000) (hln : ∀ k, a ≤ k → k < t → ln k = false) :
  aFun Tryz.prog (aCode Tryz.prog X S0 f) 145 [.pointer (some ⟨ap, 0, none⟩), .int .i64 (.ofNat a), .int .i64 1] μ = some (.tuple #[.int .i64 (.ofNat a), .int .i64 (.ofNat t), .bool true], μ) := by
 obtain ⟨k, rfl⟩ := Nat.exists_eq_add_of_le' hf
 refine ends_eq ?_
 obtain ⟨c, hl, hc⟩ := hL.head
 have hlt : a < L := by omega
 have hh : ∀ f, 60 ≤ f → aFun Tryz.prog (aCode Tryz.prog X S0 f) 172 [.pointer (some ⟨ap, 0, none⟩), .int .i64 (.ofNat a)] μ = some (.int .i64 (.ofNat t), μ) := fun f hf => hole_eq hf hL h16 ht htL hT hln
 have a1 := sub_nat t a (by omega) (by omega)
 have a2 : ilt (.ofNat (t - a)) 1 = false := (ilt_nat (t - a) 1).trans (decide_eq_false (by omega))
 refine fun_enter Tryz.func145 rfl rfl (Nat.le_of_ble_eq_true rfl) ?_
 simp only [T.lay, Nat.zero_add, Tryz.ntmps145, Nat.reduceAdd]
 refine code_seq ?_
 refine code_region ?_ ?_
 ·rfl
 simp only [run1, go_sem, Nat.reduceLT, Nat.reduceAdd, Nat.reduceEqDiff, reduceIte, reduceCtorEq]
 refine code_seq ?_
 refine code_seq ?_
 refine code_region ?_ ?_
 ·rfl
 simp only [run1, go_sem, Nat.reduceLT, Nat.reduceAdd, Nat.reduceEqDiff, reduceIte, reduceCtorEq]
 refine code_block ?_
 refine code_loop ?_
 refine code_seq ?_
 refine code_seq ?_
 refine code_region ?_ ?_
 ·rfl
 simp only [run1, go_sem, Nat.reduceLT, Nat.reduceAdd, Nat.reduceEqDiff, reduceIte, reduceCtorEq, faA1, ldLs, hl, aBuiltin, aLen, Tryz.underlying145, cast_nat, ilt_nat, hlt]
 refine code_cond_true ?_ ?_
 ·simp only [aev, regAt_set, Nat.reduceEqDiff, reduceIte]
 refine code_skip ?_
 simp only [then_normal]
 refine code_block ?_
 refine code_seq ?_
 refine code_region ?_ ?_
 ·rfl
 simp only [run1, go_sem, Nat.reduceLT, Nat.reduceAdd, Nat.reduceEqDiff, reduceIte, reduceCtorEq, gg172, hh, Nat.reduceLeDiff]
 refine code_seq ?_
 refine code_seq ?_
 refine code_region ?_ ?_
 ·rfl
 simp only [run1, go_sem, Nat.reduceLT, Nat.reduceAdd, Nat.reduceEqDiff, reduceIte, reduceCtorEq, a1, a2]
 refine code_cond_true ?_ ?_
 ·simp only [aev, regAt_set, Nat.reduceEqDiff, reduceIte]
 refine code_seq ?_
 refine code_region ?_ ?_
 ·rfl
 simp only [run1, go_sem, Nat.reduceLT, Nat.reduceAdd, Nat.reduceEqDiff, reduceIte, reduceCtorEq]
 refine code_ret ?_
 refine ⟨rfl, _, ?_, rfl, rfl⟩
 simp only [aResults, Tryz.results145, aRes, regAt_set, Nat.reduceEqDiff, reduceIte]
end
noncomputable section
variable {X : FuncId → List Value → Mem → Option (Value × Mem)}
theorem cells_set {t : T Ob} {i j p n m : Nat} {o : Ob} (h : j ≠ i) : cellsAt ⟨t.set i o, n⟩ j p = cellsAt ⟨t, m⟩ j p := by
 have : T.get (t.set i o) j = t.get j := by rw [T.get_set, if_neg h]
 unfold cellsAt
 simp only [this]
def fill (ln : Nat → Bool) (a p : Nat) : Nat → Bool := fun k => if a ≤ k ∧ k < p then true else ln k
theorem fill_self (ln : Nat → Bool) (a : Nat) : fill ln a a = ln := by
 funext k; unfold fill; rw [if_neg (by omega)]
theorem Lines.put {μ : Mem} {ap lb L a p : Nat} {ln : Nat → Bool} (h : Lines μ ap lb L (fill ln a p)) (hne : ap ≠ lb) (hp : p < L) (ha : a ≤ p) : Lines (putL μ lb (p * 2) [.bool true]) ap lb L (fill ln a (p + 1)) := by
 obtain ⟨c, h1, h2⟩ := h.head
 refine ⟨⟨c, by rw [cells_off hne]; exact h1, h2⟩, h.blk.put _ _, fun k hk => ?_, fun k hk => ?_⟩
 ·rw [cells_put h.blk (by show p * 2 + 1 ≤ 2 * L; omega)]
  by_cases e : k = p
  ·subst e
   rw [dif_pos ⟨rfl, Nat.le_refl _, by show k * 2 < k * 2 + 1; omega⟩]
   unfold fill
   rw [if_pos ⟨ha, by omega⟩]
   simp
  ·rw [dif_neg (by rintro ⟨_, g1, g2⟩; simp only [List.length_cons, List.length_nil] at g2; omega), h.ln k hk]
   unfold fill
   by_cases e2 : a ≤ k ∧ k < p
   ·rw [if_pos e2, if_pos ⟨e2.1, by omega⟩]
   ·rw [if_neg e2, if_neg (by omega)]
 ·rw [cells_put h.blk (by show p * 2 + 1 ≤ 2 * L; omega), dif_neg (by rintro ⟨_, g1, g2⟩; simp only [List.length_cons, List.length_nil] at g2; omega)]
  exact h.mrk k hk
theorem Lines.keep {μ μ' : Mem} {ap lb L : Nat} {ln : Nat → Bool} (h : Lines μ ap lb L ln) (h1 : cellsAt μ' ap 1 = cellsAt μ ap 1) (h2 : μ'.obs.get lb = μ.obs.get lb) : Lines μ' ap lb L ln := by
 obtain ⟨c, g1, g2⟩ := h.head
 refine ⟨⟨c, h1.trans g1, g2⟩, ?_, fun k hk => ?_, fun k hk => ?_⟩
 ·unfold Blk; rw [h2]; exact h.blk
 ·rw [← h.ln k hk]; unfold cellsAt; rw [h2]
 ·obtain ⟨b, hb⟩ := h.mrk k hk
  exact ⟨b, by rw [← hb]; unfold cellsAt; rw [h2]⟩
set_option maxHeartbeats 4000000 in
theorem claim_loop {ap lb L a t : Nat} {ln : Nat → Bool} {μ0 : Mem} (hne : ap ≠ lb) (htL : t ≤ L) (hT : L < 1000000) :
  ∀ (e m p : Nat) (tm : T Value) (μ : Mem), p + m = t → a ≤ p → Lines μ ap lb L (fill ln a p) → μ.next = μ0.next → (∀ i, i ≠ lb → μ.obs.get i = μ0.obs.get i) → regAt tm 0 = .pointer (some ⟨ap, 0, none⟩) → regAt tm 1 = .int .i64 (.ofNat a) → regAt tm 2 = .int .i64 (.ofNat t) → regAt tm 6 = .pointer (some ⟨μ0.next - 1, 0, none⟩) → regAt tm 7 = .int .i64 (.ofNat p) →
   EndsC (aCode Tryz.prog X S0 (e + m + 20) (.loop (loopBody Tryz.f146 0)) ⟨26, tm, [], none⟩ μ) fun x r μ' => x = .exit 0 ∧ Lines μ' ap lb L (fill ln a t) ∧ μ'.next = μ0.next ∧ (∀ i, i ≠ lb → μ'.obs.get i = μ0.obs.get i) ∧ ∃ tm', r = ⟨26, tm', [], none⟩ ∧ regAt tm' 1 = .int .i64 (.ofNat a) ∧ regAt tm' 2 = .int .i64 (.ofNat t) ∧ regAt tm' 6 = .pointer (some ⟨μ0.next - 1, 0, none⟩) := by
 intro e m
 induction m with
 | zero =>
   intro p tm μ hj hp hL hn hk h0 h1 h2 h6 h7
   obtain rfl : p = t := hj
   refine code_loop ?_
   refine code_seq ?_
   refine code_seq ?_
   refine code_region ?_ ?_
   ·rfl
   simp only [run1, go_sem, Nat.reduceLT, Nat.reduceAdd, Nat.reduceEqDiff, reduceIte, reduceCtorEq, h7, h2, ilt_nat, Nat.lt_irrefl]
   refine code_cond_false ?_ ?_
   ·simp only [aev, regAt_set, Nat.reduceEqDiff, reduceIte]
   refine code_exit ?_
   simp only [then_exit]
   exact ⟨trivial, hL, hn, hk, _, rfl, by simp only [regAt_set, Nat.reduceEqDiff, reduceIte, h1], by simp only [regAt_set, Nat.reduceEqDiff, reduceIte, h2], by simp only [regAt_set, Nat.reduceEqDiff, reduceIte, h6]⟩
 | succ m ih =>
   intro p tm μ hj hp hL hn hk h0 h1 h2 h6 h7
   obtain ⟨c, hl, hc⟩ := hL.head
   have hlt : p < t := by omega
   have hia : ∀ ρ : Operand → Value, ∀ a b', ρ a = .slice (some ⟨lb, 0, none⟩) L (2 * c) → ρ b' = .int .i64 (.ofNat p) → aIndexAddr Tryz.prog ρ 145 a b' = some (.pointer (some ⟨lb, p * 2, none⟩)) := fun ρ a b' g1 g2 => by
    rw [indexAddr_sz (P := Tryz.prog) Tryz.underlying145 iL g1 g2 (by omega), Nat.zero_add]; rfl
   have a1 : qwrap .i64 (Int.add (.ofNat p) 1) = .ofNat (p + 1) := add_nat p 1 (by omega)
   have hst := store_put (t := 4) (v := .bool true) i4 rfl rfl hL.blk (show p * 2 < 2 * L by omega)
   refine code_loop ?_
   refine code_seq ?_
   refine code_seq ?_
   refine code_region ?_ ?_
   ·rfl
   simp only [run1, go_sem, Nat.reduceLT, Nat.reduceAdd, Nat.reduceEqDiff, reduceIte, reduceCtorEq, h7, h2, ilt_nat, hlt]
   refine code_cond_true ?_ ?_
   ·simp only [aev, regAt_set, Nat.reduceEqDiff, reduceIte]
   refine code_skip ?_
   simp only [then_normal]
   refine code_seq ?_
   refine code_block ?_
   refine code_region ?_ ?_
   ·rfl
   simp only [run1, go_sem, Nat.reduceLT, Nat.reduceAdd, Nat.reduceEqDiff, reduceIte, reduceCtorEq, h0, h7, faA1, faL0, ldLs, hl, hia, hst, Nat.add_zero]
   simp only [blockC, then_normal]
   refine code_region ?_ ?_
   ·rfl
   simp only [run1, go_sem, Nat.reduceLT, Nat.reduceAdd, Nat.reduceEqDiff, reduceIte, reduceCtorEq, h7, a1]
   rw [show e + (m + 1) + 19 = e + m + 20 from by omega]
   refine ih (p + 1) _ _ (by omega) (by omega) (hL.put hne (by omega) hp) (by rw [putL_next]; exact hn) (fun i hi => by rw [putL_get _ _ _ _ hi]; exact hk i hi) ?_ ?_ ?_ ?_ ?_ <;> simp only [regAt_set, Nat.reduceEqDiff, reduceIte, h0, h1, h2, h6]
theorem zR : aZeroOf Tryz.prog 147 = some (.agg #[.int .i64 0, .int .i64 0]) := by unfold aZeroOf; rw [iR]; rfl
def rn0 : Ob := .cells 2 147 #[.int .i64 0, .int .i64 0] .e 0 0 false false
theorem alR : aAlloc Tryz.prog 147 = some (rn0, fun id => .pointer (some ⟨id, 0, none⟩)) := by unfold aAlloc; rw [zR]; rfl
theorem bdR (ρ : Operand → Value) (a b : Operand) (o1 : one (ρ a) = true) (o2 : one (ρ b) = true) : aBuild Tryz.prog ρ 147 #[(0, a), (1, b)] = some (.agg #[ρ a, ρ b]) := by
 refine build_struct (pl := [(0, 1), (1, 1)]) zR Tryz.underlying147 (by kernel_rfl) ?_
 show aFill _ [.int .i64 0, .int .i64 0] [(0, ρ a), (1, ρ b)] = some [ρ a, ρ b]
 rw [aFill_one (off := 0) rfl o1 (by simp), aFill_one (off := 1) rfl o2 (by simp)]
 rfl
theorem ldR {μ : Mem} {i : Nat} {x y : Value} (h : ∃ ov, μ.obs.get i = some (.cells 2 147 #[.int .i64 0, .int .i64 0] ov 0 0 false false) ∧ ov = T.lay .e 0 [x, y]) : aLoad Tryz.prog μ 147 (.pointer (some ⟨i, 0, none⟩)) = some (.agg #[x, y]) := by
 obtain ⟨ov, h1, rfl⟩ := h
 rw [load_struct (P := Tryz.prog) (n := 2) (z := #[.int .i64 0, .int .i64 0]) (ov := T.lay .e 0 [x, y]) Tryz.underlying147 iR (by rw [h1]; rfl) (by decide)]
 rfl
set_option maxHeartbeats 4000000 in
theorem claim {f ap lb L a t : Nat} {ln : Nat → Bool} {μ : Mem} (hf : 60 ≤ f) (hL : Lines μ ap lb L ln) (hne : ap ≠ lb) (h1 : ap < μ.next) (h2 : lb < μ.next) (hat : a ≤ t) (htL : t ≤ L) (hta : t - a ≤ 20) (hT : L < 1000000) :
  EndsF (aFun Tryz.prog (aCode Tryz.prog X S0 f) 146 [.pointer (some ⟨ap, 0, none⟩), .int .i64 (.ofNat a), .int .i64 (.ofNat t)] μ) fun v μ' => v = .agg #[.int .i64 (.ofNat (a * 16)), .int .i64 (.ofNat (t * 16))] ∧ Lines μ' ap lb L (fill ln a t) ∧ μ'.next = μ.next + 1 ∧ (∀ i, i < μ.next → i ≠ lb → μ'.obs.get i = μ.obs.get i) := by
 obtain ⟨k, rfl⟩ := Nat.exists_eq_add_of_le' hf
 have hL1 : Lines ⟨μ.obs.set μ.next rn0, μ.next + 1⟩ ap lb L (fill ln a a) := by
  rw [fill_self]
  refine hL.keep ?_ ?_
  ·exact cells_set (by omega)
  ·show T.get _ lb = _; rw [T.get_set, if_neg (by omega)]
 have m1 : qwrap .i64 (Int.mul (.ofNat a) 16) = .ofNat (a * 16) := mul_nat a 16 (by omega)
 have m2 : qwrap .i64 (Int.mul (.ofNat t) 16) = .ofNat (t * 16) := mul_nat t 16 (by omega)
 obtain ⟨a16, ha16⟩ : ∃ x, x = a * 16 := ⟨_, rfl⟩
 obtain ⟨t16, ht16⟩ : ∃ x, x = t * 16 := ⟨_, rfl⟩
 rw [← ha16] at m1
 rw [← ht16] at m2
 rw [← ha16, ← ht16]
 refine fun_enter Tryz.func146 rfl rfl (Nat.le_of_ble_eq_true rfl) ?_
 simp only [T.lay, Nat.zero_add, Tryz.ntmps146, Nat.reduceAdd]
 refine code_seq ?_
 refine code_region ?_ ?_
 ·rfl
 simp only [run1, go_sem, Nat.reduceLT, Nat.reduceAdd, Nat.reduceEqDiff, reduceIte, reduceCtorEq, alR]
 refine code_seq ?_
 refine code_seq ?_
 refine code_region ?_ ?_
 ·rfl
 simp only [run1, go_sem, Nat.reduceLT, Nat.reduceAdd, Nat.reduceEqDiff, reduceIte, reduceCtorEq]
 refine code_block ?_
 rw [show k + 56 = (k + 36 - (t - a)) + (t - a) + 20 from by omega]
 refine EndsC.mono (claim_loop hne htL hT (k + 36 - (t - a)) (t - a) a _ ⟨μ.obs.set μ.next rn0, μ.next + 1⟩ (by omega) (Nat.le_refl _) hL1 rfl (fun _ _ => rfl) ?_ ?_ ?_ ?_ ?_) ?_
 ·simp only [regAt_set, Nat.reduceEqDiff, reduceIte]
 ·simp only [regAt_set, Nat.reduceEqDiff, reduceIte]
 ·simp only [regAt_set, Nat.reduceEqDiff, reduceIte]
 ·simp only [regAt_set, Nat.reduceEqDiff, reduceIte]; rfl
 ·simp only [regAt_set, Nat.reduceEqDiff, reduceIte]
 rintro x' r' μ' ⟨rfl, hL2, hn2, hk2, tm', rfl, g1, g2, g6⟩
 simp only [blockC, reduceIte, then_normal]
 have g6' : regAt tm' 6 = .pointer (some ⟨μ.next, 0, none⟩) := g6
 have hob : μ'.obs.get μ.next = some rn0 := by
  rw [hk2 _ (by omega)]; show T.get _ _ = _; rw [T.get_set, if_pos rfl]
 have hb : Blk μ' μ.next 2 147 := ⟨_, _, _, _, hob⟩
 have hst : aStore Tryz.prog μ' 147 (.pointer (some ⟨μ.next, 0, none⟩)) (.agg #[.int .i64 (.ofNat a16), .int .i64 (.ofNat t16)]) = some (undef, putL μ' μ.next 0 [.int .i64 (.ofNat a16), .int .i64 (.ofNat t16)]) := store_puts (t := 147) (o := 0) (vs := [.int .i64 (.ofNat a16), .int .i64 (.ofNat t16)]) iR rfl rfl hb (by show 0 + 2 ≤ 2; decide)
 refine code_seq ?_
 refine code_region ?_ ?_
 ·rfl
 simp only [run1, go_sem, Nat.reduceLT, Nat.reduceAdd, Nat.reduceEqDiff, reduceIte, reduceCtorEq, g1, g2, g6', m1, m2, bdR, one, hst]
 refine code_ret ?_
 have e1 : (putL μ' μ.next 0 [.int .i64 (.ofNat a16), .int .i64 (.ofNat t16)]).obs.get μ.next = some (.cells 2 147 #[.int .i64 0, .int .i64 0] (T.lay .e 0 [.int .i64 (.ofNat a16), .int .i64 (.ofNat t16)]) 0 0 false false) := putL_at hob
 refine ⟨rfl, .agg #[.int .i64 (.ofNat a16), .int .i64 (.ofNat t16)], ?_, rfl, hL2.keep (cells_off (by omega)) (putL_get _ _ _ _ (by omega)), (putL_next _ _ _ _).trans hn2, fun i hi hil => ?_⟩
 ·simp only [aResults, Tryz.results146, aRes, regAt_set, Nat.reduceEqDiff, reduceIte, g6', ldR ⟨_, e1, rfl⟩]
 ·rw [putL_get _ _ _ _ (by omega), hk2 i hil]
  show T.get _ _ = _; rw [T.get_set, if_neg (by omega)]
end
noncomputable section
variable {X : FuncId → List Value → Mem → Option (Value × Mem)}
theorem Lines.grow {μ μ' : Mem} {ap lb L : Nat} {ln : Nat → Bool} (h : Lines μ ap lb L ln) (hg : Grow μ μ') (h1 : ap < μ.next) (h2 : lb < μ.next) : Lines μ' ap lb L ln :=
 h.keep (by unfold cellsAt; rw [hg.2 ap h1]) (hg.2 lb h2)
end
noncomputable section
variable {X : FuncId → List Value → Mem → Option (Value × Mem)}
theorem Arena.grow {μ μ' : Mem} {ap wb N : Nat} {ws : Nat → Nat} (h : Arena μ ap wb N ws) (hg : Grow μ μ') (h1 : ap < μ.next) (h2 : wb < μ.next) : Arena μ' ap wb N ws := h.keep (hg.2 ap h1) (hg.2 wb h2)
end
noncomputable section
variable {X : FuncId → List Value → Mem → Option (Value × Mem)}
structure AB (μ : Mem) (ap wb lb N L : Nat) (ws : Nat → Nat) (ln : Nat → Bool) : Prop where
 arena : Arena μ ap wb N ws
 lines : Lines μ ap lb L ln
 blk : Blk μ ap 9 149
 n1 : ap < μ.next
 n2 : wb < μ.next
 n3 : lb < μ.next
 d1 : ap ≠ lb
 d2 : wb ≠ lb
 N1 : N < 1000000
 L1 : L < 1000000
structure AC (μ : Mem) (ap sf st gf gt nx : Nat) : Prop where
 c2 : cellsAt μ ap 2 = some (.int .i64 (.ofNat sf))
 c3 : cellsAt μ ap 3 = some (.int .i64 (.ofNat st))
 c4 : cellsAt μ ap 4 = some (.int .i64 (.ofNat gf))
 c5 : cellsAt μ ap 5 = some (.int .i64 (.ofNat gt))
 c8 : cellsAt μ ap 8 = some (.int .i64 (.ofNat nx))
theorem AB.put {μ : Mem} {ap wb lb N L : Nat} {ws : Nat → Nat} {ln : Nat → Bool} (h : AB μ ap wb lb N L ws ln) {o : Nat} {vs : List Value} (ho : 2 ≤ o) (hl : o + vs.length ≤ 9) : AB (putL μ ap o vs) ap wb lb N L ws ln := by
 have e0 : cellsAt (putL μ ap o vs) ap 0 = cellsAt μ ap 0 := by rw [cells_put h.blk hl, dif_neg (by rintro ⟨_, g, _⟩; omega)]
 have e1 : cellsAt (putL μ ap o vs) ap 1 = cellsAt μ ap 1 := by rw [cells_put h.blk hl, dif_neg (by rintro ⟨_, g, _⟩; omega)]
 obtain ⟨c, hc⟩ := h.arena.head
 obtain ⟨z, ov, fx, sh, hwb, hws⟩ := h.arena.words
 exact ⟨⟨⟨c, e0.trans hc⟩, ⟨z, ov, fx, sh, (putL_get _ _ _ _ (Ne.symm h.arena.apart)).trans hwb, hws⟩, h.arena.apart⟩, h.lines.keep e1 (putL_get _ _ _ _ (Ne.symm h.d1)), h.blk.put _ _,
  by rw [putL_next]; exact h.n1, by rw [putL_next]; exact h.n2, by rw [putL_next]; exact h.n3, h.d1, h.d2, h.N1, h.L1⟩
theorem AB.grow {μ μ' : Mem} {ap wb lb N L : Nat} {ws : Nat → Nat} {ln : Nat → Bool} (h : AB μ ap wb lb N L ws ln) (hg : Grow μ μ') : AB μ' ap wb lb N L ws ln :=
 ⟨h.arena.grow hg h.n1 h.n2, h.lines.grow hg h.n1 h.n3, by unfold Blk; rw [hg.2 ap h.n1]; exact h.blk, Nat.lt_of_lt_of_le h.n1 hg.1, Nat.lt_of_lt_of_le h.n2 hg.1, Nat.lt_of_lt_of_le h.n3 hg.1, h.d1, h.d2, h.N1, h.L1⟩
theorem AC.grow {μ μ' : Mem} {ap sf st gf gt nx : Nat} (h : AC μ ap sf st gf gt nx) (hg : Grow μ μ') (hn : ap < μ.next) : AC μ' ap sf st gf gt nx := by
 have e : ∀ p, cellsAt μ' ap p = cellsAt μ ap p := fun p => by unfold cellsAt; rw [hg.2 ap hn]
 exact ⟨(e _).trans h.c2, (e _).trans h.c3, (e _).trans h.c4, (e _).trans h.c5, (e _).trans h.c8⟩
def Kept (μ μ' : Mem) (ap lb : Nat) : Prop := μ.next ≤ μ'.next ∧ ∀ i, i < μ.next → i ≠ ap → i ≠ lb → μ'.obs.get i = μ.obs.get i
theorem Kept.of {μ μ' : Mem} {ap lb : Nat} (h : Grow μ μ') : Kept μ μ' ap lb := ⟨h.1, fun i hi _ _ => h.2 i hi⟩
theorem Kept.trans {a b c : Mem} {ap lb : Nat} (h : Kept a b ap lb) (g : Kept b c ap lb) : Kept a c ap lb := ⟨Nat.le_trans h.1 g.1, fun i hi h1 h2 => (g.2 i (Nat.lt_of_lt_of_le hi h.1) h1 h2).trans (h.2 i hi h1 h2)⟩
theorem Kept.put (μ : Mem) (ap lb o : Nat) (vs : List Value) : Kept μ (putL μ ap o vs) ap lb := ⟨by rw [putL_next]; exact Nat.le_refl _, fun i _ h1 _ => putL_get _ _ _ _ h1⟩
theorem put2 {μ : Mem} {ap sf st gf gt nx f' t : Nat} (hb : Blk μ ap 9 t) (h : AC μ ap sf st gf gt nx) : AC (putL μ ap 2 [.int .i64 (.ofNat f')]) ap f' st gf gt nx := by
 have e : ∀ p, p ≠ 2 → cellsAt (putL μ ap 2 [.int .i64 (.ofNat f')]) ap p = cellsAt μ ap p := fun p hp => by
  rw [cells_put hb (by show 2 + 1 ≤ 9; decide), dif_neg (by rintro ⟨_, g1, g2⟩; simp only [List.length_cons, List.length_nil] at g2; omega)]
 exact ⟨by rw [cells_put hb (by show 2 + 1 ≤ 9; decide), dif_pos ⟨rfl, Nat.le_refl _, Nat.le_of_ble_eq_true rfl⟩]; rfl, (e _ (by decide)).trans h.c3, (e _ (by decide)).trans h.c4, (e _ (by decide)).trans h.c5, (e _ (by decide)).trans h.c8⟩
theorem put8 {μ : Mem} {ap sf st gf gt nx f' t : Nat} (hb : Blk μ ap 9 t) (h : AC μ ap sf st gf gt nx) : AC (putL μ ap 8 [.int .i64 (.ofNat f')]) ap sf st gf gt f' := by
 have e : ∀ p, p ≠ 8 → cellsAt (putL μ ap 8 [.int .i64 (.ofNat f')]) ap p = cellsAt μ ap p := fun p hp => by
  rw [cells_put hb (by show 8 + 1 ≤ 9; decide), dif_neg (by rintro ⟨_, g1, g2⟩; simp only [List.length_cons, List.length_nil] at g2; omega)]
 exact ⟨(e _ (by decide)).trans h.c2, (e _ (by decide)).trans h.c3, (e _ (by decide)).trans h.c4, (e _ (by decide)).trans h.c5, by rw [cells_put hb (by show 8 + 1 ≤ 9; decide), dif_pos ⟨rfl, Nat.le_refl _, Nat.le_of_ble_eq_true rfl⟩]; rfl⟩
theorem put22 {μ : Mem} {ap sf st gf gt nx f' t' t : Nat} (hb : Blk μ ap 9 t) (h : AC μ ap sf st gf gt nx) : AC (putL μ ap 2 [.int .i64 (.ofNat f'), .int .i64 (.ofNat t')]) ap f' t' gf gt nx := by
 have e : ∀ p, p ≠ 2 → p ≠ 3 → cellsAt (putL μ ap 2 [.int .i64 (.ofNat f'), .int .i64 (.ofNat t')]) ap p = cellsAt μ ap p := fun p hp hq => by
  rw [cells_put hb (by show 2 + 2 ≤ 9; decide), dif_neg (by rintro ⟨_, g1, g2⟩; simp only [List.length_cons, List.length_nil] at g2; omega)]
 exact ⟨by rw [cells_put hb (by show 2 + 2 ≤ 9; decide), dif_pos ⟨rfl, by decide, Nat.le_of_ble_eq_true rfl⟩]; rfl, by rw [cells_put hb (by show 2 + 2 ≤ 9; decide), dif_pos ⟨rfl, by decide, Nat.le_of_ble_eq_true rfl⟩]; rfl,
  (e _ (by decide) (by decide)).trans h.c4, (e _ (by decide) (by decide)).trans h.c5, (e _ (by decide) (by decide)).trans h.c8⟩
end
noncomputable section
variable {X : FuncId → List Value → Mem → Option (Value × Mem)}
theorem takeno_eq {g ap o f t n : Nat} {μ : Mem} (hg : 20 ≤ g) (hf : cellsAt μ ap o = some (.int .i64 (.ofNat f))) (ht : cellsAt μ ap (o + 1) = some (.int .i64 (.ofNat t))) (hft : f ≤ t) (hT : t < 4611686018427387904) (hn : t - f < n) :
  aFun Tryz.prog (aCode Tryz.prog X S0 g) 144 [.pointer (some ⟨ap, o, none⟩), .int .i64 (.ofNat n)] μ = some (.tuple #[.int .i64 0, .bool false], ⟨μ.obs, μ.next + 11⟩) := by
 obtain ⟨k, rfl⟩ := Nat.exists_eq_add_of_le' hg
 exact ends_eq (take_no hf ht hft hT hn)
theorem takeok_eq {g ap o f t n c te : Nat} {μ : Mem} (hg : 20 ≤ g) (hb : Blk μ ap c te) (ho : o < c) (hf : cellsAt μ ap o = some (.int .i64 (.ofNat f))) (ht : cellsAt μ ap (o + 1) = some (.int .i64 (.ofNat t))) (hft : f ≤ t) (hT : t < 4611686018427387904) (hn : f + n ≤ t) :
  aFun Tryz.prog (aCode Tryz.prog X S0 g) 144 [.pointer (some ⟨ap, o, none⟩), .int .i64 (.ofNat n)] μ = some (.tuple #[.int .i64 (.ofNat f), .bool true], putL ⟨μ.obs, μ.next + 11⟩ ap o [.int .i64 (.ofNat (f + n))]) := by
 obtain ⟨k, rfl⟩ := Nat.exists_eq_add_of_le' hg
 exact ends_eq (take_ok hb ho hf ht hft hT hn)
theorem faA2 (ρ : Operand → Value) (x : Operand) : aFieldAddr Tryz.prog ρ 149 x 2 = (match ρ x with | .pointer (some a) => some (.pointer (some (a.add 2))) | _ => none) := fieldAddr_at (ft := 147) (off := 2) Tryz.underlying149 rfl iR rfl ρ x
theorem faA5 (ρ : Operand → Value) (x : Operand) : aFieldAddr Tryz.prog ρ 149 x 5 = (match ρ x with | .pointer (some a) => some (.pointer (some (a.add 8))) | _ => none) := fieldAddr_at (ft := 3) (off := 8) Tryz.underlying149 rfl i3 rfl ρ x
end
noncomputable section
variable {X : FuncId → List Value → Mem → Option (Value × Mem)}
set_option maxHeartbeats 4000000 in
theorem small_old {g ap wb lb N L n sf st gf gt nx : Nat} {ws : Nat → Nat} {ln : Nat → Bool} {μ : Mem} (hg : 40 ≤ g) (hB : AB μ ap wb lb N L ws ln) (hC : AC μ ap sf st gf gt nx) (hst : sf ≤ st) (hsT : st < 1000000) (hn : sf + n ≤ st) (h1 : 1 ≤ n) (h2 : n ≤ 16) :
  EndsF (aFun Tryz.prog (aCode Tryz.prog X S0 g) 114 [.pointer (some ⟨ap, 0, none⟩), .int .i64 (.ofNat n)] μ) fun v μ' => v = .tuple #[.int .i64 (.ofNat sf), .bool true] ∧ AB μ' ap wb lb N L ws ln ∧ AC μ' ap (sf + n) st gf gt nx ∧ Kept μ μ' ap lb := by
 obtain ⟨k, rfl⟩ := Nat.exists_eq_add_of_le' hg
 have ht : ∀ g, 20 ≤ g → aFun Tryz.prog (aCode Tryz.prog X S0 g) 144 [.pointer (some ⟨ap, 2, none⟩), .int .i64 (.ofNat n)] μ = some (.tuple #[.int .i64 (.ofNat sf), .bool true], putL ⟨μ.obs, μ.next + 11⟩ ap 2 [.int .i64 (.ofNat (sf + n))]) := fun g hg =>
  takeok_eq hg hB.blk (by decide) hC.c2 hC.c3 hst (by omega) hn
 have w1 : ilt (.ofNat n) 1 = false := (ilt_nat n 1).trans (decide_eq_false (by omega))
 have w2 : ilt 256 (.ofNat n) = false := (ilt_nat 256 n).trans (decide_eq_false (by omega))
 have w3 : ilt 16 (.ofNat n) = false := (ilt_nat 16 n).trans (decide_eq_false (by omega))
 have hg1 := grow_up μ 11
 refine fun_enter Tryz.func114 rfl rfl (Nat.le_of_ble_eq_true rfl) ?_
 simp only [T.lay, Nat.zero_add, Tryz.ntmps114, Nat.reduceAdd]
 refine code_seq ?_
 refine code_region ?_ ?_
 ·rfl
 simp only [run1, go_sem, Nat.reduceLT, Nat.reduceAdd, Nat.reduceEqDiff, reduceIte, reduceCtorEq]
 refine code_seq ?_
 refine code_block ?_
 refine code_seq ?_
 refine code_guards (gs := ?_) ?_ ?_
 rotate_left
 ·rfl
 iterate 7 (refine run2_true (by first | rfl | (simp only [wanted, go_sem, Nat.reduceLT, Nat.reduceAdd, Nat.reduceEqDiff, reduceIte, reduceCtorEq, w1, w2])) (by simp only [go_sem, Nat.reduceLT, Nat.reduceAdd, Nat.reduceEqDiff, reduceIte, reduceCtorEq, w1, w2]; try exact rfl) rfl ?_)
 simp only [run2, ends_some, then_normal]
 refine code_cond_false ?_ ?_
 ·simp only [aev, regAt_set, Nat.reduceEqDiff, reduceIte]
 refine code_seq ?_
 refine code_region ?_ ?_
 ·rfl
 simp only [run1, go_sem, Nat.reduceLT, Nat.reduceAdd, Nat.reduceEqDiff, reduceIte, reduceCtorEq, w3]
 refine code_cond_false ?_ ?_
 ·simp only [aev, regAt_set, Nat.reduceEqDiff, reduceIte]
 refine code_skip ?_
 simp only [blockC, then_normal]
 refine code_seq ?_
 refine code_seq ?_
 refine code_region ?_ ?_
 ·rfl
 simp only [run1, go_sem, Nat.reduceLT, Nat.reduceAdd, Nat.reduceEqDiff, reduceIte, reduceCtorEq, faA2, gg144, ht, Nat.reduceLeDiff]
 refine code_seq ?_
 refine code_region ?_ ?_
 ·rfl
 simp only [run1, go_sem, Nat.reduceLT, Nat.reduceAdd, Nat.reduceEqDiff, reduceIte, reduceCtorEq]
 refine code_cond_true ?_ ?_
 ·simp only [aev, regAt_set, Nat.reduceEqDiff, reduceIte]
 refine code_seq ?_
 refine code_region ?_ ?_
 ·rfl
 simp only [run1, go_sem, Nat.reduceLT, Nat.reduceAdd, Nat.reduceEqDiff, reduceIte, reduceCtorEq]
 refine code_ret ?_
 refine ⟨rfl, _, ?_, rfl, (hB.grow hg1).put (by decide) (Nat.le_of_ble_eq_true rfl), put2 (hB.grow hg1).blk (hC.grow hg1 hB.n1), (Kept.of hg1).trans (Kept.put _ _ _ _ _)⟩
 simp only [aResults, Tryz.results114, aRes, regAt_set, Nat.reduceEqDiff, reduceIte]
set_option maxHeartbeats 4000000 in
theorem small_new {g ap wb lb N L n sf st gf gt nx t fa ta : Nat} {ws : Nat → Nat} {ln : Nat → Bool} {μ : Mem} (hg : 300 ≤ g) (hB : AB μ ap wb lb N L ws ln) (hC : AC μ ap sf st gf gt nx) (hst : sf ≤ st) (hsT : st < 1000000) (hn : st - sf < n) (h1 : 1 ≤ n) (h2 : n ≤ 16)
  (h16 : nx % 16 = 0) (ht : t = nx + 16) (htL : t < L) (hln : ∀ k, nx ≤ k → k < t → ln k = false) (hfa : fa = nx * 16) (hta : ta = t * 16) :
  EndsF (aFun Tryz.prog (aCode Tryz.prog X S0 g) 114 [.pointer (some ⟨ap, 0, none⟩), .int .i64 (.ofNat n)] μ) fun v μ' => v = .tuple #[.int .i64 (.ofNat fa), .bool true] ∧ AB μ' ap wb lb N L ws (fill ln nx t) ∧ AC μ' ap (fa + n) ta gf gt t ∧ Kept μ μ' ap lb := by
 obtain ⟨k, rfl⟩ := Nat.exists_eq_add_of_le' hg
 have htk : ∀ g, 20 ≤ g → aFun Tryz.prog (aCode Tryz.prog X S0 g) 144 [.pointer (some ⟨ap, 2, none⟩), .int .i64 (.ofNat n)] μ = some (.tuple #[.int .i64 0, .bool false], ⟨μ.obs, μ.next + 11⟩) := fun g hg =>
  takeno_eq hg hC.c2 hC.c3 hst (by omega) hn
 have w1 : ilt (.ofNat n) 1 = false := (ilt_nat n 1).trans (decide_eq_false (by omega))
 have w2 : ilt 256 (.ofNat n) = false := (ilt_nat 256 n).trans (decide_eq_false (by omega))
 have w3 : ilt 16 (.ofNat n) = false := (ilt_nat 16 n).trans (decide_eq_false (by omega))
 have hg1 := grow_up μ 11
 have hB1 := hB.grow hg1
 have hC1 := hC.grow hg1 hB.n1
 have hN1 := hB.N1
 have hL1 := hB.L1
 have hfd : ∀ g, 90 ≤ g → aFun Tryz.prog (aCode Tryz.prog X S0 g) 145 [.pointer (some ⟨ap, 0, none⟩), .int .i64 (.ofNat nx), .int .i64 1] ⟨μ.obs, μ.next + 11⟩ = some (.tuple #[.int .i64 (.ofNat nx), .int .i64 (.ofNat t), .bool true], ⟨μ.obs, μ.next + 11⟩) := fun g hg =>
  find_eq hg hB1.lines h16 ht htL hL1 hln
 have hc8 := hC1.c8
 obtain ⟨v3, μ3, hcl, hv3, hL3, hn3, hk3⟩ := claim (X := X) (f := k + 293) (a := nx) (t := t) (by omega) hB1.lines hB1.d1 hB1.n1 hB1.n3 (by omega) (by omega) (by omega) hL1
 rw [← hfa, ← hta] at hv3
 subst hv3
 have e3 : ∀ p, cellsAt μ3 ap p = cellsAt ⟨μ.obs, μ.next + 11⟩ ap p := fun p => by unfold cellsAt; rw [hk3 ap hB1.n1 hB1.d1]
 have hB3 : AB μ3 ap wb lb N L ws (fill ln nx t) := ⟨hB1.arena.keep (hk3 ap hB1.n1 hB1.d1) (hk3 wb hB1.n2 hB1.d2), hL3, by unfold Blk; rw [hk3 ap hB1.n1 hB1.d1]; exact hB1.blk,
  by rw [hn3]; exact Nat.lt_succ_of_lt hB1.n1, by rw [hn3]; exact Nat.lt_succ_of_lt hB1.n2, by rw [hn3]; exact Nat.lt_succ_of_lt hB1.n3, hB1.d1, hB1.d2, hN1, hL1⟩
 have hC3 : AC μ3 ap sf st gf gt nx := ⟨(e3 _).trans hC1.c2, (e3 _).trans hC1.c3, (e3 _).trans hC1.c4, (e3 _).trans hC1.c5, (e3 _).trans hC1.c8⟩
 have hs1 : aStore Tryz.prog μ3 147 (.pointer (some ⟨ap, 2, none⟩)) (.agg #[.int .i64 (.ofNat fa), .int .i64 (.ofNat ta)]) = some (undef, putL μ3 ap 2 [.int .i64 (.ofNat fa), .int .i64 (.ofNat ta)]) := store_puts (t := 147) (o := 2) (vs := [.int .i64 (.ofNat fa), .int .i64 (.ofNat ta)]) iR rfl rfl hB3.blk (by show 2 + 2 ≤ 9; decide)
 have hB4 := hB3.put (o := 2) (vs := [.int .i64 (.ofNat fa), .int .i64 (.ofNat ta)]) (by decide) (by show 2 + 2 ≤ 9; decide)
 have hC4 := put22 (f' := fa) (t' := ta) hB3.blk hC3
 obtain ⟨μ4, hμ4⟩ : ∃ x, x = putL μ3 ap 2 [.int .i64 (.ofNat fa), .int .i64 (.ofNat ta)] := ⟨_, rfl⟩
 rw [← hμ4] at hs1 hB4 hC4
 have hs2 := store_put (t := 3) (v := .int .i64 (.ofNat t)) i3 rfl rfl hB4.blk (show 8 < 9 by decide)
 have hB5 := hB4.put (o := 8) (vs := [.int .i64 (.ofNat t)]) (by decide) (by show 8 + 1 ≤ 9; decide)
 have hC5 := put8 (f' := t) hB4.blk hC4
 obtain ⟨μ5, hμ5⟩ : ∃ x, x = putL μ4 ap 8 [.int .i64 (.ofNat t)] := ⟨_, rfl⟩
 rw [← hμ5] at hs2 hB5 hC5
 have ht2 : ∀ g, 20 ≤ g → aFun Tryz.prog (aCode Tryz.prog X S0 g) 144 [.pointer (some ⟨ap, 2, none⟩), .int .i64 (.ofNat n)] μ5 = some (.tuple #[.int .i64 (.ofNat fa), .bool true], putL ⟨μ5.obs, μ5.next + 11⟩ ap 2 [.int .i64 (.ofNat (fa + n))]) := fun g hg =>
  takeok_eq hg hB5.blk (by decide) hC5.c2 hC5.c3 (by omega) (by omega) (by omega)
 have hg5 := grow_up μ5 11
 have hk : Kept μ μ5 ap lb := by
  refine (Kept.of hg1).trans ⟨?_, fun i hi h1 h2 => ?_⟩
  ·rw [hμ5, putL_next, hμ4, putL_next, hn3]; exact Nat.le_succ _
  ·rw [hμ5, putL_get _ _ _ _ h1, hμ4, putL_get _ _ _ _ h1]; exact hk3 i hi h2
 refine fun_enter Tryz.func114 rfl rfl (Nat.le_of_ble_eq_true rfl) ?_
 simp only [T.lay, Nat.zero_add, Tryz.ntmps114, Nat.reduceAdd]
 refine code_seq ?_
 refine code_region ?_ ?_
 ·rfl
 simp only [run1, go_sem, Nat.reduceLT, Nat.reduceAdd, Nat.reduceEqDiff, reduceIte, reduceCtorEq]
 refine code_seq ?_
 refine code_block ?_
 refine code_seq ?_
 refine code_guards (gs := ?_) ?_ ?_
 rotate_left
 ·rfl
 iterate 7 (refine run2_true (by first | rfl | (simp only [wanted, go_sem, Nat.reduceLT, Nat.reduceAdd, Nat.reduceEqDiff, reduceIte, reduceCtorEq, w1, w2])) (by simp only [go_sem, Nat.reduceLT, Nat.reduceAdd, Nat.reduceEqDiff, reduceIte, reduceCtorEq, w1, w2]; try exact rfl) rfl ?_)
 simp only [run2, ends_some, then_normal]
 refine code_cond_false ?_ ?_
 ·simp only [aev, regAt_set, Nat.reduceEqDiff, reduceIte]
 refine code_seq ?_
 refine code_region ?_ ?_
 ·rfl
 simp only [run1, go_sem, Nat.reduceLT, Nat.reduceAdd, Nat.reduceEqDiff, reduceIte, reduceCtorEq, w3]
 refine code_cond_false ?_ ?_
 ·simp only [aev, regAt_set, Nat.reduceEqDiff, reduceIte]
 refine code_skip ?_
 simp only [blockC, then_normal]
 refine code_seq ?_
 refine code_seq ?_
 refine code_region ?_ ?_
 ·rfl
 simp only [run1, go_sem, Nat.reduceLT, Nat.reduceAdd, Nat.reduceEqDiff, reduceIte, reduceCtorEq, faA2, gg144, htk, Nat.reduceLeDiff]
 refine code_seq ?_
 refine code_region ?_ ?_
 ·rfl
 simp only [run1, go_sem, Nat.reduceLT, Nat.reduceAdd, Nat.reduceEqDiff, reduceIte, reduceCtorEq]
 refine code_cond_false ?_ ?_
 ·simp only [aev, regAt_set, Nat.reduceEqDiff, reduceIte]
 refine code_skip ?_
 simp only [then_normal]
 refine code_seq ?_
 refine code_region ?_ ?_
 ·rfl
 simp only [run1, go_sem, Nat.reduceLT, Nat.reduceAdd, Nat.reduceEqDiff, reduceIte, reduceCtorEq, faA5, ld3, hc8, gg145, hfd, Nat.reduceLeDiff]
 refine code_seq ?_
 refine code_seq ?_
 refine code_region ?_ ?_
 ·rfl
 simp only [run1, go_sem, Nat.reduceLT, Nat.reduceAdd, Nat.reduceEqDiff, reduceIte, reduceCtorEq]
 refine code_cond_false ?_ ?_
 ·simp only [aev, regAt_set, Nat.reduceEqDiff, reduceIte]
 refine code_skip ?_
 simp only [then_normal]
 refine code_seq ?_
 refine code_region ?_ ?_
 ·rfl
 simp only [run1, go_sem, Nat.reduceLT, Nat.reduceAdd, Nat.reduceEqDiff, reduceIte, reduceCtorEq, gg146, hcl, faA2, hs1]
 refine code_seq ?_
 refine code_region ?_ ?_
 ·rfl
 simp only [run1, go_sem, Nat.reduceLT, Nat.reduceAdd, Nat.reduceEqDiff, reduceIte, reduceCtorEq, faA5, hs2]
 refine code_seq ?_
 refine code_region ?_ ?_
 ·rfl
 simp only [run1, go_sem, Nat.reduceLT, Nat.reduceAdd, Nat.reduceEqDiff, reduceIte, reduceCtorEq, gg144, ht2, faA2, Nat.reduceLeDiff]
 refine code_ret ?_
 refine ⟨rfl, _, ?_, rfl, (hB5.grow hg5).put (by decide) (Nat.le_of_ble_eq_true rfl), put2 (hB5.grow hg5).blk (hC5.grow hg5 hB5.n1), (hk.trans (Kept.of hg5)).trans (Kept.put _ _ _ _ _)⟩
 simp only [aResults, Tryz.results114, aRes, regAt_set, Nat.reduceEqDiff, reduceIte]
end
noncomputable section
variable {X : FuncId → List Value → Mem → Option (Value × Mem)}
theorem shl_u (m y r : Nat) (hy : y ≤ 64) (hr : r = m * 2 ^ y) (h : r < 18446744073709551616) : aShift true .u64 (.ofNat m) (.ofNat y) = some (.int .u64 (.ofNat r)) := by
 unfold aShift
 simp only [wide64, show Nat.ble y 64 = true from Nat.ble_eq_true_of_le hy]
 rw [show Nat.mul m (Nat.pow 2 y) = r from hr.symm, qu64 r h]
theorem shl_i (m y r : Nat) (hy : y ≤ 64) (hr : r = m * 2 ^ y) (h : r < 9223372036854775808) : aShift true .i64 (.ofNat m) (.ofNat y) = some (.int .i64 (.ofNat r)) := by
 unfold aShift
 simp only [wide64, show Nat.ble y 64 = true from Nat.ble_eq_true_of_le hy]
 rw [show Nat.mul m (Nat.pow 2 y) = r from hr.symm, q64 r h]
theorem lor_u (a b r : Nat) (hr : r = a ||| b) (ha : a < 18446744073709551616) (hb : b < 18446744073709551616) : aBits Nat.lor .u64 .u64 (.ofNat a) (.ofNat b) = some (.int .u64 (.ofNat r)) := by
 have h1 : Nat.blt a 18446744073709551616 = true := by simpa using ha
 have h2 : Nat.blt b 18446744073709551616 = true := by simpa using hb
 have h3 : r < 18446744073709551616 := by rw [hr]; exact Nat.or_lt_two_pow (n := 64) ha hb
 unfold aBits
 simp only [decide_true, wide64, h1, h2]
 rw [show Nat.lor a b = r from hr.symm, qu64 r h3]
theorem lor_i (a b r : Nat) (hr : r = a ||| b) (ha : a < 9223372036854775808) (hb : b < 9223372036854775808) : aBits Nat.lor .i64 .i64 (.ofNat a) (.ofNat b) = some (.int .i64 (.ofNat r)) := by
 have h1 : Nat.blt a 18446744073709551616 = true := by
  have : a < 18446744073709551616 := by omega
  simpa using this
 have h2 : Nat.blt b 18446744073709551616 = true := by
  have : b < 18446744073709551616 := by omega
  simpa using this
 have h3 : r < 9223372036854775808 := by rw [hr]; exact Nat.or_lt_two_pow (n := 63) ha hb
 unfold aBits
 simp only [decide_true, wide64, h1, h2]
 rw [show Nat.lor a b = r from hr.symm, q64 r h3]
theorem or_add (a b i : Nat) (h : b < 2 ^ i) : a * 2 ^ i ||| b = a * 2 ^ i + b := by
 rw [Nat.mul_comm]; exact (Nat.two_pow_add_eq_or_of_lt h a).symm
set_option maxHeartbeats 4000000 in
theorem made_eq {g tag n r : Nat} {μ : Mem} (hg : 20 ≤ g) (ht : tag < 8) (hn : n < 1000000000) (hr : r = n * 8 + tag) : aFun Tryz.prog (aCode Tryz.prog X S0 g) 73 [.int .u64 (.ofNat tag), .int .i64 (.ofNat n)] μ = some (.int .u64 (.ofNat r), μ) := by
 obtain ⟨k, rfl⟩ := Nat.exists_eq_add_of_le' hg
 refine ends_eq ?_
 obtain ⟨n8, hn8⟩ : ∃ x, x = n * 8 := ⟨_, rfl⟩
 have e1 : aShift true .u64 (.ofNat n) 3 = some (.int .u64 (.ofNat n8)) := shl_u n 3 n8 (by decide) hn8 (by omega)
 have e2 : aBits Nat.lor .u64 .u64 (.ofNat n8) (.ofNat tag) = some (.int .u64 (.ofNat r)) := lor_u n8 tag r (by rw [hn8, hr]; exact (or_add n tag 3 ht).symm) (by omega) (by omega)
 have e0 := qu64 n (by omega)
 refine fun_enter Tryz.func73 rfl rfl (Nat.le_of_ble_eq_true rfl) ?_
 simp only [T.lay, Nat.zero_add, Tryz.ntmps73, Nat.reduceAdd]
 refine code_seq ?_
 refine code_region ?_ ?_
 ·rfl
 simp only [run1, go_sem, Nat.reduceLT, Nat.reduceAdd, Nat.reduceEqDiff, reduceIte, reduceCtorEq]
 refine code_seq ?_
 refine code_region ?_ ?_
 ·rfl
 simp only [run1, go_sem, Nat.reduceLT, Nat.reduceAdd, Nat.reduceEqDiff, reduceIte, reduceCtorEq, cviW, e0, e1, e2]
 refine code_ret ?_
 refine ⟨rfl, _, ?_, rfl, rfl⟩
 simp only [aResults, Tryz.results73, aRes, regAt_set, Nat.reduceEqDiff, reduceIte]
set_option maxHeartbeats 4000000 in
theorem place_eq {g n : Nat} {μ : Mem} (hg : 40 ≤ g) (hn : n < 1000000000) : aFun Tryz.prog (aCode Tryz.prog X S0 g) 116 [.int .i64 (.ofNat n)] μ = some (.int .u64 (.ofNat (placeW n)), μ) := by
 obtain ⟨k, rfl⟩ := Nat.exists_eq_add_of_le' hg
 refine ends_eq ?_
 have hm : ∀ g, 20 ≤ g → aFun Tryz.prog (aCode Tryz.prog X S0 g) 73 [.int .u64 1, .int .i64 (.ofNat n)] μ = some (.int .u64 (.ofNat (placeW n)), μ) := fun g hg => made_eq (tag := 1) hg (by decide) hn (by unfold placeW; omega)
 refine fun_enter Tryz.func116 rfl rfl (Nat.le_of_ble_eq_true rfl) ?_
 simp only [T.lay, Nat.zero_add, Tryz.ntmps116, Nat.reduceAdd]
 refine code_seq ?_
 refine code_region ?_ ?_
 ·rfl
 simp only [run1, go_sem, Nat.reduceLT, Nat.reduceAdd, Nat.reduceEqDiff, reduceIte, reduceCtorEq]
 refine code_seq ?_
 refine code_region ?_ ?_
 ·rfl
 simp only [run1, go_sem, Nat.reduceLT, Nat.reduceAdd, Nat.reduceEqDiff, reduceIte, reduceCtorEq, gg73, hm, Nat.reduceLeDiff]
 refine code_ret ?_
 refine ⟨rfl, _, ?_, rfl, rfl⟩
 simp only [aResults, Tryz.results116, aRes, regAt_set, Nat.reduceEqDiff, reduceIte]
set_option maxHeartbeats 4000000 in
theorem single5_eq {g : Nat} {μ : Mem} (hg : 40 ≤ g) : aFun Tryz.prog (aCode Tryz.prog X S0 g) 37 [.int .i64 5] μ = some (.int .u64 45, μ) := by
 obtain ⟨k, rfl⟩ := Nat.exists_eq_add_of_le' hg
 refine ends_eq ?_
 have hm : ∀ g, 20 ≤ g → aFun Tryz.prog (aCode Tryz.prog X S0 g) 73 [.int .u64 5, .int .i64 5] μ = some (.int .u64 45, μ) := fun g hg => made_eq (tag := 5) (n := 5) (r := 45) hg (by decide) (by decide) rfl
 refine fun_enter Tryz.func37 rfl rfl (Nat.le_of_ble_eq_true rfl) ?_
 simp only [T.lay, Nat.zero_add, Tryz.ntmps37, Nat.reduceAdd]
 refine code_seq ?_
 refine code_region ?_ ?_
 ·rfl
 simp only [run1, go_sem, Nat.reduceLT, Nat.reduceAdd, Nat.reduceEqDiff, reduceIte, reduceCtorEq]
 refine code_seq ?_
 refine code_region ?_ ?_
 ·rfl
 simp only [run1, go_sem, Nat.reduceLT, Nat.reduceAdd, Nat.reduceEqDiff, reduceIte, reduceCtorEq, gg73, hm, Nat.reduceLeDiff]
 refine code_ret ?_
 refine ⟨rfl, _, ?_, rfl, rfl⟩
 simp only [aResults, Tryz.results37, aRes, regAt_set, Nat.reduceEqDiff, reduceIte]
set_option maxHeartbeats 4000000 in
theorem raw_eq {g kd : Nat} {μ : Mem} (hg : 20 ≤ g) (h1 : 16 ≤ kd) (h2 : kd < 32) : aFun Tryz.prog (aCode Tryz.prog X S0 g) 41 [.int .i64 (.ofNat kd)] μ = some (.bool true, μ) := by
 obtain ⟨k, rfl⟩ := Nat.exists_eq_add_of_le' hg
 refine ends_eq ?_
 have w1 : ilt (.ofNat kd) 16 = false := (ilt_nat kd 16).trans (decide_eq_false (by omega))
 have w2 : ilt (.ofNat kd) 32 = true := (ilt_nat kd 32).trans (decide_eq_true h2)
 refine fun_enter Tryz.func41 rfl rfl (Nat.le_of_ble_eq_true rfl) ?_
 simp only [T.lay, Nat.zero_add, Tryz.ntmps41, Nat.reduceAdd]
 refine code_seq ?_
 refine code_region ?_ ?_
 ·rfl
 simp only [run1, go_sem, Nat.reduceLT, Nat.reduceAdd, Nat.reduceEqDiff, reduceIte, reduceCtorEq]
 refine code_seq ?_
 refine code_guards (gs := ?_) ?_ ?_
 rotate_left
 ·rfl
 iterate 7 (refine run2_true (by first | rfl | (simp only [wanted, go_sem, Nat.reduceLT, Nat.reduceAdd, Nat.reduceEqDiff, reduceIte, reduceCtorEq, w1, w2])) (by simp only [go_sem, Nat.reduceLT, Nat.reduceAdd, Nat.reduceEqDiff, reduceIte, reduceCtorEq, w1, w2]; try exact rfl) rfl ?_)
 simp only [run2, ends_some, then_normal]
 refine code_ret ?_
 refine ⟨rfl, _, ?_, rfl, rfl⟩
 simp only [aResults, Tryz.results41, aRes, regAt_set, Nat.reduceEqDiff, reduceIte]
theorem bxH (x y z : Value) : aBox 86 (.agg #[x, y, z]) = some (.cells 3 86 #[x, y, z] .e 0 0 false false, fun id => .pointer (some ⟨id, 0, none⟩)) := rfl
theorem faD1 (ρ : Operand → Value) (x : Operand) : aFieldAddr Tryz.prog ρ 86 x 1 = (match ρ x with | .pointer (some a) => some (.pointer (some (a.add 1))) | _ => none) := fieldAddr_at (ft := 3) (off := 1) Tryz.underlying86 rfl i3 rfl ρ x
set_option maxHeartbeats 4000000 in
theorem head_word_eq {g kd n r : Nat} {μ : Mem} (hg : 20 ≤ g) (h1 : kd < 32) (hn : n < 1000000) (hr : r = headW kd 0 n) : EndsF (aFun Tryz.prog (aCode Tryz.prog X S0 g) 115 [.agg #[.int .i64 (.ofNat kd), .int .i64 0, .int .i64 (.ofNat n)]] μ) fun v μ' => v = .int .u64 (.ofNat r) ∧ μ' = ⟨μ.obs.set μ.next (.cells 3 86 #[.int .i64 (.ofNat kd), .int .i64 0, .int .i64 (.ofNat n)] .e 0 0 false false), μ.next + 1⟩ := by
 obtain ⟨k, rfl⟩ := Nat.exists_eq_add_of_le' hg
 obtain ⟨a1, ha1⟩ : ∃ x, x = n * 256 := ⟨_, rfl⟩
 obtain ⟨a2, ha2⟩ : ∃ x, x = n * 256 + kd := ⟨_, rfl⟩
 obtain ⟨a3, ha3⟩ : ∃ x, x = a2 * 8 := ⟨_, rfl⟩
 have hcl : ∀ p, p < 3 → ∀ x, cellsAt ⟨μ.obs.set μ.next (.cells 3 86 #[.int .i64 (.ofNat kd), .int .i64 0, .int .i64 (.ofNat n)] .e 0 0 false false), x⟩ μ.next p = some (cellAt #[.int .i64 (.ofNat kd), .int .i64 0, .int .i64 (.ofNat n)] .e p) := fun p hp x => cellsAt_of (by show obCells (T.get _ μ.next) = _; rw [T.get_set, if_pos rfl]; rfl) hp
 have c0 : ∀ x, cellsAt ⟨μ.obs.set μ.next (.cells 3 86 #[.int .i64 (.ofNat kd), .int .i64 0, .int .i64 (.ofNat n)] .e 0 0 false false), x⟩ μ.next 0 = some (.int .i64 (.ofNat kd)) := fun x => (hcl 0 (by decide) x).trans rfl
 have c1 : ∀ x, cellsAt ⟨μ.obs.set μ.next (.cells 3 86 #[.int .i64 (.ofNat kd), .int .i64 0, .int .i64 (.ofNat n)] .e 0 0 false false), x⟩ μ.next 1 = some (.int .i64 0) := fun x => (hcl 1 (by decide) x).trans rfl
 have c2 : ∀ x, cellsAt ⟨μ.obs.set μ.next (.cells 3 86 #[.int .i64 (.ofNat kd), .int .i64 0, .int .i64 (.ofNat n)] .e 0 0 false false), x⟩ μ.next 2 = some (.int .i64 (.ofNat n)) := fun x => (hcl 2 (by decide) x).trans rfl
 have e1 : aShift true .i64 (.ofNat n) 8 = some (.int .i64 (.ofNat a1)) := shl_i n 8 a1 (by decide) ha1 (by omega)
 have e2 : aShift true .i64 0 5 = some (.int .i64 0) := shl_i 0 5 0 (by decide) rfl (by decide)
 have e3 : aBits Nat.lor .i64 .i64 (.ofNat a1) 0 = some (.int .i64 (.ofNat a1)) := lor_i a1 0 a1 (Nat.or_zero a1).symm (by omega) (by decide)
 have e4 : aBits Nat.lor .i64 .i64 (.ofNat a1) (.ofNat kd) = some (.int .i64 (.ofNat a2)) := lor_i a1 kd a2 (by rw [ha1, ha2]; exact (or_add n kd 8 (by omega)).symm) (by omega) (by omega)
 have e5 := qu64 a2 (by omega)
 have e6 : aShift true .u64 (.ofNat a2) 3 = some (.int .u64 (.ofNat a3)) := shl_u a2 3 a3 (by decide) ha3 (by omega)
 have e7 : aBits Nat.lor .u64 .u64 (.ofNat a3) 6 = some (.int .u64 (.ofNat r)) := lor_u a3 6 r (by rw [hr, ha3]; unfold headW; rw [show (n * 256 + 0 * 32 + kd) = a2 from by omega]; exact (or_add a2 6 3 (by decide)).symm) (by omega) (by decide)
 refine fun_enter Tryz.func115 rfl rfl (Nat.le_of_ble_eq_true rfl) ?_
 simp only [T.lay, Nat.zero_add, Tryz.ntmps115, Nat.reduceAdd]
 refine code_seq ?_
 refine code_region ?_ ?_
 ·rfl
 simp only [run1, go_sem, Nat.reduceLT, Nat.reduceAdd, Nat.reduceEqDiff, reduceIte, reduceCtorEq, bxH]
 refine code_seq ?_
 refine code_region ?_ ?_
 ·rfl
 simp only [run1, go_sem, Nat.reduceLT, Nat.reduceAdd, Nat.reduceEqDiff, reduceIte, reduceCtorEq, faD0, faD1, faD2, ld3, c0, c1, c2, e1, e2, e3, e4, e5, e6, e7, cviW, Nat.add_zero]
 refine code_ret ?_
 refine ⟨rfl, _, ?_, rfl, rfl⟩
 simp only [aResults, Tryz.results115, aRes, regAt_set, Nat.reduceEqDiff, reduceIte]
end
noncomputable section
variable {X : FuncId → List Value → Mem → Option (Value × Mem)}
theorem bdH2 (ρ : Operand → Value) (a c : Operand) (o1 : one (ρ a) = true) (o3 : one (ρ c) = true) : aBuild Tryz.prog ρ 86 #[(0, a), (2, c)] = some (.agg #[ρ a, .int .i64 0, ρ c]) := by
 refine build_struct (pl := [(0, 1), (1, 1), (2, 1)]) zH Tryz.underlying86 (by kernel_rfl) ?_
 show aFill _ [.int .i64 0, .int .i64 0, .int .i64 0] [(0, ρ a), (2, ρ c)] = some [ρ a, .int .i64 0, ρ c]
 rw [aFill_one (off := 0) rfl o1 (by simp), aFill_one (off := 2) rfl o3 (by simp)]
 rfl
def Only (μ μ' : Mem) (wb : Nat) : Prop := μ'.next = μ.next ∧ ∀ i, i ≠ wb → μ'.obs.get i = μ.obs.get i
theorem Only.refl (μ : Mem) (wb : Nat) : Only μ μ wb := ⟨rfl, fun _ _ => rfl⟩
theorem Only.trans {a b c : Mem} {wb : Nat} (h : Only a b wb) (g : Only b c wb) : Only a c wb := ⟨g.1.trans h.1, fun i hi => (g.2 i hi).trans (h.2 i hi)⟩
theorem Only.cell {μ μ' : Mem} {wb i p : Nat} (h : Only μ μ' wb) (hi : i ≠ wb) : cellsAt μ' i p = cellsAt μ i p := by unfold cellsAt; rw [h.2 i hi]
theorem AB.only {μ μ' : Mem} {ap wb lb N L : Nat} {ws ws' : Nat → Nat} {ln : Nat → Bool} (h : AB μ ap wb lb N L ws ln) (g : Only μ μ' wb) (hA : Arena μ' ap wb N ws') : AB μ' ap wb lb N L ws' ln :=
 ⟨hA, h.lines.keep (g.cell h.arena.apart) (g.2 lb (Ne.symm h.d2)), by unfold Blk; rw [g.2 ap h.arena.apart]; exact h.blk, by rw [g.1]; exact h.n1, by rw [g.1]; exact h.n2, by rw [g.1]; exact h.n3, h.d1, h.d2, h.N1, h.L1⟩
theorem AC.only {μ μ' : Mem} {ap wb sf st gf gt nx : Nat} (h : AC μ ap sf st gf gt nx) (g : Only μ μ' wb) (hw : ap ≠ wb) : AC μ' ap sf st gf gt nx :=
 ⟨(g.cell hw).trans h.c2, (g.cell hw).trans h.c3, (g.cell hw).trans h.c4, (g.cell hw).trans h.c5, (g.cell hw).trans h.c8⟩
def zeros (fw : Nat) (ws : Nat → Nat) (q j : Nat) : Nat → Nat := fun k => if q < k ∧ k ≤ q + j then fw else ws k
theorem zeros_zero (fw : Nat) (ws : Nat → Nat) (q : Nat) : zeros fw ws q 0 = ws := by funext k; unfold zeros; rw [if_neg (by omega)]
theorem zeros_succ (fw : Nat) (ws : Nat → Nat) (q j : Nat) : put (zeros fw ws q j) (q + 1 + j) fw = zeros fw ws q (j + 1) := by
 funext k; unfold put zeros
 by_cases h : k = q + 1 + j
 ·rw [if_pos h, if_pos (by omega)]
 ·rw [if_neg h]
  by_cases h2 : q < k ∧ k ≤ q + j
  ·rw [if_pos h2, if_pos (by omega)]
  ·rw [if_neg h2, if_neg (by omega)]
set_option maxHeartbeats 4000000 in
theorem make_loop {hp ap wb N q n fw : Nat} {ws : Nat → Nat} {μ0 : Mem} (hH : cellsAt μ0 hp 0 = some (.pointer (some ⟨ap, 0, none⟩))) (hw : hp ≠ wb) (hq : q + n < N) (hN : N < 1000000) :
  ∀ (e m j : Nat) (tm : T Value) (μ : Mem), j + m = n → Only μ0 μ wb → Arena μ ap wb N (zeros fw ws q j) → regAt tm 0 = .pointer (some ⟨hp, 0, none⟩) → regAt tm 8 = .int .i64 (.ofNat q) → regAt tm 10 = .int .u64 (.ofNat fw) → regAt tm 51 = .int .i64 (.ofNat n) → regAt tm 52 = .int .i64 (.ofNat j) →
   EndsC (aCode Tryz.prog X S0 (e + m + 60) (.loop (loopBody Tryz.f80 0)) ⟨68, tm, [], none⟩ μ) fun x r μ' => x = .exit 0 ∧ Only μ0 μ' wb ∧ Arena μ' ap wb N (zeros fw ws q n) ∧ ∃ tm', r = ⟨68, tm', [], none⟩ ∧ regAt tm' 8 = .int .i64 (.ofNat q) := by
 intro e m
 induction m with
 | zero =>
   intro j tm μ hj hO hA r0 r8 r10 r51 r52
   obtain rfl : j = n := hj
   refine code_loop ?_
   refine code_seq ?_
   refine code_region ?_ ?_
   ·rfl
   simp only [run1, go_sem, Nat.reduceLT, Nat.reduceAdd, Nat.reduceEqDiff, reduceIte, reduceCtorEq, r52, r51, ilt_nat, Nat.lt_irrefl]
   refine code_seq ?_
   refine code_cond_false ?_ ?_
   ·simp only [aev, regAt_set, Nat.reduceEqDiff, reduceIte]
   refine code_exit ?_
   simp only [then_exit]
   exact ⟨trivial, hO, hA, _, rfl, by simp only [regAt_set, Nat.reduceEqDiff, reduceIte, r8]⟩
 | succ m ih =>
   intro j tm μ hj hO hA r0 r8 r10 r51 r52
   have hlt : j < n := by omega
   have hH' := (hO.cell (p := 0) hw).trans hH
   obtain ⟨q1, hq1⟩ : ∃ x, x = q + 1 := ⟨_, rfl⟩
   obtain ⟨qj, hqj⟩ : ∃ x, x = q1 + j := ⟨_, rfl⟩
   have a1 : qwrap .i64 (Int.add (.ofNat q) 1) = .ofNat q1 := hq1 ▸ add_nat q 1 (by omega)
   have a2 : qwrap .i64 (Int.add (.ofNat q1) (.ofNat j)) = .ofNat qj := hqj ▸ add_nat q1 j (by omega)
   have a3 : qwrap .i64 (Int.add (.ofNat j) 1) = .ofNat (j + 1) := add_nat j 1 (by omega)
   obtain ⟨v1, μ1, hS, hv1, hA1, hn1, hk1⟩ := arena_set (X := X) (S := S0) (k := e + (m + 1) + 33) (w := fw) hA (q := qj) (by omega)
   subst hv1
   have hS : aFun Tryz.prog (aCode Tryz.prog X S0 (e + (m + 1) + 53)) 26 [.pointer (some ⟨ap, 0, none⟩),   .int .i64 (.ofNat qj), .int .u64 (.ofNat fw)] μ = some (.int .i64 0, μ1) := hS
   rw [show qj = q + 1 + j from by omega, zeros_succ] at hA1
   refine code_loop ?_
   refine code_seq ?_
   refine code_region ?_ ?_
   ·rfl
   simp only [run1, go_sem, Nat.reduceLT, Nat.reduceAdd, Nat.reduceEqDiff, reduceIte, reduceCtorEq, r52, r51, ilt_nat, hlt]
   refine code_seq ?_
   refine code_cond_true ?_ ?_
   ·simp only [aev, regAt_set, Nat.reduceEqDiff, reduceIte]
   refine code_skip ?_
   simp only [then_normal]
   refine code_seq ?_
   refine code_block ?_
   refine code_seq ?_
   refine code_region ?_ ?_
   ·rfl
   simp only [run1, go_sem, Nat.reduceLT, Nat.reduceAdd, Nat.reduceEqDiff, reduceIte, reduceCtorEq, r52]
   refine code_region ?_ ?_
   ·rfl
   simp only [run1, go_sem, Nat.reduceLT, Nat.reduceAdd, Nat.reduceEqDiff, reduceIte, reduceCtorEq, r0, r8, r10, faH0, ldA, hH', a1, a2, gg26, hS]
   simp only [blockC, then_normal]
   refine code_region ?_ ?_
   ·rfl
   simp only [run1, go_sem, Nat.reduceLT, Nat.reduceAdd, Nat.reduceEqDiff, reduceIte, reduceCtorEq, r52, a3]
   rw [show e + (m + 1) + 59 = e + m + 60 from by omega]
   refine ih (j + 1) _ _ (by omega) (hO.trans ⟨hn1, hk1⟩) hA1 ?_ ?_ ?_ ?_ ?_ <;> simp only [regAt_set, Nat.reduceEqDiff, reduceIte, r0, r8, r10, r51]
structure HS (μ : Mem) (hp ap wb lb N L : Nat) (ws : Nat → Nat) (ln : Nat → Bool) : Prop where
 head : cellsAt μ hp 0 = some (.pointer (some ⟨ap, 0, none⟩))
 ab : AB μ ap wb lb N L ws ln
 hn : hp < μ.next
 ha : hp ≠ ap
 hw : hp ≠ wb
 hl : hp ≠ lb
def Keeps (μ μ' : Mem) (ap wb lb : Nat) : Prop := μ.next ≤ μ'.next ∧ ∀ i, i < μ.next → i ≠ ap → i ≠ wb → i ≠ lb → μ'.obs.get i = μ.obs.get i
theorem Keeps.trans {a b c : Mem} {ap wb lb : Nat} (h : Keeps a b ap wb lb) (g : Keeps b c ap wb lb) : Keeps a c ap wb lb := ⟨Nat.le_trans h.1 g.1, fun i hi h1 h2 h3 => (g.2 i (Nat.lt_of_lt_of_le hi h.1) h1 h2 h3).trans (h.2 i hi h1 h2 h3)⟩
theorem Keeps.grow {a b : Mem} {ap wb lb : Nat} (h : Grow a b) : Keeps a b ap wb lb := ⟨h.1, fun i hi _ _ _ => h.2 i hi⟩
theorem Keeps.kept {a b : Mem} {ap wb lb : Nat} (h : Kept a b ap lb) : Keeps a b ap wb lb := ⟨h.1, fun i hi h1 _ h3 => h.2 i hi h1 h3⟩
theorem Keeps.only {a b : Mem} {ap wb lb : Nat} (h : Only a b wb) : Keeps a b ap wb lb := ⟨Nat.le_of_eq h.1.symm, fun i hi _ h2 _ => h.2 i h2⟩
theorem HS.keeps {μ μ' : Mem} {hp ap wb lb N L : Nat} {ws ws' : Nat → Nat} {ln ln' : Nat → Bool} (h : HS μ hp ap wb lb N L ws ln) (g : Keeps μ μ' ap wb lb) (hB : AB μ' ap wb lb N L ws' ln') : HS μ' hp ap wb lb N L ws' ln' :=
 ⟨by rw [← h.head]; unfold cellsAt; rw [g.2 hp h.hn h.ha h.hw h.hl], hB, Nat.lt_of_lt_of_le h.hn g.1, h.ha, h.hw, h.hl⟩
theorem HS.grow {μ μ' : Mem} {hp ap wb lb N L : Nat} {ws : Nat → Nat} {ln : Nat → Bool} (h : HS μ hp ap wb lb N L ws ln) (g : Grow μ μ') : HS μ' hp ap wb lb N L ws ln := h.keeps (Keeps.grow g) (h.ab.grow g)
theorem HS.at {μ : Mem} {hp ap wb lb N L : Nat} {ws : Nat → Nat} {ln : Nat → Bool} (h : HS μ hp ap wb lb N L ws ln) : HeapAt μ hp ap wb N ws := ⟨h.head, h.ab.arena, h.hn, h.ab.n1, h.ab.n2, h.hw⟩
def fillW (kd : Nat) : Nat := if 16 ≤ kd then 0 else 45
theorem rawb_eq {g kd : Nat} {μ : Mem} (hg : 20 ≤ g) (h2 : kd < 32) : aFun Tryz.prog (aCode Tryz.prog X S0 g) 41 [.int .i64 (.ofNat kd)] μ = some (.bool (decide (16 ≤ kd)), μ) := by
 by_cases h1 : 16 ≤ kd
 ·rw [raw_eq hg h1 h2, decide_eq_true h1]
 obtain ⟨k, rfl⟩ := Nat.exists_eq_add_of_le' hg
 refine ends_eq ?_
 have w1 : ilt (.ofNat kd) 16 = true := (ilt_nat kd 16).trans (decide_eq_true (by omega))
 rw [decide_eq_false h1]
 refine fun_enter Tryz.func41 rfl rfl (Nat.le_of_ble_eq_true rfl) ?_
 simp only [T.lay, Nat.zero_add, Tryz.ntmps41, Nat.reduceAdd]
 repeat (first | refine code_seq ?_ | ((first | (refine code_region ?_ ?_; (focus rfl)) | (refine code_guards (gs := ?_) ?_ ?_; rotate_left; (focus rfl))); simp only [run1, run2, wanted, go_sem, Nat.reduceLT, Nat.reduceAdd, Nat.reduceEqDiff, reduceIte, reduceCtorEq, w1]) | (refine code_cond_true ?_ ?_; (focus (simp only [aev, regAt_set, Nat.reduceEqDiff, reduceIte, w1]; done))) | (refine code_cond_false ?_ ?_; (focus (simp only [aev, regAt_set, Nat.reduceEqDiff, reduceIte, w1]; done))) | ((first | refine code_skip ?_ | refine code_label ?_ | refine code_exit ?_); try simp only [then_exit, then_normal, blockC, Nat.reduceEqDiff, reduceIte]) | refine code_block ?_)
 refine code_ret ?_
 refine ⟨rfl, _, ?_, rfl, rfl⟩
 simp only [aResults, Tryz.results41, aRes, regAt_set, Nat.reduceEqDiff, reduceIte]
theorem befM : bef [0, 1, 3, 7, 0, 0, 0, 96, 224, 511] 8 3 = false := by kernel_rfl
set_option maxHeartbeats 4000000 in
theorem heap_make {g hp ap wb lb N L q kd n sf' st' gf' gt' nx' : Nat} {ws : Nat → Nat} {ln ln' : Nat → Bool} {μ μ1 : Mem} (hg : 400 ≤ g) (hH : HS μ hp ap wb lb N L ws ln) (h2 : kd < 32) (hn : n ≤ 240) (hq : q + n < N)
  (hal : aFun Tryz.prog (aCode Tryz.prog X S0 (g - 4)) 114 [.pointer (some ⟨ap, 0, none⟩), .int .i64 (.ofNat (n + 1))] μ = some (.tuple #[.int .i64 (.ofNat q), .bool true], μ1)) (hB1 : AB μ1 ap wb lb N L ws ln') (hC1 : AC μ1 ap sf' st' gf' gt' nx') (hK1 : Kept μ μ1 ap lb) :
  EndsF (aFun Tryz.prog (aCode Tryz.prog X S0 g) 80 [.pointer (some ⟨hp, 0, none⟩), .int .i64 (.ofNat kd), .int .i64 (.ofNat n)] μ) fun v μ' => v = .tuple #[.int .u64 (.ofNat (placeW q)), .bool true] ∧ HS μ' hp ap wb lb N L (zeros (fillW kd) (put ws q (headW kd 0 n)) q n) ln' ∧ AC μ' ap sf' st' gf' gt' nx' ∧ Keeps μ μ' ap wb lb := by
 obtain ⟨k, rfl⟩ := Nat.exists_eq_add_of_le' hg
 have hN := hH.ab.N1
 obtain ⟨n1, hn1⟩ : ∃ x, x = n + 1 := ⟨_, rfl⟩
 rw [← hn1, show k + 400 - 4 = k + 396 from rfl] at hal
 have a0 : qwrap .i64 (Int.add (.ofNat n) 1) = .ofNat n1 := hn1 ▸ add_nat n 1 (by omega)
 have z1 : ilt (.ofNat kd) 0 = false := rfl
 have z2 : ilt (.ofNat kd) 32 = true := (ilt_nat kd 32).trans (decide_eq_true h2)
 have z3 : ilt (.ofNat n) 0 = false := rfl
 have z4 : ilt 240 (.ofNat n) = false := (ilt_nat 240 n).trans (decide_eq_false (by omega))
 have hd0 := hH.head
 have hH1 := hH.keeps (Keeps.kept hK1) hB1
 have hd1 := hH1.head
 obtain ⟨hwd, hhw⟩ : ∃ x, x = headW kd 0 n := ⟨_, rfl⟩
 obtain ⟨v2, μ2, hwe, hv2, hm2⟩ := head_word_eq (X := X) (g := k + 394) (kd := kd) (n := n) (r := hwd) (μ := ⟨μ1.obs, μ1.next + 10⟩) (by omega) h2 (by omega) hhw
 subst hv2
 have hg2 : Grow μ1 μ2 := by
  rw [hm2]
  exact (grow_up μ1 10).trans (grow1 ⟨μ1.obs, μ1.next + 10⟩ _)
 have hH2 := hH1.grow hg2
 have hC2 := hC1.grow hg2 hB1.n1
 have hd1' : ∀ x, cellsAt ⟨μ1.obs, x⟩ hp 0 = some (.pointer (some ⟨ap, 0, none⟩)) := fun x => hd1
 have hd2 := hH2.head
 obtain ⟨v3, μ3, hS, hv3, hA3, hn3, hk3⟩ := arena_set (X := X) (S := S0) (k := k + 374) (w := hwd) hH2.ab.arena (q := q) (by omega)
 subst hv3
 have hS : aFun Tryz.prog (aCode Tryz.prog X S0 (k + 394)) 26 [.pointer (some ⟨ap, 0, none⟩), .int .i64 (.ofNat q), .int .u64 (.ofNat hwd)] μ2 = some (.int .i64 0, μ3) := hS
 have hO3 : Only μ2 μ3 wb := ⟨hn3, hk3⟩
 have hB3 := hH2.ab.only hO3 hA3
 have hC3 := hC2.only hO3 hH2.ab.arena.apart
 have hH3 := hH2.keeps (Keeps.only hO3) hB3
 have hraw : ∀ g (μ : Mem), 20 ≤ g → aFun Tryz.prog (aCode Tryz.prog X S0 g) 41 [.int .i64 (.ofNat kd)] μ = some (.bool (decide (16 ≤ kd)), μ) := fun g μ hg => rawb_eq hg h2
 refine fun_enter Tryz.func80 rfl rfl (Nat.le_of_ble_eq_true rfl) ?_
 simp only [T.lay, Nat.zero_add, Tryz.ntmps80, Nat.reduceAdd]
 refine code_seq ?_
 refine code_region ?_ ?_
 ·rfl
 simp only [run1, go_sem, Nat.reduceLT, Nat.reduceAdd, Nat.reduceEqDiff, reduceIte, reduceCtorEq]
 refine code_seq ?_
 refine code_seq ?_
 refine code_guards (gs := ?_) ?_ ?_
 rotate_left
 ·rfl
 iterate 14 (refine run2_true (by first | rfl | (simp only [wanted, go_sem, Nat.reduceLT, Nat.reduceAdd, Nat.reduceEqDiff, reduceIte, reduceCtorEq, z1, z2, z3, z4])) (by simp only [go_sem, Nat.reduceLT, Nat.reduceAdd, Nat.reduceEqDiff, reduceIte, reduceCtorEq, z1, z2, z3, z4]; try exact rfl) rfl ?_)
 simp only [run2, ends_some, then_normal]
 refine code_cond_false ?_ ?_
 ·simp only [aev, regAt_set, Nat.reduceEqDiff, reduceIte]
 refine code_skip ?_
 simp only [then_normal]
 refine code_seq ?_
 refine code_region ?_ ?_
 ·rfl
 simp only [run1, go_sem, Nat.reduceLT, Nat.reduceAdd, Nat.reduceEqDiff, reduceIte, reduceCtorEq, faH0, ldA, hd0, a0, gg114, hal]
 refine code_seq ?_
 refine code_seq ?_
 refine code_region ?_ ?_
 ·rfl
 simp only [run1, go_sem, Nat.reduceLT, Nat.reduceAdd, Nat.reduceEqDiff, reduceIte, reduceCtorEq]
 refine code_cond_false ?_ ?_
 ·simp only [aev, regAt_set, Nat.reduceEqDiff, reduceIte]
 refine code_skip ?_
 simp only [then_normal]
 refine code_seq ?_
 refine code_draw (n := 10) (ms := [0, 1, 3, 7, 0, 0, 0, 96, 224, 511]) (ord := [5, 6, 7, 8, 0, 1, 2, 3, 4, 9]) (ds := ?_) ?_ ?_ ?_ ?_ ?_ ?_
 rotate_left
 ·kernel_rfl
 ·kernel_rfl
 ·kernel_rfl
 ·rfl
 ·rfl
 simp only [dRun, wanted, aDrawOne, heavy, aP, aReads, aR, aT, aCall, aCallVal, aev, regAt_set, aput_mk, aput_none, aNilCheck, faH0, ldA, hd1', hd2, bdH2, one, Addr.add, Nat.add_zero, Nat.zero_add, befM, eqVal_self, gg115, gg26, hwe, hS, endsD_some, Nat.reduceLT, if_true, then_normal, Nat.reduceEqDiff, if_false, reduceIte, decide_true, List.map_cons, List.map_nil, List.nil_append, List.append_nil]
 refine code_seq ?_
 refine code_region ?_ ?_
 ·rfl
 simp only [run1, go_sem, Nat.reduceLT, Nat.reduceAdd, Nat.reduceEqDiff, reduceIte, reduceCtorEq, gg37, single5_eq, Nat.reduceLeDiff]
 refine code_seq ?_
 by_cases h16 : 16 ≤ kd
 ·have hf : fillW kd = 0 := if_pos h16
  rw [hf]
  have hdd : decide (16 ≤ kd) = true := decide_eq_true h16
  refine code_seq ?_
  refine code_region ?_ ?_
  ·rfl
  simp only [run1, go_sem, Nat.reduceLT, Nat.reduceAdd, Nat.reduceEqDiff, reduceIte, reduceCtorEq, gg41, hraw, hdd, Nat.reduceLeDiff]
  refine code_cond_true ?_ ?_
  ·simp only [aev, regAt_set, Nat.reduceEqDiff, reduceIte]
  refine code_region ?_ ?_
  ·rfl
  simp only [run1, go_sem, Nat.reduceLT, Nat.reduceAdd, Nat.reduceEqDiff, reduceIte, reduceCtorEq]
  refine code_seq ?_
  refine code_seq ?_
  refine code_region ?_ ?_
  ·rfl
  simp only [run1, go_sem, Nat.reduceLT, Nat.reduceAdd, Nat.reduceEqDiff, reduceIte, reduceCtorEq]
  refine code_block ?_
  rw [show k + 390 = (k + 330 - n) + n + 60 from by omega]
  refine EndsC.mono (make_loop (q := q) (n := n) (fw := 0) (ws := put ws q hwd) hH3.head hH3.hw hq hN (k + 330 - n) n 0 _ μ3 (by omega) (Only.refl _ _) (by rw [zeros_zero]; exact hB3.arena) ?_ ?_ ?_ ?_ ?_) ?_
  ·simp only [regAt_set, Nat.reduceEqDiff, reduceIte] <;> rfl
  ·simp only [regAt_set, Nat.reduceEqDiff, reduceIte] <;> rfl
  ·simp only [regAt_set, Nat.reduceEqDiff, reduceIte] <;> rfl
  ·simp only [regAt_set, Nat.reduceEqDiff, reduceIte] <;> rfl
  ·simp only [regAt_set, Nat.reduceEqDiff, reduceIte]; rfl
  rintro x' r' μ' ⟨rfl, hO4, hA4, tm', rfl, g8⟩
  simp only [blockC, reduceIte, then_normal]
  have hB4 := hB3.only hO4 hA4
  have hC4 := hC3.only hO4 hB3.arena.apart
  have hpl : ∀ g, 40 ≤ g → aFun Tryz.prog (aCode Tryz.prog X S0 g) 116 [.int .i64 (.ofNat q)] μ' = some (.int .u64 (.ofNat (placeW q)), μ') := fun g hg => place_eq hg (by omega)
  refine code_seq ?_
  refine code_region ?_ ?_
  ·rfl
  simp only [run1, go_sem, Nat.reduceLT, Nat.reduceAdd, Nat.reduceEqDiff, reduceIte, reduceCtorEq, g8, gg116, hpl, Nat.reduceLeDiff]
  refine code_ret ?_
  refine ⟨rfl, _, ?_, rfl, hH3.keeps (Keeps.only hO4) (hhw ▸ hB4), hC4, (((Keeps.kept hK1).trans (Keeps.grow hg2)).trans (Keeps.only hO3)).trans (Keeps.only hO4)⟩
  simp only [aResults, Tryz.results80, aRes, regAt_set, Nat.reduceEqDiff, reduceIte]
 ·have hf : fillW kd = 45 := if_neg h16
  rw [hf]
  have hdd : decide (16 ≤ kd) = false := decide_eq_false h16
  refine code_seq ?_
  refine code_region ?_ ?_
  ·rfl
  simp only [run1, go_sem, Nat.reduceLT, Nat.reduceAdd, Nat.reduceEqDiff, reduceIte, reduceCtorEq, gg41, hraw, hdd, Nat.reduceLeDiff]
  refine code_cond_false ?_ ?_
  ·simp only [aev, regAt_set, Nat.reduceEqDiff, reduceIte]
  refine code_skip ?_
  simp only [then_normal]
  refine code_seq ?_
  refine code_seq ?_
  refine code_region ?_ ?_
  ·rfl
  simp only [run1, go_sem, Nat.reduceLT, Nat.reduceAdd, Nat.reduceEqDiff, reduceIte, reduceCtorEq]
  refine code_block ?_
  rw [show k + 390 = (k + 330 - n) + n + 60 from by omega]
  refine EndsC.mono (make_loop (q := q) (n := n) (fw := 45) (ws := put ws q hwd) hH3.head hH3.hw hq hN (k + 330 - n) n 0 _ μ3 (by omega) (Only.refl _ _) (by rw [zeros_zero]; exact hB3.arena) ?_ ?_ ?_ ?_ ?_) ?_
  ·simp only [regAt_set, Nat.reduceEqDiff, reduceIte] <;> rfl
  ·simp only [regAt_set, Nat.reduceEqDiff, reduceIte] <;> rfl
  ·simp only [regAt_set, Nat.reduceEqDiff, reduceIte] <;> rfl
  ·simp only [regAt_set, Nat.reduceEqDiff, reduceIte] <;> rfl
  ·simp only [regAt_set, Nat.reduceEqDiff, reduceIte]; rfl
  rintro x' r' μ' ⟨rfl, hO4, hA4, tm', rfl, g8⟩
  simp only [blockC, reduceIte, then_normal]
  have hB4 := hB3.only hO4 hA4
  have hC4 := hC3.only hO4 hB3.arena.apart
  have hpl : ∀ g, 40 ≤ g → aFun Tryz.prog (aCode Tryz.prog X S0 g) 116 [.int .i64 (.ofNat q)] μ' = some (.int .u64 (.ofNat (placeW q)), μ') := fun g hg => place_eq hg (by omega)
  refine code_seq ?_
  refine code_region ?_ ?_
  ·rfl
  simp only [run1, go_sem, Nat.reduceLT, Nat.reduceAdd, Nat.reduceEqDiff, reduceIte, reduceCtorEq, g8, gg116, hpl, Nat.reduceLeDiff]
  refine code_ret ?_
  refine ⟨rfl, _, ?_, rfl, hH3.keeps (Keeps.only hO4) (hhw ▸ hB4), hC4, (((Keeps.kept hK1).trans (Keeps.grow hg2)).trans (Keeps.only hO3)).trans (Keeps.only hO4)⟩
  simp only [aResults, Tryz.results80, aRes, regAt_set, Nat.reduceEqDiff, reduceIte]
end
noncomputable section
variable {X : FuncId → List Value → Mem → Option (Value × Mem)}
theorem iHp : Tryz.prog.info? 46 = some Tryz.t46 := by kernel_rfl
theorem faS0 (ρ : Operand → Value) (x : Operand) : aFieldAddr Tryz.prog ρ 62 x 0 = (match ρ x with | .pointer (some a) => some (.pointer (some (a.add 0))) | _ => none) := fieldAddr_at (ft := 46) (off := 0) Tryz.underlying62 rfl iHp rfl ρ x
theorem ldHp (μ : Mem) (i o : Nat) : aLoad Tryz.prog μ 46 (.pointer (some ⟨i, o, none⟩)) = cellsAt μ i o := load_at Tryz.underlying46 rfl μ i o
theorem AB.setw {μ μ' : Mem} {ap wb lb N L : Nat} {ws ws' : Nat → Nat} {ln : Nat → Bool} (h : AB μ ap wb lb N L ws ln) (hA : Arena μ' ap wb N ws') (hle : μ.next ≤ μ'.next) (hk : ∀ j, j < μ.next → j ≠ wb → μ'.obs.get j = μ.obs.get j) : AB μ' ap wb lb N L ws' ln :=
 ⟨hA, h.lines.keep (by unfold cellsAt; rw [hk ap h.n1 h.arena.apart]) (hk lb h.n3 (Ne.symm h.d2)), by unfold Blk; rw [hk ap h.n1 h.arena.apart]; exact h.blk, Nat.lt_of_lt_of_le h.n1 hle, Nat.lt_of_lt_of_le h.n2 hle, Nat.lt_of_lt_of_le h.n3 hle, h.d1, h.d2, h.N1, h.L1⟩
theorem AC.keeps {μ μ' : Mem} {ap sf st gf gt nx : Nat} (h : AC μ ap sf st gf gt nx) (g : μ'.obs.get ap = μ.obs.get ap) : AC μ' ap sf st gf gt nx := by
 have e : ∀ p, cellsAt μ' ap p = cellsAt μ ap p := fun p => by unfold cellsAt; rw [g]
 exact ⟨(e _).trans h.c2, (e _).trans h.c3, (e _).trans h.c4, (e _).trans h.c5, (e _).trans h.c8⟩
theorem Keeps.of {μ μ' : Mem} {ap wb lb : Nat} (hle : μ.next ≤ μ'.next) (hk : ∀ j, j < μ.next → j ≠ wb → μ'.obs.get j = μ.obs.get j) : Keeps μ μ' ap wb lb := ⟨hle, fun i hi _ h2 _ => hk i hi h2⟩
theorem Keeps.cell {μ μ' : Mem} {ap wb lb i p : Nat} (h : Keeps μ μ' ap wb lb) (hi : i < μ.next) (h1 : i ≠ ap) (h2 : i ≠ wb) (h3 : i ≠ lb) : cellsAt μ' i p = cellsAt μ i p := by unfold cellsAt; rw [h.2 i hi h1 h2 h3]
def wr (ws : Nat → Nat) (q : Nat) (f : Nat → Nat) (j : Nat) : Nat → Nat := fun k => if q < k ∧ k ≤ q + j then f (k - q - 1) else ws k
theorem wr_zero (ws : Nat → Nat) (q : Nat) (f : Nat → Nat) : wr ws q f 0 = ws := by funext k; unfold wr; rw [if_neg (by omega)]
theorem wr_succ (ws : Nat → Nat) (q : Nat) (f : Nat → Nat) (j : Nat) : put (wr ws q f j) (q + 1 + j) (f j) = wr ws q f (j + 1) := by
 funext k; unfold put wr
 by_cases h : k = q + 1 + j
 ·rw [if_pos h, if_pos (by omega), show k - q - 1 = j from by omega]
 ·rw [if_neg h]
  by_cases h2 : q < k ∧ k ≤ q + j
  ·rw [if_pos h2, if_pos (by omega)]
  ·rw [if_neg h2, if_neg (by omega)]
set_option maxHeartbeats 4000000 in
theorem raw_loop {sp hp ap wb lb N L q kd n li c : Nat} {f : Nat → Nat} {ws : Nat → Nat} {ln : Nat → Bool} {μ0 : Mem} (hsp : cellsAt μ0 sp 0 = some (.pointer (some ⟨hp, 0, none⟩))) (hsn : sp < μ0.next) (s1 : sp ≠ ap) (s2 : sp ≠ wb) (s3 : sp ≠ lb)
  (hli : ∀ k, k < n → cellsAt μ0 li k = some (.int .u64 (.ofNat (f k)))) (hln : li < μ0.next) (l1 : li ≠ ap) (l2 : li ≠ wb) (l3 : li ≠ lb) (hq : q + n < N) (hw : ws q = headW kd 0 n) (hkd : kd < 32) :
  ∀ (e m j : Nat) (tm : T Value) (μ : Mem), j + m = n → HS μ hp ap wb lb N L (wr ws q f j) ln → Keeps μ0 μ ap wb lb → μ.obs.get ap = μ0.obs.get ap → regAt tm 0 = .pointer (some ⟨sp, 0, none⟩) → regAt tm 8 = .int .u64 (.ofNat (placeW q)) → regAt tm 25 = .slice (some ⟨li, 0, none⟩) n c → regAt tm 26 = .int .i64 (.ofNat n) → regAt tm 27 = .int .i64 (.ofNat j) →
   EndsC (aCode Tryz.prog X S0 (e + m + 100) (.loop (loopBody Tryz.f42 0)) ⟨42, tm, [], none⟩ μ) fun x r μ' => x = .exit 0 ∧ HS μ' hp ap wb lb N L (wr ws q f n) ln ∧ Keeps μ0 μ' ap wb lb ∧ μ'.obs.get ap = μ0.obs.get ap ∧ ∃ tm', r = ⟨42, tm', [], none⟩ ∧ regAt tm' 8 = .int .u64 (.ofNat (placeW q)) := by
 intro e m
 induction m with
 | zero =>
   intro j tm μ hj hH hK hap r0 r8 r25 r26 r27
   obtain rfl : j = n := hj
   refine code_loop ?_
   refine code_seq ?_
   refine code_region ?_ ?_
   ·rfl
   simp only [run1, go_sem, Nat.reduceLT, Nat.reduceAdd, Nat.reduceEqDiff, reduceIte, reduceCtorEq, r27, r26, ilt_nat, Nat.lt_irrefl]
   refine code_seq ?_
   refine code_cond_false ?_ ?_
   ·simp only [aev, regAt_set, Nat.reduceEqDiff, reduceIte]
   refine code_exit ?_
   simp only [then_exit]
   exact ⟨trivial, hH, hK, hap, _, rfl, by simp only [regAt_set, Nat.reduceEqDiff, reduceIte, r8]⟩
 | succ m ih =>
   intro j tm μ hj hH hK hap r0 r8 r25 r26 r27
   have hlt : j < n := by omega
   have hsp' := (hK.cell (p := 0) hsn s1 s2 s3).trans hsp
   have hli' := (hK.cell (p := j) hln l1 l2 l3).trans (hli j hlt)
   have hia : ∀ ρ : Operand → Value, ∀ a b', ρ a = .slice (some ⟨li, 0, none⟩) n c → ρ b' = .int .i64 (.ofNat j) → aIndexAddr Tryz.prog ρ 114 a b' = some (.pointer (some ⟨li, j, none⟩)) := fun ρ a b' g1 g2 => by
    rw [indexAddr_slice (P := Tryz.prog) Tryz.underlying114 iW rfl g1 g2 hlt, Nat.zero_add]
   have a3 : qwrap .i64 (Int.add (.ofNat j) 1) = .ofNat (j + 1) := add_nat j 1 (by have := hH.ab.N1; omega)
   have hwq : wr ws q f j q = headW kd 0 n := by unfold wr; rw [if_neg (by omega)]; exact hw
   obtain ⟨v1, μ1, hS, hv1, hA1, hn1, hk1⟩ := heap_set (X := X) (k := e + (m + 1) + 13) (w := f j) (i := j) hH.at hq hH.ab.N1 hwq hkd (by decide) hlt
   subst hv1
   have hS : aFun Tryz.prog (aCode Tryz.prog X S0 (e + (m + 1) + 93)) 11 [.pointer (some ⟨hp, 0, none⟩), .int .u64 (.ofNat (placeW q)), .int .i64 (.ofNat j), .int .u64 (.ofNat (f j))] μ = some (.int .i64 0, μ1) := hS
   rw [wr_succ] at hA1
   have hK1 : Keeps μ μ1 ap wb lb := Keeps.of hn1 hk1
   have hH1 := hH.keeps hK1 (hH.ab.setw hA1.arena hn1 hk1)
   refine code_loop ?_
   refine code_seq ?_
   refine code_region ?_ ?_
   ·rfl
   simp only [run1, go_sem, Nat.reduceLT, Nat.reduceAdd, Nat.reduceEqDiff, reduceIte, reduceCtorEq, r27, r26, ilt_nat, hlt]
   refine code_seq ?_
   refine code_cond_true ?_ ?_
   ·simp only [aev, regAt_set, Nat.reduceEqDiff, reduceIte]
   refine code_skip ?_
   simp only [then_normal]
   refine code_seq ?_
   refine code_block ?_
   refine code_seq ?_
   refine code_region ?_ ?_
   ·rfl
   simp only [run1, go_sem, Nat.reduceLT, Nat.reduceAdd, Nat.reduceEqDiff, reduceIte, reduceCtorEq, r25, r27, hia, ldW, hli']
   refine code_region ?_ ?_
   ·rfl
   simp only [run1, go_sem, Nat.reduceLT, Nat.reduceAdd, Nat.reduceEqDiff, reduceIte, reduceCtorEq, r0, r8, faS0, ldHp, hsp', gg11, hS]
   simp only [blockC, then_normal]
   refine code_region ?_ ?_
   ·rfl
   simp only [run1, go_sem, Nat.reduceLT, Nat.reduceAdd, Nat.reduceEqDiff, reduceIte, reduceCtorEq, r27, a3]
   rw [show e + (m + 1) + 99 = e + m + 100 from by omega]
   refine ih (j + 1) _ _ (by omega) hH1 (hK.trans hK1) ((hk1 ap hH.ab.n1 hH.ab.arena.apart).trans hap) ?_ ?_ ?_ ?_ ?_ <;> simp only [regAt_set, Nat.reduceEqDiff, reduceIte, r0, r8, r25, r26]
set_option maxHeartbeats 4000000 in
theorem raw_ends {g sp hp ap wb lb N L q kd n li c sf' st' gf' gt' nx' : Nat} {f : Nat → Nat} {ws : Nat → Nat} {ln ln' : Nat → Bool} {μ μ1 : Mem} (hg : 500 ≤ g) (hsp : cellsAt μ sp 0 = some (.pointer (some ⟨hp, 0, none⟩))) (hsn : sp < μ.next) (s1 : sp ≠ ap) (s2 : sp ≠ wb) (s3 : sp ≠ lb)
  (hli : ∀ k, k < n → cellsAt μ li k = some (.int .u64 (.ofNat (f k)))) (hln : li < μ.next) (l1 : li ≠ ap) (l2 : li ≠ wb) (l3 : li ≠ lb) (hH : HS μ hp ap wb lb N L ws ln) (h2 : kd < 32) (hn : n ≤ 240) (hq : q + n < N)
  (hal : aFun Tryz.prog (aCode Tryz.prog X S0 (g - 7)) 114 [.pointer (some ⟨ap, 0, none⟩), .int .i64 (.ofNat (n + 1))] μ = some (.tuple #[.int .i64 (.ofNat q), .bool true], μ1)) (hB1 : AB μ1 ap wb lb N L ws ln') (hC1 : AC μ1 ap sf' st' gf' gt' nx') (hK1 : Kept μ μ1 ap lb) :
  EndsF (aFun Tryz.prog (aCode Tryz.prog X S0 g) 42 [.pointer (some ⟨sp, 0, none⟩), .int .i64 (.ofNat kd), .slice (some ⟨li, 0, none⟩) n c] μ) fun v μ' => v = .tuple #[.int .u64 (.ofNat (placeW q)), .bool true] ∧ HS μ' hp ap wb lb N L (wr (zeros (fillW kd) (put ws q (headW kd 0 n)) q n) q f n) ln' ∧ AC μ' ap sf' st' gf' gt' nx' ∧ Keeps μ μ' ap wb lb := by
 obtain ⟨k, rfl⟩ := Nat.exists_eq_add_of_le' hg
 obtain ⟨v2, μ2, hmk, hv2, hH2, hC2, hK2⟩ := heap_make (X := X) (g := k + 497) (by omega) hH h2 hn hq hal hB1 hC1 hK1
 subst hv2
 have hsp2 := (hK2.cell (p := 0) hsn s1 s2 s3).trans hsp
 have hli2 : ∀ k, k < n → cellsAt μ2 li k = some (.int .u64 (.ofNat (f k))) := fun k hk => (hK2.cell hln l1 l2 l3).trans (hli k hk)
 refine fun_enter Tryz.func42 rfl rfl (Nat.le_of_ble_eq_true rfl) ?_
 simp only [T.lay, Nat.zero_add, Tryz.ntmps42, Nat.reduceAdd]
 refine code_seq ?_
 refine code_region ?_ ?_
 ·rfl
 simp only [run1, go_sem, Nat.reduceLT, Nat.reduceAdd, Nat.reduceEqDiff, reduceIte, reduceCtorEq]
 refine code_seq ?_
 refine code_region ?_ ?_
 ·rfl
 simp only [run1, go_sem, Nat.reduceLT, Nat.reduceAdd, Nat.reduceEqDiff, reduceIte, reduceCtorEq, faS0, ldHp, hsp, aBuiltin, aLen, Tryz.underlying114, cast_nat, gg80, hmk]
 refine code_seq ?_
 refine code_seq ?_
 refine code_region ?_ ?_
 ·rfl
 simp only [run1, go_sem, Nat.reduceLT, Nat.reduceAdd, Nat.reduceEqDiff, reduceIte, reduceCtorEq]
 refine code_cond_false ?_ ?_
 ·simp only [aev, regAt_set, Nat.reduceEqDiff, reduceIte]
 refine code_skip ?_
 simp only [then_normal]
 refine code_seq ?_
 refine code_seq ?_
 refine code_region ?_ ?_
 ·rfl
 simp only [run1, go_sem, Nat.reduceLT, Nat.reduceAdd, Nat.reduceEqDiff, reduceIte, reduceCtorEq, aBuiltin, aLen, Tryz.underlying114, cast_nat]
 refine code_block ?_
 rw [show k + 494 = (k + 394 - n) + n + 100 from by omega]
 refine EndsC.mono (raw_loop (c := c) (f := f) (ws := zeros (fillW kd) (put ws q (headW kd 0 n)) q n) (ln := ln') hsp2 (Nat.lt_of_lt_of_le hsn hK2.1) s1 s2 s3 hli2 (Nat.lt_of_lt_of_le hln hK2.1) l1 l2 l3 hq (by unfold zeros; rw [if_neg (by omega)]; unfold put; rw [if_pos rfl]) h2 (k + 394 - n) n 0 _ μ2 (by omega) (by rw [wr_zero]; exact hH2) ⟨Nat.le_refl _, fun _ _ _ _ _ => rfl⟩ rfl ?_ ?_ ?_ ?_ ?_) ?_
 ·simp only [regAt_set, Nat.reduceEqDiff, reduceIte]
 ·simp only [regAt_set, Nat.reduceEqDiff, reduceIte]
 ·simp only [regAt_set, Nat.reduceEqDiff, reduceIte]
 ·simp only [regAt_set, Nat.reduceEqDiff, reduceIte]
 ·simp only [regAt_set, Nat.reduceEqDiff, reduceIte]; rfl
 rintro x' r' μ' ⟨rfl, hH3, hK3, hap3, tm', rfl, g8⟩
 simp only [blockC, reduceIte, then_normal]
 refine code_seq ?_
 refine code_region ?_ ?_
 ·rfl
 simp only [run1, go_sem, Nat.reduceLT, Nat.reduceAdd, Nat.reduceEqDiff, reduceIte, reduceCtorEq, g8]
 refine code_ret ?_
 refine ⟨rfl, _, ?_, rfl, hH3, hC2.keeps hap3, hK2.trans hK3⟩
 simp only [aResults, Tryz.results42, aRes, regAt_set, Nat.reduceEqDiff, reduceIte]
end
noncomputable section
variable {X : FuncId → List Value → Mem → Option (Value × Mem)}
def wsO (n : Nat) : Ob := .cells n 27 #[.int .u64 0] .e 0 0 false false
theorem zW : aZeroOf Tryz.prog 27 = some (.int .u64 0) := by unfold aZeroOf; rw [iW]; rfl
theorem msW (n : Nat) (h : n < 1000000) : aMakeSlice Tryz.prog 114 (.int .i64 (.ofNat n)) (.int .i64 (.ofNat n)) = some (wsO n, fun id => .slice (some ⟨id, 0, none⟩) n (2 * n)) := by
 have e1 : Nat.ble n n = true := Nat.ble_eq_true_of_le (Nat.le_refl _)
 have e2 : Nat.ble n 1073741824 = true := Nat.ble_eq_true_of_le (by omega)
 have e3 : Nat.ble (Nat.mul n Tryz.t27.bytes) 1099511627776 = true := Nat.ble_eq_true_of_le (by show n * 8 ≤ 1099511627776; omega)
 have e4 : Nat.mul n Tryz.t27.size = n := Nat.mul_one n
 have e5 : Nat.beq (cellsL (.int .u64 0)).length Tryz.t27.size = true := rfl
 unfold aMakeSlice
 simp only [Tryz.underlying114, iW, e1, e2, e3, zW, e5, e4]
 rfl
set_option maxHeartbeats 4000000 in
theorem fields_no {g sp hp ap wb N q kd kd' pn n : Nat} {ws : Nat → Nat} {μ : Mem} (hg : 150 ≤ g) (hsp : cellsAt μ sp 0 = some (.pointer (some ⟨hp, 0, none⟩))) (hH : HeapAt μ hp ap wb N ws) (hq : q < N) (hN : N < 1000000) (hw : ws q = headW kd pn n) (h1 : kd < 32) (h2 : pn < 8) (h3 : n < 1000000) (hne : kd ≠ kd') :
  EndsF (aFun Tryz.prog (aCode Tryz.prog X S0 g) 44 [.pointer (some ⟨sp, 0, none⟩), .int .i64 (.ofNat kd'), .int .u64 (.ofNat (placeW q))] μ) fun v μ' => v = .tuple #[.slice none 0 0, .bool false] ∧ Grow μ μ' := by
 obtain ⟨k, rfl⟩ := Nat.exists_eq_add_of_le' hg
 obtain ⟨v1, μ1, hk, hv1, hg1⟩ := heap_kind (X := X) (k := k + 66) hH hq hN hw h1 h2 h3
 subst hv1
 have hk : aFun Tryz.prog (aCode Tryz.prog X S0 (k + 146)) 47 [.pointer (some ⟨hp, 0, none⟩), .int .u64 (.ofNat (placeW q))] μ = some (.int .i64 (.ofNat kd), μ1) := hk
 have hd : decide (kd = kd') = false := decide_eq_false hne
 refine fun_enter Tryz.func44 rfl rfl (Nat.le_of_ble_eq_true rfl) ?_
 simp only [T.lay, Nat.zero_add, Tryz.ntmps44, Nat.reduceAdd]
 refine code_seq ?_
 refine code_region ?_ ?_
 ·rfl
 simp only [run1, go_sem, Nat.reduceLT, Nat.reduceAdd, Nat.reduceEqDiff, reduceIte, reduceCtorEq]
 refine code_seq ?_
 refine code_seq ?_
 refine code_region ?_ ?_
 ·rfl
 simp only [run1, go_sem, Nat.reduceLT, Nat.reduceAdd, Nat.reduceEqDiff, reduceIte, reduceCtorEq, faS0, ldHp, hsp, gg47, hk, ieq_nat, hd]
 refine code_cond_true ?_ ?_
 ·simp only [aev, regAt_set, Nat.reduceEqDiff, reduceIte]
 refine code_seq ?_
 refine code_region ?_ ?_
 ·rfl
 simp only [run1, go_sem, Nat.reduceLT, Nat.reduceAdd, Nat.reduceEqDiff, reduceIte, reduceCtorEq]
 refine code_ret ?_
 refine ⟨rfl, _, ?_, rfl, hg1⟩
 simp only [aResults, Tryz.results44, aRes, regAt_set, Nat.reduceEqDiff, reduceIte]
set_option maxHeartbeats 4000000 in
theorem fields_loop {sp hp ap wb N q kd n oi c : Nat} {ws : Nat → Nat} {μ0 : Mem} (hsp : cellsAt μ0 sp 0 = some (.pointer (some ⟨hp, 0, none⟩))) (hsn : sp < μ0.next) (hH0 : HeapAt μ0 hp ap wb N ws) (hq : q + n < N) (hN : N < 1000000) (hw : ws q = headW kd 0 n) (hkd : kd < 32) (hoi : μ0.next ≤ oi) :
  ∀ (e m j : Nat) (tm : T Value) (μ : Mem), j + m = n → Grow μ0 μ → oi < μ.next → Blk μ oi n 27 → (∀ i, i < j → cellsAt μ oi i = some (.int .u64 (.ofNat (ws (q + 1 + i))))) → regAt tm 0 = .pointer (some ⟨sp, 0, none⟩) → regAt tm 2 = .int .u64 (.ofNat (placeW q)) → regAt tm 8 = .slice (some ⟨oi, 0, none⟩) n c → regAt tm 26 = .int .i64 (.ofNat n) → regAt tm 27 = .int .i64 (.ofNat j) →
   EndsC (aCode Tryz.prog X S0 (e + m + 100) (.loop (loopBody Tryz.f44 0)) ⟨45, tm, [], none⟩ μ) fun x r μ' => x = .exit 0 ∧ Grow μ0 μ' ∧ oi < μ'.next ∧ Blk μ' oi n 27 ∧ (∀ i, i < n → cellsAt μ' oi i = some (.int .u64 (.ofNat (ws (q + 1 + i))))) ∧ ∃ tm', r = ⟨45, tm', [], none⟩ ∧ regAt tm' 8 = .slice (some ⟨oi, 0, none⟩) n c := by
 intro e m
 induction m with
 | zero =>
   intro j tm μ hj hG hon hb hc r0 r2 r8 r26 r27
   obtain rfl : j = n := hj
   refine code_loop ?_
   refine code_seq ?_
   refine code_region ?_ ?_
   ·rfl
   simp only [run1, go_sem, Nat.reduceLT, Nat.reduceAdd, Nat.reduceEqDiff, reduceIte, reduceCtorEq, r27, r26, ilt_nat, Nat.lt_irrefl]
   refine code_seq ?_
   refine code_cond_false ?_ ?_
   ·simp only [aev, regAt_set, Nat.reduceEqDiff, reduceIte]
   refine code_exit ?_
   simp only [then_exit]
   exact ⟨trivial, hG, hon, hb, hc, _, rfl, by simp only [regAt_set, Nat.reduceEqDiff, reduceIte, r8]⟩
 | succ m ih =>
   intro j tm μ hj hG hon hb hc r0 r2 r8 r26 r27
   have hlt : j < n := by omega
   have hsp' : cellsAt μ sp 0 = some (.pointer (some ⟨hp, 0, none⟩)) := by rw [← hsp]; unfold cellsAt; rw [hG.2 sp hsn]
   have hH := hH0.keep hG
   have a3 : qwrap .i64 (Int.add (.ofNat j) 1) = .ofNat (j + 1) := add_nat j 1 (by omega)
   obtain ⟨v1, μ1, hS, hv1, hg1⟩ := heap_get (X := X) (k := e + (m + 1) + 13) (i := j) hH hq hN hw hkd (by decide) hlt
   subst hv1
   obtain ⟨w, hwd⟩ : ∃ w, w = ws (q + 1 + j) := ⟨_, rfl⟩
   rw [← hwd] at hS
   have hS : aFun Tryz.prog (aCode Tryz.prog X S0 (e + (m + 1) + 93)) 51 [.pointer (some ⟨hp, 0, none⟩), .int .u64 (.ofNat (placeW q)), .int .i64 (.ofNat j)] μ = some (.tuple #[.int .u64 (.ofNat w), .int .i64 0], μ1) := hS
   have hia : ∀ ρ : Operand → Value, ∀ a b', ρ a = .slice (some ⟨oi, 0, none⟩) n c → ρ b' = .int .i64 (.ofNat j) → aIndexAddr Tryz.prog ρ 114 a b' = some (.pointer (some ⟨oi, j, none⟩)) := fun ρ a b' g1 g2 => by
    rw [indexAddr_slice (P := Tryz.prog) Tryz.underlying114 iW rfl g1 g2 hlt, Nat.zero_add]
   have hb1 : Blk μ1 oi n 27 := by unfold Blk; rw [hg1.2 oi hon]; exact hb
   have hst := store_put (t := 27) (v := .int .u64 (.ofNat w)) iW rfl rfl hb1 hlt
   have hG1 := hG.trans hg1
   have hG2 : Grow μ0 (putL μ1 oi j [.int .u64 (.ofNat w)]) := ⟨by rw [putL_next]; exact hG1.1, fun i hi => by rw [putL_get _ _ _ _ (by omega)]; exact hG1.2 i hi⟩
   refine code_loop ?_
   refine code_seq ?_
   refine code_region ?_ ?_
   ·rfl
   simp only [run1, go_sem, Nat.reduceLT, Nat.reduceAdd, Nat.reduceEqDiff, reduceIte, reduceCtorEq, r27, r26, ilt_nat, hlt]
   refine code_seq ?_
   refine code_cond_true ?_ ?_
   ·simp only [aev, regAt_set, Nat.reduceEqDiff, reduceIte]
   refine code_skip ?_
   simp only [then_normal]
   refine code_seq ?_
   refine code_block ?_
   refine code_seq ?_
   refine code_region ?_ ?_
   ·rfl
   simp only [run1, go_sem, Nat.reduceLT, Nat.reduceAdd, Nat.reduceEqDiff, reduceIte, reduceCtorEq, r27]
   refine code_region ?_ ?_
   ·rfl
   simp only [run1, go_sem, Nat.reduceLT, Nat.reduceAdd, Nat.reduceEqDiff, reduceIte, reduceCtorEq, r0, r2, r8, faS0, ldHp, hsp', gg51, hS, hia, hst]
   simp only [blockC, then_normal]
   refine code_region ?_ ?_
   ·rfl
   simp only [run1, go_sem, Nat.reduceLT, Nat.reduceAdd, Nat.reduceEqDiff, reduceIte, reduceCtorEq, r27, a3]
   rw [show e + (m + 1) + 99 = e + m + 100 from by omega]
   refine ih (j + 1) _ _ (by omega) hG2 (by rw [putL_next]; exact Nat.lt_of_lt_of_le hon hg1.1) (hb1.put _ _) (fun i hi => ?_) ?_ ?_ ?_ ?_ ?_
   ·rw [cells_put hb1 (by show j + 1 ≤ n; omega)]
    by_cases hij : i = j
    ·subst hij
     rw [dif_pos ⟨rfl, Nat.le_refl _, by show i < i + 1; omega⟩, ← hwd]
     simp
    ·rw [dif_neg (by rintro ⟨_, g1, g2⟩; simp only [List.length_cons, List.length_nil] at g2; omega)]
     rw [← hc i (by omega)]; unfold cellsAt; rw [hg1.2 oi hon]
   all_goals simp only [regAt_set, Nat.reduceEqDiff, reduceIte, r0, r2, r8, r26]
set_option maxHeartbeats 4000000 in
theorem fields_yes {g sp hp ap wb N q kd n : Nat} {ws : Nat → Nat} {μ : Mem} (hg : 400 ≤ g) (hsp : cellsAt μ sp 0 = some (.pointer (some ⟨hp, 0, none⟩))) (hsn : sp < μ.next) (hH : HeapAt μ hp ap wb N ws) (hq : q + n < N) (hN : N < 1000000) (hw : ws q = headW kd 0 n) (h1 : kd < 32) (hn : n ≤ 240) :
  EndsF (aFun Tryz.prog (aCode Tryz.prog X S0 g) 44 [.pointer (some ⟨sp, 0, none⟩), .int .i64 (.ofNat kd), .int .u64 (.ofNat (placeW q))] μ) fun v μ' => ∃ oi, v = .tuple #[.slice (some ⟨oi, 0, none⟩) n (2 * n), .bool true] ∧ Grow μ μ' ∧ μ.next ≤ oi ∧ oi < μ'.next ∧ ∀ i, i < n → cellsAt μ' oi i = some (.int .u64 (.ofNat (ws (q + 1 + i)))) := by
 obtain ⟨k, rfl⟩ := Nat.exists_eq_add_of_le' hg
 obtain ⟨v1, μ1, hk, hv1, hg1⟩ := heap_kind (X := X) (k := k + 316) hH (by omega) hN hw h1 (by decide) (by omega)
 subst hv1
 have hk : aFun Tryz.prog (aCode Tryz.prog X S0 (k + 396)) 47 [.pointer (some ⟨hp, 0, none⟩), .int .u64 (.ofNat (placeW q))] μ = some (.int .i64 (.ofNat kd), μ1) := hk
 have hH1 := hH.keep hg1
 have hsp1 : cellsAt μ1 sp 0 = some (.pointer (some ⟨hp, 0, none⟩)) := by rw [← hsp]; unfold cellsAt; rw [hg1.2 sp hsn]
 obtain ⟨v2, μ2, hs, hv2, hg2⟩ := heap_size (X := X) (k := k + 316) hH1 (by omega) hN hw h1 (by decide) (by omega)
 subst hv2
 have hs : aFun Tryz.prog (aCode Tryz.prog X S0 (k + 396)) 81 [.pointer (some ⟨hp, 0, none⟩), .int .u64 (.ofNat (placeW q))] μ1 = some (.int .i64 (.ofNat n), μ2) := hs
 have hg12 := hg1.trans hg2
 have hsn2 := Nat.lt_of_lt_of_le hsn hg12.1
 have hH2 := hH.keep hg12
 have hsp2 : cellsAt μ2 sp 0 = some (.pointer (some ⟨hp, 0, none⟩)) := by rw [← hsp]; unfold cellsAt; rw [hg12.2 sp hsn]
 have hgn := grow1 μ2 (wsO n)
 have hd : decide (kd = kd) = true := decide_eq_true rfl
 have hms := msW n (by omega)
 refine fun_enter Tryz.func44 rfl rfl (Nat.le_of_ble_eq_true rfl) ?_
 simp only [T.lay, Nat.zero_add, Tryz.ntmps44, Nat.reduceAdd]
 refine code_seq ?_
 refine code_region ?_ ?_
 ·rfl
 simp only [run1, go_sem, Nat.reduceLT, Nat.reduceAdd, Nat.reduceEqDiff, reduceIte, reduceCtorEq]
 refine code_seq ?_
 refine code_seq ?_
 refine code_region ?_ ?_
 ·rfl
 simp only [run1, go_sem, Nat.reduceLT, Nat.reduceAdd, Nat.reduceEqDiff, reduceIte, reduceCtorEq, faS0, ldHp, hsp, gg47, hk, ieq_nat, hd]
 refine code_cond_false ?_ ?_
 ·simp only [aev, regAt_set, Nat.reduceEqDiff, reduceIte]
 refine code_skip ?_
 simp only [then_normal]
 refine code_seq ?_
 refine code_region ?_ ?_
 ·rfl
 simp only [run1, go_sem, Nat.reduceLT, Nat.reduceAdd, Nat.reduceEqDiff, reduceIte, reduceCtorEq, faS0, ldHp, hsp1, gg81, hs, hms]
 refine code_seq ?_
 refine code_seq ?_
 refine code_region ?_ ?_
 ·rfl
 simp only [run1, go_sem, Nat.reduceLT, Nat.reduceAdd, Nat.reduceEqDiff, reduceIte, reduceCtorEq, aBuiltin, aLen, Tryz.underlying114, cast_nat]
 refine code_block ?_
 rw [show k + 394 = (k + 294 - n) + n + 100 from by omega]
 refine EndsC.mono (fields_loop (c := 2 * n) (oi := μ2.next) hsp2 hsn2 hH2 hq hN hw h1 (Nat.le_refl _) (k + 294 - n) n 0 _ ⟨μ2.obs.set μ2.next (wsO n), μ2.next + 1⟩ (by omega) hgn (Nat.lt_succ_self _) ⟨_, _, _, _, by show T.get _ _ = _; rw [T.get_set, if_pos rfl]; rfl⟩ (fun i hi => absurd hi (Nat.not_lt_zero i)) ?_ ?_ ?_ ?_ ?_) ?_
 ·simp only [regAt_set, Nat.reduceEqDiff, reduceIte]
 ·simp only [regAt_set, Nat.reduceEqDiff, reduceIte]
 ·simp only [regAt_set, Nat.reduceEqDiff, reduceIte]
 ·simp only [regAt_set, Nat.reduceEqDiff, reduceIte]
 ·simp only [regAt_set, Nat.reduceEqDiff, reduceIte]; rfl
 rintro x' r' μ' ⟨rfl, hG, hon, hb, hc, tm', rfl, g8⟩
 simp only [blockC, reduceIte, then_normal]
 refine code_seq ?_
 refine code_region ?_ ?_
 ·rfl
 simp only [run1, go_sem, Nat.reduceLT, Nat.reduceAdd, Nat.reduceEqDiff, reduceIte, reduceCtorEq, g8]
 refine code_ret ?_
 refine ⟨rfl, _, ?_, μ2.next, rfl, hg12.trans hG, hg12.1, hon, hc⟩
 simp only [aResults, Tryz.results44, aRes, regAt_set, Nat.reduceEqDiff, reduceIte]
end
noncomputable section
variable {X : FuncId → List Value → Mem → Option (Value × Mem)}
structure Own (e : TypeId) (μ0 μ : Mem) (v : Value) (xs : List Value) : Prop where
 good : GoodSl μ e v xs
 grow : Grow μ0 μ
 above : ∀ i, SlAt v i → μ0.next ≤ i ∧ i < μ.next
theorem Own.nil (e : TypeId) (μ : Mem) : Own e μ μ (.slice none 0 0) [] := ⟨.inl ⟨rfl, rfl⟩, Grow.refl _, fun i h => by obtain ⟨l, c, h⟩ := h; cases h⟩
theorem Own.keep {e : TypeId} {μ0 μ μ' : Mem} {v : Value} {xs : List Value} (h : Own e μ0 μ v xs) (hg : Grow μ μ') : Own e μ0 μ' v xs :=
 ⟨h.good.keep fun i hi => hg.2 i (h.above i hi).2, h.grow.trans hg, fun i hi => ⟨(h.above i hi).1, Nat.lt_of_lt_of_le (h.above i hi).2 hg.1⟩⟩
theorem Own.push {st e : TypeId} {inf : TypeInfo} {z0 : Value} (hu : Tryz.prog.underlying st = some (.slice e)) (hi : Tryz.prog.info? e = some inf) (hsz : inf.size = 1) (hby : Nat.ble inf.bytes 4096 = true) (hz : aZeroOf Tryz.prog e = some z0) (hzl : (cellsL z0).length = 1)
  {μ0 μ : Mem} {v x : Value} {xs : List Value} (h : Own e μ0 μ v xs) (hn : xs.length < 1000000) (hs : scalar x = true) :
  ∃ v' μ', aAppend Tryz.prog ⟨μ.obs.set μ.next (.cells 1 e #[x] .e 0 0 false false), Nat.add μ.next 1⟩ st st v (.slice (some ⟨μ.next, 0, none⟩) 1 2) = some (v', μ') ∧ Own e μ0 μ' v' (xs ++ [x]) := by
 have hg1 : Grow μ ⟨μ.obs.set μ.next (.cells 1 e #[x] .e 0 0 false false), Nat.add μ.next 1⟩ := grow1 μ _
 have h1 := h.keep hg1
 obtain ⟨v', μ', ha, hg, hnx, hat, hk⟩ := append_one (P := Tryz.prog) (st := st) (x := x) (q := μ.next) hu hi hsz hby hz hzl h1.good (by show T.get _ _ = _; rw [T.get_set, if_pos rfl]) hn hs
 have hnx' : μ'.next = μ.next + 1 + 1 := hnx
 refine ⟨v', μ', ha, hg, ⟨?_, fun i hi => ?_⟩, fun i hi => ?_⟩
 ·have := h.grow.1; omega
 ·have h0 := h.grow.1
  rw [hk i (by show i ≠ μ.next + 1; omega) (fun hv => by have := (h1.above i hv).1; omega)]
  exact h1.grow.2 i hi
 ·obtain ⟨l, c, hv⟩ := hat
  obtain ⟨l', c', hv'⟩ := hi
  rw [hv] at hv'
  injection hv' with e1
  injection e1 with e2
  injection e2 with e3
  have e4 : i = μ.next + 1 := e3.symm
  have h0 := h.grow.1
  omega
def wl (k : IntKind) (f : Nat → Nat) (m : Nat) : List Value := (List.range m).map fun i => .int k (.ofNat (f i))
theorem wl_length (k : IntKind) (f : Nat → Nat) (m : Nat) : (wl k f m).length = m := by simp [wl]
theorem wl_succ (k : IntKind) (f : Nat → Nat) (m : Nat) : wl k f (m + 1) = wl k f m ++ [.int k (.ofNat (f m))] := by simp [wl, List.range_succ]
theorem wl_get (k : IntKind) (f : Nat → Nat) (m i : Nat) (h : i < (wl k f m).length) : (wl k f m)[i] = .int k (.ofNat (f i)) := by simp [wl]
theorem GoodSl.cell {μ : Mem} {e : TypeId} {v : Value} {kd : IntKind} {f : Nat → Nat} {m : Nat} (h : GoodSl μ e v (wl kd f m)) {i c k : Nat} (hv : v = .slice (some ⟨i, 0, none⟩) m c) (hk : k < m) : cellsAt μ i k = some (.int kd (.ofNat (f k))) := by
 rw [cellsAt_good h hv (by rw [wl_length]; exact hk), wl_get]
theorem Own.set {e : TypeId} {μ0 μ : Mem} {kd : IntKind} {f g : Nat → Nat} {m i c : Nat} {b : Nat} (h : Own e μ0 μ (.slice (some ⟨b, 0, none⟩) m c) (wl kd f m)) (hi : i < m) (hgf : ∀ j, j < m → j ≠ i → g j = f j) : Own e μ0 (putL μ b i [.int kd (.ofNat (g i))]) (.slice (some ⟨b, 0, none⟩) m c) (wl kd g m) := by
 obtain ⟨hg, hgr, hab⟩ := h
 have hb := hab b ⟨m, c, rfl⟩
 refine ⟨?_, ⟨by rw [putL_next]; exact hgr.1, fun j hj => by rw [putL_get _ _ _ _ (by omega)]; exact hgr.2 j hj⟩, fun j hj => by rw [putL_next]; exact hab j hj⟩
 rcases hg with ⟨h1, _⟩ | ⟨i', M, z, ov, fx, sh, c', h1, hob, hM, hc, hcc⟩
 ·cases h1
 ·injection h1 with e1 e2 e3
  injection e1 with e1
  injection e1 with e1
  subst e1
  refine .inr ⟨b, M, z, ov.lay i [.int kd (.ofNat (g i))], fx, sh, c, by rw [wl_length], putL_at hob, by rw [wl_length]; rw [wl_length] at hM; exact hM, fun j hj => ?_, ?_⟩
  ·rw [wl_length] at hj
   rw [cellAt_lay, wl_get]
   by_cases e4 : j = i
   ·subst e4
    rw [dif_pos ⟨Nat.le_refl _, by show j < j + 1; omega⟩]
    simp
   ·rw [dif_neg (by rintro ⟨g1, g2⟩; simp only [List.length_cons, List.length_nil] at g2; omega), hc j (by rw [wl_length]; exact hj), wl_get, hgf j hj e4]
  ·rw [wl_length]; rw [wl_length] at hcc; rw [e3]; exact hcc
theorem Own.blk {e : TypeId} {μ0 μ : Mem} {xs : List Value} {m c b : Nat} (h : Own e μ0 μ (.slice (some ⟨b, 0, none⟩) m c) xs) : ∃ M, Blk μ b M e ∧ xs.length ≤ M := by
 rcases h.good with ⟨h1, _⟩ | ⟨i', M, z, ov, fx, sh, c', h1, hob, hM, hc, hcc⟩
 ·cases h1
 ·injection h1 with e1 e2 e3
  injection e1 with e1
  injection e1 with e1
  subst e1
  exact ⟨M, ⟨z, ov, fx, sh, hob⟩, hM⟩
end
noncomputable section
end
noncomputable section
variable {X : FuncId → List Value → Mem → Option (Value × Mem)}
theorem bsW (ρ : Operand → Value) (x : Operand) (hv : one (ρ x) = true) : aBuildSlice Tryz.prog ρ 114 1 #[(0, x)] = some (.cells 1 27 #[ρ x] .e 0 0 false false, fun id => .slice (some ⟨id, 0, none⟩) 1 2) := buildSlice_if Tryz.underlying114 iW rfl zW rfl ρ x hv
end
noncomputable section
variable {X : FuncId → List Value → Mem → Option (Value × Mem)}
end
noncomputable section
variable {X : FuncId → List Value → Mem → Option (Value × Mem)}
structure Pos where
 ln : Nat → Bool
 sf : Nat
 st : Nat
 gf : Nat
 gt : Nat
 nx : Nat
structure SP (μ : Mem) (sp hp ap wb lb N L : Nat) (ws : Nat → Nat) (p : Pos) : Prop where
 sp0 : cellsAt μ sp 0 = some (.pointer (some ⟨hp, 0, none⟩))
 spn : sp < μ.next
 s1 : sp ≠ ap
 s2 : sp ≠ wb
 s3 : sp ≠ lb
 hs : HS μ hp ap wb lb N L ws p.ln
 ac : AC μ ap p.sf p.st p.gf p.gt p.nx
theorem SP.grow {μ μ' : Mem} {sp hp ap wb lb N L : Nat} {ws : Nat → Nat} {p : Pos} (h : SP μ sp hp ap wb lb N L ws p) (g : Grow μ μ') : SP μ' sp hp ap wb lb N L ws p :=
 ⟨by rw [← h.sp0]; unfold cellsAt; rw [g.2 sp h.spn], Nat.lt_of_lt_of_le h.spn g.1, h.s1, h.s2, h.s3, h.hs.grow g, h.ac.grow g h.hs.ab.n1⟩
def Al (X : FuncId → List Value → Mem → Option (Value × Mem)) (N L n q : Nat) (p p' : Pos) : Prop :=
 ∀ (g ap wb lb : Nat) (ws : Nat → Nat) (μ : Mem), 400 ≤ g → AB μ ap wb lb N L ws p.ln → AC μ ap p.sf p.st p.gf p.gt p.nx →
  EndsF (aFun Tryz.prog (aCode Tryz.prog X S0 g) 114 [.pointer (some ⟨ap, 0, none⟩), .int .i64 (.ofNat n)] μ) fun v μ' => v = .tuple #[.int .i64 (.ofNat q), .bool true] ∧ AB μ' ap wb lb N L ws p'.ln ∧ AC μ' ap p'.sf p'.st p'.gf p'.gt p'.nx ∧ Kept μ μ' ap lb
def obj (ws : Nat → Nat) (q kd m : Nat) (f : Nat → Nat) : Nat → Nat := wr (zeros (fillW kd) (put ws q (headW kd 0 m)) q m) q f m
theorem obj_head (ws : Nat → Nat) (q kd m : Nat) (f : Nat → Nat) : obj ws q kd m f q = headW kd 0 m := by
 unfold obj wr zeros put
 rw [if_neg (by omega), if_neg (by omega), if_pos rfl]
theorem obj_in (ws : Nat → Nat) (q kd m : Nat) (f : Nat → Nat) (k : Nat) (hk : k < m) : obj ws q kd m f (q + 1 + k) = f k := by
 unfold obj wr
 rw [if_pos (by omega), show q + 1 + k - q - 1 = k from by omega]
theorem obj_out (ws : Nat → Nat) (q kd m : Nat) (f : Nat → Nat) (k : Nat) (hk : k < q ∨ q + m < k) : obj ws q kd m f k = ws k := by
 unfold obj wr zeros put
 rw [if_neg (by omega), if_neg (by omega), if_neg (by omega)]
set_option maxHeartbeats 4000000 in
theorem raw_al {g sp hp ap wb lb N L q kd n li c : Nat} {f : Nat → Nat} {ws : Nat → Nat} {p p' : Pos} {μ : Mem} (hg : 500 ≤ g) (h : SP μ sp hp ap wb lb N L ws p)
  (hli : ∀ k, k < n → cellsAt μ li k = some (.int .u64 (.ofNat (f k)))) (hln : li < μ.next) (l1 : li ≠ ap) (l2 : li ≠ wb) (l3 : li ≠ lb) (h2 : kd < 32) (hn : n ≤ 240) (hq : q + n < N) (hal : Al X N L (n + 1) q p p') :
  EndsF (aFun Tryz.prog (aCode Tryz.prog X S0 g) 42 [.pointer (some ⟨sp, 0, none⟩), .int .i64 (.ofNat kd), .slice (some ⟨li, 0, none⟩) n c] μ) fun v μ' => v = .tuple #[.int .u64 (.ofNat (placeW q)), .bool true] ∧ SP μ' sp hp ap wb lb N L (obj ws q kd n f) p' ∧ Keeps μ μ' ap wb lb := by
 obtain ⟨v1, μ1, ha, hv, hB1, hC1, hK1⟩ := hal (g - 7) ap wb lb ws μ (by omega) h.hs.ab h.ac
 subst hv
 obtain ⟨v2, μ2, hr, hv2, hH2, hC2, hK2⟩ := raw_ends (X := X) (c := c) hg h.sp0 h.spn h.s1 h.s2 h.s3 hli hln l1 l2 l3 h.hs h2 hn hq ha hB1 hC1 hK1
 exact ⟨v2, μ2, hr, hv2, ⟨by rw [← h.sp0]; exact hK2.cell h.spn h.s1 h.s2 h.s3, Nat.lt_of_lt_of_le h.spn hK2.1, h.s1, h.s2, h.s3, hH2, hC2⟩, hK2⟩
theorem fill_off {ln : Nat → Bool} {a p k : Nat} (h : k < a ∨ p ≤ k) : fill ln a p k = ln k := by unfold fill; rw [if_neg (by omega)]
def P0 : Pos := ⟨fun _ => false, 0, 0, 0, 0, 0⟩
def adr (k : Nat) : Nat := if k < 85 then 3 * k else 3 * k + 1
def PR (k : Nat) : Pos := if k = 0 then P0 else if k ≤ 85 then ⟨fill (fun _ => false) 0 16, 3 * k, 256, 0, 0, 16⟩ else ⟨fill (fill (fun _ => false) 0 16) 16 32, 3 * k + 1, 512, 0, 0, 32⟩
theorem adr_top {k : Nat} (h : k < 100) : adr k + 3 ≤ 2560 := by unfold adr; split <;> omega
theorem adr_lt {j k : Nat} (h : j < k) : adr j + 3 ≤ adr k := by unfold adr; split <;> split <;> omega
theorem adr_ne {j k : Nat} (h : j ≠ k) : adr j ≠ adr k := by
 rcases Nat.lt_or_gt_of_ne h with h | h
 ·have := adr_lt h; omega
 ·have := adr_lt h; omega
theorem al_ring {k : Nat} (h : k < 100) : Al X 2560 160 3 (adr k) (PR k) (PR (k + 1)) := by
 intro g ap wb lb ws μ hg hB hC
 have eN : PR (k + 1) = if k + 1 ≤ 85 then ⟨fill (fun _ => false) 0 16, 3 * (k + 1), 256, 0, 0, 16⟩ else ⟨fill (fill (fun _ => false) 0 16) 16 32, 3 * (k + 1) + 1, 512, 0, 0, 32⟩ := if_neg (by omega)
 by_cases h0 : k = 0
 ·subst h0
  have := small_new (X := X) (g := g) (n := 3) (t := 16) (fa := 0) (ta := 256) (by omega) hB hC (Nat.le_refl _) (Nat.le_of_ble_eq_true rfl) (by show 0 - 0 < 3; omega) (by omega) (by omega) rfl rfl (by decide) (fun _ _ _ => rfl) rfl rfl
  exact this
 ·by_cases h1 : k < 85
  ·have e : PR k = ⟨fill (fun _ => false) 0 16, 3 * k, 256, 0, 0, 16⟩ := (if_neg h0).trans (if_pos (by omega))
   have ea : adr k = 3 * k := if_pos h1
   rw [e] at hB hC
   rw [eN, if_pos (by omega), ea]
   have := small_old (X := X) (g := g) (n := 3) (by omega) hB hC (by show 3 * k ≤ 256; omega) (Nat.le_of_ble_eq_true rfl) (by show 3 * k + 3 ≤ 256; omega) (by omega) (by omega)
   exact this
  ·have ea : adr k = 3 * k + 1 := if_neg h1
   rw [eN, if_neg (by omega), ea]
   by_cases h2 : k = 85
   ·subst h2
    exact small_new (X := X) (g := g) (n := 3) (t := 32) (fa := 256) (ta := 512) (by omega) hB hC (by show 3 * 85 ≤ 256; omega) (Nat.le_of_ble_eq_true rfl) (by show 256 - 3 * 85 < 3; omega) (by omega) (by omega) rfl rfl (by decide) (fun x x1 x2 => fill_off (.inr x1)) rfl rfl
   ·have e : PR k = ⟨fill (fill (fun _ => false) 0 16) 16 32, 3 * k + 1, 512, 0, 0, 32⟩ := (if_neg h0).trans (if_neg (by omega))
    rw [e] at hB hC
    exact small_old (X := X) (g := g) (n := 3) (by omega) hB hC (by show 3 * k + 1 ≤ 512; omega) (Nat.le_of_ble_eq_true rfl) (by show 3 * k + 1 + 3 ≤ 512; omega) (by omega) (by omega)
end
noncomputable section
variable {X : FuncId → List Value → Mem → Option (Value × Mem)}
theorem z3 : aZeroOf Tryz.prog 3 = some (.int .i64 0) := by unfold aZeroOf; rw [i3]; rfl
end
noncomputable section
variable {X : FuncId → List Value → Mem → Option (Value × Mem)}
end
noncomputable section
variable {X : FuncId → List Value → Mem → Option (Value × Mem)}
end
noncomputable section
variable {X : FuncId → List Value → Mem → Option (Value × Mem)}
theorem one_ne : decide (1 = 0) = false := rfl
theorem iN : Tryz.prog.info? 38 = some Tryz.t38 := by kernel_rfl
theorem alN : ∃ l : List Value, aAlloc Tryz.prog 38 = some (.cells 4 38 l.toArray .e 0 0 false false, fun id => .pointer (some ⟨id, 0, none⟩)) ∧ (∀ ρ, aBuild Tryz.prog ρ 38 #[] = some (.agg l.toArray)) ∧ l.all one = true ∧ l.length = 4 := by
 have hz : ∃ l : List Value, aZeroOf Tryz.prog 38 = some (.agg l.toArray) ∧ l.all one = true ∧ l.length = 4 ∧ cellsL (.agg l.toArray) = l ∧ (cellsL (.agg l.toArray)).toArray = l.toArray := by
  unfold aZeroOf; rw [iN]
  exact ⟨_, rfl, rfl, rfl, rfl, rfl⟩
 obtain ⟨l, hz, ho, hl, hc, hc2⟩ := hz
 refine ⟨l, ?_, fun ρ => ?_, ho, hl⟩
 ·unfold aAlloc; rw [hz]
  simp only [hc, hl]
 ·refine build_struct (pl := [(0, 1), (1, 1), (2, 2)]) hz Tryz.underlying38 (by kernel_rfl) ?_
  rw [hc]; rfl
set_option maxHeartbeats 4000000 in
theorem asnum_no {g sp hp ap wb lb N L q kd pn n : Nat} {ws : Nat → Nat} {p : Pos} {μ : Mem} (hg : 400 ≤ g) (h : SP μ sp hp ap wb lb N L ws p) (hq : q < N) (hw : ws q = headW kd pn n) (h1 : kd < 32) (h2 : pn < 8) (h3 : n < 1000000) (hne : kd ≠ 16) (hne2 : kd ≠ 17) :
  EndsF (aFun Tryz.prog (aCode Tryz.prog X S0 g) 83 [.pointer (some ⟨sp, 0, none⟩), .int .u64 (.ofNat (placeW q))] μ) fun v μ' => (∃ l : List Value, v = .tuple #[.agg l.toArray, .bool false] ∧ l.all one = true ∧ l.length = 4) ∧ Grow μ μ' := by
 obtain ⟨k, rfl⟩ := Nat.exists_eq_add_of_le' hg
 obtain ⟨l, hal, hbd, hlo, hll⟩ := alN
 have hN := h.hs.ab.N1
 have g0 := grow1 μ (.cells 4 38 l.toArray .e 0 0 false false)
 obtain ⟨μ0, hμ0⟩ : ∃ m : Mem, m = ⟨μ.obs.set μ.next (.cells 4 38 l.toArray .e 0 0 false false), μ.next + 1⟩ := ⟨_, rfl⟩
 rw [← hμ0] at g0
 have hS0 := h.grow g0
 have hob0 : μ0.obs.get μ.next = some (.cells 4 38 l.toArray .e 0 0 false false) := by rw [hμ0]; show T.get _ _ = _; rw [T.get_set, if_pos rfl]
 have hn0 : μ.next < μ0.next := by rw [hμ0]; exact Nat.lt_succ_self _
 have hμ0' : (⟨μ.obs.set μ.next (.cells 4 38 l.toArray .e 0 0 false false), Nat.add μ.next 1⟩ : Mem) = μ0 := hμ0.symm
 have hK : ∀ f, 20 ≤ f → aFun Tryz.prog (aCode Tryz.prog X S0 f) 57 [.int .u64 (.ofNat (placeW q))] μ0 = some (.int .i64 (.ofNat 1), μ0) := fun f hf => by
  rw [kind_eq hf (by unfold placeW; omega), show placeW q % 8 = 1 from by unfold placeW; omega]
 have hK := hK (k + 396) (by omega)
 obtain ⟨v1, μ1, hf, hv1, hg1⟩ := fields_no (X := X) (g := k + 395) (kd' := 16) (by omega) hS0.sp0 hS0.hs.at hq hN hw h1 h2 h3 hne
 subst hv1
 have hf : aFun Tryz.prog (aCode Tryz.prog X S0 (k + 395)) 44 [.pointer (some ⟨sp, 0, none⟩), .int .i64 16, .int .u64 (.ofNat (placeW q))] μ0 = some (.tuple #[.slice none 0 0, .bool false], μ1) := hf
 have hS1 := hS0.grow hg1
 obtain ⟨v2, μ2, hf2, hv2, hg2⟩ := fields_no (X := X) (g := k + 395) (kd' := 17) (by omega) hS1.sp0 hS1.hs.at hq hN hw h1 h2 h3 hne2
 subst hv2
 have hf2 : aFun Tryz.prog (aCode Tryz.prog X S0 (k + 395)) 44 [.pointer (some ⟨sp, 0, none⟩), .int .i64 17, .int .u64 (.ofNat (placeW q))] μ1 = some (.tuple #[.slice none 0 0, .bool false], μ2) := hf2
 have hg12 := hg1.trans hg2
 have hob2 : μ2.obs.get μ.next = some (.cells 4 38 l.toArray .e 0 0 false false) := by rw [hg12.2 _ hn0]; exact hob0
 have hst := store_list (P := Tryz.prog) (t := 38) (vs := l) (o := 0) iN (by rw [hll]; rfl) hlo hob2 (by rw [hll]; exact Nat.le_refl _)
 have hld : aLoad Tryz.prog ⟨μ2.obs.set μ.next (.cells 4 38 l.toArray (T.lay .e 0 l) 0 0 false false), μ2.next⟩ 38 (.pointer (some ⟨μ.next, 0, none⟩)) = some (.agg l.toArray) := by
  have e : cellsFrom l.toArray (T.lay .e 0 l) 0 4 = l := cellsFrom_eq 4 0 l hll fun k hk => by
   rw [cellAt_lay, dif_pos ⟨by omega, by omega⟩]; simp
  rw [← congrArg (fun l => some (Value.agg l.toArray)) e]
  exact load_struct (P := Tryz.prog) (n := 4) Tryz.underlying38 iN (by show obCells (T.get _ _) = _; rw [T.get_set, if_pos rfl]; rfl) (by decide)
 refine fun_enter Tryz.func83 rfl rfl (Nat.le_of_ble_eq_true rfl) ?_
 simp only [T.lay, Nat.zero_add, Tryz.ntmps83, Nat.reduceAdd]
 refine code_seq ?_
 refine code_region ?_ ?_
 ·rfl
 simp only [run1, go_sem, Nat.reduceLT, Nat.reduceAdd, Nat.reduceEqDiff, reduceIte, reduceCtorEq, hal, hμ0']
 refine code_seq ?_
 refine code_seq ?_
 refine code_region ?_ ?_
 ·rfl
 simp only [run1, go_sem, Nat.reduceLT, Nat.reduceAdd, Nat.reduceEqDiff, reduceIte, reduceCtorEq, gg57, hK, ieq_lit0, one_ne]
 refine code_cond_false ?_ ?_
 ·simp only [aev, regAt_set, Nat.reduceEqDiff, reduceIte]
 refine code_skip ?_
 simp only [then_normal]
 refine code_seq ?_
 refine code_seq ?_
 refine code_region ?_ ?_
 ·rfl
 simp only [run1, go_sem, Nat.reduceLT, Nat.reduceAdd, Nat.reduceEqDiff, reduceIte, reduceCtorEq, gg44, hf]
 refine code_seq ?_
 refine code_guards (gs := ?_) ?_ ?_
 rotate_left
 ·rfl
 iterate 2 (refine run2_true (by first | rfl | (simp only [wanted, go_sem, Nat.reduceLT, Nat.reduceAdd, Nat.reduceEqDiff, reduceIte, reduceCtorEq])) (by simp only [go_sem, Nat.reduceLT, Nat.reduceAdd, Nat.reduceEqDiff, reduceIte, reduceCtorEq]; try exact rfl) rfl ?_)
 iterate 3 (refine run2_false (by simp only [wanted, go_sem, Nat.reduceLT, Nat.reduceAdd, Nat.reduceEqDiff, reduceIte, reduceCtorEq]) rfl ?_)
 refine run2_true (by first | rfl | (simp only [wanted, go_sem, Nat.reduceLT, Nat.reduceAdd, Nat.reduceEqDiff, reduceIte, reduceCtorEq])) (by simp only [go_sem, Nat.reduceLT, Nat.reduceAdd, Nat.reduceEqDiff, reduceIte, reduceCtorEq]; try exact rfl) rfl ?_
 simp only [run2, ends_some, then_normal]
 refine code_cond_false ?_ ?_
 ·simp only [aev, regAt_set, Nat.reduceEqDiff, reduceIte]
 refine code_skip ?_
 simp only [then_normal]
 refine code_seq ?_
 refine code_region ?_ ?_
 ·rfl
 simp only [run1, go_sem, Nat.reduceLT, Nat.reduceAdd, Nat.reduceEqDiff, reduceIte, reduceCtorEq, gg44, hf2]
 refine code_seq ?_
 refine code_seq ?_
 refine code_guards (gs := ?_) ?_ ?_
 rotate_left
 ·rfl
 iterate 3 (refine run2_true (by first | rfl | (simp only [wanted, go_sem, Nat.reduceLT, Nat.reduceAdd, Nat.reduceEqDiff, reduceIte, reduceCtorEq])) (by simp only [go_sem, Nat.reduceLT, Nat.reduceAdd, Nat.reduceEqDiff, reduceIte, reduceCtorEq]; try exact rfl) rfl ?_)
 iterate 3 (refine run2_false (by simp only [wanted, go_sem, Nat.reduceLT, Nat.reduceAdd, Nat.reduceEqDiff, reduceIte, reduceCtorEq]) rfl ?_)
 refine run2_true (by first | rfl | (simp only [wanted, go_sem, Nat.reduceLT, Nat.reduceAdd, Nat.reduceEqDiff, reduceIte, reduceCtorEq])) (by simp only [go_sem, Nat.reduceLT, Nat.reduceAdd, Nat.reduceEqDiff, reduceIte, reduceCtorEq]; try exact rfl) rfl ?_
 simp only [run2, ends_some, then_normal]
 refine code_cond_true ?_ ?_
 ·simp only [aev, regAt_set, Nat.reduceEqDiff, reduceIte]
 refine code_seq ?_
 refine code_region ?_ ?_
 ·rfl
 simp only [run1, go_sem, Nat.reduceLT, Nat.reduceAdd, Nat.reduceEqDiff, reduceIte, reduceCtorEq, hbd, hst]
 refine code_ret ?_
 refine ⟨rfl, .tuple #[.agg l.toArray, .bool false], ?_, ⟨l, rfl, hlo, hll⟩, ?_⟩
 ·simp only [aResults, Tryz.results83, aRes, regAt_set, Nat.reduceEqDiff, reduceIte, hld]
 ·exact ⟨Nat.le_trans g0.1 hg12.1, fun i hi => by show T.get _ i = _; rw [T.get_set, if_neg (by omega)]; exact (g0.trans hg12).2 i hi⟩
end
noncomputable section
variable {X : FuncId → List Value → Mem → Option (Value × Mem)}
def sw (n : Int) : Nat := (n * 8 % 18446744073709551616).toNat
def Sm (n : Int) : Prop := -1000000 < n ∧ n < 1000000
theorem sw_lt (n : Int) : sw n < 18446744073709551616 := by unfold sw; omega
theorem sw_mod (n : Int) : sw n % 8 = 0 := by unfold sw; omega
set_option maxRecDepth 20000 in
set_option maxHeartbeats 4000000 in
theorem kind_small {g : Nat} {n : Int} {μ : Mem} (hg : 20 ≤ g) : aFun Tryz.prog (aCode Tryz.prog X S0 g) 57 [.int .u64 (.ofNat (sw n))] μ = some (.int .i64 0, μ) := by
 obtain ⟨k, rfl⟩ := Nat.exists_eq_add_of_le' hg
 refine ends_eq ?_
 have e1 := land7 (sw n) (sw_lt n)
 rw [sw_mod] at e1
 have e2 : qwrap .i64 (.ofNat 0) = 0 := rfl
 refine fun_enter Tryz.func57 rfl rfl (Nat.le_of_ble_eq_true rfl) ?_
 simp only [T.lay, Nat.zero_add, Tryz.ntmps57, Nat.reduceAdd]
 repeat (first | refine code_seq ?_ | ((first | (refine code_region ?_ ?_; (focus rfl)) | (refine code_guards (gs := ?_) ?_ ?_; rotate_left; (focus rfl))); simp only [run1, run2, wanted, go_sem, Nat.reduceLT, Nat.reduceAdd, Nat.reduceEqDiff, reduceIte, reduceCtorEq, e1, cvWi, e2]) | (refine code_cond_true ?_ ?_; (focus (simp only [aev, regAt_set, Nat.reduceEqDiff, reduceIte, e1, cvWi, e2]; done))) | (refine code_cond_false ?_ ?_; (focus (simp only [aev, regAt_set, Nat.reduceEqDiff, reduceIte, e1, cvWi, e2]; done))) | ((first | refine code_skip ?_ | refine code_label ?_ | refine code_exit ?_); try simp only [then_exit, then_normal, blockC, Nat.reduceEqDiff, reduceIte]) | refine code_block ?_)
 refine code_ret ?_
 refine ⟨rfl, _, ?_, rfl, rfl⟩
 simp only [aResults, Tryz.results57, aRes, regAt_set, Nat.reduceEqDiff, reduceIte]
theorem wrap_u64 (n : Int) : qwrap .u64 n = .ofNat (n % 18446744073709551616).toNat := by
 rw [qwrap_eq]
 show IntKind.wrap .u64 n = _
 unfold IntKind.wrap
 simp only [IntKind.bits, IntKind.signed]
 simp
 omega
theorem wrap_i64 (n : Int) (h : -9223372036854775808 ≤ n) (h2 : n < 9223372036854775808) : qwrap .i64 n = n := by
 rw [qwrap_eq]
 exact IntWalk.i64_in _ (by omega)
theorem back_i64 (n : Int) (h : Sm n) : qwrap .i64 (.ofNat (sw n)) = n * 8 := by
 rw [qwrap_eq]
 show IntKind.wrap .i64 _ = _
 unfold IntKind.wrap sw
 unfold Sm at h
 simp only [IntKind.bits, IntKind.signed]
 simp
 split <;> omega
theorem fdiv8 (n : Int) : (n * 8).fdiv (2 ^ 3) = n := Int.mul_fdiv_cancel n (by decide)
theorem shr_any (u n : Int) (h : u = n * 8) : pv Tryz.prog (Op.shift .shr .i64 u .u64 3) = some (.int .i64 n) := by
 show some (Value.int .i64 (Int.fdiv u (2 ^ 3))) = _
 rw [h, fdiv8]
theorem shift_neg (u : Int) (h : u < 0) : aShift false .i64 u 3 = none := by
 cases u with
 | ofNat m => exact absurd h (by simp only [Int.ofNat_eq_natCast]; omega)
 | negSucc m => rfl
set_option maxRecDepth 20000 in
set_option maxHeartbeats 4000000 in
theorem value_small {g : Nat} {n : Int} {μ : Mem} (hg : 20 ≤ g) (hn : Sm n) : aFun Tryz.prog (aCode Tryz.prog X S0 g) 58 [.int .u64 (.ofNat (sw n))] μ = some (.int .i64 n, μ) := by
 obtain ⟨k, rfl⟩ := Nat.exists_eq_add_of_le' hg
 refine ends_eq ?_
 have e1 := land7 (sw n) (sw_lt n)
 rw [sw_mod] at e1
 have e3 : ieq (Int.ofNat 0) 0 = true := rfl
 have e2 := back_i64 n hn
 obtain ⟨u, hu⟩ : ∃ u, u = n * 8 := ⟨_, rfl⟩
 rw [← hu] at e2
 by_cases h0 : n < 0
 ·have e5 : aShift false .i64 u 3 = none := shift_neg u (by omega)
  have e6 := shr_any u n hu
  refine fun_enter Tryz.func58 rfl rfl (Nat.le_of_ble_eq_true rfl) ?_
  simp only [T.lay, Nat.zero_add, Tryz.ntmps58, Nat.reduceAdd]
  repeat (first | refine code_seq ?_ | ((first | (refine code_region ?_ ?_; (focus rfl)) | (refine code_guards (gs := ?_) ?_ ?_; rotate_left; (focus rfl))); simp only [run1, run2, wanted, go_sem, Nat.reduceLT, Nat.reduceAdd, Nat.reduceEqDiff, reduceIte, reduceCtorEq, e1, e3, cvWi, e2, e5, e6]) | (refine code_cond_true ?_ ?_; (focus (simp only [aev, regAt_set, Nat.reduceEqDiff, reduceIte, e1, e3, cvWi, e2, e5, e6]; done))) | (refine code_cond_false ?_ ?_; (focus (simp only [aev, regAt_set, Nat.reduceEqDiff, reduceIte, e1, e3, cvWi, e2, e5, e6]; done))) | ((first | refine code_skip ?_ | refine code_label ?_ | refine code_exit ?_); try simp only [then_exit, then_normal, blockC, Nat.reduceEqDiff, reduceIte]) | refine code_block ?_)
  refine code_ret ?_
  refine ⟨rfl, _, ?_, rfl, rfl⟩
  simp only [aResults, Tryz.results58, aRes, regAt_set, Nat.reduceEqDiff, reduceIte]
 ·have e5 : aShift false .i64 u 3 = some (.int .i64 n) := by
   obtain ⟨m, rfl⟩ : ∃ m : Nat, n = m := ⟨n.toNat, by omega⟩
   obtain rfl : u = .ofNat (m * 8) := hu
   rw [shr3i, Nat.mul_div_cancel _ (by decide)]; rfl
  refine fun_enter Tryz.func58 rfl rfl (Nat.le_of_ble_eq_true rfl) ?_
  simp only [T.lay, Nat.zero_add, Tryz.ntmps58, Nat.reduceAdd]
  repeat (first | refine code_seq ?_ | ((first | (refine code_region ?_ ?_; (focus rfl)) | (refine code_guards (gs := ?_) ?_ ?_; rotate_left; (focus rfl))); simp only [run1, run2, wanted, go_sem, Nat.reduceLT, Nat.reduceAdd, Nat.reduceEqDiff, reduceIte, reduceCtorEq, e1, e3, cvWi, e2, e5]) | (refine code_cond_true ?_ ?_; (focus (simp only [aev, regAt_set, Nat.reduceEqDiff, reduceIte, e1, e3, cvWi, e2, e5]; done))) | (refine code_cond_false ?_ ?_; (focus (simp only [aev, regAt_set, Nat.reduceEqDiff, reduceIte, e1, e3, cvWi, e2, e5]; done))) | ((first | refine code_skip ?_ | refine code_label ?_ | refine code_exit ?_); try simp only [then_exit, then_normal, blockC, Nat.reduceEqDiff, reduceIte]) | refine code_block ?_)
  refine code_ret ?_
  refine ⟨rfl, _, ?_, rfl, rfl⟩
  simp only [aResults, Tryz.results58, aRes, regAt_set, Nat.reduceEqDiff, reduceIte]
theorem small_lo {n : Int} (h : Sm n) : ilt n (-1152921504606846976) = false := by rw [ilt_eq]; unfold Sm at h; simp only [decide_eq_false_iff_not]; omega
theorem small_hi {n : Int} (h : Sm n) : ilt 1152921504606846975 n = false := by rw [ilt_eq]; unfold Sm at h; simp only [decide_eq_false_iff_not]; omega
theorem cv_iu (n : Int) : aConvInt Tryz.prog 3 26 (.int .i64 n) = some (.int .u64 (qwrap .u64 n)) := by
 simp only [aConvInt, Tryz.underlying3, Tryz.underlying26]
theorem ref_rem (n : Int) : aDiv true .u64 .u64 (.ofNat (n % 18446744073709551616).toNat) 2305843009213693952 = some (.int .u64 (.ofNat ((n % 18446744073709551616).toNat % 2305843009213693952))) := rfl
theorem ref_mul (n : Int) : qwrap .u64 (Int.mul (.ofNat ((n % 18446744073709551616).toNat % 2305843009213693952)) 8) = .ofNat (sw n) := by
 show qwrap .u64 (.ofNat ((n % 18446744073709551616).toNat % 2305843009213693952 * 8)) = _
 rw [qu64 _ (by omega)]
 congr 1
 unfold sw
 omega
theorem ref_add (n : Int) : qwrap .u64 (Int.add (.ofNat (sw n)) (.ofNat 0)) = .ofNat (sw n) := by
 show qwrap .u64 (.ofNat (sw n + 0)) = _
 rw [Nat.add_zero, qu64 _ (sw_lt n)]
set_option maxRecDepth 20000 in
set_option maxHeartbeats 4000000 in
theorem rmade_eq {g : Nat} {n : Int} {μ : Mem} (hg : 20 ≤ g) : aFun Tryz.prog (aCode Tryz.prog X S0 g) 12 [.int .i64 0, .int .i64 n] μ = some (.int .u64 (.ofNat (sw n)), μ) := by
 obtain ⟨k, rfl⟩ := Nat.exists_eq_add_of_le' hg
 refine ends_eq ?_
 have e1 : qwrap .u64 0 = .ofNat 0 := rfl
 have e2 := wrap_u64 n
 refine fun_enter Tryz.func12 rfl rfl (Nat.le_of_ble_eq_true rfl) ?_
 simp only [T.lay, Nat.zero_add, Tryz.ntmps12, Nat.reduceAdd]
 repeat (first | refine code_seq ?_ | ((first | (refine code_region ?_ ?_; (focus rfl)) | (refine code_guards (gs := ?_) ?_ ?_; rotate_left; (focus rfl))); simp only [run1, run2, wanted, go_sem, Nat.reduceLT, Nat.reduceAdd, Nat.reduceEqDiff, reduceIte, reduceCtorEq, cv_iu, e1, e2, ref_rem, ref_mul, ref_add]) | (refine code_cond_true ?_ ?_; (focus (simp only [aev, regAt_set, Nat.reduceEqDiff, reduceIte, cv_iu, e1, e2, ref_rem, ref_mul, ref_add]; done))) | (refine code_cond_false ?_ ?_; (focus (simp only [aev, regAt_set, Nat.reduceEqDiff, reduceIte, cv_iu, e1, e2, ref_rem, ref_mul, ref_add]; done))) | ((first | refine code_skip ?_ | refine code_label ?_ | refine code_exit ?_); try simp only [then_exit, then_normal, blockC, Nat.reduceEqDiff, reduceIte]) | refine code_block ?_)
 refine code_ret ?_
 refine ⟨rfl, _, ?_, rfl, rfl⟩
 simp only [aResults, Tryz.results12, aRes, regAt_set, Nat.reduceEqDiff, reduceIte]
set_option maxRecDepth 20000 in
set_option maxHeartbeats 4000000 in
theorem rsmall_eq {g : Nat} {n : Int} {μ : Mem} (hg : 40 ≤ g) (hn : Sm n) : aFun Tryz.prog (aCode Tryz.prog X S0 g) 17 [.int .i64 n] μ = some (.tuple #[.int .u64 (.ofNat (sw n)), .bool true], μ) := by
 obtain ⟨k, rfl⟩ := Nat.exists_eq_add_of_le' hg
 refine ends_eq ?_
 have e1 := small_lo hn
 have e2 := small_hi hn
 have hm : ∀ g, 20 ≤ g → aFun Tryz.prog (aCode Tryz.prog X S0 g) 12 [.int .i64 0, .int .i64 n] μ = some (.int .u64 (.ofNat (sw n)), μ) := fun g hg => rmade_eq hg
 refine fun_enter Tryz.func17 rfl rfl (Nat.le_of_ble_eq_true rfl) ?_
 simp only [T.lay, Nat.zero_add, Tryz.ntmps17, Nat.reduceAdd]
 repeat (first | refine code_seq ?_ | ((first | (refine code_region ?_ ?_; (focus rfl)) | (refine code_guards (gs := ?_) ?_ ?_; rotate_left; (focus rfl))); simp only [run1, run2, wanted, go_sem, Nat.reduceLT, Nat.reduceAdd, Nat.reduceEqDiff, reduceIte, reduceCtorEq, e1, e2, gg12, hm, Nat.reduceLeDiff]) | (refine code_cond_true ?_ ?_; (focus (simp only [aev, regAt_set, Nat.reduceEqDiff, reduceIte, e1, e2, gg12, hm, Nat.reduceLeDiff]; done))) | (refine code_cond_false ?_ ?_; (focus (simp only [aev, regAt_set, Nat.reduceEqDiff, reduceIte, e1, e2, gg12, hm, Nat.reduceLeDiff]; done))) | ((first | refine code_skip ?_ | refine code_label ?_ | refine code_exit ?_); try simp only [then_exit, then_normal, blockC, Nat.reduceEqDiff, reduceIte]) | refine code_block ?_)
 refine code_ret ?_
 refine ⟨rfl, _, ?_, rfl, rfl⟩
 simp only [aResults, Tryz.results17, aRes, regAt_set, Nat.reduceEqDiff, reduceIte]
end
end Go.Proofs.YtohkikbhgcgmfaaGreatDoor.vr
