/-
  distafflaw18.ValueTexts, part A: words, the heap, lines, the arena. No conditions.
-/
import Derived.Test.YtifoiijkaehpaaaGreatDoorEvZv
import Derived.Test.YtifoiijkaehpaaaGreatDoorEvZe
import Derived.Test.YtifoiijkaehpaaaGreatDoorRows
set_option linter.unusedSimpArgs false
set_option linter.unusedVariables false
namespace Go.Proofs.YtifoiijkaehpaaaGreatDoor.vt
open Go Go.Proofs Go.Proofs.YtifoiijkaehpaaaGreatDoor.Ev

noncomputable section
/-- what is known ahead: the layer's alive function -/
abbrev S0 : List (FuncId × LK) := [(4, .alive [])]
variable {X : FuncId → List Value → Mem → Option (Value × Mem)} {S : List (FuncId × LK)}

theorem iWs : Tryz.prog.info? 66 = some Tryz.t66 := by kernel_rfl
theorem iW : Tryz.prog.info? 29 = some Tryz.t29 := by kernel_rfl
theorem faA0 (ρ : Operand → Value) (x : Operand) : aFieldAddr Tryz.prog ρ 162 x 0 = (match ρ x with | .pointer (some a) => some (.pointer (some (a.add 0))) | _ => none) := fieldAddr_at (ft := 66) (off := 0) Tryz.underlying162 rfl iWs rfl ρ x
theorem ldWs (μ : Mem) (i o : Nat) : aLoad Tryz.prog μ 66 (.pointer (some ⟨i, o, none⟩)) = cellsAt μ i o := load_at Tryz.underlying66 rfl μ i o
theorem ldW (μ : Mem) (i o : Nat) : aLoad Tryz.prog μ 29 (.pointer (some ⟨i, o, none⟩)) = cellsAt μ i o := load_at Tryz.underlying29 rfl μ i o

/-- an arena's words -/
structure Arena (μ : Mem) (ap wb N : Nat) (ws : Nat → Nat) : Prop where
  head : ∃ c, cellsAt μ ap 0 = some (.slice (some ⟨wb, 0, none⟩) N c)
  words : ∃ z ov fx sh, μ.obs.get wb = some (.cells N 29 z ov 0 0 fx sh) ∧ ∀ k, k < N → cellAt z ov k = .int .u64 (.ofNat (ws k))
  apart : ap ≠ wb

def put (ws : Nat → Nat) (at_ w : Nat) : Nat → Nat := fun k => if k = at_ then w else ws k

theorem ilt_z (q : Nat) : ilt (.ofNat q) 0 = false := rfl

set_option maxHeartbeats 4000000 in
theorem arena_set {k ap wb N q w : Nat} {ws : Nat → Nat} {μ : Mem} (hA : Arena μ ap wb N ws) (hq : q < N) :
    EndsF (aFun Tryz.prog (aCode Tryz.prog X S (k + 20)) 82 [.pointer (some ⟨ap, 0, none⟩), .int .i64 (.ofNat q), .int .u64 (.ofNat w)] μ) fun v μ' => v = .int .i64 0 ∧ Arena μ' ap wb N (put ws q w) ∧ μ'.next = μ.next ∧ ∀ i, i ≠ wb → μ'.obs.get i = μ.obs.get i := by
  obtain ⟨c, hl⟩ := hA.head
  obtain ⟨z, ov, fx, sh, hwb, hws⟩ := hA.words
  have hia : ∀ ρ : Operand → Value, ∀ a b, ρ a = .slice (some ⟨wb, 0, none⟩) N c → ρ b = .int .i64 (.ofNat q) → aIndexAddr Tryz.prog ρ 66 a b = some (.pointer (some ⟨wb, q, none⟩)) := fun ρ a b h1 h2 => by
    rw [indexAddr_slice (P := Tryz.prog) Tryz.underlying66 iW rfl h1 h2 hq, Nat.zero_add]
  have hst := store_one (P := Tryz.prog) (t := 29) (v := .int .u64 (.ofNat w)) iW rfl rfl hwb hq
  refine fun_enter Tryz.func82 rfl rfl (by show 3 ≤ 25; decide) ?_
  simp only [T.lay, Nat.zero_add, Tryz.ntmps82, Nat.reduceAdd]
  refine code_seq ?_
  refine code_region ?_ ?_
  · rfl
  simp only [run1, aOne, aP, aev, regAt_set, aput_mk, ends_some, Nat.reduceLT, if_true, plainV, then_normal, Nat.reduceEqDiff, if_false, reduceIte]
  refine code_seq ?_
  refine code_seq ?_
  refine code_guards (gs := ?_) ?_ ?_
  rotate_left
  · rfl
  simp only [run2, wanted, aOne, aP, aR, aA, aT, aCall, aev, regAt_set, aput_mk, plainV, aBin, aInt, ilt_z, ilt_nat, hq, aNilCheck, faA0, ldWs, hl, aBuiltin, aLen, Tryz.underlying66, cast_nat, aPick, Addr.add, Nat.zero_add,
    ends_some, Nat.reduceLT, if_true, then_normal, Nat.reduceEqDiff, if_false, reduceIte, reduceCtorEq, decide_true, decide_false, Bool.not_true, Bool.not_false, beq_self_eq_true, beq_tf, beq_ft]
  refine code_cond_false ?_ ?_
  · simp only [aev, regAt_set, Nat.reduceEqDiff, reduceIte]
  refine code_skip ?_
  simp only [then_normal]
  refine code_seq ?_
  refine code_region ?_ ?_
  · rfl
  simp only [run1, aOne, aP, aR, aA, aT, aCall, aev, regAt_set, aput_mk, aput_none, aNilCheck, faA0, ldWs, hl, hia, hst, Addr.add, Nat.zero_add,
    ends_some, Nat.reduceLT, if_true, then_normal, Nat.reduceEqDiff, if_false, reduceIte, reduceCtorEq]
  refine code_seq ?_
  refine code_region ?_ ?_
  · rfl
  simp only [run1, aOne, aP, aev, regAt_set, aput_mk, ends_some, Nat.reduceLT, if_true, plainV, then_normal, Nat.reduceEqDiff, if_false, reduceIte]
  refine code_ret ?_
  refine ⟨rfl, .int .i64 0, ?_, rfl, ⟨⟨c, ?_⟩, ⟨z, ov.set q (.int .u64 (.ofNat w)), fx, sh, ?_, fun j hj => ?_⟩, hA.apart⟩, rfl, fun i hi => ?_⟩
  · simp only [aResults, Tryz.results82, aRes, regAt_set, Nat.reduceEqDiff, reduceIte]
  · rw [← hl]; unfold cellsAt; rw [T.get_set, if_neg hA.apart]
  · show T.get _ wb = _
    rw [T.get_set, if_pos rfl]
  · rw [cellAt_set]
    unfold put
    by_cases h : j = q
    · rw [if_pos h, if_pos h]
    · rw [if_neg h, if_neg h]; exact hws j hj
  · show T.get _ i = _
    rw [T.get_set, if_neg hi]
end

noncomputable section
variable {X : FuncId → List Value → Mem → Option (Value × Mem)} {S : List (FuncId × LK)}

theorem Arena.cell {μ : Mem} {ap wb N : Nat} {ws : Nat → Nat} (hA : Arena μ ap wb N ws) {q : Nat} (hq : q < N) : cellsAt μ wb q = some (.int .u64 (.ofNat (ws q))) := by
  obtain ⟨z, ov, fx, sh, hwb, hws⟩ := hA.words
  rw [cellsAt_of (n := N) (z := z) (ov := ov) (by rw [hwb]; rfl) hq, hws q hq]

theorem Arena.keep {μ μ' : Mem} {ap wb N : Nat} {ws : Nat → Nat} (hA : Arena μ ap wb N ws) (h1 : μ'.obs.get ap = μ.obs.get ap) (h2 : μ'.obs.get wb = μ.obs.get wb) : Arena μ' ap wb N ws := by
  obtain ⟨c, hl⟩ := hA.head
  obtain ⟨z, ov, fx, sh, hwb, hws⟩ := hA.words
  exact ⟨⟨c, by rw [← hl]; unfold cellsAt; rw [h1]⟩, ⟨z, ov, fx, sh, h2.trans hwb, hws⟩, hA.apart⟩

set_option maxHeartbeats 4000000 in
theorem arena_get {k ap wb N q : Nat} {ws : Nat → Nat} {μ : Mem} (hA : Arena μ ap wb N ws) (hq : q < N) :
    EndsF (aFun Tryz.prog (aCode Tryz.prog X S (k + 20)) 86 [.pointer (some ⟨ap, 0, none⟩), .int .i64 (.ofNat q)] μ) fun v μ' => v = .tuple #[.int .u64 (.ofNat (ws q)), .int .i64 0] ∧ μ' = μ := by
  obtain ⟨c, hl⟩ := hA.head
  have hcell := hA.cell hq
  have hia : ∀ ρ : Operand → Value, ∀ a b, ρ a = .slice (some ⟨wb, 0, none⟩) N c → ρ b = .int .i64 (.ofNat q) → aIndexAddr Tryz.prog ρ 66 a b = some (.pointer (some ⟨wb, q, none⟩)) := fun ρ a b h1 h2 => by
    rw [indexAddr_slice (P := Tryz.prog) Tryz.underlying66 iW rfl h1 h2 hq, Nat.zero_add]
  refine fun_enter Tryz.func86 rfl rfl (by show 2 ≤ 24; decide) ?_
  simp only [T.lay, Nat.zero_add, Tryz.ntmps86, Nat.reduceAdd]
  refine code_seq ?_
  refine code_region ?_ ?_
  · rfl
  simp only [run1, aOne, aP, aev, regAt_set, aput_mk, ends_some, Nat.reduceLT, if_true, plainV, then_normal, Nat.reduceEqDiff, if_false, reduceIte]
  refine code_seq ?_
  refine code_seq ?_
  refine code_guards (gs := ?_) ?_ ?_
  rotate_left
  · rfl
  simp only [run2, wanted, aOne, aP, aR, aA, aT, aCall, aev, regAt_set, aput_mk, plainV, aBin, aInt, ilt_z, ilt_nat, hq, aNilCheck, faA0, ldWs, hl, aBuiltin, aLen, Tryz.underlying66, cast_nat, aPick, Addr.add, Nat.zero_add,
    ends_some, Nat.reduceLT, if_true, then_normal, Nat.reduceEqDiff, if_false, reduceIte, reduceCtorEq, decide_true, decide_false, Bool.not_true, Bool.not_false, beq_self_eq_true, beq_tf, beq_ft]
  refine code_cond_false ?_ ?_
  · simp only [aev, regAt_set, Nat.reduceEqDiff, reduceIte]
  refine code_skip ?_
  simp only [then_normal]
  refine code_seq ?_
  refine code_region ?_ ?_
  · rfl
  simp only [run1, aOne, aP, aR, aA, aT, aCall, aev, regAt_set, aput_mk, aput_none, aNilCheck, faA0, ldWs, ldW, hl, hia, hcell, plainV, Addr.add, Nat.zero_add,
    ends_some, Nat.reduceLT, if_true, then_normal, Nat.reduceEqDiff, if_false, reduceIte, reduceCtorEq]
  refine code_ret ?_
  refine ⟨rfl, _, ?_, rfl, rfl⟩
  simp only [aResults, Tryz.results86, aRes, regAt_set, Nat.reduceEqDiff, reduceIte]
end

noncomputable section
variable {X : FuncId → List Value → Mem → Option (Value × Mem)} {S : List (FuncId × LK)}

/-! ### numbers of 64 bits -/
theorem q64 (m : Nat) (h : m < 9223372036854775808) : qwrap .i64 (.ofNat m) = .ofNat m := by
  unfold qwrap
  simp only
  rw [show Nat.blt m 9223372036854775808 = true from by simpa using h]
theorem qu64 (m : Nat) (h : m < 18446744073709551616) : qwrap .u64 (.ofNat m) = .ofNat m := by
  unfold qwrap
  simp only
  rw [show Nat.blt m 18446744073709551616 = true from by simpa using h]
theorem land_u (m b : Nat) (hb : b ≤ 32) (h : m < 18446744073709551616) : aBits Nat.land .u64 .u64 (.ofNat m) (.ofNat (2 ^ b - 1)) = some (.int .u64 (.ofNat (m % 2 ^ b))) := by
  have h1 : Nat.blt m 18446744073709551616 = true := by simpa using h
  have hp : 2 ^ b ≤ 2 ^ 32 := Nat.pow_le_pow_right (by decide) hb
  have h2 : Nat.blt (2 ^ b - 1) 18446744073709551616 = true := by
    have : 2 ^ b - 1 < 18446744073709551616 := by omega
    simpa using this
  have h3 : Nat.land m (2 ^ b - 1) = m % 2 ^ b := Nat.and_two_pow_sub_one_eq_mod m b
  have h4 : m % 2 ^ b < 18446744073709551616 := Nat.lt_of_le_of_lt (Nat.mod_le _ _) h
  unfold aBits
  simp only [decide_true, wide64, h1, h2, h3, qu64 _ h4]
theorem land_i (m b : Nat) (hb : b ≤ 32) (h : m < 9223372036854775808) : aBits Nat.land .i64 .i64 (.ofNat m) (.ofNat (2 ^ b - 1)) = some (.int .i64 (.ofNat (m % 2 ^ b))) := by
  have h1 : Nat.blt m 18446744073709551616 = true := by simp; omega
  have hp : 2 ^ b ≤ 2 ^ 32 := Nat.pow_le_pow_right (by decide) hb
  have h2 : Nat.blt (2 ^ b - 1) 18446744073709551616 = true := by
    have : 2 ^ b - 1 < 18446744073709551616 := by omega
    simpa using this
  have h3 : Nat.land m (2 ^ b - 1) = m % 2 ^ b := Nat.and_two_pow_sub_one_eq_mod m b
  have h4 : m % 2 ^ b < 9223372036854775808 := Nat.lt_of_le_of_lt (Nat.mod_le _ _) h
  unfold aBits
  simp only [decide_true, wide64, h1, h2, h3, q64 _ h4]
theorem land7 (m : Nat) (h : m < 18446744073709551616) : aBits Nat.land .u64 .u64 (.ofNat m) 7 = some (.int .u64 (.ofNat (m % 8))) := land_u m 3 (by decide) h
theorem land7i (m : Nat) (h : m < 9223372036854775808) : aBits Nat.land .i64 .i64 (.ofNat m) 7 = some (.int .i64 (.ofNat (m % 8))) := land_i m 3 (by decide) h
theorem shr_u (m y : Nat) (hy : y ≤ 64) : aShift false .u64 (.ofNat m) (.ofNat y) = some (.int .u64 (.ofNat (m / 2 ^ y))) := by
  unfold aShift
  simp only [wide64, show Nat.ble y 64 = true from Nat.ble_eq_true_of_le hy]
  rfl
theorem shr_i (m y : Nat) (hy : y ≤ 64) : aShift false .i64 (.ofNat m) (.ofNat y) = some (.int .i64 (.ofNat (m / 2 ^ y))) := by
  unfold aShift
  simp only [wide64, show Nat.ble y 64 = true from Nat.ble_eq_true_of_le hy]
  rfl
theorem shr3 (m : Nat) : aShift false .u64 (.ofNat m) 3 = some (.int .u64 (.ofNat (m / 8))) := shr_u m 3 (by decide)
theorem shr3i (m : Nat) : aShift false .i64 (.ofNat m) 3 = some (.int .i64 (.ofNat (m / 8))) := shr_i m 3 (by decide)
theorem shr5i (m : Nat) : aShift false .i64 (.ofNat m) 5 = some (.int .i64 (.ofNat (m / 32))) := shr_i m 5 (by decide)
theorem shr8i (m : Nat) : aShift false .i64 (.ofNat m) 8 = some (.int .i64 (.ofNat (m / 256))) := shr_i m 8 (by decide)
theorem rem32 (m : Nat) : aDiv true .i64 .i64 (.ofNat m) 32 = some (.int .i64 (.ofNat (m % 32))) := rfl
theorem cvWi (n : Int) : aConvInt Tryz.prog 29 3 (.int .u64 n) = some (.int .i64 (qwrap .i64 n)) := by
  simp only [aConvInt, Tryz.underlying3, Tryz.underlying29]
theorem cviW (n : Int) : aConvInt Tryz.prog 3 29 (.int .i64 n) = some (.int .u64 (qwrap .u64 n)) := by
  simp only [aConvInt, Tryz.underlying3, Tryz.underlying29]
theorem ieq_00 : ieq 0 0 = true := rfl
theorem ieq_lit0 (m : Nat) : ieq (.ofNat m) 0 = decide (m = 0) := ieq_nat m 0
theorem ieq_lit1 (m : Nat) : ieq (.ofNat m) 1 = decide (m = 1) := ieq_nat m 1
theorem ieq_lit6 (m : Nat) : ieq (.ofNat m) 6 = decide (m = 6) := ieq_nat m 6

set_option maxHeartbeats 4000000 in
theorem word_kind {k m : Nat} {μ : Mem} (hm : m < 9223372036854775808) :
    EndsF (aFun Tryz.prog (aCode Tryz.prog X S (k + 20)) 22 [.int .u64 (.ofNat m)] μ) fun v μ' => v = .int .i64 (.ofNat (m % 8)) ∧ μ' = μ := by
  refine fun_enter Tryz.func22 rfl rfl (by show 1 ≤ 6; decide) ?_
  simp only [T.lay, Nat.zero_add, Tryz.ntmps22, Nat.reduceAdd]
  refine code_seq ?_
  refine code_region ?_ ?_
  · rfl
  simp only [run1, aOne, aP, aev, regAt_set, aput_mk, ends_some, Nat.reduceLT, if_true, plainV, then_normal, Nat.reduceEqDiff, if_false, reduceIte]
  refine code_seq ?_
  refine code_region ?_ ?_
  · rfl
  simp only [run1, aOne, aP, aev, regAt_set, aput_mk, plainV, aBin, aInt, land7 m (by omega), cvWi, q64 (m % 8) (by omega), ends_some, Nat.reduceLT, if_true, then_normal, Nat.reduceEqDiff, if_false, reduceIte]
  refine code_ret ?_
  refine ⟨rfl, _, ?_, rfl, rfl⟩
  simp only [aResults, Tryz.results22, aRes, regAt_set, Nat.reduceEqDiff, reduceIte]

set_option maxHeartbeats 4000000 in
theorem word_value {k m : Nat} {μ : Mem} (hm : m < 9223372036854775808) (h0 : m % 8 ≠ 0) :
    EndsF (aFun Tryz.prog (aCode Tryz.prog X S (k + 20)) 24 [.int .u64 (.ofNat m)] μ) fun v μ' => v = .int .i64 (.ofNat (m / 8)) ∧ μ' = μ := by
  refine fun_enter Tryz.func24 rfl rfl (by show 1 ≤ 12; decide) ?_
  simp only [T.lay, Nat.zero_add, Tryz.ntmps24, Nat.reduceAdd]
  refine code_seq ?_
  refine code_region ?_ ?_
  · rfl
  simp only [run1, aOne, aP, aev, regAt_set, aput_mk, ends_some, Nat.reduceLT, if_true, plainV, then_normal, Nat.reduceEqDiff, if_false, reduceIte]
  refine code_seq ?_
  refine code_seq ?_
  refine code_region ?_ ?_
  · rfl
  simp only [run1, aOne, aP, aev, regAt_set, aput_mk, plainV, aBin, aInt, land7 m (by omega), ieq_lit0, h0, decide_true, decide_false, ends_some, Nat.reduceLT, if_true, then_normal, Nat.reduceEqDiff, if_false, reduceIte]
  refine code_cond_false ?_ ?_
  · simp only [aev, regAt_set, Nat.reduceEqDiff, reduceIte]
  refine code_skip ?_
  simp only [then_normal]
  refine code_seq ?_
  refine code_region ?_ ?_
  · rfl
  simp only [run1, aOne, aP, aev, regAt_set, aput_mk, plainV, aBin, aInt, shr3, cvWi, q64 (m / 8) (by omega), ends_some, Nat.reduceLT, if_true, then_normal, Nat.reduceEqDiff, if_false, reduceIte]
  refine code_ret ?_
  refine ⟨rfl, _, ?_, rfl, rfl⟩
  simp only [aResults, Tryz.results24, aRes, regAt_set, Nat.reduceEqDiff, reduceIte]
end

noncomputable section
variable {X : FuncId → List Value → Mem → Option (Value × Mem)}

/-- an equation out of an end that is known -/
theorem ends_eq {x : Option (Value × Mem)} {v : Value} {μ : Mem} (h : EndsF x fun v' μ' => v' = v ∧ μ' = μ) : x = some (v, μ) := by
  obtain ⟨v', μ', h1, rfl, rfl⟩ := h; exact h1

theorem kind_eq {f m : Nat} {μ : Mem} (hf : 20 ≤ f) (hm : m < 9223372036854775808) : aFun Tryz.prog (aCode Tryz.prog X S0 f) 22 [.int .u64 (.ofNat m)] μ = some (.int .i64 (.ofNat (m % 8)), μ) := by
  obtain ⟨k, rfl⟩ := Nat.exists_eq_add_of_le' hf
  exact ends_eq (word_kind hm)
theorem value_eq {f m : Nat} {μ : Mem} (hf : 20 ≤ f) (hm : m < 9223372036854775808) (h0 : m % 8 ≠ 0) : aFun Tryz.prog (aCode Tryz.prog X S0 f) 24 [.int .u64 (.ofNat m)] μ = some (.int .i64 (.ofNat (m / 8)), μ) := by
  obtain ⟨k, rfl⟩ := Nat.exists_eq_add_of_le' hf
  exact ends_eq (word_value hm h0)
theorem get_eq {f ap wb N q : Nat} {ws : Nat → Nat} {μ : Mem} (hf : 20 ≤ f) (hA : Arena μ ap wb N ws) (hq : q < N) : aFun Tryz.prog (aCode Tryz.prog X S0 f) 86 [.pointer (some ⟨ap, 0, none⟩), .int .i64 (.ofNat q)] μ = some (.tuple #[.int .u64 (.ofNat (ws q)), .int .i64 0], μ) := by
  obtain ⟨k, rfl⟩ := Nat.exists_eq_add_of_le' hf
  exact ends_eq (arena_get hA hq)

theorem iH : Tryz.prog.info? 166 = some Tryz.t166 := by kernel_rfl
theorem iA : Tryz.prog.info? 115 = some Tryz.t115 := by kernel_rfl
theorem i3 : Tryz.prog.info? 3 = some Tryz.t3 := by kernel_rfl
theorem zH : aZeroOf Tryz.prog 166 = some (.agg #[.int .i64 0, .int .i64 0, .int .i64 0]) := by unfold aZeroOf; rw [iH]; rfl
theorem alH : aAlloc Tryz.prog 166 = some (.cells 3 166 #[.int .i64 0, .int .i64 0, .int .i64 0] .e 0 0 false false, fun id => .pointer (some ⟨id, 0, none⟩)) := by unfold aAlloc; rw [zH]; rfl
theorem faH0 (ρ : Operand → Value) (x : Operand) : aFieldAddr Tryz.prog ρ 118 x 0 = (match ρ x with | .pointer (some a) => some (.pointer (some (a.add 0))) | _ => none) := fieldAddr_at (ft := 115) (off := 0) Tryz.underlying118 rfl iA rfl ρ x
theorem ldA (μ : Mem) (i o : Nat) : aLoad Tryz.prog μ 115 (.pointer (some ⟨i, o, none⟩)) = cellsAt μ i o := load_at Tryz.underlying115 rfl μ i o
theorem bdH {ρ : Operand → Value} {a b c : Operand} {x y z : Value} (h1 : ρ a = x) (h2 : ρ b = y) (h3 : ρ c = z) (o1 : one x = true) (o2 : one y = true) (o3 : one z = true) : aBuild Tryz.prog ρ 166 #[(0, a), (1, b), (2, c)] = some (.agg #[x, y, z]) := by
  refine build_struct (pl := [(0, 1), (1, 1), (2, 1)]) zH Tryz.underlying166 (by kernel_rfl) ?_
  show aFill _ [.int .i64 0, .int .i64 0, .int .i64 0] [(0, ρ a), (1, ρ b), (2, ρ c)] = some [x, y, z]
  rw [h1, h2, h3, aFill_one (off := 0) rfl o1 (by simp), aFill_one (off := 1) rfl o2 (by simp), aFill_one (off := 2) rfl o3 (by simp)]
  rfl

theorem bdH' (ρ : Operand → Value) (a b c : Operand) (o1 : one (ρ a) = true) (o2 : one (ρ b) = true) (o3 : one (ρ c) = true) : aBuild Tryz.prog ρ 166 #[(0, a), (1, b), (2, c)] = some (.agg #[ρ a, ρ b, ρ c]) := bdH rfl rfl rfl o1 o2 o3

/-- the head of an object -/
def headW (kd pn n : Nat) : Nat := ((n * 256 + pn * 32 + kd) * 8) + 6
def placeW (q : Nat) : Nat := 8 * q + 1

/-- what grows, and turns nothing -/
def Grow (μ μ' : Mem) : Prop := μ.next ≤ μ'.next ∧ ∀ i, i < μ.next → μ'.obs.get i = μ.obs.get i
theorem Grow.refl (μ : Mem) : Grow μ μ := ⟨Nat.le_refl _, fun _ _ => rfl⟩
theorem Grow.trans {a b c : Mem} (h : Grow a b) (g : Grow b c) : Grow a c := ⟨Nat.le_trans h.1 g.1, fun i hi => (g.2 i (Nat.lt_of_lt_of_le hi h.1)).trans (h.2 i hi)⟩

/-- a heap in its arena -/
structure HeapAt (μ : Mem) (hp ap wb N : Nat) (ws : Nat → Nat) : Prop where
  head : cellsAt μ hp 0 = some (.pointer (some ⟨ap, 0, none⟩))
  arena : Arena μ ap wb N ws
  h1 : hp < μ.next
  h2 : ap < μ.next
  h3 : wb < μ.next
  h4 : hp ≠ wb

theorem HeapAt.keep {μ μ' : Mem} {hp ap wb N : Nat} {ws : Nat → Nat} (h : HeapAt μ hp ap wb N ws) (hg : Grow μ μ') : HeapAt μ' hp ap wb N ws :=
  ⟨by rw [← h.head]; unfold cellsAt; rw [hg.2 hp h.h1], h.arena.keep (hg.2 ap h.h2) (hg.2 wb h.h3), Nat.lt_of_lt_of_le h.h1 hg.1, Nat.lt_of_lt_of_le h.h2 hg.1, Nat.lt_of_lt_of_le h.h3 hg.1, h.h4⟩

set_option maxHeartbeats 4000000 in
theorem heap_at {k hp ap wb N q kd pn n : Nat} {ws : Nat → Nat} {μ : Mem} (hH : HeapAt μ hp ap wb N ws) (hq : q < N) (hN : N < 1000000) (hw : ws q = headW kd pn n) (h1 : kd < 32) (h2 : pn < 8) (h3 : n < 1000000) :
    EndsF (aFun Tryz.prog (aCode Tryz.prog X S0 (k + 50)) 85 [.pointer (some ⟨hp, 0, none⟩), .int .u64 (.ofNat (placeW q))] μ) fun v μ' => v = .tuple #[.int .i64 (.ofNat q), .agg #[.int .i64 (.ofNat kd), .int .i64 (.ofNat pn), .int .i64 (.ofNat n)], .bool true] ∧ Grow μ μ' := by
  have hpw : placeW q < 9223372036854775808 := by unfold placeW; omega
  have hm8 : placeW q % 8 = 1 := by unfold placeW; omega
  have hd8 : placeW q / 8 = q := by unfold placeW; omega
  have hhw : headW kd pn n < 9223372036854775808 := by unfold headW; omega
  have e1 : headW kd pn n % 8 = 6 := by unfold headW; omega
  have e2 : headW kd pn n / 8 = n * 256 + pn * 32 + kd := by unfold headW; omega
  have e3 : (n * 256 + pn * 32 + kd) % 32 = kd := by omega
  have e4 : (n * 256 + pn * 32 + kd) / 32 % 8 = pn := by omega
  have e5 : (n * 256 + pn * 32 + kd) / 256 = n := by omega
  have hg1 : Grow μ ⟨μ.obs.set μ.next (.cells 3 166 #[.int .i64 0, .int .i64 0, .int .i64 0] .e 0 0 false false), Nat.add μ.next 1⟩ := ⟨Nat.le_succ _, fun i hi => by show T.get _ i = _; rw [T.get_set, if_neg (by omega)]⟩
  have hH1 := hH.keep hg1
  have hKq : ∀ f, 20 ≤ f → aFun Tryz.prog (aCode Tryz.prog X S0 f) 22 [.int .u64 (.ofNat (placeW q))] ⟨μ.obs.set μ.next (.cells 3 166 #[.int .i64 0, .int .i64 0, .int .i64 0] .e 0 0 false false), Nat.add μ.next 1⟩ = some (.int .i64 (.ofNat 1), ⟨μ.obs.set μ.next (.cells 3 166 #[.int .i64 0, .int .i64 0, .int .i64 0] .e 0 0 false false), Nat.add μ.next 1⟩) := fun f hf => by
    rw [kind_eq hf hpw, hm8]
  have hVq : ∀ f, 20 ≤ f → aFun Tryz.prog (aCode Tryz.prog X S0 f) 24 [.int .u64 (.ofNat (placeW q))] ⟨μ.obs.set μ.next (.cells 3 166 #[.int .i64 0, .int .i64 0, .int .i64 0] .e 0 0 false false), Nat.add μ.next 1⟩ = some (.int .i64 (.ofNat q), ⟨μ.obs.set μ.next (.cells 3 166 #[.int .i64 0, .int .i64 0, .int .i64 0] .e 0 0 false false), Nat.add μ.next 1⟩) := fun f hf => by
    rw [value_eq hf hpw (by omega), hd8]
  have hGq : ∀ f, 20 ≤ f → aFun Tryz.prog (aCode Tryz.prog X S0 f) 86 [.pointer (some ⟨ap, 0, none⟩), .int .i64 (.ofNat q)] ⟨μ.obs.set μ.next (.cells 3 166 #[.int .i64 0, .int .i64 0, .int .i64 0] .e 0 0 false false), Nat.add μ.next 1⟩ = some (.tuple #[.int .u64 (.ofNat (headW kd pn n)), .int .i64 0], ⟨μ.obs.set μ.next (.cells 3 166 #[.int .i64 0, .int .i64 0, .int .i64 0] .e 0 0 false false), Nat.add μ.next 1⟩) := fun f hf => by
    rw [get_eq hf hH1.arena hq, hw]
  refine fun_enter Tryz.func85 rfl rfl (by show 2 ≤ 46; decide) ?_
  simp only [T.lay, Nat.zero_add, Tryz.ntmps85, Nat.reduceAdd]
  refine code_seq ?_
  refine code_region ?_ ?_
  · rfl
  simp only [run1, aOne, aP, aR, aA, alH, aev, regAt_set, aput_mk, ends_some, Nat.reduceLT, if_true, plainV, then_normal, Nat.reduceEqDiff, if_false, reduceIte]
  refine code_seq ?_
  refine code_seq ?_
  refine code_region ?_ ?_
  · rfl
  simp only [run1, aOne, aP, aR, aA, aT, aCall, aCallVal, go_call (P := Tryz.prog) (X := X) (S := S0) Tryz.func22 rfl rfl, hKq, aev, regAt_set, aput_mk, plainV, aBin, aInt, ieq_lit1, ends_some, Nat.reduceLT, if_true, then_normal, Nat.reduceEqDiff, if_false, reduceIte, List.map_cons, List.map_nil, List.nil_append, List.append_nil, decide_true, Bool.not_true, Nat.reduceLeDiff]
  refine code_cond_false ?_ ?_
  · simp only [aev, regAt_set, Nat.reduceEqDiff, reduceIte]
  refine code_skip ?_
  simp only [then_normal]
  refine code_seq ?_
  refine code_region ?_ ?_
  · rfl
  simp only [run1, aOne, aP, aR, aA, aT, aCall, aCallVal, go_call (P := Tryz.prog) (X := X) (S := S0) Tryz.func24 rfl rfl, hVq, aev, regAt_set, aput_mk, plainV, ends_some, Nat.reduceLT, if_true, then_normal, Nat.reduceEqDiff, if_false, reduceIte, List.map_cons, List.map_nil, List.nil_append, List.append_nil, Nat.reduceLeDiff]
  refine code_seq ?_
  refine code_region ?_ ?_
  · rfl
  simp only [run1, aOne, aP, aR, aA, aT, aCall, aCallVal, go_call (P := Tryz.prog) (X := X) (S := S0) Tryz.func86 rfl rfl, hGq, aNilCheck, faH0, ldA, hH1.head, aExtract, Addr.add, aev, regAt_set, aput_mk, plainV, ends_some, Nat.reduceLT, if_true, then_normal, Nat.reduceEqDiff, if_false, reduceIte, List.map_cons, List.map_nil, List.nil_append, List.append_nil, Nat.reduceLeDiff, List.getElem?_cons_zero, List.getElem?_cons_succ]
  refine code_seq ?_
  refine code_seq ?_
  refine code_guards (gs := ?_) ?_ ?_
  rotate_left
  · rfl
  simp only [run2, wanted, aOne, aP, aR, aA, aT, aev, regAt_set, aput_mk, plainV, aBin, aInt, land7 _ (Nat.lt_trans hhw (by decide)), e1, ieq_00, ieq_lit6, ieq_lit0, aPick,
    ends_some, Nat.reduceLT, if_true, then_normal, Nat.reduceEqDiff, if_false, reduceIte, reduceCtorEq, decide_true, decide_false, Bool.not_true, Bool.not_false, beq_self_eq_true, beq_tf, beq_ft]
  refine code_cond_false ?_ ?_
  · simp only [aev, regAt_set, Nat.reduceEqDiff, reduceIte]
  refine code_skip ?_
  simp only [then_normal]
  refine code_seq ?_
  refine code_region ?_ ?_
  · rfl
  simp only [run1, aOne, aP, aR, aA, aT, aev, regAt_set, aput_mk, plainV, aBin, aInt, shr3, e2, cvWi, q64 (n * 256 + pn * 32 + kd) (by omega), ends_some, Nat.reduceLT, if_true, then_normal, Nat.reduceEqDiff, if_false, reduceIte, reduceCtorEq]
  refine code_seq ?_
  refine code_region ?_ ?_
  · rfl
  have hst := store_list (P := Tryz.prog) (t := 166) (vs := [.int .i64 (.ofNat kd), .int .i64 (.ofNat pn), .int .i64 (.ofNat n)]) (μ := ⟨μ.obs.set μ.next (.cells 3 166 #[.int .i64 0, .int .i64 0, .int .i64 0] .e 0 0 false false), Nat.add μ.next 1⟩) (i := μ.next) (o := 0) iH rfl rfl (by rw [T.get_set, if_pos rfl]) (by simp)
  simp only [run1, aOne, aP, aR, aA, aT, aev, regAt_set, aput_mk, aput_none, plainV, aBin, aInt, rem32, shr5i, shr8i, land7i _ (Nat.lt_of_le_of_lt (Nat.div_le_self _ _) (by omega : n * 256 + pn * 32 + kd < 9223372036854775808)), e3, e4, e5, bdH', one, hst, ends_some, Nat.reduceLT, if_true, then_normal, Nat.reduceEqDiff, if_false, reduceIte, reduceCtorEq]
  refine code_ret ?_
  refine ⟨rfl, _, ?_, rfl, ?_⟩
  · have hld := load_struct (P := Tryz.prog) (t := 166) (μ := ⟨(μ.obs.set μ.next (.cells 3 166 #[.int .i64 0, .int .i64 0, .int .i64 0] .e 0 0 false false)).set μ.next (.cells 3 166 #[.int .i64 0, .int .i64 0, .int .i64 0] (T.lay .e 0 [.int .i64 (.ofNat kd), .int .i64 (.ofNat pn), .int .i64 (.ofNat n)]) 0 0 false false), Nat.add μ.next 1⟩) (i := μ.next) (o := 0) (n := 3) (z := #[.int .i64 0, .int .i64 0, .int .i64 0]) (ov := T.lay .e 0 [.int .i64 (.ofNat kd), .int .i64 (.ofNat pn), .int .i64 (.ofNat n)]) Tryz.underlying166 iH (by rw [T.get_set, if_pos rfl]; rfl) (by decide)
    simp only [aResults, Tryz.results85, aRes, regAt_set, Nat.reduceEqDiff, reduceIte, hld]
    rfl
  · refine ⟨Nat.le_succ _, fun i hi => ?_⟩
    show T.get _ i = _
    rw [T.get_set, if_neg (by omega), T.get_set, if_neg (by omega)]
end

noncomputable section
variable {X : FuncId → List Value → Mem → Option (Value × Mem)}

def hd0 : Ob := .cells 3 166 #[.int .i64 0, .int .i64 0, .int .i64 0] .e 0 0 false false
def hd1 (kd pn n : Nat) : Ob := .cells 3 166 #[.int .i64 0, .int .i64 0, .int .i64 0] (T.lay .e 0 [.int .i64 (.ofNat kd), .int .i64 (.ofNat pn), .int .i64 (.ofNat n)]) 0 0 false false
theorem alH0 : aAlloc Tryz.prog 166 = some (hd0, fun id => .pointer (some ⟨id, 0, none⟩)) := alH
theorem stH (t : T Ob) (x a kd pn n : Nat) : aStore Tryz.prog ⟨t.set a hd0, x⟩ 166 (.pointer (some ⟨a, 0, none⟩)) (.agg #[.int .i64 (.ofNat kd), .int .i64 (.ofNat pn), .int .i64 (.ofNat n)]) = some (undef, ⟨(t.set a hd0).set a (hd1 kd pn n), x⟩) :=
  store_list (P := Tryz.prog) (t := 166) (vs := [.int .i64 (.ofNat kd), .int .i64 (.ofNat pn), .int .i64 (.ofNat n)]) (μ := ⟨t.set a hd0, x⟩) (i := a) (o := 0) iH rfl rfl (by show T.get _ a = _; rw [T.get_set, if_pos rfl]; rfl) (by simp)
theorem cH (t : T Ob) (x a kd pn n : Nat) : obCells (Mem.obs ⟨(t.set a hd0).set a (hd1 kd pn n), x⟩ |>.get a) = some (3, #[.int .i64 0, .int .i64 0, .int .i64 0], T.lay .e 0 [.int .i64 (.ofNat kd), .int .i64 (.ofNat pn), .int .i64 (.ofNat n)]) := by
  show obCells (T.get _ a) = _
  rw [T.get_set, if_pos rfl]; rfl
theorem cH0 (t : T Ob) (x a kd pn n : Nat) : cellsAt ⟨(t.set a hd0).set a (hd1 kd pn n), x⟩ a 0 = some (.int .i64 (.ofNat kd)) := (cellsAt_of (cH t x a kd pn n) (by decide)).trans rfl
theorem cH2 (t : T Ob) (x a kd pn n : Nat) : cellsAt ⟨(t.set a hd0).set a (hd1 kd pn n), x⟩ a 2 = some (.int .i64 (.ofNat n)) := (cellsAt_of (cH t x a kd pn n) (by decide)).trans rfl
theorem ld3 (μ : Mem) (i o : Nat) : aLoad Tryz.prog μ 3 (.pointer (some ⟨i, o, none⟩)) = cellsAt μ i o := load_at Tryz.underlying3 rfl μ i o
theorem faD0 (ρ : Operand → Value) (x : Operand) : aFieldAddr Tryz.prog ρ 166 x 0 = (match ρ x with | .pointer (some a) => some (.pointer (some (a.add 0))) | _ => none) := fieldAddr_at (ft := 3) (off := 0) Tryz.underlying166 rfl i3 rfl ρ x
theorem faD2 (ρ : Operand → Value) (x : Operand) : aFieldAddr Tryz.prog ρ 166 x 2 = (match ρ x with | .pointer (some a) => some (.pointer (some (a.add 2))) | _ => none) := fieldAddr_at (ft := 3) (off := 2) Tryz.underlying166 rfl i3 rfl ρ x
theorem grow2 (μ : Mem) (o1 o2 : Ob) : Grow μ ⟨(μ.obs.set μ.next o1).set μ.next o2, Nat.add μ.next 1⟩ := ⟨Nat.le_succ _, fun i hi => by show T.get _ i = _; rw [T.get_set, if_neg (by omega), T.get_set, if_neg (by omega)]⟩

set_option maxHeartbeats 4000000 in
theorem heap_kind {k hp ap wb N q kd pn n : Nat} {ws : Nat → Nat} {μ : Mem} (hH : HeapAt μ hp ap wb N ws) (hq : q < N) (hN : N < 1000000) (hw : ws q = headW kd pn n) (h1 : kd < 32) (h2 : pn < 8) (h3 : n < 1000000) :
    EndsF (aFun Tryz.prog (aCode Tryz.prog X S0 (k + 80)) 47 [.pointer (some ⟨hp, 0, none⟩), .int .u64 (.ofNat (placeW q))] μ) fun v μ' => v = .int .i64 (.ofNat kd) ∧ Grow μ μ' := by
  refine fun_enter Tryz.func47 rfl rfl (by show 2 ≤ 19; decide) ?_
  simp only [T.lay, Nat.zero_add, Tryz.ntmps47, Nat.reduceAdd]
  refine code_seq ?_
  refine code_region ?_ ?_
  · rfl
  simp only [run1, aOne, aP, aev, regAt_set, aput_mk, ends_some, Nat.reduceLT, if_true, plainV, then_normal, Nat.reduceEqDiff, if_false, reduceIte]
  refine code_seq ?_
  refine code_region ?_ ?_
  · rfl
  obtain ⟨v1, μ1, hat, hv1, hg1⟩ := heap_at (X := X) (k := k + 27) hH hq hN hw h1 h2 h3
  subst hv1
  have hat : aFun Tryz.prog (aCode Tryz.prog X S0 (k + 77)) 85 [.pointer (some ⟨hp, 0, none⟩), .int .u64 (.ofNat (placeW q))] μ = some (.tuple #[.int .i64 (.ofNat q), .agg #[.int .i64 (.ofNat kd), .int .i64 (.ofNat pn), .int .i64 (.ofNat n)], .bool true], μ1) := hat
  simp only [run1, aOne, aP, aR, aA, aT, aCall, aCallVal, go_call (P := Tryz.prog) (X := X) (S := S0) Tryz.func85 rfl rfl, hat, aExtract, alH0, stH, aev, regAt_set, aput_mk, aput_none, plainV, ends_some, Nat.reduceLT, if_true, then_normal, Nat.reduceEqDiff, if_false, reduceIte, List.map_cons, List.map_nil, List.nil_append, List.append_nil, List.getElem?_cons_zero, List.getElem?_cons_succ]
  refine code_seq ?_
  refine code_seq ?_
  refine code_region ?_ ?_
  · rfl
  simp only [run1, aOne, aP, aev, regAt_set, aput_mk, ends_some, Nat.reduceLT, if_true, plainV, then_normal, Nat.reduceEqDiff, if_false, reduceIte, Bool.not_true]
  refine code_cond_false ?_ ?_
  · simp only [aev, regAt_set, Nat.reduceEqDiff, reduceIte]
  refine code_skip ?_
  simp only [then_normal]
  refine code_seq ?_
  refine code_region ?_ ?_
  · rfl
  simp only [run1, aOne, aP, aR, aA, aT, faD0, ld3, cH0, Addr.add, aev, regAt_set, aput_mk, ends_some, Nat.reduceLT, if_true, plainV, then_normal, Nat.reduceEqDiff, if_false, reduceIte]
  refine code_ret ?_
  refine ⟨rfl, .int .i64 (.ofNat kd), ?_, rfl, hg1.trans (grow2 _ _ _)⟩
  simp only [aResults, Tryz.results47, aRes, regAt_set, Nat.reduceEqDiff, reduceIte]

set_option maxHeartbeats 4000000 in
theorem heap_size {k hp ap wb N q kd pn n : Nat} {ws : Nat → Nat} {μ : Mem} (hH : HeapAt μ hp ap wb N ws) (hq : q < N) (hN : N < 1000000) (hw : ws q = headW kd pn n) (h1 : kd < 32) (h2 : pn < 8) (h3 : n < 1000000) :
    EndsF (aFun Tryz.prog (aCode Tryz.prog X S0 (k + 80)) 48 [.pointer (some ⟨hp, 0, none⟩), .int .u64 (.ofNat (placeW q))] μ) fun v μ' => v = .int .i64 (.ofNat n) ∧ Grow μ μ' := by
  refine fun_enter Tryz.func48 rfl rfl (by show 2 ≤ 19; decide) ?_
  simp only [T.lay, Nat.zero_add, Tryz.ntmps48, Nat.reduceAdd]
  refine code_seq ?_
  refine code_region ?_ ?_
  · rfl
  simp only [run1, aOne, aP, aev, regAt_set, aput_mk, ends_some, Nat.reduceLT, if_true, plainV, then_normal, Nat.reduceEqDiff, if_false, reduceIte]
  refine code_seq ?_
  refine code_region ?_ ?_
  · rfl
  obtain ⟨v1, μ1, hat, hv1, hg1⟩ := heap_at (X := X) (k := k + 27) hH hq hN hw h1 h2 h3
  subst hv1
  have hat : aFun Tryz.prog (aCode Tryz.prog X S0 (k + 77)) 85 [.pointer (some ⟨hp, 0, none⟩), .int .u64 (.ofNat (placeW q))] μ = some (.tuple #[.int .i64 (.ofNat q), .agg #[.int .i64 (.ofNat kd), .int .i64 (.ofNat pn), .int .i64 (.ofNat n)], .bool true], μ1) := hat
  simp only [run1, aOne, aP, aR, aA, aT, aCall, aCallVal, go_call (P := Tryz.prog) (X := X) (S := S0) Tryz.func85 rfl rfl, hat, aExtract, alH0, stH, aev, regAt_set, aput_mk, aput_none, plainV, ends_some, Nat.reduceLT, if_true, then_normal, Nat.reduceEqDiff, if_false, reduceIte, List.map_cons, List.map_nil, List.nil_append, List.append_nil, List.getElem?_cons_zero, List.getElem?_cons_succ]
  refine code_seq ?_
  refine code_seq ?_
  refine code_region ?_ ?_
  · rfl
  simp only [run1, aOne, aP, aev, regAt_set, aput_mk, ends_some, Nat.reduceLT, if_true, plainV, then_normal, Nat.reduceEqDiff, if_false, reduceIte, Bool.not_true]
  refine code_cond_false ?_ ?_
  · simp only [aev, regAt_set, Nat.reduceEqDiff, reduceIte]
  refine code_skip ?_
  simp only [then_normal]
  refine code_seq ?_
  refine code_region ?_ ?_
  · rfl
  simp only [run1, aOne, aP, aR, aA, aT, faD2, ld3, cH2, Addr.add, Nat.zero_add, aev, regAt_set, aput_mk, ends_some, Nat.reduceLT, if_true, plainV, then_normal, Nat.reduceEqDiff, if_false, reduceIte]
  refine code_ret ?_
  refine ⟨rfl, .int .i64 (.ofNat n), ?_, rfl, hg1.trans (grow2 _ _ _)⟩
  simp only [aResults, Tryz.results48, aRes, regAt_set, Nat.reduceEqDiff, reduceIte]

set_option maxHeartbeats 4000000 in
theorem heap_get {k hp ap wb N q kd pn n i : Nat} {ws : Nat → Nat} {μ : Mem} (hH : HeapAt μ hp ap wb N ws) (hq : q + n < N) (hN : N < 1000000) (hw : ws q = headW kd pn n) (h1 : kd < 32) (h2 : pn < 8) (hi : i < n) :
    EndsF (aFun Tryz.prog (aCode Tryz.prog X S0 (k + 80)) 49 [.pointer (some ⟨hp, 0, none⟩), .int .u64 (.ofNat (placeW q)), .int .i64 (.ofNat i)] μ) fun v μ' => v = .tuple #[.int .u64 (.ofNat (ws (q + 1 + i))), .int .i64 0] ∧ Grow μ μ' := by
  have hq' : q < N := by omega
  have h3 : n < 1000000 := by omega
  refine fun_enter Tryz.func49 rfl rfl (by show 3 ≤ 47; decide) ?_
  simp only [T.lay, Nat.zero_add, Tryz.ntmps49, Nat.reduceAdd]
  refine code_seq ?_
  refine code_region ?_ ?_
  · rfl
  simp only [run1, aOne, aP, aev, regAt_set, aput_mk, ends_some, Nat.reduceLT, if_true, plainV, then_normal, Nat.reduceEqDiff, if_false, reduceIte]
  refine code_seq ?_
  refine code_region ?_ ?_
  · rfl
  obtain ⟨v1, μ1, hat, hv1, hg1⟩ := heap_at (X := X) (k := k + 27) hH hq' hN hw h1 h2 h3
  subst hv1
  have hat : aFun Tryz.prog (aCode Tryz.prog X S0 (k + 77)) 85 [.pointer (some ⟨hp, 0, none⟩), .int .u64 (.ofNat (placeW q))] μ = some (.tuple #[.int .i64 (.ofNat q), .agg #[.int .i64 (.ofNat kd), .int .i64 (.ofNat pn), .int .i64 (.ofNat n)], .bool true], μ1) := hat
  have hg2 := hg1.trans (grow2 μ1 hd0 (hd1 kd pn n))
  have hH2 := hH.keep hg2
  have a1 : qwrap .i64 (Int.add (.ofNat q) 1) = .ofNat (q + 1) := add_nat q 1 (by omega)
  have a2 : qwrap .i64 (Int.add (.ofNat (q + 1)) (.ofNat i)) = .ofNat (q + 1 + i) := add_nat (q + 1) i (by omega)
  simp only [run1, aOne, aP, aR, aA, aT, aCall, aCallVal, go_call (P := Tryz.prog) (X := X) (S := S0) Tryz.func85 rfl rfl, hat, aExtract, alH0, stH, aev, regAt_set, aput_mk, aput_none, plainV, ends_some, Nat.reduceLT, if_true, then_normal, Nat.reduceEqDiff, if_false, reduceIte, List.map_cons, List.map_nil, List.nil_append, List.append_nil, List.getElem?_cons_zero, List.getElem?_cons_succ]
  refine code_seq ?_
  refine code_seq ?_
  refine code_guards (gs := ?_) ?_ ?_
  rotate_left
  · rfl
  simp only [run2, wanted, aOne, aP, aR, aA, aT, faD2, ld3, cH2, aev, regAt_set, aput_mk, plainV, aBin, aInt, ilt_z, ilt_nat, hi, aPick, Addr.add, Nat.zero_add,
    ends_some, Nat.reduceLT, if_true, then_normal, Nat.reduceEqDiff, if_false, reduceIte, reduceCtorEq, decide_true, decide_false, Bool.not_true, Bool.not_false, beq_self_eq_true, beq_tf, beq_ft]
  refine code_cond_false ?_ ?_
  · simp only [aev, regAt_set, Nat.reduceEqDiff, reduceIte]
  refine code_skip ?_
  simp only [then_normal]
  refine code_seq ?_
  refine code_region ?_ ?_
  · rfl
  have hG : ∀ f, 20 ≤ f → aFun Tryz.prog (aCode Tryz.prog X S0 f) 86 [.pointer (some ⟨ap, 0, none⟩), .int .i64 (.ofNat (q + 1 + i))] ⟨(μ1.obs.set μ1.next hd0).set μ1.next (hd1 kd pn n), Nat.add μ1.next 1⟩ = some (.tuple #[.int .u64 (.ofNat (ws (q + 1 + i))), .int .i64 0], ⟨(μ1.obs.set μ1.next hd0).set μ1.next (hd1 kd pn n), Nat.add μ1.next 1⟩) := fun f hf => get_eq hf hH2.arena (by omega)
  simp only [run1, aOne, aP, aR, aA, aT, aCall, aCallVal, go_call (P := Tryz.prog) (X := X) (S := S0) Tryz.func86 rfl rfl, hG, aNilCheck, faH0, ldA, hH2.head, aExtract, aBin, aInt, a1, a2, Addr.add, Nat.zero_add, aev, regAt_set, aput_mk, plainV, ends_some, Nat.reduceLT, if_true, then_normal, Nat.reduceEqDiff, if_false, reduceIte, decide_true, List.map_cons, List.map_nil, List.nil_append, List.append_nil, List.getElem?_cons_zero, List.getElem?_cons_succ, Nat.reduceLeDiff]
  refine code_seq ?_
  refine code_seq ?_
  refine code_region ?_ ?_
  · rfl
  simp only [run1, aOne, aP, aev, regAt_set, aput_mk, plainV, aBin, aInt, ieq_00, decide_true, Bool.not_true, ends_some, Nat.reduceLT, if_true, then_normal, Nat.reduceEqDiff, if_false, reduceIte]
  refine code_cond_false ?_ ?_
  · simp only [aev, regAt_set, Nat.reduceEqDiff, reduceIte]
  refine code_skip ?_
  simp only [then_normal]
  refine code_seq ?_
  refine code_region ?_ ?_
  · rfl
  simp only [run1, aOne, aP, aev, regAt_set, aput_mk, plainV, ends_some, Nat.reduceLT, if_true, then_normal, Nat.reduceEqDiff, if_false, reduceIte]
  refine code_ret ?_
  refine ⟨rfl, _, ?_, rfl, hg2⟩
  simp only [aResults, Tryz.results49, aRes, regAt_set, Nat.reduceEqDiff, reduceIte]

set_option maxHeartbeats 4000000 in
theorem heap_set {k hp ap wb N q kd pn n i w : Nat} {ws : Nat → Nat} {μ : Mem} (hH : HeapAt μ hp ap wb N ws) (hq : q + n < N) (hN : N < 1000000) (hw : ws q = headW kd pn n) (h1 : kd < 32) (h2 : pn < 8) (hi : i < n) :
    EndsF (aFun Tryz.prog (aCode Tryz.prog X S0 (k + 80)) 46 [.pointer (some ⟨hp, 0, none⟩), .int .u64 (.ofNat (placeW q)), .int .i64 (.ofNat i), .int .u64 (.ofNat w)] μ) fun v μ' => v = .int .i64 0 ∧ HeapAt μ' hp ap wb N (put ws (q + 1 + i) w) ∧ μ.next ≤ μ'.next ∧ ∀ j, j < μ.next → j ≠ wb → μ'.obs.get j = μ.obs.get j := by
  have hq' : q < N := by omega
  have h3 : n < 1000000 := by omega
  refine fun_enter Tryz.func46 rfl rfl (by show 4 ≤ 44; decide) ?_
  simp only [T.lay, Nat.zero_add, Tryz.ntmps46, Nat.reduceAdd]
  refine code_seq ?_
  refine code_region ?_ ?_
  · rfl
  simp only [run1, aOne, aP, aev, regAt_set, aput_mk, ends_some, Nat.reduceLT, if_true, plainV, then_normal, Nat.reduceEqDiff, if_false, reduceIte]
  refine code_seq ?_
  refine code_region ?_ ?_
  · rfl
  obtain ⟨v1, μ1, hat, hv1, hg1⟩ := heap_at (X := X) (k := k + 27) hH hq' hN hw h1 h2 h3
  subst hv1
  have hat : aFun Tryz.prog (aCode Tryz.prog X S0 (k + 77)) 85 [.pointer (some ⟨hp, 0, none⟩), .int .u64 (.ofNat (placeW q))] μ = some (.tuple #[.int .i64 (.ofNat q), .agg #[.int .i64 (.ofNat kd), .int .i64 (.ofNat pn), .int .i64 (.ofNat n)], .bool true], μ1) := hat
  have hg2 := hg1.trans (grow2 μ1 hd0 (hd1 kd pn n))
  have hH2 := hH.keep hg2
  have a1 : qwrap .i64 (Int.add (.ofNat q) 1) = .ofNat (q + 1) := add_nat q 1 (by omega)
  have a2 : qwrap .i64 (Int.add (.ofNat (q + 1)) (.ofNat i)) = .ofNat (q + 1 + i) := add_nat (q + 1) i (by omega)
  simp only [run1, aOne, aP, aR, aA, aT, aCall, aCallVal, go_call (P := Tryz.prog) (X := X) (S := S0) Tryz.func85 rfl rfl, hat, aExtract, alH0, stH, aev, regAt_set, aput_mk, aput_none, plainV, ends_some, Nat.reduceLT, if_true, then_normal, Nat.reduceEqDiff, if_false, reduceIte, List.map_cons, List.map_nil, List.nil_append, List.append_nil, List.getElem?_cons_zero, List.getElem?_cons_succ]
  obtain ⟨v2, μ3, hS, hv2, hA3, hn3, hk3⟩ := arena_set (X := X) (S := S0) (k := k + 55) (w := w) hH2.arena (q := q + 1 + i) (by omega)
  subst hv2
  have hS : aFun Tryz.prog (aCode Tryz.prog X S0 (k + 75)) 82 [.pointer (some ⟨ap, 0, none⟩), .int .i64 (.ofNat (q + 1 + i)), .int .u64 (.ofNat w)] ⟨(μ1.obs.set μ1.next hd0).set μ1.next (hd1 kd pn n), Nat.add μ1.next 1⟩ = some (.int .i64 0, μ3) := hS
  refine code_seq ?_
  refine code_seq ?_
  refine code_guards (gs := ?_) ?_ ?_
  rotate_left
  · rfl
  simp only [run2, wanted, aOne, aP, aR, aA, aT, aCall, aCallVal, go_call (P := Tryz.prog) (X := X) (S := S0) Tryz.func82 rfl rfl, hS, faD2, ld3, cH2, aNilCheck, faH0, ldA, hH2.head, a1, a2, ieq_00, aev, regAt_set, aput_mk, plainV, aBin, aInt, ilt_z, ilt_nat, hi, aPick, Addr.add, Nat.zero_add, List.map_cons, List.map_nil, List.nil_append, List.append_nil,
    ends_some, Nat.reduceLT, if_true, then_normal, Nat.reduceEqDiff, if_false, reduceIte, reduceCtorEq, decide_true, decide_false, Bool.not_true, Bool.not_false, beq_self_eq_true, beq_tf, beq_ft]
  refine code_cond_false ?_ ?_
  · simp only [aev, regAt_set, Nat.reduceEqDiff, reduceIte]
  refine code_skip ?_
  simp only [then_normal]
  refine code_seq ?_
  refine code_region ?_ ?_
  · rfl
  simp only [run1, aOne, aP, aev, regAt_set, aput_mk, plainV, ends_some, Nat.reduceLT, if_true, then_normal, Nat.reduceEqDiff, if_false, reduceIte]
  refine code_ret ?_
  have hle : μ.next ≤ μ3.next := by rw [hn3]; exact hg2.1
  refine ⟨rfl, .int .i64 0, ?_, rfl, ⟨?_, hA3, Nat.lt_of_lt_of_le hH.h1 hle, Nat.lt_of_lt_of_le hH.h2 hle, Nat.lt_of_lt_of_le hH.h3 hle, hH.h4⟩, hle, fun j hj hjw => (hk3 j hjw).trans (hg2.2 j hj)⟩
  · simp only [aResults, Tryz.results46, aRes, regAt_set, Nat.reduceEqDiff, reduceIte]
  · rw [← hH.head]
    unfold cellsAt
    rw [hk3 hp hH.h4, hg2.2 hp hH.h1]
end

noncomputable section
variable {X : FuncId → List Value → Mem → Option (Value × Mem)}

theorem run2_true {P : Program} {cf : FuncId → List Value → Mem → Option (Value × Mem)} {rf : Nat → List Value → Mem → Option (Value × Mem)} {o : Oper} {g : Option (Nat × Bool)} {rest : List (Oper × Option (Nat × Bool))} {r r' : Rg} {μ μ' : Mem} {v : Value} {Q : Rg → Mem → Prop}
    (hw : wanted r g = some true) (h1 : aOne P X cf rf r μ o = some (v, μ')) (h2 : aput r o.dst v = some r') (h : Go.Proofs.YtifoiijkaehpaaaGreatDoor.Ev.Ends (run2 P X cf rf rest r' μ') Q) : Go.Proofs.YtifoiijkaehpaaaGreatDoor.Ev.Ends (run2 P X cf rf ((o, g) :: rest) r μ) Q := by
  simp only [run2, hw, h1, h2]; exact h
theorem run2_false {P : Program} {cf : FuncId → List Value → Mem → Option (Value × Mem)} {rf : Nat → List Value → Mem → Option (Value × Mem)} {o : Oper} {g : Option (Nat × Bool)} {rest : List (Oper × Option (Nat × Bool))} {r r' : Rg} {μ : Mem} {Q : Rg → Mem → Prop}
    (hw : wanted r g = some false) (h2 : aput r o.dst undef = some r') (h : Go.Proofs.YtifoiijkaehpaaaGreatDoor.Ev.Ends (run2 P X cf rf rest r' μ) Q) : Go.Proofs.YtifoiijkaehpaaaGreatDoor.Ev.Ends (run2 P X cf rf ((o, g) :: rest) r μ) Q := by
  simp only [run2, hw, h2]; exact h

/-! ### numbers -/
theorem sub_nat (a b : Nat) (h : b ≤ a) (h1 : a < 4611686018427387904) : qwrap .i64 (Int.sub (.ofNat a) (.ofNat b)) = .ofNat (a - b) := by
  rw [show Int.sub (.ofNat a) (.ofNat b) = .ofNat (a - b) from by show (a : Int) - (b : Int) = _; simp only [Int.ofNat_eq_natCast]; omega]
  exact q64 _ (by omega)
theorem mul_nat (a b : Nat) (h : a * b < 4611686018427387904) : qwrap .i64 (Int.mul (.ofNat a) (.ofNat b)) = .ofNat (a * b) := q64 (a * b) (by omega)
theorem quo16 (m : Nat) (h : m < 4611686018427387904) : aDiv false .i64 .i64 (.ofNat m) 16 = some (.int .i64 (.ofNat (m / 16))) := by
  show some (Value.int .i64 (qwrap .i64 (.ofNat (m / 16)))) = _
  rw [q64 _ (by omega)]
theorem quo256 (m : Nat) (h : m < 4611686018427387904) : aDiv false .i64 .i64 (.ofNat m) 256 = some (.int .i64 (.ofNat (m / 256))) := by
  show some (Value.int .i64 (qwrap .i64 (.ofNat (m / 256)))) = _
  rw [q64 _ (by omega)]

/-! ### blocks of single cells -/
def Blk (μ : Mem) (i n t : Nat) : Prop := ∃ z ov fx sh, μ.obs.get i = some (.cells n t z ov 0 0 fx sh)
def putL (μ : Mem) (i o : Nat) (vs : List Value) : Mem := match μ.obs.get i with
  | some (.cells n t z ov a b fx sh) => ⟨μ.obs.set i (.cells n t z (ov.lay o vs) a b fx sh), μ.next⟩
  | _ => μ
theorem putL_next (μ : Mem) (i o : Nat) (vs : List Value) : (putL μ i o vs).next = μ.next := by
  unfold putL; split <;> rfl
theorem putL_get (μ : Mem) (i o : Nat) (vs : List Value) {j : Nat} (h : j ≠ i) : (putL μ i o vs).obs.get j = μ.obs.get j := by
  unfold putL; split
  · show T.get _ j = _; rw [T.get_set, if_neg h]
  · rfl
theorem Blk.put {μ : Mem} {i j m s : Nat} (o : Nat) (vs : List Value) (g : Blk μ j m s) : Blk (putL μ i o vs) j m s := by
  by_cases e : j = i
  · subst e
    obtain ⟨z, ov, fx, sh, hz⟩ := g
    refine ⟨z, ov.lay o vs, fx, sh, ?_⟩
    unfold putL; rw [hz]; show T.get _ j = _; rw [T.get_set, if_pos rfl]
  · unfold Blk; rw [putL_get _ _ _ _ e]; exact g
theorem cellAt_lay (z : Array Value) (ov : T Value) (o k : Nat) (vs : List Value) : cellAt z (ov.lay o vs) k = if h : o ≤ k ∧ k < o + vs.length then vs[k - o]'(by omega) else cellAt z ov k := by
  unfold cellAt
  rw [T.get_lay]
  by_cases h : o ≤ k ∧ k < o + vs.length
  · rw [if_pos h, dif_pos h, List.getElem?_eq_getElem (by omega)]
  · rw [if_neg h, dif_neg h]
theorem cells_put {μ : Mem} {i n t o j p : Nat} {vs : List Value} (h : Blk μ i n t) (ho : o + vs.length ≤ n) : cellsAt (putL μ i o vs) j p = if h : j = i ∧ o ≤ p ∧ p < o + vs.length then some (vs[p - o]'(by omega)) else cellsAt μ j p := by
  obtain ⟨z, ov, fx, sh, hz⟩ := h
  by_cases e : j = i
  · subst e
    have e1 : obCells ((putL μ j o vs).obs.get j) = some (n, z, ov.lay o vs) := by
      unfold putL; rw [hz]; show obCells (T.get _ j) = _; rw [T.get_set, if_pos rfl]; rfl
    have e2 : obCells (μ.obs.get j) = some (n, z, ov) := by rw [hz]; rfl
    unfold cellsAt
    rw [e1, e2]
    simp only
    rw [cellAt_lay]
    by_cases e3 : o ≤ p ∧ p < o + vs.length
    · rw [dif_pos e3, dif_pos ⟨trivial, e3⟩, if_pos (by omega)]
    · rw [dif_neg e3, dif_neg (fun x => e3 x.2)]
  · rw [dif_neg (fun x => e x.1)]
    unfold cellsAt; rw [putL_get _ _ _ _ e]
theorem cells_off {μ : Mem} {i o j p : Nat} {vs : List Value} (h : j ≠ i) : cellsAt (putL μ i o vs) j p = cellsAt μ j p := by
  unfold cellsAt; rw [putL_get _ _ _ _ h]
theorem store_put {t : TypeId} {inf : TypeInfo} {v : Value} {μ : Mem} {i o n te : Nat} (hi : Tryz.prog.info? t = some inf) (hsz : inf.size = 1) (hv : one v = true) (h : Blk μ i n te) (ho : o < n) :
    aStore Tryz.prog μ t (.pointer (some ⟨i, o, none⟩)) v = some (undef, putL μ i o [v]) := by
  obtain ⟨z, ov, fx, sh, hz⟩ := h
  rw [store_one hi hsz hv hz ho]
  unfold putL; rw [hz]; rfl
theorem store_puts {t : TypeId} {inf : TypeInfo} {vs : List Value} {μ : Mem} {i o n te : Nat} (hi : Tryz.prog.info? t = some inf) (hsz : inf.size = vs.length) (hv : vs.all one = true) (h : Blk μ i n te) (ho : o + vs.length ≤ n) :
    aStore Tryz.prog μ t (.pointer (some ⟨i, o, none⟩)) (.agg vs.toArray) = some (undef, putL μ i o vs) := by
  obtain ⟨z, ov, fx, sh, hz⟩ := h
  rw [store_list (vs := vs) hi hsz hv hz ho]
  unfold putL; rw [hz]

theorem iR : Tryz.prog.info? 160 = some Tryz.t160 := by kernel_rfl
theorem faR0 (ρ : Operand → Value) (x : Operand) : aFieldAddr Tryz.prog ρ 160 x 0 = (match ρ x with | .pointer (some a) => some (.pointer (some (a.add 0))) | _ => none) := fieldAddr_at (ft := 3) (off := 0) Tryz.underlying160 rfl i3 rfl ρ x
theorem faR1 (ρ : Operand → Value) (x : Operand) : aFieldAddr Tryz.prog ρ 160 x 1 = (match ρ x with | .pointer (some a) => some (.pointer (some (a.add 1))) | _ => none) := fieldAddr_at (ft := 3) (off := 1) Tryz.underlying160 rfl i3 rfl ρ x

theorem cells_up (t : T Ob) (n m i o : Nat) : cellsAt ⟨t, n⟩ i o = cellsAt ⟨t, m⟩ i o := rfl
theorem blk_up {t : T Ob} {n m i a b : Nat} (h : Blk ⟨t, n⟩ i a b) : Blk ⟨t, m⟩ i a b := h

set_option maxHeartbeats 4000000 in
theorem take_no {k ap o f t n : Nat} {μ : Mem} (hf : cellsAt μ ap o = some (.int .i64 (.ofNat f))) (ht : cellsAt μ ap (o + 1) = some (.int .i64 (.ofNat t))) (hft : f ≤ t) (hT : t < 4611686018427387904) (hn : t - f < n) :
    EndsF (aFun Tryz.prog (aCode Tryz.prog X S0 (k + 20)) 119 [.pointer (some ⟨ap, o, none⟩), .int .i64 (.ofNat n)] μ) fun v μ' => v = .tuple #[.int .i64 0, .bool false] ∧ μ' = ⟨μ.obs, μ.next + 11⟩ := by
  have a1 := sub_nat t f hft hT
  have hf' : ∀ m, cellsAt ⟨μ.obs, m⟩ ap o = some (.int .i64 (.ofNat f)) := fun m => hf
  have ht' : ∀ m, cellsAt ⟨μ.obs, m⟩ ap (o + 1) = some (.int .i64 (.ofNat t)) := fun m => ht
  refine fun_enter Tryz.func119 rfl rfl (Nat.le_of_ble_eq_true rfl) ?_
  simp only [T.lay, Nat.zero_add, Tryz.ntmps119, Nat.reduceAdd]
  refine code_seq ?_
  refine code_region ?_ ?_
  · rfl
  simp only [run1, aOne, aP, aR, aA, aT, aCall, aCallVal, aev, regAt_set, aput_mk, aput_none, plainV, aNilCheck, aExtract, aBin, aInt, Addr.add, Nat.zero_add, ends_some, Nat.reduceLT, Nat.reduceAdd, if_true, then_normal, Nat.reduceEqDiff, if_false, reduceIte, reduceCtorEq, decide_true, decide_false, Bool.not_true, Bool.not_false, beq_self_eq_true, beq_tf, beq_ft, aPick, List.map_cons, List.map_nil, List.nil_append, List.append_nil, List.getElem?_cons_zero, List.getElem?_cons_succ]
  refine code_seq ?_
  refine code_seq ?_
  refine code_draw (n := 11) (ms := [0, 1, 3, 7, 0, 16, 48, 112, 255, 0, 1023]) (ord := [0, 1, 2, 3, 4, 5, 6, 7, 8, 9, 10]) (ds := ?_) ?_ ?_ ?_ ?_ ?_ ?_
  rotate_left
  · kernel_rfl
  · kernel_rfl
  · kernel_rfl
  · rfl
  · rfl
  simp only [dRun, wanted, aDrawOne, heavy, aP, aReads, aR, aev, regAt_set, aput_mk, aNilCheck, faR0, faR1, ld3, Addr.add, Nat.add_zero, hf', ht', aBin, aInt, a1, ilt_nat, hn, endsD_some, Nat.reduceLT, if_true, then_normal, Nat.reduceEqDiff, if_false, reduceIte, decide_true]
  refine code_cond_true ?_ ?_
  · simp only [aev, regAt_set, Nat.reduceEqDiff, reduceIte]
  refine code_seq ?_
  refine code_region ?_ ?_
  · rfl
  simp only [run1, aOne, aP, aR, aA, aT, aCall, aCallVal, aev, regAt_set, aput_mk, aput_none, plainV, aNilCheck, aExtract, aBin, aInt, Addr.add, Nat.zero_add, ends_some, Nat.reduceLT, Nat.reduceAdd, if_true, then_normal, Nat.reduceEqDiff, if_false, reduceIte, reduceCtorEq, decide_true, decide_false, Bool.not_true, Bool.not_false, beq_self_eq_true, beq_tf, beq_ft, aPick, List.map_cons, List.map_nil, List.nil_append, List.append_nil, List.getElem?_cons_zero, List.getElem?_cons_succ]
  refine code_ret ?_
  refine ⟨rfl, _, ?_, rfl, rfl⟩
  simp only [aResults, Tryz.results119, aRes, regAt_set, Nat.reduceEqDiff, reduceIte]
set_option maxHeartbeats 4000000 in
theorem take_ok {k ap o f t n c te : Nat} {μ : Mem} (hb : Blk μ ap c te) (ho : o < c) (hf : cellsAt μ ap o = some (.int .i64 (.ofNat f))) (ht : cellsAt μ ap (o + 1) = some (.int .i64 (.ofNat t))) (hft : f ≤ t) (hT : t < 4611686018427387904) (hn : f + n ≤ t) :
    EndsF (aFun Tryz.prog (aCode Tryz.prog X S0 (k + 20)) 119 [.pointer (some ⟨ap, o, none⟩), .int .i64 (.ofNat n)] μ) fun v μ' => v = .tuple #[.int .i64 (.ofNat f), .bool true] ∧ μ' = putL ⟨μ.obs, μ.next + 11⟩ ap o [.int .i64 (.ofNat (f + n))] := by
  have a1 := sub_nat t f hft hT
  have a2 := add_nat f n (by omega)
  have hn' : ¬ t - f < n := by omega
  have hf' : ∀ m, cellsAt ⟨μ.obs, m⟩ ap o = some (.int .i64 (.ofNat f)) := fun m => hf
  have ht' : ∀ m, cellsAt ⟨μ.obs, m⟩ ap (o + 1) = some (.int .i64 (.ofNat t)) := fun m => ht
  have hst := store_put (t := 3) (v := .int .i64 (.ofNat (f + n))) (μ := ⟨μ.obs, μ.next + 11⟩) i3 rfl rfl (blk_up hb) ho
  refine fun_enter Tryz.func119 rfl rfl (Nat.le_of_ble_eq_true rfl) ?_
  simp only [T.lay, Nat.zero_add, Tryz.ntmps119, Nat.reduceAdd]
  refine code_seq ?_
  refine code_region ?_ ?_
  · rfl
  simp only [run1, aOne, aP, aR, aA, aT, aCall, aCallVal, aev, regAt_set, aput_mk, aput_none, plainV, aNilCheck, aExtract, aBin, aInt, Addr.add, Nat.zero_add, ends_some, Nat.reduceLT, Nat.reduceAdd, if_true, then_normal, Nat.reduceEqDiff, if_false, reduceIte, reduceCtorEq, decide_true, decide_false, Bool.not_true, Bool.not_false, beq_self_eq_true, beq_tf, beq_ft, aPick, List.map_cons, List.map_nil, List.nil_append, List.append_nil, List.getElem?_cons_zero, List.getElem?_cons_succ]
  refine code_seq ?_
  refine code_seq ?_
  refine code_draw (n := 11) (ms := [0, 1, 3, 7, 0, 16, 48, 112, 255, 0, 1023]) (ord := [0, 1, 2, 3, 4, 5, 6, 7, 8, 9, 10]) (ds := ?_) ?_ ?_ ?_ ?_ ?_ ?_
  rotate_left
  · kernel_rfl
  · kernel_rfl
  · kernel_rfl
  · rfl
  · rfl
  simp only [dRun, wanted, aDrawOne, heavy, aP, aReads, aR, aev, regAt_set, aput_mk, aNilCheck, faR0, faR1, ld3, Addr.add, Nat.add_zero, hf', ht', aBin, aInt, a1, ilt_nat, hn', endsD_some, Nat.reduceLT, if_true, then_normal, Nat.reduceEqDiff, if_false, reduceIte, decide_true, decide_false]
  refine code_cond_false ?_ ?_
  · simp only [aev, regAt_set, Nat.reduceEqDiff, reduceIte]
  refine code_skip ?_
  simp only [then_normal]
  refine code_seq ?_
  refine code_region ?_ ?_
  · rfl
  simp only [run1, aOne, aP, aR, aA, aT, aCall, aCallVal, aev, regAt_set, aput_mk, aput_none, plainV, aNilCheck, aExtract, aBin, aInt, Addr.add, Nat.zero_add, ends_some, Nat.reduceLT, Nat.reduceAdd, if_true, then_normal, Nat.reduceEqDiff, if_false, reduceIte, reduceCtorEq, decide_true, decide_false, Bool.not_true, Bool.not_false, beq_self_eq_true, beq_tf, beq_ft, aPick, List.map_cons, List.map_nil, List.nil_append, List.append_nil, List.getElem?_cons_zero, List.getElem?_cons_succ, faR0, ld3, hf', Nat.add_zero]
  refine code_seq ?_
  refine code_region ?_ ?_
  · rfl
  simp only [run1, aOne, aP, aR, aA, aT, aCall, aCallVal, aev, regAt_set, aput_mk, aput_none, plainV, aNilCheck, aExtract, aBin, aInt, Addr.add, Nat.zero_add, ends_some, Nat.reduceLT, Nat.reduceAdd, if_true, then_normal, Nat.reduceEqDiff, if_false, reduceIte, reduceCtorEq, decide_true, decide_false, Bool.not_true, Bool.not_false, beq_self_eq_true, beq_tf, beq_ft, aPick, List.map_cons, List.map_nil, List.nil_append, List.append_nil, List.getElem?_cons_zero, List.getElem?_cons_succ, faR0, ld3, hf', Nat.add_zero, a2, hst]
  refine code_seq ?_
  refine code_region ?_ ?_
  · rfl
  simp only [run1, aOne, aP, aR, aA, aT, aCall, aCallVal, aev, regAt_set, aput_mk, aput_none, plainV, aNilCheck, aExtract, aBin, aInt, Addr.add, Nat.zero_add, ends_some, Nat.reduceLT, Nat.reduceAdd, if_true, then_normal, Nat.reduceEqDiff, if_false, reduceIte, reduceCtorEq, decide_true, decide_false, Bool.not_true, Bool.not_false, beq_self_eq_true, beq_tf, beq_ft, aPick, List.map_cons, List.map_nil, List.nil_append, List.append_nil, List.getElem?_cons_zero, List.getElem?_cons_succ]
  refine code_ret ?_
  refine ⟨rfl, _, ?_, rfl, rfl⟩
  simp only [aResults, Tryz.results119, aRes, regAt_set, Nat.reduceEqDiff, reduceIte]
end

noncomputable section
variable {X : FuncId → List Value → Mem → Option (Value × Mem)}

theorem iLs : Tryz.prog.info? 158 = some Tryz.t158 := by kernel_rfl
theorem iL : Tryz.prog.info? 223 = some Tryz.t223 := by kernel_rfl
theorem i4 : Tryz.prog.info? 4 = some Tryz.t4 := by kernel_rfl
theorem faA1 (ρ : Operand → Value) (x : Operand) : aFieldAddr Tryz.prog ρ 162 x 1 = (match ρ x with | .pointer (some a) => some (.pointer (some (a.add 1))) | _ => none) := fieldAddr_at (ft := 158) (off := 1) Tryz.underlying162 rfl iLs rfl ρ x
theorem faL0 (ρ : Operand → Value) (x : Operand) : aFieldAddr Tryz.prog ρ 223 x 0 = (match ρ x with | .pointer (some a) => some (.pointer (some (a.add 0))) | _ => none) := fieldAddr_at (ft := 4) (off := 0) Tryz.underlying223 rfl i4 rfl ρ x
theorem ldLs (μ : Mem) (i o : Nat) : aLoad Tryz.prog μ 158 (.pointer (some ⟨i, o, none⟩)) = cellsAt μ i o := load_at Tryz.underlying158 rfl μ i o
theorem ld4 (μ : Mem) (i o : Nat) : aLoad Tryz.prog μ 4 (.pointer (some ⟨i, o, none⟩)) = cellsAt μ i o := load_at Tryz.underlying4 rfl μ i o

theorem indexAddr_sz {P : Program} {ρ : Operand → Value} {t e : TypeId} {inf : TypeInfo} {x y : Operand} {i o n c m : Nat} {kd : IntKind} (hu : P.underlying t = some (.slice e)) (hi : P.info? e = some inf) (hx : ρ x = .slice (some ⟨i, o, none⟩) n c) (hy : ρ y = .int kd (.ofNat m)) (hm : m < n) :
    aIndexAddr P ρ t x y = some (.pointer (some ⟨i, o + m * inf.size, none⟩)) := by
  unfold aIndexAddr
  simp only [hx, hy, hu, aIdx, hi]
  rw [show Nat.blt m n = true from by simpa using hm]
  simp only [Addr.add, Nat.mul_eq]
  by_cases h0 : m * inf.size = 0
  · rw [if_pos h0, h0]; rfl
  · rw [if_neg h0]

/-- an arena's lines -/
structure Lines (μ : Mem) (ap lb L : Nat) (ln : Nat → Bool) : Prop where
  head : ∃ c, cellsAt μ ap 1 = some (.slice (some ⟨lb, 0, none⟩) L (2 * c)) ∧ L ≤ c
  blk : Blk μ lb (2 * L) 223
  ln : ∀ k, k < L → cellsAt μ lb (k * 2) = some (.bool (ln k))
  mrk : ∀ k, k < L → ∃ b, cellsAt μ lb (k * 2 + 1) = some (.bool b)

set_option maxHeartbeats 4000000 in
theorem hole_loop {ap lb L f t : Nat} {ln : Nat → Bool} {μ : Mem} (hL : Lines μ ap lb L ln) (h16 : f % 16 = 0) (ht : t = f + 16) (htL : t < L) (hT : L < 1000000) (hf : ∀ k, f ≤ k → k < t → ln k = false) :
    ∀ (e m p : Nat) (tm : T Value), p + m = t → f ≤ p → regAt tm 0 = .pointer (some ⟨ap, 0, none⟩) → regAt tm 1 = .int .i64 (.ofNat f) → regAt tm 5 = .int .i64 (.ofNat p) →
      EndsC (aCode Tryz.prog X S0 (e + m + 20) (.loop (loopBody Tryz.f144 0)) ⟨35, tm, [], none⟩ μ) fun x r μ' => x = .exit 0 ∧ μ' = μ ∧ ∃ tm', r = ⟨35, tm', [], none⟩ ∧ regAt tm' 5 = .int .i64 (.ofNat t) := by
  obtain ⟨c, hl, hc⟩ := hL.head
  obtain ⟨df, hdf⟩ : ∃ d, d = f / 16 := ⟨_, rfl⟩
  have q2 : aDiv false .i64 .i64 (.ofNat f) 16 = some (.int .i64 (.ofNat df)) := hdf ▸ quo16 f (by omega)
  intro e m
  induction m with
  | zero =>
    intro p tm hj hp h0 h1 h5
    obtain rfl : p = t := hj
    obtain ⟨dp, hdp⟩ : ∃ d, d = p / 16 := ⟨_, rfl⟩
    have q1 : aDiv false .i64 .i64 (.ofNat p) 16 = some (.int .i64 (.ofNat dp)) := hdp ▸ quo16 p (by omega)
    have hne : decide (dp = df) = false := decide_eq_false (by omega)
    refine code_loop ?_
    refine code_seq ?_
    refine code_seq ?_
    refine code_guards (gs := ?_) ?_ ?_
    rotate_left
    · rfl
    refine run2_true (by first | rfl | (simp only [wanted, aOne, aP, aR, aA, aT, aCall, aCallVal, aev, regAt_set, aput_mk, aput_none, plainV, aNilCheck, aExtract, aBin, aInt, Addr.add, Nat.zero_add, ends_some, Nat.reduceLT, Nat.reduceAdd, if_true, then_normal, Nat.reduceEqDiff, if_false, reduceIte, reduceCtorEq, decide_true, decide_false, Bool.not_true, Bool.not_false, beq_self_eq_true, beq_tf, beq_ft, aPick, List.map_cons, List.map_nil, List.nil_append, List.append_nil, List.getElem?_cons_zero, List.getElem?_cons_succ, h0, h1, h5, faA1, ldLs, hl, aBuiltin, aLen, Tryz.underlying158, cast_nat, ilt_nat, htL, q1, q2, ieq_nat, hne])) (by simp only [aOne, aP, aR, aA, aT, aCall, aCallVal, aev, regAt_set, aput_mk, aput_none, plainV, aNilCheck, aExtract, aBin, aInt, Addr.add, Nat.zero_add, ends_some, Nat.reduceLT, Nat.reduceAdd, if_true, then_normal, Nat.reduceEqDiff, if_false, reduceIte, reduceCtorEq, decide_true, decide_false, Bool.not_true, Bool.not_false, beq_self_eq_true, beq_tf, beq_ft, aPick, List.map_cons, List.map_nil, List.nil_append, List.append_nil, List.getElem?_cons_zero, List.getElem?_cons_succ, h0, h1, h5, faA1, ldLs, hl, aBuiltin, aLen, Tryz.underlying158, cast_nat, ilt_nat, htL, q1, q2, ieq_nat, hne]; try exact rfl) rfl ?_
    refine run2_true (by first | rfl | (simp only [wanted, aOne, aP, aR, aA, aT, aCall, aCallVal, aev, regAt_set, aput_mk, aput_none, plainV, aNilCheck, aExtract, aBin, aInt, Addr.add, Nat.zero_add, ends_some, Nat.reduceLT, Nat.reduceAdd, if_true, then_normal, Nat.reduceEqDiff, if_false, reduceIte, reduceCtorEq, decide_true, decide_false, Bool.not_true, Bool.not_false, beq_self_eq_true, beq_tf, beq_ft, aPick, List.map_cons, List.map_nil, List.nil_append, List.append_nil, List.getElem?_cons_zero, List.getElem?_cons_succ, h0, h1, h5, faA1, ldLs, hl, aBuiltin, aLen, Tryz.underlying158, cast_nat, ilt_nat, htL, q1, q2, ieq_nat, hne])) (by simp only [aOne, aP, aR, aA, aT, aCall, aCallVal, aev, regAt_set, aput_mk, aput_none, plainV, aNilCheck, aExtract, aBin, aInt, Addr.add, Nat.zero_add, ends_some, Nat.reduceLT, Nat.reduceAdd, if_true, then_normal, Nat.reduceEqDiff, if_false, reduceIte, reduceCtorEq, decide_true, decide_false, Bool.not_true, Bool.not_false, beq_self_eq_true, beq_tf, beq_ft, aPick, List.map_cons, List.map_nil, List.nil_append, List.append_nil, List.getElem?_cons_zero, List.getElem?_cons_succ, h0, h1, h5, faA1, ldLs, hl, aBuiltin, aLen, Tryz.underlying158, cast_nat, ilt_nat, htL, q1, q2, ieq_nat, hne]; try exact rfl) rfl ?_
    refine run2_true (by first | rfl | (simp only [wanted, aOne, aP, aR, aA, aT, aCall, aCallVal, aev, regAt_set, aput_mk, aput_none, plainV, aNilCheck, aExtract, aBin, aInt, Addr.add, Nat.zero_add, ends_some, Nat.reduceLT, Nat.reduceAdd, if_true, then_normal, Nat.reduceEqDiff, if_false, reduceIte, reduceCtorEq, decide_true, decide_false, Bool.not_true, Bool.not_false, beq_self_eq_true, beq_tf, beq_ft, aPick, List.map_cons, List.map_nil, List.nil_append, List.append_nil, List.getElem?_cons_zero, List.getElem?_cons_succ, h0, h1, h5, faA1, ldLs, hl, aBuiltin, aLen, Tryz.underlying158, cast_nat, ilt_nat, htL, q1, q2, ieq_nat, hne])) (by simp only [aOne, aP, aR, aA, aT, aCall, aCallVal, aev, regAt_set, aput_mk, aput_none, plainV, aNilCheck, aExtract, aBin, aInt, Addr.add, Nat.zero_add, ends_some, Nat.reduceLT, Nat.reduceAdd, if_true, then_normal, Nat.reduceEqDiff, if_false, reduceIte, reduceCtorEq, decide_true, decide_false, Bool.not_true, Bool.not_false, beq_self_eq_true, beq_tf, beq_ft, aPick, List.map_cons, List.map_nil, List.nil_append, List.append_nil, List.getElem?_cons_zero, List.getElem?_cons_succ, h0, h1, h5, faA1, ldLs, hl, aBuiltin, aLen, Tryz.underlying158, cast_nat, ilt_nat, htL, q1, q2, ieq_nat, hne]; try exact rfl) rfl ?_
    refine run2_true (by first | rfl | (simp only [wanted, aOne, aP, aR, aA, aT, aCall, aCallVal, aev, regAt_set, aput_mk, aput_none, plainV, aNilCheck, aExtract, aBin, aInt, Addr.add, Nat.zero_add, ends_some, Nat.reduceLT, Nat.reduceAdd, if_true, then_normal, Nat.reduceEqDiff, if_false, reduceIte, reduceCtorEq, decide_true, decide_false, Bool.not_true, Bool.not_false, beq_self_eq_true, beq_tf, beq_ft, aPick, List.map_cons, List.map_nil, List.nil_append, List.append_nil, List.getElem?_cons_zero, List.getElem?_cons_succ, h0, h1, h5, faA1, ldLs, hl, aBuiltin, aLen, Tryz.underlying158, cast_nat, ilt_nat, htL, q1, q2, ieq_nat, hne])) (by simp only [aOne, aP, aR, aA, aT, aCall, aCallVal, aev, regAt_set, aput_mk, aput_none, plainV, aNilCheck, aExtract, aBin, aInt, Addr.add, Nat.zero_add, ends_some, Nat.reduceLT, Nat.reduceAdd, if_true, then_normal, Nat.reduceEqDiff, if_false, reduceIte, reduceCtorEq, decide_true, decide_false, Bool.not_true, Bool.not_false, beq_self_eq_true, beq_tf, beq_ft, aPick, List.map_cons, List.map_nil, List.nil_append, List.append_nil, List.getElem?_cons_zero, List.getElem?_cons_succ, h0, h1, h5, faA1, ldLs, hl, aBuiltin, aLen, Tryz.underlying158, cast_nat, ilt_nat, htL, q1, q2, ieq_nat, hne]; try exact rfl) rfl ?_
    refine run2_true (by first | rfl | (simp only [wanted, aOne, aP, aR, aA, aT, aCall, aCallVal, aev, regAt_set, aput_mk, aput_none, plainV, aNilCheck, aExtract, aBin, aInt, Addr.add, Nat.zero_add, ends_some, Nat.reduceLT, Nat.reduceAdd, if_true, then_normal, Nat.reduceEqDiff, if_false, reduceIte, reduceCtorEq, decide_true, decide_false, Bool.not_true, Bool.not_false, beq_self_eq_true, beq_tf, beq_ft, aPick, List.map_cons, List.map_nil, List.nil_append, List.append_nil, List.getElem?_cons_zero, List.getElem?_cons_succ, h0, h1, h5, faA1, ldLs, hl, aBuiltin, aLen, Tryz.underlying158, cast_nat, ilt_nat, htL, q1, q2, ieq_nat, hne])) (by simp only [aOne, aP, aR, aA, aT, aCall, aCallVal, aev, regAt_set, aput_mk, aput_none, plainV, aNilCheck, aExtract, aBin, aInt, Addr.add, Nat.zero_add, ends_some, Nat.reduceLT, Nat.reduceAdd, if_true, then_normal, Nat.reduceEqDiff, if_false, reduceIte, reduceCtorEq, decide_true, decide_false, Bool.not_true, Bool.not_false, beq_self_eq_true, beq_tf, beq_ft, aPick, List.map_cons, List.map_nil, List.nil_append, List.append_nil, List.getElem?_cons_zero, List.getElem?_cons_succ, h0, h1, h5, faA1, ldLs, hl, aBuiltin, aLen, Tryz.underlying158, cast_nat, ilt_nat, htL, q1, q2, ieq_nat, hne]; try exact rfl) rfl ?_
    refine run2_true (by first | rfl | (simp only [wanted, aOne, aP, aR, aA, aT, aCall, aCallVal, aev, regAt_set, aput_mk, aput_none, plainV, aNilCheck, aExtract, aBin, aInt, Addr.add, Nat.zero_add, ends_some, Nat.reduceLT, Nat.reduceAdd, if_true, then_normal, Nat.reduceEqDiff, if_false, reduceIte, reduceCtorEq, decide_true, decide_false, Bool.not_true, Bool.not_false, beq_self_eq_true, beq_tf, beq_ft, aPick, List.map_cons, List.map_nil, List.nil_append, List.append_nil, List.getElem?_cons_zero, List.getElem?_cons_succ, h0, h1, h5, faA1, ldLs, hl, aBuiltin, aLen, Tryz.underlying158, cast_nat, ilt_nat, htL, q1, q2, ieq_nat, hne])) (by simp only [aOne, aP, aR, aA, aT, aCall, aCallVal, aev, regAt_set, aput_mk, aput_none, plainV, aNilCheck, aExtract, aBin, aInt, Addr.add, Nat.zero_add, ends_some, Nat.reduceLT, Nat.reduceAdd, if_true, then_normal, Nat.reduceEqDiff, if_false, reduceIte, reduceCtorEq, decide_true, decide_false, Bool.not_true, Bool.not_false, beq_self_eq_true, beq_tf, beq_ft, aPick, List.map_cons, List.map_nil, List.nil_append, List.append_nil, List.getElem?_cons_zero, List.getElem?_cons_succ, h0, h1, h5, faA1, ldLs, hl, aBuiltin, aLen, Tryz.underlying158, cast_nat, ilt_nat, htL, q1, q2, ieq_nat, hne]; try exact rfl) rfl ?_
    refine run2_true (by first | rfl | (simp only [wanted, aOne, aP, aR, aA, aT, aCall, aCallVal, aev, regAt_set, aput_mk, aput_none, plainV, aNilCheck, aExtract, aBin, aInt, Addr.add, Nat.zero_add, ends_some, Nat.reduceLT, Nat.reduceAdd, if_true, then_normal, Nat.reduceEqDiff, if_false, reduceIte, reduceCtorEq, decide_true, decide_false, Bool.not_true, Bool.not_false, beq_self_eq_true, beq_tf, beq_ft, aPick, List.map_cons, List.map_nil, List.nil_append, List.append_nil, List.getElem?_cons_zero, List.getElem?_cons_succ, h0, h1, h5, faA1, ldLs, hl, aBuiltin, aLen, Tryz.underlying158, cast_nat, ilt_nat, htL, q1, q2, ieq_nat, hne])) (by simp only [aOne, aP, aR, aA, aT, aCall, aCallVal, aev, regAt_set, aput_mk, aput_none, plainV, aNilCheck, aExtract, aBin, aInt, Addr.add, Nat.zero_add, ends_some, Nat.reduceLT, Nat.reduceAdd, if_true, then_normal, Nat.reduceEqDiff, if_false, reduceIte, reduceCtorEq, decide_true, decide_false, Bool.not_true, Bool.not_false, beq_self_eq_true, beq_tf, beq_ft, aPick, List.map_cons, List.map_nil, List.nil_append, List.append_nil, List.getElem?_cons_zero, List.getElem?_cons_succ, h0, h1, h5, faA1, ldLs, hl, aBuiltin, aLen, Tryz.underlying158, cast_nat, ilt_nat, htL, q1, q2, ieq_nat, hne]; try exact rfl) rfl ?_
    refine run2_true (by first | rfl | (simp only [wanted, aOne, aP, aR, aA, aT, aCall, aCallVal, aev, regAt_set, aput_mk, aput_none, plainV, aNilCheck, aExtract, aBin, aInt, Addr.add, Nat.zero_add, ends_some, Nat.reduceLT, Nat.reduceAdd, if_true, then_normal, Nat.reduceEqDiff, if_false, reduceIte, reduceCtorEq, decide_true, decide_false, Bool.not_true, Bool.not_false, beq_self_eq_true, beq_tf, beq_ft, aPick, List.map_cons, List.map_nil, List.nil_append, List.append_nil, List.getElem?_cons_zero, List.getElem?_cons_succ, h0, h1, h5, faA1, ldLs, hl, aBuiltin, aLen, Tryz.underlying158, cast_nat, ilt_nat, htL, q1, q2, ieq_nat, hne])) (by simp only [aOne, aP, aR, aA, aT, aCall, aCallVal, aev, regAt_set, aput_mk, aput_none, plainV, aNilCheck, aExtract, aBin, aInt, Addr.add, Nat.zero_add, ends_some, Nat.reduceLT, Nat.reduceAdd, if_true, then_normal, Nat.reduceEqDiff, if_false, reduceIte, reduceCtorEq, decide_true, decide_false, Bool.not_true, Bool.not_false, beq_self_eq_true, beq_tf, beq_ft, aPick, List.map_cons, List.map_nil, List.nil_append, List.append_nil, List.getElem?_cons_zero, List.getElem?_cons_succ, h0, h1, h5, faA1, ldLs, hl, aBuiltin, aLen, Tryz.underlying158, cast_nat, ilt_nat, htL, q1, q2, ieq_nat, hne]; try exact rfl) rfl ?_
    refine run2_true (by first | rfl | (simp only [wanted, aOne, aP, aR, aA, aT, aCall, aCallVal, aev, regAt_set, aput_mk, aput_none, plainV, aNilCheck, aExtract, aBin, aInt, Addr.add, Nat.zero_add, ends_some, Nat.reduceLT, Nat.reduceAdd, if_true, then_normal, Nat.reduceEqDiff, if_false, reduceIte, reduceCtorEq, decide_true, decide_false, Bool.not_true, Bool.not_false, beq_self_eq_true, beq_tf, beq_ft, aPick, List.map_cons, List.map_nil, List.nil_append, List.append_nil, List.getElem?_cons_zero, List.getElem?_cons_succ, h0, h1, h5, faA1, ldLs, hl, aBuiltin, aLen, Tryz.underlying158, cast_nat, ilt_nat, htL, q1, q2, ieq_nat, hne])) (by simp only [aOne, aP, aR, aA, aT, aCall, aCallVal, aev, regAt_set, aput_mk, aput_none, plainV, aNilCheck, aExtract, aBin, aInt, Addr.add, Nat.zero_add, ends_some, Nat.reduceLT, Nat.reduceAdd, if_true, then_normal, Nat.reduceEqDiff, if_false, reduceIte, reduceCtorEq, decide_true, decide_false, Bool.not_true, Bool.not_false, beq_self_eq_true, beq_tf, beq_ft, aPick, List.map_cons, List.map_nil, List.nil_append, List.append_nil, List.getElem?_cons_zero, List.getElem?_cons_succ, h0, h1, h5, faA1, ldLs, hl, aBuiltin, aLen, Tryz.underlying158, cast_nat, ilt_nat, htL, q1, q2, ieq_nat, hne]; try exact rfl) rfl ?_
    refine run2_true (by first | rfl | (simp only [wanted, aOne, aP, aR, aA, aT, aCall, aCallVal, aev, regAt_set, aput_mk, aput_none, plainV, aNilCheck, aExtract, aBin, aInt, Addr.add, Nat.zero_add, ends_some, Nat.reduceLT, Nat.reduceAdd, if_true, then_normal, Nat.reduceEqDiff, if_false, reduceIte, reduceCtorEq, decide_true, decide_false, Bool.not_true, Bool.not_false, beq_self_eq_true, beq_tf, beq_ft, aPick, List.map_cons, List.map_nil, List.nil_append, List.append_nil, List.getElem?_cons_zero, List.getElem?_cons_succ, h0, h1, h5, faA1, ldLs, hl, aBuiltin, aLen, Tryz.underlying158, cast_nat, ilt_nat, htL, q1, q2, ieq_nat, hne])) (by simp only [aOne, aP, aR, aA, aT, aCall, aCallVal, aev, regAt_set, aput_mk, aput_none, plainV, aNilCheck, aExtract, aBin, aInt, Addr.add, Nat.zero_add, ends_some, Nat.reduceLT, Nat.reduceAdd, if_true, then_normal, Nat.reduceEqDiff, if_false, reduceIte, reduceCtorEq, decide_true, decide_false, Bool.not_true, Bool.not_false, beq_self_eq_true, beq_tf, beq_ft, aPick, List.map_cons, List.map_nil, List.nil_append, List.append_nil, List.getElem?_cons_zero, List.getElem?_cons_succ, h0, h1, h5, faA1, ldLs, hl, aBuiltin, aLen, Tryz.underlying158, cast_nat, ilt_nat, htL, q1, q2, ieq_nat, hne]; try exact rfl) rfl ?_
    refine run2_true (by first | rfl | (simp only [wanted, aOne, aP, aR, aA, aT, aCall, aCallVal, aev, regAt_set, aput_mk, aput_none, plainV, aNilCheck, aExtract, aBin, aInt, Addr.add, Nat.zero_add, ends_some, Nat.reduceLT, Nat.reduceAdd, if_true, then_normal, Nat.reduceEqDiff, if_false, reduceIte, reduceCtorEq, decide_true, decide_false, Bool.not_true, Bool.not_false, beq_self_eq_true, beq_tf, beq_ft, aPick, List.map_cons, List.map_nil, List.nil_append, List.append_nil, List.getElem?_cons_zero, List.getElem?_cons_succ, h0, h1, h5, faA1, ldLs, hl, aBuiltin, aLen, Tryz.underlying158, cast_nat, ilt_nat, htL, q1, q2, ieq_nat, hne])) (by simp only [aOne, aP, aR, aA, aT, aCall, aCallVal, aev, regAt_set, aput_mk, aput_none, plainV, aNilCheck, aExtract, aBin, aInt, Addr.add, Nat.zero_add, ends_some, Nat.reduceLT, Nat.reduceAdd, if_true, then_normal, Nat.reduceEqDiff, if_false, reduceIte, reduceCtorEq, decide_true, decide_false, Bool.not_true, Bool.not_false, beq_self_eq_true, beq_tf, beq_ft, aPick, List.map_cons, List.map_nil, List.nil_append, List.append_nil, List.getElem?_cons_zero, List.getElem?_cons_succ, h0, h1, h5, faA1, ldLs, hl, aBuiltin, aLen, Tryz.underlying158, cast_nat, ilt_nat, htL, q1, q2, ieq_nat, hne]; try exact rfl) rfl ?_
    refine run2_true (by first | rfl | (simp only [wanted, aOne, aP, aR, aA, aT, aCall, aCallVal, aev, regAt_set, aput_mk, aput_none, plainV, aNilCheck, aExtract, aBin, aInt, Addr.add, Nat.zero_add, ends_some, Nat.reduceLT, Nat.reduceAdd, if_true, then_normal, Nat.reduceEqDiff, if_false, reduceIte, reduceCtorEq, decide_true, decide_false, Bool.not_true, Bool.not_false, beq_self_eq_true, beq_tf, beq_ft, aPick, List.map_cons, List.map_nil, List.nil_append, List.append_nil, List.getElem?_cons_zero, List.getElem?_cons_succ, h0, h1, h5, faA1, ldLs, hl, aBuiltin, aLen, Tryz.underlying158, cast_nat, ilt_nat, htL, q1, q2, ieq_nat, hne])) (by simp only [aOne, aP, aR, aA, aT, aCall, aCallVal, aev, regAt_set, aput_mk, aput_none, plainV, aNilCheck, aExtract, aBin, aInt, Addr.add, Nat.zero_add, ends_some, Nat.reduceLT, Nat.reduceAdd, if_true, then_normal, Nat.reduceEqDiff, if_false, reduceIte, reduceCtorEq, decide_true, decide_false, Bool.not_true, Bool.not_false, beq_self_eq_true, beq_tf, beq_ft, aPick, List.map_cons, List.map_nil, List.nil_append, List.append_nil, List.getElem?_cons_zero, List.getElem?_cons_succ, h0, h1, h5, faA1, ldLs, hl, aBuiltin, aLen, Tryz.underlying158, cast_nat, ilt_nat, htL, q1, q2, ieq_nat, hne]; try exact rfl) rfl ?_
    refine run2_true (by first | rfl | (simp only [wanted, aOne, aP, aR, aA, aT, aCall, aCallVal, aev, regAt_set, aput_mk, aput_none, plainV, aNilCheck, aExtract, aBin, aInt, Addr.add, Nat.zero_add, ends_some, Nat.reduceLT, Nat.reduceAdd, if_true, then_normal, Nat.reduceEqDiff, if_false, reduceIte, reduceCtorEq, decide_true, decide_false, Bool.not_true, Bool.not_false, beq_self_eq_true, beq_tf, beq_ft, aPick, List.map_cons, List.map_nil, List.nil_append, List.append_nil, List.getElem?_cons_zero, List.getElem?_cons_succ, h0, h1, h5, faA1, ldLs, hl, aBuiltin, aLen, Tryz.underlying158, cast_nat, ilt_nat, htL, q1, q2, ieq_nat, hne])) (by simp only [aOne, aP, aR, aA, aT, aCall, aCallVal, aev, regAt_set, aput_mk, aput_none, plainV, aNilCheck, aExtract, aBin, aInt, Addr.add, Nat.zero_add, ends_some, Nat.reduceLT, Nat.reduceAdd, if_true, then_normal, Nat.reduceEqDiff, if_false, reduceIte, reduceCtorEq, decide_true, decide_false, Bool.not_true, Bool.not_false, beq_self_eq_true, beq_tf, beq_ft, aPick, List.map_cons, List.map_nil, List.nil_append, List.append_nil, List.getElem?_cons_zero, List.getElem?_cons_succ, h0, h1, h5, faA1, ldLs, hl, aBuiltin, aLen, Tryz.underlying158, cast_nat, ilt_nat, htL, q1, q2, ieq_nat, hne]; try exact rfl) rfl ?_
    refine run2_true (by first | rfl | (simp only [wanted, aOne, aP, aR, aA, aT, aCall, aCallVal, aev, regAt_set, aput_mk, aput_none, plainV, aNilCheck, aExtract, aBin, aInt, Addr.add, Nat.zero_add, ends_some, Nat.reduceLT, Nat.reduceAdd, if_true, then_normal, Nat.reduceEqDiff, if_false, reduceIte, reduceCtorEq, decide_true, decide_false, Bool.not_true, Bool.not_false, beq_self_eq_true, beq_tf, beq_ft, aPick, List.map_cons, List.map_nil, List.nil_append, List.append_nil, List.getElem?_cons_zero, List.getElem?_cons_succ, h0, h1, h5, faA1, ldLs, hl, aBuiltin, aLen, Tryz.underlying158, cast_nat, ilt_nat, htL, q1, q2, ieq_nat, hne])) (by simp only [aOne, aP, aR, aA, aT, aCall, aCallVal, aev, regAt_set, aput_mk, aput_none, plainV, aNilCheck, aExtract, aBin, aInt, Addr.add, Nat.zero_add, ends_some, Nat.reduceLT, Nat.reduceAdd, if_true, then_normal, Nat.reduceEqDiff, if_false, reduceIte, reduceCtorEq, decide_true, decide_false, Bool.not_true, Bool.not_false, beq_self_eq_true, beq_tf, beq_ft, aPick, List.map_cons, List.map_nil, List.nil_append, List.append_nil, List.getElem?_cons_zero, List.getElem?_cons_succ, h0, h1, h5, faA1, ldLs, hl, aBuiltin, aLen, Tryz.underlying158, cast_nat, ilt_nat, htL, q1, q2, ieq_nat, hne]; try exact rfl) rfl ?_
    refine run2_true (by first | rfl | (simp only [wanted, aOne, aP, aR, aA, aT, aCall, aCallVal, aev, regAt_set, aput_mk, aput_none, plainV, aNilCheck, aExtract, aBin, aInt, Addr.add, Nat.zero_add, ends_some, Nat.reduceLT, Nat.reduceAdd, if_true, then_normal, Nat.reduceEqDiff, if_false, reduceIte, reduceCtorEq, decide_true, decide_false, Bool.not_true, Bool.not_false, beq_self_eq_true, beq_tf, beq_ft, aPick, List.map_cons, List.map_nil, List.nil_append, List.append_nil, List.getElem?_cons_zero, List.getElem?_cons_succ, h0, h1, h5, faA1, ldLs, hl, aBuiltin, aLen, Tryz.underlying158, cast_nat, ilt_nat, htL, q1, q2, ieq_nat, hne])) (by simp only [aOne, aP, aR, aA, aT, aCall, aCallVal, aev, regAt_set, aput_mk, aput_none, plainV, aNilCheck, aExtract, aBin, aInt, Addr.add, Nat.zero_add, ends_some, Nat.reduceLT, Nat.reduceAdd, if_true, then_normal, Nat.reduceEqDiff, if_false, reduceIte, reduceCtorEq, decide_true, decide_false, Bool.not_true, Bool.not_false, beq_self_eq_true, beq_tf, beq_ft, aPick, List.map_cons, List.map_nil, List.nil_append, List.append_nil, List.getElem?_cons_zero, List.getElem?_cons_succ, h0, h1, h5, faA1, ldLs, hl, aBuiltin, aLen, Tryz.underlying158, cast_nat, ilt_nat, htL, q1, q2, ieq_nat, hne]; try exact rfl) rfl ?_
    refine run2_false (by simp only [wanted, aOne, aP, aR, aA, aT, aCall, aCallVal, aev, regAt_set, aput_mk, aput_none, plainV, aNilCheck, aExtract, aBin, aInt, Addr.add, Nat.zero_add, ends_some, Nat.reduceLT, Nat.reduceAdd, if_true, then_normal, Nat.reduceEqDiff, if_false, reduceIte, reduceCtorEq, decide_true, decide_false, Bool.not_true, Bool.not_false, beq_self_eq_true, beq_tf, beq_ft, aPick, List.map_cons, List.map_nil, List.nil_append, List.append_nil, List.getElem?_cons_zero, List.getElem?_cons_succ, h0, h1, h5, faA1, ldLs, hl, aBuiltin, aLen, Tryz.underlying158, cast_nat, ilt_nat, htL, q1, q2, ieq_nat, hne]) rfl ?_
    refine run2_false (by simp only [wanted, aOne, aP, aR, aA, aT, aCall, aCallVal, aev, regAt_set, aput_mk, aput_none, plainV, aNilCheck, aExtract, aBin, aInt, Addr.add, Nat.zero_add, ends_some, Nat.reduceLT, Nat.reduceAdd, if_true, then_normal, Nat.reduceEqDiff, if_false, reduceIte, reduceCtorEq, decide_true, decide_false, Bool.not_true, Bool.not_false, beq_self_eq_true, beq_tf, beq_ft, aPick, List.map_cons, List.map_nil, List.nil_append, List.append_nil, List.getElem?_cons_zero, List.getElem?_cons_succ, h0, h1, h5, faA1, ldLs, hl, aBuiltin, aLen, Tryz.underlying158, cast_nat, ilt_nat, htL, q1, q2, ieq_nat, hne]) rfl ?_
    refine run2_false (by simp only [wanted, aOne, aP, aR, aA, aT, aCall, aCallVal, aev, regAt_set, aput_mk, aput_none, plainV, aNilCheck, aExtract, aBin, aInt, Addr.add, Nat.zero_add, ends_some, Nat.reduceLT, Nat.reduceAdd, if_true, then_normal, Nat.reduceEqDiff, if_false, reduceIte, reduceCtorEq, decide_true, decide_false, Bool.not_true, Bool.not_false, beq_self_eq_true, beq_tf, beq_ft, aPick, List.map_cons, List.map_nil, List.nil_append, List.append_nil, List.getElem?_cons_zero, List.getElem?_cons_succ, h0, h1, h5, faA1, ldLs, hl, aBuiltin, aLen, Tryz.underlying158, cast_nat, ilt_nat, htL, q1, q2, ieq_nat, hne]) rfl ?_
    refine run2_false (by simp only [wanted, aOne, aP, aR, aA, aT, aCall, aCallVal, aev, regAt_set, aput_mk, aput_none, plainV, aNilCheck, aExtract, aBin, aInt, Addr.add, Nat.zero_add, ends_some, Nat.reduceLT, Nat.reduceAdd, if_true, then_normal, Nat.reduceEqDiff, if_false, reduceIte, reduceCtorEq, decide_true, decide_false, Bool.not_true, Bool.not_false, beq_self_eq_true, beq_tf, beq_ft, aPick, List.map_cons, List.map_nil, List.nil_append, List.append_nil, List.getElem?_cons_zero, List.getElem?_cons_succ, h0, h1, h5, faA1, ldLs, hl, aBuiltin, aLen, Tryz.underlying158, cast_nat, ilt_nat, htL, q1, q2, ieq_nat, hne]) rfl ?_
    refine run2_false (by simp only [wanted, aOne, aP, aR, aA, aT, aCall, aCallVal, aev, regAt_set, aput_mk, aput_none, plainV, aNilCheck, aExtract, aBin, aInt, Addr.add, Nat.zero_add, ends_some, Nat.reduceLT, Nat.reduceAdd, if_true, then_normal, Nat.reduceEqDiff, if_false, reduceIte, reduceCtorEq, decide_true, decide_false, Bool.not_true, Bool.not_false, beq_self_eq_true, beq_tf, beq_ft, aPick, List.map_cons, List.map_nil, List.nil_append, List.append_nil, List.getElem?_cons_zero, List.getElem?_cons_succ, h0, h1, h5, faA1, ldLs, hl, aBuiltin, aLen, Tryz.underlying158, cast_nat, ilt_nat, htL, q1, q2, ieq_nat, hne]) rfl ?_
    refine run2_false (by simp only [wanted, aOne, aP, aR, aA, aT, aCall, aCallVal, aev, regAt_set, aput_mk, aput_none, plainV, aNilCheck, aExtract, aBin, aInt, Addr.add, Nat.zero_add, ends_some, Nat.reduceLT, Nat.reduceAdd, if_true, then_normal, Nat.reduceEqDiff, if_false, reduceIte, reduceCtorEq, decide_true, decide_false, Bool.not_true, Bool.not_false, beq_self_eq_true, beq_tf, beq_ft, aPick, List.map_cons, List.map_nil, List.nil_append, List.append_nil, List.getElem?_cons_zero, List.getElem?_cons_succ, h0, h1, h5, faA1, ldLs, hl, aBuiltin, aLen, Tryz.underlying158, cast_nat, ilt_nat, htL, q1, q2, ieq_nat, hne]) rfl ?_
    refine run2_false (by simp only [wanted, aOne, aP, aR, aA, aT, aCall, aCallVal, aev, regAt_set, aput_mk, aput_none, plainV, aNilCheck, aExtract, aBin, aInt, Addr.add, Nat.zero_add, ends_some, Nat.reduceLT, Nat.reduceAdd, if_true, then_normal, Nat.reduceEqDiff, if_false, reduceIte, reduceCtorEq, decide_true, decide_false, Bool.not_true, Bool.not_false, beq_self_eq_true, beq_tf, beq_ft, aPick, List.map_cons, List.map_nil, List.nil_append, List.append_nil, List.getElem?_cons_zero, List.getElem?_cons_succ, h0, h1, h5, faA1, ldLs, hl, aBuiltin, aLen, Tryz.underlying158, cast_nat, ilt_nat, htL, q1, q2, ieq_nat, hne]) rfl ?_
    refine run2_false (by simp only [wanted, aOne, aP, aR, aA, aT, aCall, aCallVal, aev, regAt_set, aput_mk, aput_none, plainV, aNilCheck, aExtract, aBin, aInt, Addr.add, Nat.zero_add, ends_some, Nat.reduceLT, Nat.reduceAdd, if_true, then_normal, Nat.reduceEqDiff, if_false, reduceIte, reduceCtorEq, decide_true, decide_false, Bool.not_true, Bool.not_false, beq_self_eq_true, beq_tf, beq_ft, aPick, List.map_cons, List.map_nil, List.nil_append, List.append_nil, List.getElem?_cons_zero, List.getElem?_cons_succ, h0, h1, h5, faA1, ldLs, hl, aBuiltin, aLen, Tryz.underlying158, cast_nat, ilt_nat, htL, q1, q2, ieq_nat, hne]) rfl ?_
    refine run2_false (by simp only [wanted, aOne, aP, aR, aA, aT, aCall, aCallVal, aev, regAt_set, aput_mk, aput_none, plainV, aNilCheck, aExtract, aBin, aInt, Addr.add, Nat.zero_add, ends_some, Nat.reduceLT, Nat.reduceAdd, if_true, then_normal, Nat.reduceEqDiff, if_false, reduceIte, reduceCtorEq, decide_true, decide_false, Bool.not_true, Bool.not_false, beq_self_eq_true, beq_tf, beq_ft, aPick, List.map_cons, List.map_nil, List.nil_append, List.append_nil, List.getElem?_cons_zero, List.getElem?_cons_succ, h0, h1, h5, faA1, ldLs, hl, aBuiltin, aLen, Tryz.underlying158, cast_nat, ilt_nat, htL, q1, q2, ieq_nat, hne]) rfl ?_
    refine run2_true (by first | rfl | (simp only [wanted, aOne, aP, aR, aA, aT, aCall, aCallVal, aev, regAt_set, aput_mk, aput_none, plainV, aNilCheck, aExtract, aBin, aInt, Addr.add, Nat.zero_add, ends_some, Nat.reduceLT, Nat.reduceAdd, if_true, then_normal, Nat.reduceEqDiff, if_false, reduceIte, reduceCtorEq, decide_true, decide_false, Bool.not_true, Bool.not_false, beq_self_eq_true, beq_tf, beq_ft, aPick, List.map_cons, List.map_nil, List.nil_append, List.append_nil, List.getElem?_cons_zero, List.getElem?_cons_succ, h0, h1, h5, faA1, ldLs, hl, aBuiltin, aLen, Tryz.underlying158, cast_nat, ilt_nat, htL, q1, q2, ieq_nat, hne])) (by simp only [aOne, aP, aR, aA, aT, aCall, aCallVal, aev, regAt_set, aput_mk, aput_none, plainV, aNilCheck, aExtract, aBin, aInt, Addr.add, Nat.zero_add, ends_some, Nat.reduceLT, Nat.reduceAdd, if_true, then_normal, Nat.reduceEqDiff, if_false, reduceIte, reduceCtorEq, decide_true, decide_false, Bool.not_true, Bool.not_false, beq_self_eq_true, beq_tf, beq_ft, aPick, List.map_cons, List.map_nil, List.nil_append, List.append_nil, List.getElem?_cons_zero, List.getElem?_cons_succ, h0, h1, h5, faA1, ldLs, hl, aBuiltin, aLen, Tryz.underlying158, cast_nat, ilt_nat, htL, q1, q2, ieq_nat, hne]; try exact rfl) rfl ?_
    simp only [run2, ends_some, then_normal]
    refine code_cond_false ?_ ?_
    · simp only [aev, regAt_set, Nat.reduceEqDiff, reduceIte]
    refine code_exit ?_
    simp only [then_exit]
    exact ⟨trivial, trivial, _, rfl, by simp only [regAt_set, Nat.reduceEqDiff, reduceIte, h5]⟩
  | succ m ih =>
    intro p tm hj hp h0 h1 h5
    have hlt : p < L := by omega
    obtain ⟨dp, hdp⟩ : ∃ d, d = p / 16 := ⟨_, rfl⟩
    have q1 : aDiv false .i64 .i64 (.ofNat p) 16 = some (.int .i64 (.ofNat dp)) := hdp ▸ quo16 p (by omega)
    have heq : decide (dp = df) = true := decide_eq_true (by omega)
    have hln : cellsAt μ lb (p * 2) = some (.bool false) := by rw [hL.ln _ hlt, hf p hp (by omega)]
    have hia : ∀ ρ : Operand → Value, ∀ a b', ρ a = .slice (some ⟨lb, 0, none⟩) L (2 * c) → ρ b' = .int .i64 (.ofNat p) → aIndexAddr Tryz.prog ρ 158 a b' = some (.pointer (some ⟨lb, p * 2, none⟩)) := fun ρ a b' g1 g2 => by
      rw [indexAddr_sz (P := Tryz.prog) Tryz.underlying158 iL g1 g2 hlt, Nat.zero_add]; rfl
    have a1 : qwrap .i64 (Int.add (.ofNat p) 1) = .ofNat (p + 1) := add_nat p 1 (by omega)
    refine code_loop ?_
    refine code_seq ?_
    refine code_seq ?_
    refine code_guards (gs := ?_) ?_ ?_
    rotate_left
    · rfl
    refine run2_true (by first | rfl | (simp only [wanted, aOne, aP, aR, aA, aT, aCall, aCallVal, aev, regAt_set, aput_mk, aput_none, plainV, aNilCheck, aExtract, aBin, aInt, Addr.add, Nat.zero_add, ends_some, Nat.reduceLT, Nat.reduceAdd, if_true, then_normal, Nat.reduceEqDiff, if_false, reduceIte, reduceCtorEq, decide_true, decide_false, Bool.not_true, Bool.not_false, beq_self_eq_true, beq_tf, beq_ft, aPick, List.map_cons, List.map_nil, List.nil_append, List.append_nil, List.getElem?_cons_zero, List.getElem?_cons_succ, h0, h1, h5, faA1, faL0, ldLs, ld4, hl, hia, hln, aBuiltin, aLen, Tryz.underlying158, cast_nat, ilt_nat, hlt, q1, q2, ieq_nat, heq, Nat.add_zero])) (by simp only [aOne, aP, aR, aA, aT, aCall, aCallVal, aev, regAt_set, aput_mk, aput_none, plainV, aNilCheck, aExtract, aBin, aInt, Addr.add, Nat.zero_add, ends_some, Nat.reduceLT, Nat.reduceAdd, if_true, then_normal, Nat.reduceEqDiff, if_false, reduceIte, reduceCtorEq, decide_true, decide_false, Bool.not_true, Bool.not_false, beq_self_eq_true, beq_tf, beq_ft, aPick, List.map_cons, List.map_nil, List.nil_append, List.append_nil, List.getElem?_cons_zero, List.getElem?_cons_succ, h0, h1, h5, faA1, faL0, ldLs, ld4, hl, hia, hln, aBuiltin, aLen, Tryz.underlying158, cast_nat, ilt_nat, hlt, q1, q2, ieq_nat, heq, Nat.add_zero]; try exact rfl) rfl ?_
    refine run2_true (by first | rfl | (simp only [wanted, aOne, aP, aR, aA, aT, aCall, aCallVal, aev, regAt_set, aput_mk, aput_none, plainV, aNilCheck, aExtract, aBin, aInt, Addr.add, Nat.zero_add, ends_some, Nat.reduceLT, Nat.reduceAdd, if_true, then_normal, Nat.reduceEqDiff, if_false, reduceIte, reduceCtorEq, decide_true, decide_false, Bool.not_true, Bool.not_false, beq_self_eq_true, beq_tf, beq_ft, aPick, List.map_cons, List.map_nil, List.nil_append, List.append_nil, List.getElem?_cons_zero, List.getElem?_cons_succ, h0, h1, h5, faA1, faL0, ldLs, ld4, hl, hia, hln, aBuiltin, aLen, Tryz.underlying158, cast_nat, ilt_nat, hlt, q1, q2, ieq_nat, heq, Nat.add_zero])) (by simp only [aOne, aP, aR, aA, aT, aCall, aCallVal, aev, regAt_set, aput_mk, aput_none, plainV, aNilCheck, aExtract, aBin, aInt, Addr.add, Nat.zero_add, ends_some, Nat.reduceLT, Nat.reduceAdd, if_true, then_normal, Nat.reduceEqDiff, if_false, reduceIte, reduceCtorEq, decide_true, decide_false, Bool.not_true, Bool.not_false, beq_self_eq_true, beq_tf, beq_ft, aPick, List.map_cons, List.map_nil, List.nil_append, List.append_nil, List.getElem?_cons_zero, List.getElem?_cons_succ, h0, h1, h5, faA1, faL0, ldLs, ld4, hl, hia, hln, aBuiltin, aLen, Tryz.underlying158, cast_nat, ilt_nat, hlt, q1, q2, ieq_nat, heq, Nat.add_zero]; try exact rfl) rfl ?_
    refine run2_true (by first | rfl | (simp only [wanted, aOne, aP, aR, aA, aT, aCall, aCallVal, aev, regAt_set, aput_mk, aput_none, plainV, aNilCheck, aExtract, aBin, aInt, Addr.add, Nat.zero_add, ends_some, Nat.reduceLT, Nat.reduceAdd, if_true, then_normal, Nat.reduceEqDiff, if_false, reduceIte, reduceCtorEq, decide_true, decide_false, Bool.not_true, Bool.not_false, beq_self_eq_true, beq_tf, beq_ft, aPick, List.map_cons, List.map_nil, List.nil_append, List.append_nil, List.getElem?_cons_zero, List.getElem?_cons_succ, h0, h1, h5, faA1, faL0, ldLs, ld4, hl, hia, hln, aBuiltin, aLen, Tryz.underlying158, cast_nat, ilt_nat, hlt, q1, q2, ieq_nat, heq, Nat.add_zero])) (by simp only [aOne, aP, aR, aA, aT, aCall, aCallVal, aev, regAt_set, aput_mk, aput_none, plainV, aNilCheck, aExtract, aBin, aInt, Addr.add, Nat.zero_add, ends_some, Nat.reduceLT, Nat.reduceAdd, if_true, then_normal, Nat.reduceEqDiff, if_false, reduceIte, reduceCtorEq, decide_true, decide_false, Bool.not_true, Bool.not_false, beq_self_eq_true, beq_tf, beq_ft, aPick, List.map_cons, List.map_nil, List.nil_append, List.append_nil, List.getElem?_cons_zero, List.getElem?_cons_succ, h0, h1, h5, faA1, faL0, ldLs, ld4, hl, hia, hln, aBuiltin, aLen, Tryz.underlying158, cast_nat, ilt_nat, hlt, q1, q2, ieq_nat, heq, Nat.add_zero]; try exact rfl) rfl ?_
    refine run2_true (by first | rfl | (simp only [wanted, aOne, aP, aR, aA, aT, aCall, aCallVal, aev, regAt_set, aput_mk, aput_none, plainV, aNilCheck, aExtract, aBin, aInt, Addr.add, Nat.zero_add, ends_some, Nat.reduceLT, Nat.reduceAdd, if_true, then_normal, Nat.reduceEqDiff, if_false, reduceIte, reduceCtorEq, decide_true, decide_false, Bool.not_true, Bool.not_false, beq_self_eq_true, beq_tf, beq_ft, aPick, List.map_cons, List.map_nil, List.nil_append, List.append_nil, List.getElem?_cons_zero, List.getElem?_cons_succ, h0, h1, h5, faA1, faL0, ldLs, ld4, hl, hia, hln, aBuiltin, aLen, Tryz.underlying158, cast_nat, ilt_nat, hlt, q1, q2, ieq_nat, heq, Nat.add_zero])) (by simp only [aOne, aP, aR, aA, aT, aCall, aCallVal, aev, regAt_set, aput_mk, aput_none, plainV, aNilCheck, aExtract, aBin, aInt, Addr.add, Nat.zero_add, ends_some, Nat.reduceLT, Nat.reduceAdd, if_true, then_normal, Nat.reduceEqDiff, if_false, reduceIte, reduceCtorEq, decide_true, decide_false, Bool.not_true, Bool.not_false, beq_self_eq_true, beq_tf, beq_ft, aPick, List.map_cons, List.map_nil, List.nil_append, List.append_nil, List.getElem?_cons_zero, List.getElem?_cons_succ, h0, h1, h5, faA1, faL0, ldLs, ld4, hl, hia, hln, aBuiltin, aLen, Tryz.underlying158, cast_nat, ilt_nat, hlt, q1, q2, ieq_nat, heq, Nat.add_zero]; try exact rfl) rfl ?_
    refine run2_true (by first | rfl | (simp only [wanted, aOne, aP, aR, aA, aT, aCall, aCallVal, aev, regAt_set, aput_mk, aput_none, plainV, aNilCheck, aExtract, aBin, aInt, Addr.add, Nat.zero_add, ends_some, Nat.reduceLT, Nat.reduceAdd, if_true, then_normal, Nat.reduceEqDiff, if_false, reduceIte, reduceCtorEq, decide_true, decide_false, Bool.not_true, Bool.not_false, beq_self_eq_true, beq_tf, beq_ft, aPick, List.map_cons, List.map_nil, List.nil_append, List.append_nil, List.getElem?_cons_zero, List.getElem?_cons_succ, h0, h1, h5, faA1, faL0, ldLs, ld4, hl, hia, hln, aBuiltin, aLen, Tryz.underlying158, cast_nat, ilt_nat, hlt, q1, q2, ieq_nat, heq, Nat.add_zero])) (by simp only [aOne, aP, aR, aA, aT, aCall, aCallVal, aev, regAt_set, aput_mk, aput_none, plainV, aNilCheck, aExtract, aBin, aInt, Addr.add, Nat.zero_add, ends_some, Nat.reduceLT, Nat.reduceAdd, if_true, then_normal, Nat.reduceEqDiff, if_false, reduceIte, reduceCtorEq, decide_true, decide_false, Bool.not_true, Bool.not_false, beq_self_eq_true, beq_tf, beq_ft, aPick, List.map_cons, List.map_nil, List.nil_append, List.append_nil, List.getElem?_cons_zero, List.getElem?_cons_succ, h0, h1, h5, faA1, faL0, ldLs, ld4, hl, hia, hln, aBuiltin, aLen, Tryz.underlying158, cast_nat, ilt_nat, hlt, q1, q2, ieq_nat, heq, Nat.add_zero]; try exact rfl) rfl ?_
    refine run2_true (by first | rfl | (simp only [wanted, aOne, aP, aR, aA, aT, aCall, aCallVal, aev, regAt_set, aput_mk, aput_none, plainV, aNilCheck, aExtract, aBin, aInt, Addr.add, Nat.zero_add, ends_some, Nat.reduceLT, Nat.reduceAdd, if_true, then_normal, Nat.reduceEqDiff, if_false, reduceIte, reduceCtorEq, decide_true, decide_false, Bool.not_true, Bool.not_false, beq_self_eq_true, beq_tf, beq_ft, aPick, List.map_cons, List.map_nil, List.nil_append, List.append_nil, List.getElem?_cons_zero, List.getElem?_cons_succ, h0, h1, h5, faA1, faL0, ldLs, ld4, hl, hia, hln, aBuiltin, aLen, Tryz.underlying158, cast_nat, ilt_nat, hlt, q1, q2, ieq_nat, heq, Nat.add_zero])) (by simp only [aOne, aP, aR, aA, aT, aCall, aCallVal, aev, regAt_set, aput_mk, aput_none, plainV, aNilCheck, aExtract, aBin, aInt, Addr.add, Nat.zero_add, ends_some, Nat.reduceLT, Nat.reduceAdd, if_true, then_normal, Nat.reduceEqDiff, if_false, reduceIte, reduceCtorEq, decide_true, decide_false, Bool.not_true, Bool.not_false, beq_self_eq_true, beq_tf, beq_ft, aPick, List.map_cons, List.map_nil, List.nil_append, List.append_nil, List.getElem?_cons_zero, List.getElem?_cons_succ, h0, h1, h5, faA1, faL0, ldLs, ld4, hl, hia, hln, aBuiltin, aLen, Tryz.underlying158, cast_nat, ilt_nat, hlt, q1, q2, ieq_nat, heq, Nat.add_zero]; try exact rfl) rfl ?_
    refine run2_true (by first | rfl | (simp only [wanted, aOne, aP, aR, aA, aT, aCall, aCallVal, aev, regAt_set, aput_mk, aput_none, plainV, aNilCheck, aExtract, aBin, aInt, Addr.add, Nat.zero_add, ends_some, Nat.reduceLT, Nat.reduceAdd, if_true, then_normal, Nat.reduceEqDiff, if_false, reduceIte, reduceCtorEq, decide_true, decide_false, Bool.not_true, Bool.not_false, beq_self_eq_true, beq_tf, beq_ft, aPick, List.map_cons, List.map_nil, List.nil_append, List.append_nil, List.getElem?_cons_zero, List.getElem?_cons_succ, h0, h1, h5, faA1, faL0, ldLs, ld4, hl, hia, hln, aBuiltin, aLen, Tryz.underlying158, cast_nat, ilt_nat, hlt, q1, q2, ieq_nat, heq, Nat.add_zero])) (by simp only [aOne, aP, aR, aA, aT, aCall, aCallVal, aev, regAt_set, aput_mk, aput_none, plainV, aNilCheck, aExtract, aBin, aInt, Addr.add, Nat.zero_add, ends_some, Nat.reduceLT, Nat.reduceAdd, if_true, then_normal, Nat.reduceEqDiff, if_false, reduceIte, reduceCtorEq, decide_true, decide_false, Bool.not_true, Bool.not_false, beq_self_eq_true, beq_tf, beq_ft, aPick, List.map_cons, List.map_nil, List.nil_append, List.append_nil, List.getElem?_cons_zero, List.getElem?_cons_succ, h0, h1, h5, faA1, faL0, ldLs, ld4, hl, hia, hln, aBuiltin, aLen, Tryz.underlying158, cast_nat, ilt_nat, hlt, q1, q2, ieq_nat, heq, Nat.add_zero]; try exact rfl) rfl ?_
    refine run2_true (by first | rfl | (simp only [wanted, aOne, aP, aR, aA, aT, aCall, aCallVal, aev, regAt_set, aput_mk, aput_none, plainV, aNilCheck, aExtract, aBin, aInt, Addr.add, Nat.zero_add, ends_some, Nat.reduceLT, Nat.reduceAdd, if_true, then_normal, Nat.reduceEqDiff, if_false, reduceIte, reduceCtorEq, decide_true, decide_false, Bool.not_true, Bool.not_false, beq_self_eq_true, beq_tf, beq_ft, aPick, List.map_cons, List.map_nil, List.nil_append, List.append_nil, List.getElem?_cons_zero, List.getElem?_cons_succ, h0, h1, h5, faA1, faL0, ldLs, ld4, hl, hia, hln, aBuiltin, aLen, Tryz.underlying158, cast_nat, ilt_nat, hlt, q1, q2, ieq_nat, heq, Nat.add_zero])) (by simp only [aOne, aP, aR, aA, aT, aCall, aCallVal, aev, regAt_set, aput_mk, aput_none, plainV, aNilCheck, aExtract, aBin, aInt, Addr.add, Nat.zero_add, ends_some, Nat.reduceLT, Nat.reduceAdd, if_true, then_normal, Nat.reduceEqDiff, if_false, reduceIte, reduceCtorEq, decide_true, decide_false, Bool.not_true, Bool.not_false, beq_self_eq_true, beq_tf, beq_ft, aPick, List.map_cons, List.map_nil, List.nil_append, List.append_nil, List.getElem?_cons_zero, List.getElem?_cons_succ, h0, h1, h5, faA1, faL0, ldLs, ld4, hl, hia, hln, aBuiltin, aLen, Tryz.underlying158, cast_nat, ilt_nat, hlt, q1, q2, ieq_nat, heq, Nat.add_zero]; try exact rfl) rfl ?_
    refine run2_true (by first | rfl | (simp only [wanted, aOne, aP, aR, aA, aT, aCall, aCallVal, aev, regAt_set, aput_mk, aput_none, plainV, aNilCheck, aExtract, aBin, aInt, Addr.add, Nat.zero_add, ends_some, Nat.reduceLT, Nat.reduceAdd, if_true, then_normal, Nat.reduceEqDiff, if_false, reduceIte, reduceCtorEq, decide_true, decide_false, Bool.not_true, Bool.not_false, beq_self_eq_true, beq_tf, beq_ft, aPick, List.map_cons, List.map_nil, List.nil_append, List.append_nil, List.getElem?_cons_zero, List.getElem?_cons_succ, h0, h1, h5, faA1, faL0, ldLs, ld4, hl, hia, hln, aBuiltin, aLen, Tryz.underlying158, cast_nat, ilt_nat, hlt, q1, q2, ieq_nat, heq, Nat.add_zero])) (by simp only [aOne, aP, aR, aA, aT, aCall, aCallVal, aev, regAt_set, aput_mk, aput_none, plainV, aNilCheck, aExtract, aBin, aInt, Addr.add, Nat.zero_add, ends_some, Nat.reduceLT, Nat.reduceAdd, if_true, then_normal, Nat.reduceEqDiff, if_false, reduceIte, reduceCtorEq, decide_true, decide_false, Bool.not_true, Bool.not_false, beq_self_eq_true, beq_tf, beq_ft, aPick, List.map_cons, List.map_nil, List.nil_append, List.append_nil, List.getElem?_cons_zero, List.getElem?_cons_succ, h0, h1, h5, faA1, faL0, ldLs, ld4, hl, hia, hln, aBuiltin, aLen, Tryz.underlying158, cast_nat, ilt_nat, hlt, q1, q2, ieq_nat, heq, Nat.add_zero]; try exact rfl) rfl ?_
    refine run2_true (by first | rfl | (simp only [wanted, aOne, aP, aR, aA, aT, aCall, aCallVal, aev, regAt_set, aput_mk, aput_none, plainV, aNilCheck, aExtract, aBin, aInt, Addr.add, Nat.zero_add, ends_some, Nat.reduceLT, Nat.reduceAdd, if_true, then_normal, Nat.reduceEqDiff, if_false, reduceIte, reduceCtorEq, decide_true, decide_false, Bool.not_true, Bool.not_false, beq_self_eq_true, beq_tf, beq_ft, aPick, List.map_cons, List.map_nil, List.nil_append, List.append_nil, List.getElem?_cons_zero, List.getElem?_cons_succ, h0, h1, h5, faA1, faL0, ldLs, ld4, hl, hia, hln, aBuiltin, aLen, Tryz.underlying158, cast_nat, ilt_nat, hlt, q1, q2, ieq_nat, heq, Nat.add_zero])) (by simp only [aOne, aP, aR, aA, aT, aCall, aCallVal, aev, regAt_set, aput_mk, aput_none, plainV, aNilCheck, aExtract, aBin, aInt, Addr.add, Nat.zero_add, ends_some, Nat.reduceLT, Nat.reduceAdd, if_true, then_normal, Nat.reduceEqDiff, if_false, reduceIte, reduceCtorEq, decide_true, decide_false, Bool.not_true, Bool.not_false, beq_self_eq_true, beq_tf, beq_ft, aPick, List.map_cons, List.map_nil, List.nil_append, List.append_nil, List.getElem?_cons_zero, List.getElem?_cons_succ, h0, h1, h5, faA1, faL0, ldLs, ld4, hl, hia, hln, aBuiltin, aLen, Tryz.underlying158, cast_nat, ilt_nat, hlt, q1, q2, ieq_nat, heq, Nat.add_zero]; try exact rfl) rfl ?_
    refine run2_true (by first | rfl | (simp only [wanted, aOne, aP, aR, aA, aT, aCall, aCallVal, aev, regAt_set, aput_mk, aput_none, plainV, aNilCheck, aExtract, aBin, aInt, Addr.add, Nat.zero_add, ends_some, Nat.reduceLT, Nat.reduceAdd, if_true, then_normal, Nat.reduceEqDiff, if_false, reduceIte, reduceCtorEq, decide_true, decide_false, Bool.not_true, Bool.not_false, beq_self_eq_true, beq_tf, beq_ft, aPick, List.map_cons, List.map_nil, List.nil_append, List.append_nil, List.getElem?_cons_zero, List.getElem?_cons_succ, h0, h1, h5, faA1, faL0, ldLs, ld4, hl, hia, hln, aBuiltin, aLen, Tryz.underlying158, cast_nat, ilt_nat, hlt, q1, q2, ieq_nat, heq, Nat.add_zero])) (by simp only [aOne, aP, aR, aA, aT, aCall, aCallVal, aev, regAt_set, aput_mk, aput_none, plainV, aNilCheck, aExtract, aBin, aInt, Addr.add, Nat.zero_add, ends_some, Nat.reduceLT, Nat.reduceAdd, if_true, then_normal, Nat.reduceEqDiff, if_false, reduceIte, reduceCtorEq, decide_true, decide_false, Bool.not_true, Bool.not_false, beq_self_eq_true, beq_tf, beq_ft, aPick, List.map_cons, List.map_nil, List.nil_append, List.append_nil, List.getElem?_cons_zero, List.getElem?_cons_succ, h0, h1, h5, faA1, faL0, ldLs, ld4, hl, hia, hln, aBuiltin, aLen, Tryz.underlying158, cast_nat, ilt_nat, hlt, q1, q2, ieq_nat, heq, Nat.add_zero]; try exact rfl) rfl ?_
    refine run2_true (by first | rfl | (simp only [wanted, aOne, aP, aR, aA, aT, aCall, aCallVal, aev, regAt_set, aput_mk, aput_none, plainV, aNilCheck, aExtract, aBin, aInt, Addr.add, Nat.zero_add, ends_some, Nat.reduceLT, Nat.reduceAdd, if_true, then_normal, Nat.reduceEqDiff, if_false, reduceIte, reduceCtorEq, decide_true, decide_false, Bool.not_true, Bool.not_false, beq_self_eq_true, beq_tf, beq_ft, aPick, List.map_cons, List.map_nil, List.nil_append, List.append_nil, List.getElem?_cons_zero, List.getElem?_cons_succ, h0, h1, h5, faA1, faL0, ldLs, ld4, hl, hia, hln, aBuiltin, aLen, Tryz.underlying158, cast_nat, ilt_nat, hlt, q1, q2, ieq_nat, heq, Nat.add_zero])) (by simp only [aOne, aP, aR, aA, aT, aCall, aCallVal, aev, regAt_set, aput_mk, aput_none, plainV, aNilCheck, aExtract, aBin, aInt, Addr.add, Nat.zero_add, ends_some, Nat.reduceLT, Nat.reduceAdd, if_true, then_normal, Nat.reduceEqDiff, if_false, reduceIte, reduceCtorEq, decide_true, decide_false, Bool.not_true, Bool.not_false, beq_self_eq_true, beq_tf, beq_ft, aPick, List.map_cons, List.map_nil, List.nil_append, List.append_nil, List.getElem?_cons_zero, List.getElem?_cons_succ, h0, h1, h5, faA1, faL0, ldLs, ld4, hl, hia, hln, aBuiltin, aLen, Tryz.underlying158, cast_nat, ilt_nat, hlt, q1, q2, ieq_nat, heq, Nat.add_zero]; try exact rfl) rfl ?_
    refine run2_true (by first | rfl | (simp only [wanted, aOne, aP, aR, aA, aT, aCall, aCallVal, aev, regAt_set, aput_mk, aput_none, plainV, aNilCheck, aExtract, aBin, aInt, Addr.add, Nat.zero_add, ends_some, Nat.reduceLT, Nat.reduceAdd, if_true, then_normal, Nat.reduceEqDiff, if_false, reduceIte, reduceCtorEq, decide_true, decide_false, Bool.not_true, Bool.not_false, beq_self_eq_true, beq_tf, beq_ft, aPick, List.map_cons, List.map_nil, List.nil_append, List.append_nil, List.getElem?_cons_zero, List.getElem?_cons_succ, h0, h1, h5, faA1, faL0, ldLs, ld4, hl, hia, hln, aBuiltin, aLen, Tryz.underlying158, cast_nat, ilt_nat, hlt, q1, q2, ieq_nat, heq, Nat.add_zero])) (by simp only [aOne, aP, aR, aA, aT, aCall, aCallVal, aev, regAt_set, aput_mk, aput_none, plainV, aNilCheck, aExtract, aBin, aInt, Addr.add, Nat.zero_add, ends_some, Nat.reduceLT, Nat.reduceAdd, if_true, then_normal, Nat.reduceEqDiff, if_false, reduceIte, reduceCtorEq, decide_true, decide_false, Bool.not_true, Bool.not_false, beq_self_eq_true, beq_tf, beq_ft, aPick, List.map_cons, List.map_nil, List.nil_append, List.append_nil, List.getElem?_cons_zero, List.getElem?_cons_succ, h0, h1, h5, faA1, faL0, ldLs, ld4, hl, hia, hln, aBuiltin, aLen, Tryz.underlying158, cast_nat, ilt_nat, hlt, q1, q2, ieq_nat, heq, Nat.add_zero]; try exact rfl) rfl ?_
    refine run2_true (by first | rfl | (simp only [wanted, aOne, aP, aR, aA, aT, aCall, aCallVal, aev, regAt_set, aput_mk, aput_none, plainV, aNilCheck, aExtract, aBin, aInt, Addr.add, Nat.zero_add, ends_some, Nat.reduceLT, Nat.reduceAdd, if_true, then_normal, Nat.reduceEqDiff, if_false, reduceIte, reduceCtorEq, decide_true, decide_false, Bool.not_true, Bool.not_false, beq_self_eq_true, beq_tf, beq_ft, aPick, List.map_cons, List.map_nil, List.nil_append, List.append_nil, List.getElem?_cons_zero, List.getElem?_cons_succ, h0, h1, h5, faA1, faL0, ldLs, ld4, hl, hia, hln, aBuiltin, aLen, Tryz.underlying158, cast_nat, ilt_nat, hlt, q1, q2, ieq_nat, heq, Nat.add_zero])) (by simp only [aOne, aP, aR, aA, aT, aCall, aCallVal, aev, regAt_set, aput_mk, aput_none, plainV, aNilCheck, aExtract, aBin, aInt, Addr.add, Nat.zero_add, ends_some, Nat.reduceLT, Nat.reduceAdd, if_true, then_normal, Nat.reduceEqDiff, if_false, reduceIte, reduceCtorEq, decide_true, decide_false, Bool.not_true, Bool.not_false, beq_self_eq_true, beq_tf, beq_ft, aPick, List.map_cons, List.map_nil, List.nil_append, List.append_nil, List.getElem?_cons_zero, List.getElem?_cons_succ, h0, h1, h5, faA1, faL0, ldLs, ld4, hl, hia, hln, aBuiltin, aLen, Tryz.underlying158, cast_nat, ilt_nat, hlt, q1, q2, ieq_nat, heq, Nat.add_zero]; try exact rfl) rfl ?_
    refine run2_true (by first | rfl | (simp only [wanted, aOne, aP, aR, aA, aT, aCall, aCallVal, aev, regAt_set, aput_mk, aput_none, plainV, aNilCheck, aExtract, aBin, aInt, Addr.add, Nat.zero_add, ends_some, Nat.reduceLT, Nat.reduceAdd, if_true, then_normal, Nat.reduceEqDiff, if_false, reduceIte, reduceCtorEq, decide_true, decide_false, Bool.not_true, Bool.not_false, beq_self_eq_true, beq_tf, beq_ft, aPick, List.map_cons, List.map_nil, List.nil_append, List.append_nil, List.getElem?_cons_zero, List.getElem?_cons_succ, h0, h1, h5, faA1, faL0, ldLs, ld4, hl, hia, hln, aBuiltin, aLen, Tryz.underlying158, cast_nat, ilt_nat, hlt, q1, q2, ieq_nat, heq, Nat.add_zero])) (by simp only [aOne, aP, aR, aA, aT, aCall, aCallVal, aev, regAt_set, aput_mk, aput_none, plainV, aNilCheck, aExtract, aBin, aInt, Addr.add, Nat.zero_add, ends_some, Nat.reduceLT, Nat.reduceAdd, if_true, then_normal, Nat.reduceEqDiff, if_false, reduceIte, reduceCtorEq, decide_true, decide_false, Bool.not_true, Bool.not_false, beq_self_eq_true, beq_tf, beq_ft, aPick, List.map_cons, List.map_nil, List.nil_append, List.append_nil, List.getElem?_cons_zero, List.getElem?_cons_succ, h0, h1, h5, faA1, faL0, ldLs, ld4, hl, hia, hln, aBuiltin, aLen, Tryz.underlying158, cast_nat, ilt_nat, hlt, q1, q2, ieq_nat, heq, Nat.add_zero]; try exact rfl) rfl ?_
    refine run2_true (by first | rfl | (simp only [wanted, aOne, aP, aR, aA, aT, aCall, aCallVal, aev, regAt_set, aput_mk, aput_none, plainV, aNilCheck, aExtract, aBin, aInt, Addr.add, Nat.zero_add, ends_some, Nat.reduceLT, Nat.reduceAdd, if_true, then_normal, Nat.reduceEqDiff, if_false, reduceIte, reduceCtorEq, decide_true, decide_false, Bool.not_true, Bool.not_false, beq_self_eq_true, beq_tf, beq_ft, aPick, List.map_cons, List.map_nil, List.nil_append, List.append_nil, List.getElem?_cons_zero, List.getElem?_cons_succ, h0, h1, h5, faA1, faL0, ldLs, ld4, hl, hia, hln, aBuiltin, aLen, Tryz.underlying158, cast_nat, ilt_nat, hlt, q1, q2, ieq_nat, heq, Nat.add_zero])) (by simp only [aOne, aP, aR, aA, aT, aCall, aCallVal, aev, regAt_set, aput_mk, aput_none, plainV, aNilCheck, aExtract, aBin, aInt, Addr.add, Nat.zero_add, ends_some, Nat.reduceLT, Nat.reduceAdd, if_true, then_normal, Nat.reduceEqDiff, if_false, reduceIte, reduceCtorEq, decide_true, decide_false, Bool.not_true, Bool.not_false, beq_self_eq_true, beq_tf, beq_ft, aPick, List.map_cons, List.map_nil, List.nil_append, List.append_nil, List.getElem?_cons_zero, List.getElem?_cons_succ, h0, h1, h5, faA1, faL0, ldLs, ld4, hl, hia, hln, aBuiltin, aLen, Tryz.underlying158, cast_nat, ilt_nat, hlt, q1, q2, ieq_nat, heq, Nat.add_zero]; try exact rfl) rfl ?_
    refine run2_true (by first | rfl | (simp only [wanted, aOne, aP, aR, aA, aT, aCall, aCallVal, aev, regAt_set, aput_mk, aput_none, plainV, aNilCheck, aExtract, aBin, aInt, Addr.add, Nat.zero_add, ends_some, Nat.reduceLT, Nat.reduceAdd, if_true, then_normal, Nat.reduceEqDiff, if_false, reduceIte, reduceCtorEq, decide_true, decide_false, Bool.not_true, Bool.not_false, beq_self_eq_true, beq_tf, beq_ft, aPick, List.map_cons, List.map_nil, List.nil_append, List.append_nil, List.getElem?_cons_zero, List.getElem?_cons_succ, h0, h1, h5, faA1, faL0, ldLs, ld4, hl, hia, hln, aBuiltin, aLen, Tryz.underlying158, cast_nat, ilt_nat, hlt, q1, q2, ieq_nat, heq, Nat.add_zero])) (by simp only [aOne, aP, aR, aA, aT, aCall, aCallVal, aev, regAt_set, aput_mk, aput_none, plainV, aNilCheck, aExtract, aBin, aInt, Addr.add, Nat.zero_add, ends_some, Nat.reduceLT, Nat.reduceAdd, if_true, then_normal, Nat.reduceEqDiff, if_false, reduceIte, reduceCtorEq, decide_true, decide_false, Bool.not_true, Bool.not_false, beq_self_eq_true, beq_tf, beq_ft, aPick, List.map_cons, List.map_nil, List.nil_append, List.append_nil, List.getElem?_cons_zero, List.getElem?_cons_succ, h0, h1, h5, faA1, faL0, ldLs, ld4, hl, hia, hln, aBuiltin, aLen, Tryz.underlying158, cast_nat, ilt_nat, hlt, q1, q2, ieq_nat, heq, Nat.add_zero]; try exact rfl) rfl ?_
    refine run2_true (by first | rfl | (simp only [wanted, aOne, aP, aR, aA, aT, aCall, aCallVal, aev, regAt_set, aput_mk, aput_none, plainV, aNilCheck, aExtract, aBin, aInt, Addr.add, Nat.zero_add, ends_some, Nat.reduceLT, Nat.reduceAdd, if_true, then_normal, Nat.reduceEqDiff, if_false, reduceIte, reduceCtorEq, decide_true, decide_false, Bool.not_true, Bool.not_false, beq_self_eq_true, beq_tf, beq_ft, aPick, List.map_cons, List.map_nil, List.nil_append, List.append_nil, List.getElem?_cons_zero, List.getElem?_cons_succ, h0, h1, h5, faA1, faL0, ldLs, ld4, hl, hia, hln, aBuiltin, aLen, Tryz.underlying158, cast_nat, ilt_nat, hlt, q1, q2, ieq_nat, heq, Nat.add_zero])) (by simp only [aOne, aP, aR, aA, aT, aCall, aCallVal, aev, regAt_set, aput_mk, aput_none, plainV, aNilCheck, aExtract, aBin, aInt, Addr.add, Nat.zero_add, ends_some, Nat.reduceLT, Nat.reduceAdd, if_true, then_normal, Nat.reduceEqDiff, if_false, reduceIte, reduceCtorEq, decide_true, decide_false, Bool.not_true, Bool.not_false, beq_self_eq_true, beq_tf, beq_ft, aPick, List.map_cons, List.map_nil, List.nil_append, List.append_nil, List.getElem?_cons_zero, List.getElem?_cons_succ, h0, h1, h5, faA1, faL0, ldLs, ld4, hl, hia, hln, aBuiltin, aLen, Tryz.underlying158, cast_nat, ilt_nat, hlt, q1, q2, ieq_nat, heq, Nat.add_zero]; try exact rfl) rfl ?_
    refine run2_true (by first | rfl | (simp only [wanted, aOne, aP, aR, aA, aT, aCall, aCallVal, aev, regAt_set, aput_mk, aput_none, plainV, aNilCheck, aExtract, aBin, aInt, Addr.add, Nat.zero_add, ends_some, Nat.reduceLT, Nat.reduceAdd, if_true, then_normal, Nat.reduceEqDiff, if_false, reduceIte, reduceCtorEq, decide_true, decide_false, Bool.not_true, Bool.not_false, beq_self_eq_true, beq_tf, beq_ft, aPick, List.map_cons, List.map_nil, List.nil_append, List.append_nil, List.getElem?_cons_zero, List.getElem?_cons_succ, h0, h1, h5, faA1, faL0, ldLs, ld4, hl, hia, hln, aBuiltin, aLen, Tryz.underlying158, cast_nat, ilt_nat, hlt, q1, q2, ieq_nat, heq, Nat.add_zero])) (by simp only [aOne, aP, aR, aA, aT, aCall, aCallVal, aev, regAt_set, aput_mk, aput_none, plainV, aNilCheck, aExtract, aBin, aInt, Addr.add, Nat.zero_add, ends_some, Nat.reduceLT, Nat.reduceAdd, if_true, then_normal, Nat.reduceEqDiff, if_false, reduceIte, reduceCtorEq, decide_true, decide_false, Bool.not_true, Bool.not_false, beq_self_eq_true, beq_tf, beq_ft, aPick, List.map_cons, List.map_nil, List.nil_append, List.append_nil, List.getElem?_cons_zero, List.getElem?_cons_succ, h0, h1, h5, faA1, faL0, ldLs, ld4, hl, hia, hln, aBuiltin, aLen, Tryz.underlying158, cast_nat, ilt_nat, hlt, q1, q2, ieq_nat, heq, Nat.add_zero]; try exact rfl) rfl ?_
    refine run2_true (by first | rfl | (simp only [wanted, aOne, aP, aR, aA, aT, aCall, aCallVal, aev, regAt_set, aput_mk, aput_none, plainV, aNilCheck, aExtract, aBin, aInt, Addr.add, Nat.zero_add, ends_some, Nat.reduceLT, Nat.reduceAdd, if_true, then_normal, Nat.reduceEqDiff, if_false, reduceIte, reduceCtorEq, decide_true, decide_false, Bool.not_true, Bool.not_false, beq_self_eq_true, beq_tf, beq_ft, aPick, List.map_cons, List.map_nil, List.nil_append, List.append_nil, List.getElem?_cons_zero, List.getElem?_cons_succ, h0, h1, h5, faA1, faL0, ldLs, ld4, hl, hia, hln, aBuiltin, aLen, Tryz.underlying158, cast_nat, ilt_nat, hlt, q1, q2, ieq_nat, heq, Nat.add_zero])) (by simp only [aOne, aP, aR, aA, aT, aCall, aCallVal, aev, regAt_set, aput_mk, aput_none, plainV, aNilCheck, aExtract, aBin, aInt, Addr.add, Nat.zero_add, ends_some, Nat.reduceLT, Nat.reduceAdd, if_true, then_normal, Nat.reduceEqDiff, if_false, reduceIte, reduceCtorEq, decide_true, decide_false, Bool.not_true, Bool.not_false, beq_self_eq_true, beq_tf, beq_ft, aPick, List.map_cons, List.map_nil, List.nil_append, List.append_nil, List.getElem?_cons_zero, List.getElem?_cons_succ, h0, h1, h5, faA1, faL0, ldLs, ld4, hl, hia, hln, aBuiltin, aLen, Tryz.underlying158, cast_nat, ilt_nat, hlt, q1, q2, ieq_nat, heq, Nat.add_zero]; try exact rfl) rfl ?_
    refine run2_true (by first | rfl | (simp only [wanted, aOne, aP, aR, aA, aT, aCall, aCallVal, aev, regAt_set, aput_mk, aput_none, plainV, aNilCheck, aExtract, aBin, aInt, Addr.add, Nat.zero_add, ends_some, Nat.reduceLT, Nat.reduceAdd, if_true, then_normal, Nat.reduceEqDiff, if_false, reduceIte, reduceCtorEq, decide_true, decide_false, Bool.not_true, Bool.not_false, beq_self_eq_true, beq_tf, beq_ft, aPick, List.map_cons, List.map_nil, List.nil_append, List.append_nil, List.getElem?_cons_zero, List.getElem?_cons_succ, h0, h1, h5, faA1, faL0, ldLs, ld4, hl, hia, hln, aBuiltin, aLen, Tryz.underlying158, cast_nat, ilt_nat, hlt, q1, q2, ieq_nat, heq, Nat.add_zero])) (by simp only [aOne, aP, aR, aA, aT, aCall, aCallVal, aev, regAt_set, aput_mk, aput_none, plainV, aNilCheck, aExtract, aBin, aInt, Addr.add, Nat.zero_add, ends_some, Nat.reduceLT, Nat.reduceAdd, if_true, then_normal, Nat.reduceEqDiff, if_false, reduceIte, reduceCtorEq, decide_true, decide_false, Bool.not_true, Bool.not_false, beq_self_eq_true, beq_tf, beq_ft, aPick, List.map_cons, List.map_nil, List.nil_append, List.append_nil, List.getElem?_cons_zero, List.getElem?_cons_succ, h0, h1, h5, faA1, faL0, ldLs, ld4, hl, hia, hln, aBuiltin, aLen, Tryz.underlying158, cast_nat, ilt_nat, hlt, q1, q2, ieq_nat, heq, Nat.add_zero]; try exact rfl) rfl ?_
    refine run2_true (by first | rfl | (simp only [wanted, aOne, aP, aR, aA, aT, aCall, aCallVal, aev, regAt_set, aput_mk, aput_none, plainV, aNilCheck, aExtract, aBin, aInt, Addr.add, Nat.zero_add, ends_some, Nat.reduceLT, Nat.reduceAdd, if_true, then_normal, Nat.reduceEqDiff, if_false, reduceIte, reduceCtorEq, decide_true, decide_false, Bool.not_true, Bool.not_false, beq_self_eq_true, beq_tf, beq_ft, aPick, List.map_cons, List.map_nil, List.nil_append, List.append_nil, List.getElem?_cons_zero, List.getElem?_cons_succ, h0, h1, h5, faA1, faL0, ldLs, ld4, hl, hia, hln, aBuiltin, aLen, Tryz.underlying158, cast_nat, ilt_nat, hlt, q1, q2, ieq_nat, heq, Nat.add_zero])) (by simp only [aOne, aP, aR, aA, aT, aCall, aCallVal, aev, regAt_set, aput_mk, aput_none, plainV, aNilCheck, aExtract, aBin, aInt, Addr.add, Nat.zero_add, ends_some, Nat.reduceLT, Nat.reduceAdd, if_true, then_normal, Nat.reduceEqDiff, if_false, reduceIte, reduceCtorEq, decide_true, decide_false, Bool.not_true, Bool.not_false, beq_self_eq_true, beq_tf, beq_ft, aPick, List.map_cons, List.map_nil, List.nil_append, List.append_nil, List.getElem?_cons_zero, List.getElem?_cons_succ, h0, h1, h5, faA1, faL0, ldLs, ld4, hl, hia, hln, aBuiltin, aLen, Tryz.underlying158, cast_nat, ilt_nat, hlt, q1, q2, ieq_nat, heq, Nat.add_zero]; try exact rfl) rfl ?_
    refine run2_true (by first | rfl | (simp only [wanted, aOne, aP, aR, aA, aT, aCall, aCallVal, aev, regAt_set, aput_mk, aput_none, plainV, aNilCheck, aExtract, aBin, aInt, Addr.add, Nat.zero_add, ends_some, Nat.reduceLT, Nat.reduceAdd, if_true, then_normal, Nat.reduceEqDiff, if_false, reduceIte, reduceCtorEq, decide_true, decide_false, Bool.not_true, Bool.not_false, beq_self_eq_true, beq_tf, beq_ft, aPick, List.map_cons, List.map_nil, List.nil_append, List.append_nil, List.getElem?_cons_zero, List.getElem?_cons_succ, h0, h1, h5, faA1, faL0, ldLs, ld4, hl, hia, hln, aBuiltin, aLen, Tryz.underlying158, cast_nat, ilt_nat, hlt, q1, q2, ieq_nat, heq, Nat.add_zero])) (by simp only [aOne, aP, aR, aA, aT, aCall, aCallVal, aev, regAt_set, aput_mk, aput_none, plainV, aNilCheck, aExtract, aBin, aInt, Addr.add, Nat.zero_add, ends_some, Nat.reduceLT, Nat.reduceAdd, if_true, then_normal, Nat.reduceEqDiff, if_false, reduceIte, reduceCtorEq, decide_true, decide_false, Bool.not_true, Bool.not_false, beq_self_eq_true, beq_tf, beq_ft, aPick, List.map_cons, List.map_nil, List.nil_append, List.append_nil, List.getElem?_cons_zero, List.getElem?_cons_succ, h0, h1, h5, faA1, faL0, ldLs, ld4, hl, hia, hln, aBuiltin, aLen, Tryz.underlying158, cast_nat, ilt_nat, hlt, q1, q2, ieq_nat, heq, Nat.add_zero]; try exact rfl) rfl ?_
    refine run2_true (by first | rfl | (simp only [wanted, aOne, aP, aR, aA, aT, aCall, aCallVal, aev, regAt_set, aput_mk, aput_none, plainV, aNilCheck, aExtract, aBin, aInt, Addr.add, Nat.zero_add, ends_some, Nat.reduceLT, Nat.reduceAdd, if_true, then_normal, Nat.reduceEqDiff, if_false, reduceIte, reduceCtorEq, decide_true, decide_false, Bool.not_true, Bool.not_false, beq_self_eq_true, beq_tf, beq_ft, aPick, List.map_cons, List.map_nil, List.nil_append, List.append_nil, List.getElem?_cons_zero, List.getElem?_cons_succ, h0, h1, h5, faA1, faL0, ldLs, ld4, hl, hia, hln, aBuiltin, aLen, Tryz.underlying158, cast_nat, ilt_nat, hlt, q1, q2, ieq_nat, heq, Nat.add_zero])) (by simp only [aOne, aP, aR, aA, aT, aCall, aCallVal, aev, regAt_set, aput_mk, aput_none, plainV, aNilCheck, aExtract, aBin, aInt, Addr.add, Nat.zero_add, ends_some, Nat.reduceLT, Nat.reduceAdd, if_true, then_normal, Nat.reduceEqDiff, if_false, reduceIte, reduceCtorEq, decide_true, decide_false, Bool.not_true, Bool.not_false, beq_self_eq_true, beq_tf, beq_ft, aPick, List.map_cons, List.map_nil, List.nil_append, List.append_nil, List.getElem?_cons_zero, List.getElem?_cons_succ, h0, h1, h5, faA1, faL0, ldLs, ld4, hl, hia, hln, aBuiltin, aLen, Tryz.underlying158, cast_nat, ilt_nat, hlt, q1, q2, ieq_nat, heq, Nat.add_zero]; try exact rfl) rfl ?_
    refine run2_true (by first | rfl | (simp only [wanted, aOne, aP, aR, aA, aT, aCall, aCallVal, aev, regAt_set, aput_mk, aput_none, plainV, aNilCheck, aExtract, aBin, aInt, Addr.add, Nat.zero_add, ends_some, Nat.reduceLT, Nat.reduceAdd, if_true, then_normal, Nat.reduceEqDiff, if_false, reduceIte, reduceCtorEq, decide_true, decide_false, Bool.not_true, Bool.not_false, beq_self_eq_true, beq_tf, beq_ft, aPick, List.map_cons, List.map_nil, List.nil_append, List.append_nil, List.getElem?_cons_zero, List.getElem?_cons_succ, h0, h1, h5, faA1, faL0, ldLs, ld4, hl, hia, hln, aBuiltin, aLen, Tryz.underlying158, cast_nat, ilt_nat, hlt, q1, q2, ieq_nat, heq, Nat.add_zero])) (by simp only [aOne, aP, aR, aA, aT, aCall, aCallVal, aev, regAt_set, aput_mk, aput_none, plainV, aNilCheck, aExtract, aBin, aInt, Addr.add, Nat.zero_add, ends_some, Nat.reduceLT, Nat.reduceAdd, if_true, then_normal, Nat.reduceEqDiff, if_false, reduceIte, reduceCtorEq, decide_true, decide_false, Bool.not_true, Bool.not_false, beq_self_eq_true, beq_tf, beq_ft, aPick, List.map_cons, List.map_nil, List.nil_append, List.append_nil, List.getElem?_cons_zero, List.getElem?_cons_succ, h0, h1, h5, faA1, faL0, ldLs, ld4, hl, hia, hln, aBuiltin, aLen, Tryz.underlying158, cast_nat, ilt_nat, hlt, q1, q2, ieq_nat, heq, Nat.add_zero]; try exact rfl) rfl ?_
    simp only [run2, ends_some, then_normal]
    refine code_cond_true ?_ ?_
    · simp only [aev, regAt_set, Nat.reduceEqDiff, reduceIte]
    refine code_skip ?_
    simp only [then_normal]
    refine code_block ?_
    refine code_region ?_ ?_
    · rfl
    simp only [run1, aOne, aP, aR, aA, aT, aCall, aCallVal, aev, regAt_set, aput_mk, aput_none, plainV, aNilCheck, aExtract, aBin, aInt, Addr.add, Nat.zero_add, ends_some, Nat.reduceLT, Nat.reduceAdd, if_true, then_normal, Nat.reduceEqDiff, if_false, reduceIte, reduceCtorEq, decide_true, decide_false, Bool.not_true, Bool.not_false, beq_self_eq_true, beq_tf, beq_ft, aPick, List.map_cons, List.map_nil, List.nil_append, List.append_nil, List.getElem?_cons_zero, List.getElem?_cons_succ, h5, blockC, a1]
    rw [show e + (m + 1) + 19 = e + m + 20 from by omega]
    refine ih (p + 1) _ (by omega) (by omega) ?_ ?_ ?_
    · simp only [regAt_set, Nat.reduceEqDiff, reduceIte, h0]
    · simp only [regAt_set, Nat.reduceEqDiff, reduceIte, h1]
    · simp only [regAt_set, Nat.reduceEqDiff, reduceIte]
set_option maxHeartbeats 4000000 in
theorem hole_eq {f ap lb L a t : Nat} {ln : Nat → Bool} {μ : Mem} (hf : 60 ≤ f) (hL : Lines μ ap lb L ln) (h16 : a % 16 = 0) (ht : t = a + 16) (htL : t < L) (hT : L < 1000000) (hln : ∀ k, a ≤ k → k < t → ln k = false) :
    aFun Tryz.prog (aCode Tryz.prog X S0 f) 144 [.pointer (some ⟨ap, 0, none⟩), .int .i64 (.ofNat a)] μ = some (.int .i64 (.ofNat t), μ) := by
  obtain ⟨k, rfl⟩ := Nat.exists_eq_add_of_le' hf
  refine ends_eq ?_
  refine fun_enter Tryz.func144 rfl rfl (Nat.le_of_ble_eq_true rfl) ?_
  simp only [T.lay, Nat.zero_add, Tryz.ntmps144, Nat.reduceAdd]
  refine code_seq ?_
  refine code_region ?_ ?_
  · rfl
  simp only [run1, aOne, aP, aR, aA, aT, aCall, aCallVal, aev, regAt_set, aput_mk, aput_none, plainV, aNilCheck, aExtract, aBin, aInt, Addr.add, Nat.zero_add, ends_some, Nat.reduceLT, Nat.reduceAdd, if_true, then_normal, Nat.reduceEqDiff, if_false, reduceIte, reduceCtorEq, decide_true, decide_false, Bool.not_true, Bool.not_false, beq_self_eq_true, beq_tf, beq_ft, aPick, List.map_cons, List.map_nil, List.nil_append, List.append_nil, List.getElem?_cons_zero, List.getElem?_cons_succ]
  refine code_seq ?_
  refine code_region ?_ ?_
  · rfl
  simp only [run1, aOne, aP, aR, aA, aT, aCall, aCallVal, aev, regAt_set, aput_mk, aput_none, plainV, aNilCheck, aExtract, aBin, aInt, Addr.add, Nat.zero_add, ends_some, Nat.reduceLT, Nat.reduceAdd, if_true, then_normal, Nat.reduceEqDiff, if_false, reduceIte, reduceCtorEq, decide_true, decide_false, Bool.not_true, Bool.not_false, beq_self_eq_true, beq_tf, beq_ft, aPick, List.map_cons, List.map_nil, List.nil_append, List.append_nil, List.getElem?_cons_zero, List.getElem?_cons_succ]
  refine code_seq ?_
  refine code_block ?_
  refine EndsC.mono (hole_loop hL h16 ht htL hT hln (k + 20) 16 a _ (by omega) (Nat.le_refl _) ?_ ?_ ?_) ?_
  · simp only [regAt_set, Nat.reduceEqDiff, reduceIte]
  · simp only [regAt_set, Nat.reduceEqDiff, reduceIte]
  · simp only [regAt_set, Nat.reduceEqDiff, reduceIte]
  rintro x' r' μ' ⟨rfl, rfl, tm', rfl, g5⟩
  simp only [blockC, reduceIte, then_normal]
  refine code_seq ?_
  refine code_region ?_ ?_
  · rfl
  simp only [run1, aOne, aP, aR, aA, aT, aCall, aCallVal, aev, regAt_set, aput_mk, aput_none, plainV, aNilCheck, aExtract, aBin, aInt, Addr.add, Nat.zero_add, ends_some, Nat.reduceLT, Nat.reduceAdd, if_true, then_normal, Nat.reduceEqDiff, if_false, reduceIte, reduceCtorEq, decide_true, decide_false, Bool.not_true, Bool.not_false, beq_self_eq_true, beq_tf, beq_ft, aPick, List.map_cons, List.map_nil, List.nil_append, List.append_nil, List.getElem?_cons_zero, List.getElem?_cons_succ, g5]
  refine code_ret ?_
  refine ⟨rfl, _, ?_, rfl, rfl⟩
  simp only [aResults, Tryz.results144, aRes, regAt_set, Nat.reduceEqDiff, reduceIte]

set_option maxHeartbeats 4000000 in
theorem find_eq {f ap lb L a t : Nat} {ln : Nat → Bool} {μ : Mem} (hf : 90 ≤ f) (hL : Lines μ ap lb L ln) (h16 : a % 16 = 0) (ht : t = a + 16) (htL : t < L) (hT : L < 1000000) (hln : ∀ k, a ≤ k → k < t → ln k = false) :
    aFun Tryz.prog (aCode Tryz.prog X S0 f) 120 [.pointer (some ⟨ap, 0, none⟩), .int .i64 (.ofNat a), .int .i64 1] μ = some (.tuple #[.int .i64 (.ofNat a), .int .i64 (.ofNat t), .bool true], μ) := by
  obtain ⟨k, rfl⟩ := Nat.exists_eq_add_of_le' hf
  refine ends_eq ?_
  obtain ⟨c, hl, hc⟩ := hL.head
  have hlt : a < L := by omega
  have hh : ∀ f, 60 ≤ f → aFun Tryz.prog (aCode Tryz.prog X S0 f) 144 [.pointer (some ⟨ap, 0, none⟩), .int .i64 (.ofNat a)] μ = some (.int .i64 (.ofNat t), μ) := fun f hf => hole_eq hf hL h16 ht htL hT hln
  have a1 := sub_nat t a (by omega) (by omega)
  have a2 : ilt (.ofNat (t - a)) 1 = false := (ilt_nat (t - a) 1).trans (decide_eq_false (by omega))
  refine fun_enter Tryz.func120 rfl rfl (Nat.le_of_ble_eq_true rfl) ?_
  simp only [T.lay, Nat.zero_add, Tryz.ntmps120, Nat.reduceAdd]
  refine code_seq ?_
  refine code_region ?_ ?_
  · rfl
  simp only [run1, aOne, aP, aR, aA, aT, aCall, aCallVal, aev, regAt_set, aput_mk, aput_none, plainV, aNilCheck, aExtract, aBin, aInt, Addr.add, Nat.zero_add, ends_some, Nat.reduceLT, Nat.reduceAdd, if_true, then_normal, Nat.reduceEqDiff, if_false, reduceIte, reduceCtorEq, decide_true, decide_false, Bool.not_true, Bool.not_false, beq_self_eq_true, beq_tf, beq_ft, aPick, List.map_cons, List.map_nil, List.nil_append, List.append_nil, List.getElem?_cons_zero, List.getElem?_cons_succ]
  refine code_seq ?_
  refine code_seq ?_
  refine code_region ?_ ?_
  · rfl
  simp only [run1, aOne, aP, aR, aA, aT, aCall, aCallVal, aev, regAt_set, aput_mk, aput_none, plainV, aNilCheck, aExtract, aBin, aInt, Addr.add, Nat.zero_add, ends_some, Nat.reduceLT, Nat.reduceAdd, if_true, then_normal, Nat.reduceEqDiff, if_false, reduceIte, reduceCtorEq, decide_true, decide_false, Bool.not_true, Bool.not_false, beq_self_eq_true, beq_tf, beq_ft, aPick, List.map_cons, List.map_nil, List.nil_append, List.append_nil, List.getElem?_cons_zero, List.getElem?_cons_succ]
  refine code_block ?_
  refine code_loop ?_
  refine code_seq ?_
  refine code_seq ?_
  refine code_region ?_ ?_
  · rfl
  simp only [run1, aOne, aP, aR, aA, aT, aCall, aCallVal, aev, regAt_set, aput_mk, aput_none, plainV, aNilCheck, aExtract, aBin, aInt, Addr.add, Nat.zero_add, ends_some, Nat.reduceLT, Nat.reduceAdd, if_true, then_normal, Nat.reduceEqDiff, if_false, reduceIte, reduceCtorEq, decide_true, decide_false, Bool.not_true, Bool.not_false, beq_self_eq_true, beq_tf, beq_ft, aPick, List.map_cons, List.map_nil, List.nil_append, List.append_nil, List.getElem?_cons_zero, List.getElem?_cons_succ, faA1, ldLs, hl, aBuiltin, aLen, Tryz.underlying158, cast_nat, ilt_nat, hlt]
  refine code_cond_true ?_ ?_
  · simp only [aev, regAt_set, Nat.reduceEqDiff, reduceIte]
  refine code_skip ?_
  simp only [then_normal]
  refine code_block ?_
  refine code_seq ?_
  refine code_region ?_ ?_
  · rfl
  simp only [run1, aOne, aP, aR, aA, aT, aCall, aCallVal, aev, regAt_set, aput_mk, aput_none, plainV, aNilCheck, aExtract, aBin, aInt, Addr.add, Nat.zero_add, ends_some, Nat.reduceLT, Nat.reduceAdd, if_true, then_normal, Nat.reduceEqDiff, if_false, reduceIte, reduceCtorEq, decide_true, decide_false, Bool.not_true, Bool.not_false, beq_self_eq_true, beq_tf, beq_ft, aPick, List.map_cons, List.map_nil, List.nil_append, List.append_nil, List.getElem?_cons_zero, List.getElem?_cons_succ, go_call (P := Tryz.prog) (X := X) (S := S0) Tryz.func144 rfl rfl, hh, Nat.reduceLeDiff]
  refine code_seq ?_
  refine code_seq ?_
  refine code_region ?_ ?_
  · rfl
  simp only [run1, aOne, aP, aR, aA, aT, aCall, aCallVal, aev, regAt_set, aput_mk, aput_none, plainV, aNilCheck, aExtract, aBin, aInt, Addr.add, Nat.zero_add, ends_some, Nat.reduceLT, Nat.reduceAdd, if_true, then_normal, Nat.reduceEqDiff, if_false, reduceIte, reduceCtorEq, decide_true, decide_false, Bool.not_true, Bool.not_false, beq_self_eq_true, beq_tf, beq_ft, aPick, List.map_cons, List.map_nil, List.nil_append, List.append_nil, List.getElem?_cons_zero, List.getElem?_cons_succ, a1, a2]
  refine code_cond_true ?_ ?_
  · simp only [aev, regAt_set, Nat.reduceEqDiff, reduceIte]
  refine code_seq ?_
  refine code_region ?_ ?_
  · rfl
  simp only [run1, aOne, aP, aR, aA, aT, aCall, aCallVal, aev, regAt_set, aput_mk, aput_none, plainV, aNilCheck, aExtract, aBin, aInt, Addr.add, Nat.zero_add, ends_some, Nat.reduceLT, Nat.reduceAdd, if_true, then_normal, Nat.reduceEqDiff, if_false, reduceIte, reduceCtorEq, decide_true, decide_false, Bool.not_true, Bool.not_false, beq_self_eq_true, beq_tf, beq_ft, aPick, List.map_cons, List.map_nil, List.nil_append, List.append_nil, List.getElem?_cons_zero, List.getElem?_cons_succ]
  refine code_ret ?_
  refine ⟨rfl, _, ?_, rfl, rfl⟩
  simp only [aResults, Tryz.results120, aRes, regAt_set, Nat.reduceEqDiff, reduceIte]
end

noncomputable section
variable {X : FuncId → List Value → Mem → Option (Value × Mem)}

theorem cells_set {t : T Ob} {i j p n m : Nat} {o : Ob} (h : j ≠ i) : cellsAt ⟨t.set i o, n⟩ j p = cellsAt ⟨t, m⟩ j p := by
  have : T.get (t.set i o) j = t.get j := by rw [T.get_set, if_neg h]
  unfold cellsAt
  simp only [this]
def fill (ln : Nat → Bool) (a p : Nat) : Nat → Bool := fun k => if a ≤ k ∧ k < p then true else ln k
theorem fill_self (ln : Nat → Bool) (a : Nat) : fill ln a a = ln := by
  funext k; unfold fill; rw [if_neg (by omega)]

theorem Lines.put {μ : Mem} {ap lb L a p : Nat} {ln : Nat → Bool} (h : Lines μ ap lb L (fill ln a p)) (hne : ap ≠ lb) (hp : p < L) (ha : a ≤ p) : Lines (putL μ lb (p * 2) [.bool true]) ap lb L (fill ln a (p + 1)) := by
  obtain ⟨c, h1, h2⟩ := h.head
  refine ⟨⟨c, by rw [cells_off hne]; exact h1, h2⟩, h.blk.put _ _, fun k hk => ?_, fun k hk => ?_⟩
  · rw [cells_put h.blk (by show p * 2 + 1 ≤ 2 * L; omega)]
    by_cases e : k = p
    · subst e
      rw [dif_pos ⟨rfl, Nat.le_refl _, by show k * 2 < k * 2 + 1; omega⟩]
      unfold fill
      rw [if_pos ⟨ha, by omega⟩]
      simp
    · rw [dif_neg (by rintro ⟨_, g1, g2⟩; simp only [List.length_cons, List.length_nil] at g2; omega), h.ln k hk]
      unfold fill
      by_cases e2 : a ≤ k ∧ k < p
      · rw [if_pos e2, if_pos ⟨e2.1, by omega⟩]
      · rw [if_neg e2, if_neg (by omega)]
  · rw [cells_put h.blk (by show p * 2 + 1 ≤ 2 * L; omega), dif_neg (by rintro ⟨_, g1, g2⟩; simp only [List.length_cons, List.length_nil] at g2; omega)]
    exact h.mrk k hk

theorem Lines.keep {μ μ' : Mem} {ap lb L : Nat} {ln : Nat → Bool} (h : Lines μ ap lb L ln) (h1 : cellsAt μ' ap 1 = cellsAt μ ap 1) (h2 : μ'.obs.get lb = μ.obs.get lb) : Lines μ' ap lb L ln := by
  obtain ⟨c, g1, g2⟩ := h.head
  refine ⟨⟨c, h1.trans g1, g2⟩, ?_, fun k hk => ?_, fun k hk => ?_⟩
  · unfold Blk; rw [h2]; exact h.blk
  · rw [← h.ln k hk]; unfold cellsAt; rw [h2]
  · obtain ⟨b, hb⟩ := h.mrk k hk
    exact ⟨b, by rw [← hb]; unfold cellsAt; rw [h2]⟩

set_option maxHeartbeats 4000000 in
theorem claim_loop {ap lb L a t : Nat} {ln : Nat → Bool} {μ0 : Mem} (hne : ap ≠ lb) (htL : t ≤ L) (hT : L < 1000000) :
    ∀ (e m p : Nat) (tm : T Value) (μ : Mem), p + m = t → a ≤ p → Lines μ ap lb L (fill ln a p) → μ.next = μ0.next → (∀ i, i ≠ lb → μ.obs.get i = μ0.obs.get i) → regAt tm 0 = .pointer (some ⟨ap, 0, none⟩) → regAt tm 1 = .int .i64 (.ofNat a) → regAt tm 2 = .int .i64 (.ofNat t) → regAt tm 6 = .pointer (some ⟨μ0.next - 1, 0, none⟩) → regAt tm 7 = .int .i64 (.ofNat p) →
      EndsC (aCode Tryz.prog X S0 (e + m + 20) (.loop (loopBody Tryz.f121 0)) ⟨26, tm, [], none⟩ μ) fun x r μ' => x = .exit 0 ∧ Lines μ' ap lb L (fill ln a t) ∧ μ'.next = μ0.next ∧ (∀ i, i ≠ lb → μ'.obs.get i = μ0.obs.get i) ∧ ∃ tm', r = ⟨26, tm', [], none⟩ ∧ regAt tm' 1 = .int .i64 (.ofNat a) ∧ regAt tm' 2 = .int .i64 (.ofNat t) ∧ regAt tm' 6 = .pointer (some ⟨μ0.next - 1, 0, none⟩) := by
  intro e m
  induction m with
  | zero =>
    intro p tm μ hj hp hL hn hk h0 h1 h2 h6 h7
    obtain rfl : p = t := hj
    refine code_loop ?_
    refine code_seq ?_
    refine code_seq ?_
    refine code_region ?_ ?_
    · rfl
    simp only [run1, aOne, aP, aR, aA, aT, aCall, aCallVal, aev, regAt_set, aput_mk, aput_none, plainV, aNilCheck, aExtract, aBin, aInt, Addr.add, Nat.zero_add, ends_some, Nat.reduceLT, Nat.reduceAdd, if_true, then_normal, Nat.reduceEqDiff, if_false, reduceIte, reduceCtorEq, decide_true, decide_false, Bool.not_true, Bool.not_false, beq_self_eq_true, beq_tf, beq_ft, aPick, List.map_cons, List.map_nil, List.nil_append, List.append_nil, List.getElem?_cons_zero, List.getElem?_cons_succ, h7, h2, ilt_nat, Nat.lt_irrefl]
    refine code_cond_false ?_ ?_
    · simp only [aev, regAt_set, Nat.reduceEqDiff, reduceIte]
    refine code_exit ?_
    simp only [then_exit]
    exact ⟨trivial, hL, hn, hk, _, rfl, by simp only [regAt_set, Nat.reduceEqDiff, reduceIte, h1], by simp only [regAt_set, Nat.reduceEqDiff, reduceIte, h2], by simp only [regAt_set, Nat.reduceEqDiff, reduceIte, h6]⟩
  | succ m ih =>
    intro p tm μ hj hp hL hn hk h0 h1 h2 h6 h7
    obtain ⟨c, hl, hc⟩ := hL.head
    have hlt : p < t := by omega
    have hia : ∀ ρ : Operand → Value, ∀ a b', ρ a = .slice (some ⟨lb, 0, none⟩) L (2 * c) → ρ b' = .int .i64 (.ofNat p) → aIndexAddr Tryz.prog ρ 158 a b' = some (.pointer (some ⟨lb, p * 2, none⟩)) := fun ρ a b' g1 g2 => by
      rw [indexAddr_sz (P := Tryz.prog) Tryz.underlying158 iL g1 g2 (by omega), Nat.zero_add]; rfl
    have a1 : qwrap .i64 (Int.add (.ofNat p) 1) = .ofNat (p + 1) := add_nat p 1 (by omega)
    have hst := store_put (t := 4) (v := .bool true) i4 rfl rfl hL.blk (show p * 2 < 2 * L by omega)
    refine code_loop ?_
    refine code_seq ?_
    refine code_seq ?_
    refine code_region ?_ ?_
    · rfl
    simp only [run1, aOne, aP, aR, aA, aT, aCall, aCallVal, aev, regAt_set, aput_mk, aput_none, plainV, aNilCheck, aExtract, aBin, aInt, Addr.add, Nat.zero_add, ends_some, Nat.reduceLT, Nat.reduceAdd, if_true, then_normal, Nat.reduceEqDiff, if_false, reduceIte, reduceCtorEq, decide_true, decide_false, Bool.not_true, Bool.not_false, beq_self_eq_true, beq_tf, beq_ft, aPick, List.map_cons, List.map_nil, List.nil_append, List.append_nil, List.getElem?_cons_zero, List.getElem?_cons_succ, h7, h2, ilt_nat, hlt]
    refine code_cond_true ?_ ?_
    · simp only [aev, regAt_set, Nat.reduceEqDiff, reduceIte]
    refine code_skip ?_
    simp only [then_normal]
    refine code_seq ?_
    refine code_block ?_
    refine code_region ?_ ?_
    · rfl
    simp only [run1, aOne, aP, aR, aA, aT, aCall, aCallVal, aev, regAt_set, aput_mk, aput_none, plainV, aNilCheck, aExtract, aBin, aInt, Addr.add, Nat.zero_add, ends_some, Nat.reduceLT, Nat.reduceAdd, if_true, then_normal, Nat.reduceEqDiff, if_false, reduceIte, reduceCtorEq, decide_true, decide_false, Bool.not_true, Bool.not_false, beq_self_eq_true, beq_tf, beq_ft, aPick, List.map_cons, List.map_nil, List.nil_append, List.append_nil, List.getElem?_cons_zero, List.getElem?_cons_succ, h0, h7, faA1, faL0, ldLs, hl, hia, hst, Nat.add_zero]
    simp only [blockC, then_normal]
    refine code_region ?_ ?_
    · rfl
    simp only [run1, aOne, aP, aR, aA, aT, aCall, aCallVal, aev, regAt_set, aput_mk, aput_none, plainV, aNilCheck, aExtract, aBin, aInt, Addr.add, Nat.zero_add, ends_some, Nat.reduceLT, Nat.reduceAdd, if_true, then_normal, Nat.reduceEqDiff, if_false, reduceIte, reduceCtorEq, decide_true, decide_false, Bool.not_true, Bool.not_false, beq_self_eq_true, beq_tf, beq_ft, aPick, List.map_cons, List.map_nil, List.nil_append, List.append_nil, List.getElem?_cons_zero, List.getElem?_cons_succ, h7, a1]
    rw [show e + (m + 1) + 19 = e + m + 20 from by omega]
    refine ih (p + 1) _ _ (by omega) (by omega) (hL.put hne (by omega) hp) (by rw [putL_next]; exact hn) (fun i hi => by rw [putL_get _ _ _ _ hi]; exact hk i hi) ?_ ?_ ?_ ?_ ?_ <;> simp only [regAt_set, Nat.reduceEqDiff, reduceIte, h0, h1, h2, h6]

theorem putL_at {μ : Mem} {i n t a b o : Nat} {z : Array Value} {ov : T Value} {fx sh : Bool} {vs : List Value} (h : μ.obs.get i = some (.cells n t z ov a b fx sh)) : (putL μ i o vs).obs.get i = some (.cells n t z (ov.lay o vs) a b fx sh) := by
  unfold putL; rw [h]; show T.get _ _ = _; rw [T.get_set, if_pos rfl]
theorem zR : aZeroOf Tryz.prog 160 = some (.agg #[.int .i64 0, .int .i64 0]) := by unfold aZeroOf; rw [iR]; rfl
def rn0 : Ob := .cells 2 160 #[.int .i64 0, .int .i64 0] .e 0 0 false false
theorem alR : aAlloc Tryz.prog 160 = some (rn0, fun id => .pointer (some ⟨id, 0, none⟩)) := by unfold aAlloc; rw [zR]; rfl
theorem bdR (ρ : Operand → Value) (a b : Operand) (o1 : one (ρ a) = true) (o2 : one (ρ b) = true) : aBuild Tryz.prog ρ 160 #[(0, a), (1, b)] = some (.agg #[ρ a, ρ b]) := by
  refine build_struct (pl := [(0, 1), (1, 1)]) zR Tryz.underlying160 (by kernel_rfl) ?_
  show aFill _ [.int .i64 0, .int .i64 0] [(0, ρ a), (1, ρ b)] = some [ρ a, ρ b]
  rw [aFill_one (off := 0) rfl o1 (by simp), aFill_one (off := 1) rfl o2 (by simp)]
  rfl
theorem ldR {μ : Mem} {i : Nat} {x y : Value} (h : ∃ ov, μ.obs.get i = some (.cells 2 160 #[.int .i64 0, .int .i64 0] ov 0 0 false false) ∧ ov = T.lay .e 0 [x, y]) : aLoad Tryz.prog μ 160 (.pointer (some ⟨i, 0, none⟩)) = some (.agg #[x, y]) := by
  obtain ⟨ov, h1, rfl⟩ := h
  rw [load_struct (P := Tryz.prog) (n := 2) (z := #[.int .i64 0, .int .i64 0]) (ov := T.lay .e 0 [x, y]) Tryz.underlying160 iR (by rw [h1]; rfl) (by decide)]
  rfl

set_option maxHeartbeats 4000000 in
theorem claim {f ap lb L a t : Nat} {ln : Nat → Bool} {μ : Mem} (hf : 60 ≤ f) (hL : Lines μ ap lb L ln) (hne : ap ≠ lb) (h1 : ap < μ.next) (h2 : lb < μ.next) (hat : a ≤ t) (htL : t ≤ L) (hta : t - a ≤ 20) (hT : L < 1000000) :
    EndsF (aFun Tryz.prog (aCode Tryz.prog X S0 f) 121 [.pointer (some ⟨ap, 0, none⟩), .int .i64 (.ofNat a), .int .i64 (.ofNat t)] μ) fun v μ' => v = .agg #[.int .i64 (.ofNat (a * 16)), .int .i64 (.ofNat (t * 16))] ∧ Lines μ' ap lb L (fill ln a t) ∧ μ'.next = μ.next + 1 ∧ (∀ i, i < μ.next → i ≠ lb → μ'.obs.get i = μ.obs.get i) := by
  obtain ⟨k, rfl⟩ := Nat.exists_eq_add_of_le' hf
  have hL1 : Lines ⟨μ.obs.set μ.next rn0, μ.next + 1⟩ ap lb L (fill ln a a) := by
    rw [fill_self]
    refine hL.keep ?_ ?_
    · exact cells_set (by omega)
    · show T.get _ lb = _; rw [T.get_set, if_neg (by omega)]
  have m1 : qwrap .i64 (Int.mul (.ofNat a) 16) = .ofNat (a * 16) := mul_nat a 16 (by omega)
  have m2 : qwrap .i64 (Int.mul (.ofNat t) 16) = .ofNat (t * 16) := mul_nat t 16 (by omega)
  obtain ⟨a16, ha16⟩ : ∃ x, x = a * 16 := ⟨_, rfl⟩
  obtain ⟨t16, ht16⟩ : ∃ x, x = t * 16 := ⟨_, rfl⟩
  rw [← ha16] at m1
  rw [← ht16] at m2
  rw [← ha16, ← ht16]
  refine fun_enter Tryz.func121 rfl rfl (Nat.le_of_ble_eq_true rfl) ?_
  simp only [T.lay, Nat.zero_add, Tryz.ntmps121, Nat.reduceAdd]
  refine code_seq ?_
  refine code_region ?_ ?_
  · rfl
  simp only [run1, aOne, aP, aR, aA, aT, aCall, aCallVal, aev, regAt_set, aput_mk, aput_none, plainV, aNilCheck, aExtract, aBin, aInt, Addr.add, Nat.zero_add, ends_some, Nat.reduceLT, Nat.reduceAdd, if_true, then_normal, Nat.reduceEqDiff, if_false, reduceIte, reduceCtorEq, decide_true, decide_false, Bool.not_true, Bool.not_false, beq_self_eq_true, beq_tf, beq_ft, aPick, List.map_cons, List.map_nil, List.nil_append, List.append_nil, List.getElem?_cons_zero, List.getElem?_cons_succ, alR]
  refine code_seq ?_
  refine code_seq ?_
  refine code_region ?_ ?_
  · rfl
  simp only [run1, aOne, aP, aR, aA, aT, aCall, aCallVal, aev, regAt_set, aput_mk, aput_none, plainV, aNilCheck, aExtract, aBin, aInt, Addr.add, Nat.zero_add, ends_some, Nat.reduceLT, Nat.reduceAdd, if_true, then_normal, Nat.reduceEqDiff, if_false, reduceIte, reduceCtorEq, decide_true, decide_false, Bool.not_true, Bool.not_false, beq_self_eq_true, beq_tf, beq_ft, aPick, List.map_cons, List.map_nil, List.nil_append, List.append_nil, List.getElem?_cons_zero, List.getElem?_cons_succ]
  refine code_block ?_
  rw [show k + 56 = (k + 36 - (t - a)) + (t - a) + 20 from by omega]
  refine EndsC.mono (claim_loop hne htL hT (k + 36 - (t - a)) (t - a) a _ ⟨μ.obs.set μ.next rn0, μ.next + 1⟩ (by omega) (Nat.le_refl _) hL1 rfl (fun _ _ => rfl) ?_ ?_ ?_ ?_ ?_) ?_
  · simp only [regAt_set, Nat.reduceEqDiff, reduceIte]
  · simp only [regAt_set, Nat.reduceEqDiff, reduceIte]
  · simp only [regAt_set, Nat.reduceEqDiff, reduceIte]
  · simp only [regAt_set, Nat.reduceEqDiff, reduceIte]; rfl
  · simp only [regAt_set, Nat.reduceEqDiff, reduceIte]
  rintro x' r' μ' ⟨rfl, hL2, hn2, hk2, tm', rfl, g1, g2, g6⟩
  simp only [blockC, reduceIte, then_normal]
  have g6' : regAt tm' 6 = .pointer (some ⟨μ.next, 0, none⟩) := g6
  have hob : μ'.obs.get μ.next = some rn0 := by
    rw [hk2 _ (by omega)]; show T.get _ _ = _; rw [T.get_set, if_pos rfl]
  have hb : Blk μ' μ.next 2 160 := ⟨_, _, _, _, hob⟩
  have hst : aStore Tryz.prog μ' 160 (.pointer (some ⟨μ.next, 0, none⟩)) (.agg #[.int .i64 (.ofNat a16), .int .i64 (.ofNat t16)]) = some (undef, putL μ' μ.next 0 [.int .i64 (.ofNat a16), .int .i64 (.ofNat t16)]) := store_puts (t := 160) (o := 0) (vs := [.int .i64 (.ofNat a16), .int .i64 (.ofNat t16)]) iR rfl rfl hb (by show 0 + 2 ≤ 2; decide)
  refine code_seq ?_
  refine code_region ?_ ?_
  · rfl
  simp only [run1, aOne, aP, aR, aA, aT, aCall, aCallVal, aev, regAt_set, aput_mk, aput_none, plainV, aNilCheck, aExtract, aBin, aInt, Addr.add, Nat.zero_add, ends_some, Nat.reduceLT, Nat.reduceAdd, if_true, then_normal, Nat.reduceEqDiff, if_false, reduceIte, reduceCtorEq, decide_true, decide_false, Bool.not_true, Bool.not_false, beq_self_eq_true, beq_tf, beq_ft, aPick, List.map_cons, List.map_nil, List.nil_append, List.append_nil, List.getElem?_cons_zero, List.getElem?_cons_succ, g1, g2, g6', m1, m2, bdR, one, hst]
  refine code_ret ?_
  have e1 : (putL μ' μ.next 0 [.int .i64 (.ofNat a16), .int .i64 (.ofNat t16)]).obs.get μ.next = some (.cells 2 160 #[.int .i64 0, .int .i64 0] (T.lay .e 0 [.int .i64 (.ofNat a16), .int .i64 (.ofNat t16)]) 0 0 false false) := putL_at hob
  refine ⟨rfl, .agg #[.int .i64 (.ofNat a16), .int .i64 (.ofNat t16)], ?_, rfl, hL2.keep (cells_off (by omega)) (putL_get _ _ _ _ (by omega)), (putL_next _ _ _ _).trans hn2, fun i hi hil => ?_⟩
  · simp only [aResults, Tryz.results121, aRes, regAt_set, Nat.reduceEqDiff, reduceIte, g6', ldR ⟨_, e1, rfl⟩]
  · rw [putL_get _ _ _ _ (by omega), hk2 i hil]
    show T.get _ _ = _; rw [T.get_set, if_neg (by omega)]

/-! ### how many lines are free -/
set_option maxHeartbeats 4000000 in
theorem blocks_eq {f ap wb N : Nat} {ws : Nat → Nat} {μ : Mem} (hf : 20 ≤ f) (hA : Arena μ ap wb N ws) (hN : N < 1000000) : aFun Tryz.prog (aCode Tryz.prog X S0 f) 167 [.pointer (some ⟨ap, 0, none⟩)] μ = some (.int .i64 (.ofNat (N / 256)), μ) := by
  obtain ⟨k, rfl⟩ := Nat.exists_eq_add_of_le' hf
  obtain ⟨c, hl⟩ := hA.head
  obtain ⟨d, hd⟩ : ∃ d, d = N / 256 := ⟨_, rfl⟩
  have q1 : aDiv false .i64 .i64 (.ofNat N) 256 = some (.int .i64 (.ofNat d)) := hd ▸ quo256 N (by omega)
  rw [← hd]
  refine ends_eq ?_
  refine fun_enter Tryz.func167 rfl rfl (Nat.le_of_ble_eq_true rfl) ?_
  simp only [T.lay, Nat.zero_add, Tryz.ntmps167, Nat.reduceAdd]
  refine code_seq ?_
  refine code_region ?_ ?_
  · rfl
  simp only [run1, aOne, aP, aR, aA, aT, aCall, aCallVal, aev, regAt_set, aput_mk, aput_none, plainV, aNilCheck, aExtract, aBin, aInt, Addr.add, Nat.zero_add, ends_some, Nat.reduceLT, Nat.reduceAdd, if_true, then_normal, Nat.reduceEqDiff, if_false, reduceIte, reduceCtorEq, decide_true, decide_false, Bool.not_true, Bool.not_false, beq_self_eq_true, beq_tf, beq_ft, aPick, List.map_cons, List.map_nil, List.nil_append, List.append_nil, List.getElem?_cons_zero, List.getElem?_cons_succ]
  refine code_seq ?_
  refine code_region ?_ ?_
  · rfl
  simp only [run1, aOne, aP, aR, aA, aT, aCall, aCallVal, aev, regAt_set, aput_mk, aput_none, plainV, aNilCheck, aExtract, aBin, aInt, Addr.add, Nat.zero_add, ends_some, Nat.reduceLT, Nat.reduceAdd, if_true, then_normal, Nat.reduceEqDiff, if_false, reduceIte, reduceCtorEq, decide_true, decide_false, Bool.not_true, Bool.not_false, beq_self_eq_true, beq_tf, beq_ft, aPick, List.map_cons, List.map_nil, List.nil_append, List.append_nil, List.getElem?_cons_zero, List.getElem?_cons_succ, faA0, ldWs, hl, aBuiltin, aLen, Tryz.underlying66, cast_nat, q1]
  refine code_ret ?_
  refine ⟨rfl, _, ?_, rfl, rfl⟩
  simp only [aResults, Tryz.results167, aRes, regAt_set, Nat.reduceEqDiff, reduceIte]

end

noncomputable section
variable {X : FuncId → List Value → Mem → Option (Value × Mem)}

theorem slice_range {P : Program} {ρ : Operand → Value} {t e : TypeId} {inf : TypeInfo} {x y z : Operand} {i o n c l h : Nat} {kd kd' : IntKind} (hu : P.underlying t = some (.slice e)) (hi : P.info? e = some inf) (hx : ρ x = .slice (some ⟨i, o, none⟩) n (2 * c)) (hy : ρ y = .int kd (.ofNat l)) (hz : ρ z = .int kd' (.ofNat h)) (hlh : l ≤ h) (hhc : h ≤ c) (hlc : l < c) :
    aSlice P ρ t x (some y) (some z) none = some (.slice (some ⟨i, o + l * inf.size, none⟩) (h - l) (2 * (c - l))) := by
  unfold aSlice
  have e1 : Nat.beq (Nat.mod (2 * c) 2) 0 = true := by rw [show Nat.mod (2 * c) 2 = 0 from Nat.mul_mod_right 2 c]; rfl
  have e2 : Nat.div (2 * c) 2 = c := by show 2 * c / 2 = c; omega
  have e3 : Nat.ble h c = true := Nat.ble_eq_true_of_le hhc
  have e4 : Nat.ble l h = true := Nat.ble_eq_true_of_le hlh
  have e5 : Nat.beq c l = false := by
    cases hb : Nat.beq c l with
    | false => rfl
    | true => have := Nat.eq_of_beq_eq_true hb; omega
  simp only [hx, hu, hi, e1, e2, aBounds, aBound, hy, hz, e3, e4, e5]
  simp only [Addr.add, Nat.mul_eq, Nat.sub_eq]
  by_cases h0 : l * inf.size = 0
  · rw [if_pos h0, h0]; rfl
  · rw [if_neg h0]

/-! ### a line -/
def lnO : Ob := .cells 2 223 #[.bool false, .bool false] .e 0 0 false false
def lnI (x y : Bool) : Ob := .cells 2 223 #[.bool false, .bool false] (T.lay .e 0 [.bool x, .bool y]) 0 0 false false
theorem zL : aZeroOf Tryz.prog 223 = some (.agg #[.bool false, .bool false]) := by unfold aZeroOf; rw [iL]; rfl
theorem alL : aAlloc Tryz.prog 223 = some (lnO, fun id => .pointer (some ⟨id, 0, none⟩)) := by unfold aAlloc; rw [zL]; rfl
theorem stL (t : T Ob) (n a : Nat) (x y : Bool) : aStore Tryz.prog ⟨t.set a lnO, n⟩ 223 (.pointer (some ⟨a, 0, none⟩)) (.agg #[.bool x, .bool y]) = some (undef, ⟨(t.set a lnO).set a (lnI x y), n⟩) :=
  store_list (P := Tryz.prog) (t := 223) (vs := [.bool x, .bool y]) (μ := ⟨t.set a lnO, n⟩) (i := a) (o := 0) iL rfl rfl (by show T.get _ a = _; rw [T.get_set, if_pos rfl]; rfl) (by show 0 + 2 ≤ 2; decide)
theorem ldLi (t : T Ob) (n a : Nat) (x y : Bool) : aLoad Tryz.prog ⟨(t.set a lnO).set a (lnI x y), n⟩ 223 (.pointer (some ⟨a, 0, none⟩)) = some (.agg #[.bool x, .bool y]) := by
  rw [load_struct (P := Tryz.prog) (n := 2) (z := #[.bool false, .bool false]) (ov := T.lay .e 0 [.bool x, .bool y]) Tryz.underlying223 iL (by show obCells (T.get _ a) = _; rw [T.get_set, if_pos rfl]; rfl) (by decide)]
  rfl
theorem ldL2 {μ : Mem} {i o n te : Nat} {x y : Value} (h : Blk μ i n te) (ho : o + 2 ≤ n) (hx : cellsAt μ i o = some x) (hy : cellsAt μ i (o + 1) = some y) : aLoad Tryz.prog μ 223 (.pointer (some ⟨i, o, none⟩)) = some (.agg #[x, y]) := by
  obtain ⟨z, ov, fx, sh, hz⟩ := h
  have e : obCells (μ.obs.get i) = some (n, z, ov) := by rw [hz]; rfl
  rw [load_struct (P := Tryz.prog) Tryz.underlying223 iL e ho]
  rw [cellsAt_of e (by omega)] at hx hy
  cases hx; cases hy
  rfl
theorem bxL (x y : Bool) : aBox 223 (.agg #[.bool x, .bool y]) = some (.cells 2 223 #[.bool x, .bool y] .e 0 0 false false, fun id => .pointer (some ⟨id, 0, none⟩)) := rfl

set_option maxHeartbeats 4000000 in
theorem taken_eq {f : Nat} {x y : Bool} {μ : Mem} (hf : 20 ≤ f) : aFun Tryz.prog (aCode Tryz.prog X S0 f) 190 [.agg #[.bool x, .bool y]] μ = some (.bool (!x), ⟨μ.obs.set μ.next (.cells 2 223 #[.bool x, .bool y] .e 0 0 false false), μ.next + 1⟩) := by
  obtain ⟨k, rfl⟩ := Nat.exists_eq_add_of_le' hf
  refine ends_eq ?_
  have hc : ∀ n, cellsAt ⟨μ.obs.set μ.next (.cells 2 223 #[.bool x, .bool y] .e 0 0 false false), n⟩ μ.next 0 = some (.bool x) := fun n =>
    (cellsAt_of (n := 2) (z := #[.bool x, .bool y]) (ov := .e) (by show obCells (T.get _ μ.next) = _; rw [T.get_set, if_pos rfl]; rfl) (by decide)).trans rfl
  refine fun_enter Tryz.func190 rfl rfl (Nat.le_of_ble_eq_true rfl) ?_
  simp only [T.lay, Nat.zero_add, Tryz.ntmps190, Nat.reduceAdd]
  refine code_seq ?_
  refine code_region ?_ ?_
  · rfl
  simp only [run1, aOne, aP, aR, aA, aT, aCall, aCallVal, aev, regAt_set, aput_mk, aput_none, plainV, aNilCheck, aExtract, aBin, aInt, Addr.add, Nat.zero_add, ends_some, Nat.reduceLT, Nat.reduceAdd, if_true, then_normal, Nat.reduceEqDiff, if_false, reduceIte, reduceCtorEq, decide_true, decide_false, Bool.not_true, Bool.not_false, beq_self_eq_true, beq_tf, beq_ft, aPick, List.map_cons, List.map_nil, List.nil_append, List.append_nil, List.getElem?_cons_zero, List.getElem?_cons_succ, bxL]
  refine code_seq ?_
  refine code_region ?_ ?_
  · rfl
  simp only [run1, aOne, aP, aR, aA, aT, aCall, aCallVal, aev, regAt_set, aput_mk, aput_none, plainV, aNilCheck, aExtract, aBin, aInt, Addr.add, Nat.zero_add, ends_some, Nat.reduceLT, Nat.reduceAdd, if_true, then_normal, Nat.reduceEqDiff, if_false, reduceIte, reduceCtorEq, decide_true, decide_false, Bool.not_true, Bool.not_false, beq_self_eq_true, beq_tf, beq_ft, aPick, List.map_cons, List.map_nil, List.nil_append, List.append_nil, List.getElem?_cons_zero, List.getElem?_cons_succ, faL0, ld4, hc, Nat.add_zero]
  refine code_ret ?_
  refine ⟨rfl, _, ?_, rfl, rfl⟩
  simp only [aResults, Tryz.results190, aRes, regAt_set, Nat.reduceEqDiff, reduceIte]

def cnt (ln : Nat → Bool) (a : Nat) : Nat → Nat
  | 0 => 0
  | j + 1 => cnt ln a j + (if ln (a + j) then 0 else 1)
theorem cnt_le (ln : Nat → Bool) (a : Nat) : ∀ j, cnt ln a j ≤ j
  | 0 => Nat.le_refl _
  | j + 1 => by have := cnt_le ln a j; unfold cnt; split <;> omega

theorem Lines.grow {μ μ' : Mem} {ap lb L : Nat} {ln : Nat → Bool} (h : Lines μ ap lb L ln) (hg : Grow μ μ') (h1 : ap < μ.next) (h2 : lb < μ.next) : Lines μ' ap lb L ln :=
  h.keep (by unfold cellsAt; rw [hg.2 ap h1]) (hg.2 lb h2)
theorem grow1 (μ : Mem) (o1 : Ob) : Grow μ ⟨μ.obs.set μ.next o1, μ.next + 1⟩ := ⟨Nat.le_succ _, fun i hi => by show T.get _ i = _; rw [T.get_set, if_neg (by omega)]⟩

set_option maxHeartbeats 4000000 in
theorem count_loop {ap lb L a oa c : Nat} {ln : Nat → Bool} {μ0 : Mem} (h1 : ap < μ0.next) (h2 : lb < μ0.next) (hoa : oa = a * 2) (hL0 : Lines μ0 ap lb L ln) (haL : a + 16 ≤ L) :
    ∀ (e m j : Nat) (tm : T Value) (μ : Mem), j + m = 16 → Grow μ0 μ → regAt tm 1 = .func (.func 190) #[] #[] → regAt tm 5 = .int .i64 (.ofNat (cnt ln a j)) → regAt tm 8 = .slice (some ⟨lb, oa, none⟩) 16 c → regAt tm 9 = .int .i64 (.ofNat 16) → regAt tm 10 = .int .i64 (.ofNat j) →
      EndsC (aCode Tryz.prog X S0 (e + m + 60) (.loop (loopBody Tryz.f189 0)) ⟨21, tm, [], none⟩ μ) fun x r μ' => x = .exit 0 ∧ Grow μ0 μ' ∧ ∃ tm', r = ⟨21, tm', [], none⟩ ∧ regAt tm' 5 = .int .i64 (.ofNat (cnt ln a 16)) := by
  intro e m
  induction m with
  | zero =>
    intro j tm μ hj hg r1 r5 r8 r9 r10
    obtain rfl : j = 16 := hj
    refine code_loop ?_
    refine code_seq ?_
    refine code_region ?_ ?_
    · rfl
    simp only [run1, aOne, aP, aR, aA, aT, aCall, aCallVal, aev, regAt_set, aput_mk, aput_none, plainV, aNilCheck, aExtract, aBin, aInt, Addr.add, Nat.zero_add, ends_some, Nat.reduceLT, Nat.reduceAdd, if_true, then_normal, Nat.reduceEqDiff, if_false, reduceIte, reduceCtorEq, decide_true, decide_false, Bool.not_true, Bool.not_false, beq_self_eq_true, beq_tf, beq_ft, aPick, List.map_cons, List.map_nil, List.nil_append, List.append_nil, List.getElem?_cons_zero, List.getElem?_cons_succ, r10, r9, ilt_nat, Nat.lt_irrefl]
    refine code_seq ?_
    refine code_cond_false ?_ ?_
    · simp only [aev, regAt_set, Nat.reduceEqDiff, reduceIte]
    refine code_exit ?_
    simp only [then_exit]
    exact ⟨trivial, hg, _, rfl, by simp only [regAt_set, Nat.reduceEqDiff, reduceIte, r5]⟩
  | succ m ih =>
    intro j tm μ hj hg r1 r5 r8 r9 r10
    have hlt : j < 16 := by omega
    have hL := hL0.grow hg h1 h2
    obtain ⟨bm, hbm⟩ := hL.mrk (a + j) (by omega)
    have hbl := hL.ln (a + j) (by omega)
    obtain ⟨oj, hoj⟩ : ∃ x, x = oa + j * 2 := ⟨_, rfl⟩
    have eo : (a + j) * 2 = oj := by omega
    rw [eo] at hbm hbl
    have hia : ∀ ρ : Operand → Value, ∀ a b', ρ a = .slice (some ⟨lb, oa, none⟩) 16 c → ρ b' = .int .i64 (.ofNat j) → aIndexAddr Tryz.prog ρ 158 a b' = some (.pointer (some ⟨lb, oj, none⟩)) := fun ρ a b' g1 g2 => by
      rw [indexAddr_sz (P := Tryz.prog) Tryz.underlying158 iL g1 g2 hlt, hoj]; rfl
    have hld := ldL2 hL.blk (by omega) hbl hbm
    have a1 : qwrap .i64 (Int.add (.ofNat j) 1) = .ofNat (j + 1) := add_nat j 1 (by omega)
    have hcl := cnt_le ln a j
    obtain ⟨cj, hcj⟩ : ∃ x, x = cnt ln a j := ⟨_, rfl⟩
    have a2 : qwrap .i64 (Int.add (.ofNat cj) 1) = .ofNat (cj + 1) := add_nat cj 1 (by omega)
    rw [← hcj] at r5
    refine code_loop ?_
    refine code_seq ?_
    refine code_region ?_ ?_
    · rfl
    simp only [run1, aOne, aP, aR, aA, aT, aCall, aCallVal, aev, regAt_set, aput_mk, aput_none, plainV, aNilCheck, aExtract, aBin, aInt, Addr.add, Nat.zero_add, ends_some, Nat.reduceLT, Nat.reduceAdd, if_true, then_normal, Nat.reduceEqDiff, if_false, reduceIte, reduceCtorEq, decide_true, decide_false, Bool.not_true, Bool.not_false, beq_self_eq_true, beq_tf, beq_ft, aPick, List.map_cons, List.map_nil, List.nil_append, List.append_nil, List.getElem?_cons_zero, List.getElem?_cons_succ, r10, r9, ilt_nat, hlt]
    refine code_seq ?_
    refine code_cond_true ?_ ?_
    · simp only [aev, regAt_set, Nat.reduceEqDiff, reduceIte]
    refine code_skip ?_
    simp only [then_normal]
    refine code_seq ?_
    refine code_block ?_
    refine code_seq ?_
    refine code_region ?_ ?_
    · rfl
    simp only [run1, aOne, aP, aR, aA, aT, aCall, aCallVal, aev, regAt_set, aput_mk, aput_none, plainV, aNilCheck, aExtract, aBin, aInt, Addr.add, Nat.zero_add, ends_some, Nat.reduceLT, Nat.reduceAdd, if_true, then_normal, Nat.reduceEqDiff, if_false, reduceIte, reduceCtorEq, decide_true, decide_false, Bool.not_true, Bool.not_false, beq_self_eq_true, beq_tf, beq_ft, aPick, List.map_cons, List.map_nil, List.nil_append, List.append_nil, List.getElem?_cons_zero, List.getElem?_cons_succ, r8, r10, hia, hld, alL, stL]
    refine code_seq ?_
    refine code_region ?_ ?_
    · rfl
    simp only [run1, aOne, aP, aR, aA, aT, aCall, aCallVal, aev, regAt_set, aput_mk, aput_none, plainV, aNilCheck, aExtract, aBin, aInt, Addr.add, Nat.zero_add, ends_some, Nat.reduceLT, Nat.reduceAdd, if_true, then_normal, Nat.reduceEqDiff, if_false, reduceIte, reduceCtorEq, decide_true, decide_false, Bool.not_true, Bool.not_false, beq_self_eq_true, beq_tf, beq_ft, aPick, List.map_cons, List.map_nil, List.nil_append, List.append_nil, List.getElem?_cons_zero, List.getElem?_cons_succ, r1, ldLi, go_call (P := Tryz.prog) (X := X) (S := S0) Tryz.func190 rfl rfl, taken_eq, Nat.reduceLeDiff]
    have hg2 := hg.trans ((grow2 μ lnO (lnI (ln (a + j)) bm)).trans (grow1 _ (.cells 2 223 #[.bool (ln (a + j)), .bool bm] .e 0 0 false false)))
    cases hb : ln (a + j) with
    | true =>
      rw [hb] at hg2
      refine code_cond_false ?_ ?_
      · simp only [aev, regAt_set, Nat.reduceEqDiff, reduceIte, Bool.not_true]
      refine code_skip ?_
      simp only [blockC, then_normal]
      refine code_region ?_ ?_
      · rfl
      simp only [run1, aOne, aP, aR, aA, aT, aCall, aCallVal, aev, regAt_set, aput_mk, aput_none, plainV, aNilCheck, aExtract, aBin, aInt, Addr.add, Nat.zero_add, ends_some, Nat.reduceLT, Nat.reduceAdd, if_true, then_normal, Nat.reduceEqDiff, if_false, reduceIte, reduceCtorEq, decide_true, decide_false, Bool.not_true, Bool.not_false, beq_self_eq_true, beq_tf, beq_ft, aPick, List.map_cons, List.map_nil, List.nil_append, List.append_nil, List.getElem?_cons_zero, List.getElem?_cons_succ, r10, a1]
      rw [show e + (m + 1) + 59 = e + m + 60 from by omega]
      refine ih (j + 1) _ _ (by omega) hg2 ?_ ?_ ?_ ?_ ?_
      · simp only [regAt_set, Nat.reduceEqDiff, reduceIte, r1]
      · simp only [regAt_set, Nat.reduceEqDiff, reduceIte, r5]; unfold cnt; rw [hb, hcj]; rfl
      · simp only [regAt_set, Nat.reduceEqDiff, reduceIte, r8]
      · simp only [regAt_set, Nat.reduceEqDiff, reduceIte, r9]
      · simp only [regAt_set, Nat.reduceEqDiff, reduceIte]
    | false =>
      rw [hb] at hg2
      refine code_cond_true ?_ ?_
      · simp only [aev, regAt_set, Nat.reduceEqDiff, reduceIte, Bool.not_false]
      refine code_region ?_ ?_
      · rfl
      simp only [run1, aOne, aP, aR, aA, aT, aCall, aCallVal, aev, regAt_set, aput_mk, aput_none, plainV, aNilCheck, aExtract, aBin, aInt, Addr.add, Nat.zero_add, ends_some, Nat.reduceLT, Nat.reduceAdd, if_true, then_normal, Nat.reduceEqDiff, if_false, reduceIte, reduceCtorEq, decide_true, decide_false, Bool.not_true, Bool.not_false, beq_self_eq_true, beq_tf, beq_ft, aPick, List.map_cons, List.map_nil, List.nil_append, List.append_nil, List.getElem?_cons_zero, List.getElem?_cons_succ, r5, a2]
      simp only [blockC, then_normal]
      refine code_region ?_ ?_
      · rfl
      simp only [run1, aOne, aP, aR, aA, aT, aCall, aCallVal, aev, regAt_set, aput_mk, aput_none, plainV, aNilCheck, aExtract, aBin, aInt, Addr.add, Nat.zero_add, ends_some, Nat.reduceLT, Nat.reduceAdd, if_true, then_normal, Nat.reduceEqDiff, if_false, reduceIte, reduceCtorEq, decide_true, decide_false, Bool.not_true, Bool.not_false, beq_self_eq_true, beq_tf, beq_ft, aPick, List.map_cons, List.map_nil, List.nil_append, List.append_nil, List.getElem?_cons_zero, List.getElem?_cons_succ, r10, a1]
      rw [show e + (m + 1) + 59 = e + m + 60 from by omega]
      refine ih (j + 1) _ _ (by omega) hg2 ?_ ?_ ?_ ?_ ?_
      · simp only [regAt_set, Nat.reduceEqDiff, reduceIte, r1]
      · simp only [regAt_set, Nat.reduceEqDiff, reduceIte]; unfold cnt; rw [hb, hcj]; rfl
      · simp only [regAt_set, Nat.reduceEqDiff, reduceIte, r8]
      · simp only [regAt_set, Nat.reduceEqDiff, reduceIte, r9]
      · simp only [regAt_set, Nat.reduceEqDiff, reduceIte]
end

noncomputable section
variable {X : FuncId → List Value → Mem → Option (Value × Mem)}

set_option maxHeartbeats 4000000 in
theorem count_ends {f ap lb L a oa c : Nat} {ln : Nat → Bool} {μ : Mem} (hf : 100 ≤ f) (h1 : ap < μ.next) (h2 : lb < μ.next) (hoa : oa = a * 2) (hL : Lines μ ap lb L ln) (haL : a + 16 ≤ L) :
    EndsF (aFun Tryz.prog (aCode Tryz.prog X S0 f) 189 [.slice (some ⟨lb, oa, none⟩) 16 c, .func (.func 190) #[] #[]] μ) fun v μ' => v = .int .i64 (.ofNat (cnt ln a 16)) ∧ Grow μ μ' := by
  obtain ⟨k, rfl⟩ := Nat.exists_eq_add_of_le' hf
  refine fun_enter Tryz.func189 rfl rfl (Nat.le_of_ble_eq_true rfl) ?_
  simp only [T.lay, Nat.zero_add, Tryz.ntmps189, Nat.reduceAdd]
  refine code_seq ?_
  refine code_region ?_ ?_
  · rfl
  simp only [run1, aOne, aP, aR, aA, aT, aCall, aCallVal, aev, regAt_set, aput_mk, aput_none, plainV, aNilCheck, aExtract, aBin, aInt, Addr.add, Nat.zero_add, ends_some, Nat.reduceLT, Nat.reduceAdd, if_true, then_normal, Nat.reduceEqDiff, if_false, reduceIte, reduceCtorEq, decide_true, decide_false, Bool.not_true, Bool.not_false, beq_self_eq_true, beq_tf, beq_ft, aPick, List.map_cons, List.map_nil, List.nil_append, List.append_nil, List.getElem?_cons_zero, List.getElem?_cons_succ]
  refine code_seq ?_
  refine code_region ?_ ?_
  · rfl
  simp only [run1, aOne, aP, aR, aA, aT, aCall, aCallVal, aev, regAt_set, aput_mk, aput_none, plainV, aNilCheck, aExtract, aBin, aInt, Addr.add, Nat.zero_add, ends_some, Nat.reduceLT, Nat.reduceAdd, if_true, then_normal, Nat.reduceEqDiff, if_false, reduceIte, reduceCtorEq, decide_true, decide_false, Bool.not_true, Bool.not_false, beq_self_eq_true, beq_tf, beq_ft, aPick, List.map_cons, List.map_nil, List.nil_append, List.append_nil, List.getElem?_cons_zero, List.getElem?_cons_succ]
  refine code_seq ?_
  refine code_seq ?_
  refine code_region ?_ ?_
  · rfl
  simp only [run1, aOne, aP, aR, aA, aT, aCall, aCallVal, aev, regAt_set, aput_mk, aput_none, plainV, aNilCheck, aExtract, aBin, aInt, Addr.add, Nat.zero_add, ends_some, Nat.reduceLT, Nat.reduceAdd, if_true, then_normal, Nat.reduceEqDiff, if_false, reduceIte, reduceCtorEq, decide_true, decide_false, Bool.not_true, Bool.not_false, beq_self_eq_true, beq_tf, beq_ft, aPick, List.map_cons, List.map_nil, List.nil_append, List.append_nil, List.getElem?_cons_zero, List.getElem?_cons_succ, aBuiltin, aLen, Tryz.underlying158, cast_nat]
  refine code_block ?_
  refine EndsC.mono (count_loop (c := c) h1 h2 hoa hL haL (k + 19) 16 0 _ _ (by omega) (Grow.refl _) ?_ ?_ ?_ ?_ ?_) ?_
  · simp only [regAt_set, Nat.reduceEqDiff, reduceIte]
  · simp only [regAt_set, Nat.reduceEqDiff, reduceIte]; rfl
  · simp only [regAt_set, Nat.reduceEqDiff, reduceIte]
  · simp only [regAt_set, Nat.reduceEqDiff, reduceIte]
  · simp only [regAt_set, Nat.reduceEqDiff, reduceIte]; rfl
  rintro x' r' μ' ⟨rfl, hg, tm', rfl, g5⟩
  simp only [blockC, reduceIte, then_normal]
  refine code_seq ?_
  refine code_region ?_ ?_
  · rfl
  simp only [run1, aOne, aP, aR, aA, aT, aCall, aCallVal, aev, regAt_set, aput_mk, aput_none, plainV, aNilCheck, aExtract, aBin, aInt, Addr.add, Nat.zero_add, ends_some, Nat.reduceLT, Nat.reduceAdd, if_true, then_normal, Nat.reduceEqDiff, if_false, reduceIte, reduceCtorEq, decide_true, decide_false, Bool.not_true, Bool.not_false, beq_self_eq_true, beq_tf, beq_ft, aPick, List.map_cons, List.map_nil, List.nil_append, List.append_nil, List.getElem?_cons_zero, List.getElem?_cons_succ, g5]
  refine code_ret ?_
  refine ⟨rfl, _, ?_, rfl, hg⟩
  simp only [aResults, Tryz.results189, aRes, regAt_set, Nat.reduceEqDiff, reduceIte]

theorem ilt_z0 (q : Nat) : ilt (.ofNat q) 0 = false := rfl

set_option maxHeartbeats 4000000 in
theorem free_ends {f ap wb lb N L b nb a t : Nat} {ws : Nat → Nat} {ln : Nat → Bool} {μ : Mem} (hf : 130 ≤ f) (hA : Arena μ ap wb N ws) (hL : Lines μ ap lb L ln) (h1 : ap < μ.next) (h2 : lb < μ.next) (hnb : nb = N / 256) (hbn : b < nb) (ha : a = b * 16) (ht : t = (b + 1) * 16) (htL : t ≤ L) (hN : N < 1000000) (hLt : L < 1000000) :
    EndsF (aFun Tryz.prog (aCode Tryz.prog X S0 f) 168 [.pointer (some ⟨ap, 0, none⟩), .int .i64 (.ofNat b)] μ) fun v μ' => v = .int .i64 (.ofNat (cnt ln a 16)) ∧ Grow μ μ' := by
  obtain ⟨k, rfl⟩ := Nat.exists_eq_add_of_le' hf
  obtain ⟨c, hl, hc⟩ := hL.head
  have hB : ∀ f, 20 ≤ f → aFun Tryz.prog (aCode Tryz.prog X S0 f) 167 [.pointer (some ⟨ap, 0, none⟩)] μ = some (.int .i64 (.ofNat nb), μ) := fun f hf => hnb ▸ blocks_eq hf hA hN
  have a1 : qwrap .i64 (Int.mul (.ofNat b) 16) = .ofNat a := by rw [ha]; exact mul_nat b 16 (by omega)
  obtain ⟨b1, hb1⟩ : ∃ x, x = b + 1 := ⟨_, rfl⟩
  have a2 : qwrap .i64 (Int.add (.ofNat b) 1) = .ofNat b1 := by rw [hb1]; exact add_nat b 1 (by omega)
  have a3 : qwrap .i64 (Int.mul (.ofNat b1) 16) = .ofNat t := by rw [ht, ← hb1]; exact mul_nat b1 16 (by omega)
  obtain ⟨oa, hoa⟩ : ∃ x, x = a * 2 := ⟨_, rfl⟩
  have hsl : ∀ ρ : Operand → Value, ∀ x y z, ρ x = .slice (some ⟨lb, 0, none⟩) L (2 * c) → ρ y = .int .i64 (.ofNat a) → ρ z = .int .i64 (.ofNat t) → aSlice Tryz.prog ρ 158 x (some y) (some z) none = some (.slice (some ⟨lb, oa, none⟩) 16 (2 * (c - a))) := fun ρ x y z g1 g2 g3 => by
    rw [slice_range (P := Tryz.prog) Tryz.underlying158 iL g1 g2 g3 (by omega) (by omega) (by omega), Nat.zero_add, show t - a = 16 from by omega, hoa]; rfl
  obtain ⟨v1, μ1, hcnt, hv1, hg1⟩ := count_ends (X := X) (f := k + 126) (c := 2 * (c - a)) (by omega) h1 h2 hoa hL (by omega)
  subst hv1
  refine fun_enter Tryz.func168 rfl rfl (Nat.le_of_ble_eq_true rfl) ?_
  simp only [T.lay, Nat.zero_add, Tryz.ntmps168, Nat.reduceAdd]
  refine code_seq ?_
  refine code_region ?_ ?_
  · rfl
  simp only [run1, aOne, aP, aR, aA, aT, aCall, aCallVal, aev, regAt_set, aput_mk, aput_none, plainV, aNilCheck, aExtract, aBin, aInt, Addr.add, Nat.zero_add, ends_some, Nat.reduceLT, Nat.reduceAdd, if_true, then_normal, Nat.reduceEqDiff, if_false, reduceIte, reduceCtorEq, decide_true, decide_false, Bool.not_true, Bool.not_false, beq_self_eq_true, beq_tf, beq_ft, aPick, List.map_cons, List.map_nil, List.nil_append, List.append_nil, List.getElem?_cons_zero, List.getElem?_cons_succ]
  refine code_seq ?_
  refine code_seq ?_
  refine code_guards (gs := ?_) ?_ ?_
  rotate_left
  · rfl
  refine run2_true (by first | rfl | (simp only [wanted, aOne, aP, aR, aA, aT, aCall, aCallVal, aev, regAt_set, aput_mk, aput_none, plainV, aNilCheck, aExtract, aBin, aInt, Addr.add, Nat.zero_add, ends_some, Nat.reduceLT, Nat.reduceAdd, if_true, then_normal, Nat.reduceEqDiff, if_false, reduceIte, reduceCtorEq, decide_true, decide_false, Bool.not_true, Bool.not_false, beq_self_eq_true, beq_tf, beq_ft, aPick, List.map_cons, List.map_nil, List.nil_append, List.append_nil, List.getElem?_cons_zero, List.getElem?_cons_succ, ilt_z0, ilt_nat, go_call (P := Tryz.prog) (X := X) (S := S0) Tryz.func167 rfl rfl, hB, hbn, Nat.reduceLeDiff])) (by simp only [aOne, aP, aR, aA, aT, aCall, aCallVal, aev, regAt_set, aput_mk, aput_none, plainV, aNilCheck, aExtract, aBin, aInt, Addr.add, Nat.zero_add, ends_some, Nat.reduceLT, Nat.reduceAdd, if_true, then_normal, Nat.reduceEqDiff, if_false, reduceIte, reduceCtorEq, decide_true, decide_false, Bool.not_true, Bool.not_false, beq_self_eq_true, beq_tf, beq_ft, aPick, List.map_cons, List.map_nil, List.nil_append, List.append_nil, List.getElem?_cons_zero, List.getElem?_cons_succ, ilt_z0, ilt_nat, go_call (P := Tryz.prog) (X := X) (S := S0) Tryz.func167 rfl rfl, hB, hbn, Nat.reduceLeDiff]; try exact rfl) rfl ?_
  refine run2_true (by first | rfl | (simp only [wanted, aOne, aP, aR, aA, aT, aCall, aCallVal, aev, regAt_set, aput_mk, aput_none, plainV, aNilCheck, aExtract, aBin, aInt, Addr.add, Nat.zero_add, ends_some, Nat.reduceLT, Nat.reduceAdd, if_true, then_normal, Nat.reduceEqDiff, if_false, reduceIte, reduceCtorEq, decide_true, decide_false, Bool.not_true, Bool.not_false, beq_self_eq_true, beq_tf, beq_ft, aPick, List.map_cons, List.map_nil, List.nil_append, List.append_nil, List.getElem?_cons_zero, List.getElem?_cons_succ, ilt_z0, ilt_nat, go_call (P := Tryz.prog) (X := X) (S := S0) Tryz.func167 rfl rfl, hB, hbn, Nat.reduceLeDiff])) (by simp only [aOne, aP, aR, aA, aT, aCall, aCallVal, aev, regAt_set, aput_mk, aput_none, plainV, aNilCheck, aExtract, aBin, aInt, Addr.add, Nat.zero_add, ends_some, Nat.reduceLT, Nat.reduceAdd, if_true, then_normal, Nat.reduceEqDiff, if_false, reduceIte, reduceCtorEq, decide_true, decide_false, Bool.not_true, Bool.not_false, beq_self_eq_true, beq_tf, beq_ft, aPick, List.map_cons, List.map_nil, List.nil_append, List.append_nil, List.getElem?_cons_zero, List.getElem?_cons_succ, ilt_z0, ilt_nat, go_call (P := Tryz.prog) (X := X) (S := S0) Tryz.func167 rfl rfl, hB, hbn, Nat.reduceLeDiff]; try exact rfl) rfl ?_
  refine run2_true (by first | rfl | (simp only [wanted, aOne, aP, aR, aA, aT, aCall, aCallVal, aev, regAt_set, aput_mk, aput_none, plainV, aNilCheck, aExtract, aBin, aInt, Addr.add, Nat.zero_add, ends_some, Nat.reduceLT, Nat.reduceAdd, if_true, then_normal, Nat.reduceEqDiff, if_false, reduceIte, reduceCtorEq, decide_true, decide_false, Bool.not_true, Bool.not_false, beq_self_eq_true, beq_tf, beq_ft, aPick, List.map_cons, List.map_nil, List.nil_append, List.append_nil, List.getElem?_cons_zero, List.getElem?_cons_succ, ilt_z0, ilt_nat, go_call (P := Tryz.prog) (X := X) (S := S0) Tryz.func167 rfl rfl, hB, hbn, Nat.reduceLeDiff])) (by simp only [aOne, aP, aR, aA, aT, aCall, aCallVal, aev, regAt_set, aput_mk, aput_none, plainV, aNilCheck, aExtract, aBin, aInt, Addr.add, Nat.zero_add, ends_some, Nat.reduceLT, Nat.reduceAdd, if_true, then_normal, Nat.reduceEqDiff, if_false, reduceIte, reduceCtorEq, decide_true, decide_false, Bool.not_true, Bool.not_false, beq_self_eq_true, beq_tf, beq_ft, aPick, List.map_cons, List.map_nil, List.nil_append, List.append_nil, List.getElem?_cons_zero, List.getElem?_cons_succ, ilt_z0, ilt_nat, go_call (P := Tryz.prog) (X := X) (S := S0) Tryz.func167 rfl rfl, hB, hbn, Nat.reduceLeDiff]; try exact rfl) rfl ?_
  refine run2_true (by first | rfl | (simp only [wanted, aOne, aP, aR, aA, aT, aCall, aCallVal, aev, regAt_set, aput_mk, aput_none, plainV, aNilCheck, aExtract, aBin, aInt, Addr.add, Nat.zero_add, ends_some, Nat.reduceLT, Nat.reduceAdd, if_true, then_normal, Nat.reduceEqDiff, if_false, reduceIte, reduceCtorEq, decide_true, decide_false, Bool.not_true, Bool.not_false, beq_self_eq_true, beq_tf, beq_ft, aPick, List.map_cons, List.map_nil, List.nil_append, List.append_nil, List.getElem?_cons_zero, List.getElem?_cons_succ, ilt_z0, ilt_nat, go_call (P := Tryz.prog) (X := X) (S := S0) Tryz.func167 rfl rfl, hB, hbn, Nat.reduceLeDiff])) (by simp only [aOne, aP, aR, aA, aT, aCall, aCallVal, aev, regAt_set, aput_mk, aput_none, plainV, aNilCheck, aExtract, aBin, aInt, Addr.add, Nat.zero_add, ends_some, Nat.reduceLT, Nat.reduceAdd, if_true, then_normal, Nat.reduceEqDiff, if_false, reduceIte, reduceCtorEq, decide_true, decide_false, Bool.not_true, Bool.not_false, beq_self_eq_true, beq_tf, beq_ft, aPick, List.map_cons, List.map_nil, List.nil_append, List.append_nil, List.getElem?_cons_zero, List.getElem?_cons_succ, ilt_z0, ilt_nat, go_call (P := Tryz.prog) (X := X) (S := S0) Tryz.func167 rfl rfl, hB, hbn, Nat.reduceLeDiff]; try exact rfl) rfl ?_
  refine run2_true (by first | rfl | (simp only [wanted, aOne, aP, aR, aA, aT, aCall, aCallVal, aev, regAt_set, aput_mk, aput_none, plainV, aNilCheck, aExtract, aBin, aInt, Addr.add, Nat.zero_add, ends_some, Nat.reduceLT, Nat.reduceAdd, if_true, then_normal, Nat.reduceEqDiff, if_false, reduceIte, reduceCtorEq, decide_true, decide_false, Bool.not_true, Bool.not_false, beq_self_eq_true, beq_tf, beq_ft, aPick, List.map_cons, List.map_nil, List.nil_append, List.append_nil, List.getElem?_cons_zero, List.getElem?_cons_succ, ilt_z0, ilt_nat, go_call (P := Tryz.prog) (X := X) (S := S0) Tryz.func167 rfl rfl, hB, hbn, Nat.reduceLeDiff])) (by simp only [aOne, aP, aR, aA, aT, aCall, aCallVal, aev, regAt_set, aput_mk, aput_none, plainV, aNilCheck, aExtract, aBin, aInt, Addr.add, Nat.zero_add, ends_some, Nat.reduceLT, Nat.reduceAdd, if_true, then_normal, Nat.reduceEqDiff, if_false, reduceIte, reduceCtorEq, decide_true, decide_false, Bool.not_true, Bool.not_false, beq_self_eq_true, beq_tf, beq_ft, aPick, List.map_cons, List.map_nil, List.nil_append, List.append_nil, List.getElem?_cons_zero, List.getElem?_cons_succ, ilt_z0, ilt_nat, go_call (P := Tryz.prog) (X := X) (S := S0) Tryz.func167 rfl rfl, hB, hbn, Nat.reduceLeDiff]; try exact rfl) rfl ?_
  refine run2_true (by first | rfl | (simp only [wanted, aOne, aP, aR, aA, aT, aCall, aCallVal, aev, regAt_set, aput_mk, aput_none, plainV, aNilCheck, aExtract, aBin, aInt, Addr.add, Nat.zero_add, ends_some, Nat.reduceLT, Nat.reduceAdd, if_true, then_normal, Nat.reduceEqDiff, if_false, reduceIte, reduceCtorEq, decide_true, decide_false, Bool.not_true, Bool.not_false, beq_self_eq_true, beq_tf, beq_ft, aPick, List.map_cons, List.map_nil, List.nil_append, List.append_nil, List.getElem?_cons_zero, List.getElem?_cons_succ, ilt_z0, ilt_nat, go_call (P := Tryz.prog) (X := X) (S := S0) Tryz.func167 rfl rfl, hB, hbn, Nat.reduceLeDiff])) (by simp only [aOne, aP, aR, aA, aT, aCall, aCallVal, aev, regAt_set, aput_mk, aput_none, plainV, aNilCheck, aExtract, aBin, aInt, Addr.add, Nat.zero_add, ends_some, Nat.reduceLT, Nat.reduceAdd, if_true, then_normal, Nat.reduceEqDiff, if_false, reduceIte, reduceCtorEq, decide_true, decide_false, Bool.not_true, Bool.not_false, beq_self_eq_true, beq_tf, beq_ft, aPick, List.map_cons, List.map_nil, List.nil_append, List.append_nil, List.getElem?_cons_zero, List.getElem?_cons_succ, ilt_z0, ilt_nat, go_call (P := Tryz.prog) (X := X) (S := S0) Tryz.func167 rfl rfl, hB, hbn, Nat.reduceLeDiff]; try exact rfl) rfl ?_
  refine run2_true (by first | rfl | (simp only [wanted, aOne, aP, aR, aA, aT, aCall, aCallVal, aev, regAt_set, aput_mk, aput_none, plainV, aNilCheck, aExtract, aBin, aInt, Addr.add, Nat.zero_add, ends_some, Nat.reduceLT, Nat.reduceAdd, if_true, then_normal, Nat.reduceEqDiff, if_false, reduceIte, reduceCtorEq, decide_true, decide_false, Bool.not_true, Bool.not_false, beq_self_eq_true, beq_tf, beq_ft, aPick, List.map_cons, List.map_nil, List.nil_append, List.append_nil, List.getElem?_cons_zero, List.getElem?_cons_succ, ilt_z0, ilt_nat, go_call (P := Tryz.prog) (X := X) (S := S0) Tryz.func167 rfl rfl, hB, hbn, Nat.reduceLeDiff])) (by simp only [aOne, aP, aR, aA, aT, aCall, aCallVal, aev, regAt_set, aput_mk, aput_none, plainV, aNilCheck, aExtract, aBin, aInt, Addr.add, Nat.zero_add, ends_some, Nat.reduceLT, Nat.reduceAdd, if_true, then_normal, Nat.reduceEqDiff, if_false, reduceIte, reduceCtorEq, decide_true, decide_false, Bool.not_true, Bool.not_false, beq_self_eq_true, beq_tf, beq_ft, aPick, List.map_cons, List.map_nil, List.nil_append, List.append_nil, List.getElem?_cons_zero, List.getElem?_cons_succ, ilt_z0, ilt_nat, go_call (P := Tryz.prog) (X := X) (S := S0) Tryz.func167 rfl rfl, hB, hbn, Nat.reduceLeDiff]; try exact rfl) rfl ?_
  refine run2_true (by first | rfl | (simp only [wanted, aOne, aP, aR, aA, aT, aCall, aCallVal, aev, regAt_set, aput_mk, aput_none, plainV, aNilCheck, aExtract, aBin, aInt, Addr.add, Nat.zero_add, ends_some, Nat.reduceLT, Nat.reduceAdd, if_true, then_normal, Nat.reduceEqDiff, if_false, reduceIte, reduceCtorEq, decide_true, decide_false, Bool.not_true, Bool.not_false, beq_self_eq_true, beq_tf, beq_ft, aPick, List.map_cons, List.map_nil, List.nil_append, List.append_nil, List.getElem?_cons_zero, List.getElem?_cons_succ, ilt_z0, ilt_nat, go_call (P := Tryz.prog) (X := X) (S := S0) Tryz.func167 rfl rfl, hB, hbn, Nat.reduceLeDiff])) (by simp only [aOne, aP, aR, aA, aT, aCall, aCallVal, aev, regAt_set, aput_mk, aput_none, plainV, aNilCheck, aExtract, aBin, aInt, Addr.add, Nat.zero_add, ends_some, Nat.reduceLT, Nat.reduceAdd, if_true, then_normal, Nat.reduceEqDiff, if_false, reduceIte, reduceCtorEq, decide_true, decide_false, Bool.not_true, Bool.not_false, beq_self_eq_true, beq_tf, beq_ft, aPick, List.map_cons, List.map_nil, List.nil_append, List.append_nil, List.getElem?_cons_zero, List.getElem?_cons_succ, ilt_z0, ilt_nat, go_call (P := Tryz.prog) (X := X) (S := S0) Tryz.func167 rfl rfl, hB, hbn, Nat.reduceLeDiff]; try exact rfl) rfl ?_
  simp only [run2, ends_some, then_normal]
  refine code_cond_false ?_ ?_
  · simp only [aev, regAt_set, Nat.reduceEqDiff, reduceIte]
  refine code_skip ?_
  simp only [then_normal]
  refine code_seq ?_
  refine code_region ?_ ?_
  · rfl
  simp only [run1, aOne, aP, aR, aA, aT, aCall, aCallVal, aev, regAt_set, aput_mk, aput_none, plainV, aNilCheck, aExtract, aBin, aInt, Addr.add, Nat.zero_add, ends_some, Nat.reduceLT, Nat.reduceAdd, if_true, then_normal, Nat.reduceEqDiff, if_false, reduceIte, reduceCtorEq, decide_true, decide_false, Bool.not_true, Bool.not_false, beq_self_eq_true, beq_tf, beq_ft, aPick, List.map_cons, List.map_nil, List.nil_append, List.append_nil, List.getElem?_cons_zero, List.getElem?_cons_succ, faA1, ldLs, hl, a1, a2, a3, hsl, go_call (P := Tryz.prog) (X := X) (S := S0) Tryz.func189 rfl rfl, hcnt]
  refine code_ret ?_
  refine ⟨rfl, _, ?_, rfl, hg1⟩
  simp only [aResults, Tryz.results168, aRes, regAt_set, Nat.reduceEqDiff, reduceIte]

theorem Arena.grow {μ μ' : Mem} {ap wb N : Nat} {ws : Nat → Nat} (h : Arena μ ap wb N ws) (hg : Grow μ μ') (h1 : ap < μ.next) (h2 : wb < μ.next) : Arena μ' ap wb N ws := h.keep (hg.2 ap h1) (hg.2 wb h2)

set_option maxHeartbeats 4000000 in
theorem block_loop {ap wb lb N L nb d a t : Nat} {ws : Nat → Nat} {ln : Nat → Bool} {μ0 : Mem} (hA0 : Arena μ0 ap wb N ws) (hL0 : Lines μ0 ap lb L ln) (h1 : ap < μ0.next) (h2 : lb < μ0.next) (h3 : wb < μ0.next) (hnb : nb = N / 256) (hnL : nb * 16 ≤ L) (hN : N < 1000000) (hLt : L < 1000000)
    (ha : a = d * 16) (ht : t = (d + 1) * 16) (hd : cnt ln a 16 = 16) :
    ∀ (e m b : Nat) (tm : T Value) (μ : Mem), d + m = b → b < nb → (∀ x, d < x → x ≤ b → cnt ln (x * 16) 16 ≠ 16) → Grow μ0 μ → regAt tm 0 = .pointer (some ⟨ap, 0, none⟩) → regAt tm 5 = .int .i64 (.ofNat b) →
      EndsC (aCode Tryz.prog X S0 (e + m + 150) (.loop (loopBody Tryz.f143 0)) ⟨22, tm, [], none⟩ μ) fun x r μ' => x = .ret ∧ Grow μ0 μ' ∧ ∃ tm', r = ⟨22, tm', [], none⟩ ∧ regAt tm' 2 = .int .i64 (.ofNat a) ∧ regAt tm' 3 = .int .i64 (.ofNat t) ∧ regAt tm' 4 = .bool true := by
  intro e m
  induction m with
  | zero =>
    intro b tm μ hj hb hx hg r0 r5
    obtain rfl : d = b := hj
    obtain ⟨v1, μ1, hfr, hv1, hg1⟩ := free_ends (X := X) (f := e + 144) (by omega) (hA0.grow hg h1 h3) (hL0.grow hg h1 h2) (Nat.lt_of_lt_of_le h1 hg.1) (Nat.lt_of_lt_of_le h2 hg.1) hnb hb ha ht (by omega) hN hLt
    subst hv1
    rw [hd] at hfr
    have a1 : qwrap .i64 (Int.mul (.ofNat d) 16) = .ofNat a := by rw [ha]; exact mul_nat d 16 (by omega)
    obtain ⟨b1, hb1⟩ : ∃ x, x = d + 1 := ⟨_, rfl⟩
    have a2 : qwrap .i64 (Int.add (.ofNat d) 1) = .ofNat b1 := by rw [hb1]; exact add_nat d 1 (by omega)
    have a3 : qwrap .i64 (Int.mul (.ofNat b1) 16) = .ofNat t := by rw [ht, ← hb1]; exact mul_nat b1 16 (by omega)
    have e16 : ieq (.ofNat 16) 16 = true := rfl
    refine code_loop ?_
    refine code_seq ?_
    refine code_seq ?_
    refine code_region ?_ ?_
    · rfl
    simp only [run1, aOne, aP, aR, aA, aT, aCall, aCallVal, aev, regAt_set, aput_mk, aput_none, plainV, aNilCheck, aExtract, aBin, aInt, Addr.add, Nat.zero_add, ends_some, Nat.reduceLT, Nat.reduceAdd, if_true, then_normal, Nat.reduceEqDiff, if_false, reduceIte, reduceCtorEq, decide_true, decide_false, Bool.not_true, Bool.not_false, beq_self_eq_true, beq_tf, beq_ft, aPick, List.map_cons, List.map_nil, List.nil_append, List.append_nil, List.getElem?_cons_zero, List.getElem?_cons_succ, r5, ilt_z0]
    refine code_cond_true ?_ ?_
    · simp only [aev, regAt_set, Nat.reduceEqDiff, reduceIte]
    refine code_skip ?_
    simp only [then_normal]
    refine code_seq ?_
    refine code_block ?_
    refine code_seq ?_
    refine code_region ?_ ?_
    · rfl
    simp only [run1, aOne, aP, aR, aA, aT, aCall, aCallVal, aev, regAt_set, aput_mk, aput_none, plainV, aNilCheck, aExtract, aBin, aInt, Addr.add, Nat.zero_add, ends_some, Nat.reduceLT, Nat.reduceAdd, if_true, then_normal, Nat.reduceEqDiff, if_false, reduceIte, reduceCtorEq, decide_true, decide_false, Bool.not_true, Bool.not_false, beq_self_eq_true, beq_tf, beq_ft, aPick, List.map_cons, List.map_nil, List.nil_append, List.append_nil, List.getElem?_cons_zero, List.getElem?_cons_succ, r0, r5, go_call (P := Tryz.prog) (X := X) (S := S0) Tryz.func168 rfl rfl, hfr, e16]
    refine code_cond_true ?_ ?_
    · simp only [aev, regAt_set, Nat.reduceEqDiff, reduceIte]
    refine code_seq ?_
    refine code_region ?_ ?_
    · rfl
    simp only [run1, aOne, aP, aR, aA, aT, aCall, aCallVal, aev, regAt_set, aput_mk, aput_none, plainV, aNilCheck, aExtract, aBin, aInt, Addr.add, Nat.zero_add, ends_some, Nat.reduceLT, Nat.reduceAdd, if_true, then_normal, Nat.reduceEqDiff, if_false, reduceIte, reduceCtorEq, decide_true, decide_false, Bool.not_true, Bool.not_false, beq_self_eq_true, beq_tf, beq_ft, aPick, List.map_cons, List.map_nil, List.nil_append, List.append_nil, List.getElem?_cons_zero, List.getElem?_cons_succ, r5, a1, a2, a3]
    refine code_ret ?_
    exact ⟨rfl, hg.trans hg1, _, rfl, by simp only [regAt_set, Nat.reduceEqDiff, reduceIte], by simp only [regAt_set, Nat.reduceEqDiff, reduceIte], by simp only [regAt_set, Nat.reduceEqDiff, reduceIte]⟩
  | succ m ih =>
    intro b tm μ hj hb hx hg r0 r5
    obtain ⟨ab, hab⟩ : ∃ x, x = b * 16 := ⟨_, rfl⟩
    obtain ⟨tb, htb⟩ : ∃ x, x = (b + 1) * 16 := ⟨_, rfl⟩
    obtain ⟨v1, μ1, hfr, hv1, hg1⟩ := free_ends (X := X) (f := e + (m + 1) + 144) (by omega) (hA0.grow hg h1 h3) (hL0.grow hg h1 h2) (Nat.lt_of_lt_of_le h1 hg.1) (Nat.lt_of_lt_of_le h2 hg.1) hnb hb hab htb (by omega) hN hLt
    subst hv1
    obtain ⟨cc, hcc⟩ : ∃ x, x = cnt ln ab 16 := ⟨_, rfl⟩
    rw [← hcc] at hfr
    have hne : cc ≠ 16 := by rw [hcc, hab]; exact hx b (by omega) (Nat.le_refl _)
    have e16 : ieq (.ofNat cc) 16 = false := (ieq_nat cc 16).trans (decide_eq_false hne)
    obtain ⟨b1, hb1⟩ : ∃ x, x = b - 1 := ⟨_, rfl⟩
    have a1 : qwrap .i64 (Int.sub (.ofNat b) 1) = .ofNat b1 := by rw [hb1]; exact sub_nat b 1 (by omega) (by omega)
    refine code_loop ?_
    refine code_seq ?_
    refine code_seq ?_
    refine code_region ?_ ?_
    · rfl
    simp only [run1, aOne, aP, aR, aA, aT, aCall, aCallVal, aev, regAt_set, aput_mk, aput_none, plainV, aNilCheck, aExtract, aBin, aInt, Addr.add, Nat.zero_add, ends_some, Nat.reduceLT, Nat.reduceAdd, if_true, then_normal, Nat.reduceEqDiff, if_false, reduceIte, reduceCtorEq, decide_true, decide_false, Bool.not_true, Bool.not_false, beq_self_eq_true, beq_tf, beq_ft, aPick, List.map_cons, List.map_nil, List.nil_append, List.append_nil, List.getElem?_cons_zero, List.getElem?_cons_succ, r5, ilt_z0]
    refine code_cond_true ?_ ?_
    · simp only [aev, regAt_set, Nat.reduceEqDiff, reduceIte]
    refine code_skip ?_
    simp only [then_normal]
    refine code_seq ?_
    refine code_block ?_
    refine code_seq ?_
    refine code_region ?_ ?_
    · rfl
    simp only [run1, aOne, aP, aR, aA, aT, aCall, aCallVal, aev, regAt_set, aput_mk, aput_none, plainV, aNilCheck, aExtract, aBin, aInt, Addr.add, Nat.zero_add, ends_some, Nat.reduceLT, Nat.reduceAdd, if_true, then_normal, Nat.reduceEqDiff, if_false, reduceIte, reduceCtorEq, decide_true, decide_false, Bool.not_true, Bool.not_false, beq_self_eq_true, beq_tf, beq_ft, aPick, List.map_cons, List.map_nil, List.nil_append, List.append_nil, List.getElem?_cons_zero, List.getElem?_cons_succ, r0, r5, go_call (P := Tryz.prog) (X := X) (S := S0) Tryz.func168 rfl rfl, hfr, e16]
    refine code_cond_false ?_ ?_
    · simp only [aev, regAt_set, Nat.reduceEqDiff, reduceIte]
    refine code_skip ?_
    simp only [blockC, then_normal]
    refine code_region ?_ ?_
    · rfl
    simp only [run1, aOne, aP, aR, aA, aT, aCall, aCallVal, aev, regAt_set, aput_mk, aput_none, plainV, aNilCheck, aExtract, aBin, aInt, Addr.add, Nat.zero_add, ends_some, Nat.reduceLT, Nat.reduceAdd, if_true, then_normal, Nat.reduceEqDiff, if_false, reduceIte, reduceCtorEq, decide_true, decide_false, Bool.not_true, Bool.not_false, beq_self_eq_true, beq_tf, beq_ft, aPick, List.map_cons, List.map_nil, List.nil_append, List.append_nil, List.getElem?_cons_zero, List.getElem?_cons_succ, r5, a1]
    rw [show e + (m + 1) + 149 = e + m + 150 from by omega]
    refine ih b1 _ _ (by omega) (by omega) (fun x g1 g2 => hx x g1 (by omega)) (hg.trans hg1) ?_ ?_ <;> simp only [regAt_set, Nat.reduceEqDiff, reduceIte, r0]

set_option maxHeartbeats 4000000 in
theorem block_ends {f ap wb lb N L nb d a t : Nat} {ws : Nat → Nat} {ln : Nat → Bool} {μ : Mem} (hf : 200 ≤ f) (hA : Arena μ ap wb N ws) (hL : Lines μ ap lb L ln) (h1 : ap < μ.next) (h2 : lb < μ.next) (h3 : wb < μ.next) (hnb : nb = N / 256) (hnL : nb * 16 ≤ L) (hN : N < 1000000) (hLt : L < 1000000)
    (ha : a = d * 16) (ht : t = (d + 1) * 16) (hd : cnt ln a 16 = 16) (hdn : d < nb) (hdn2 : nb ≤ d + 20) (hx : ∀ x, d < x → x < nb → cnt ln (x * 16) 16 ≠ 16) :
    EndsF (aFun Tryz.prog (aCode Tryz.prog X S0 f) 143 [.pointer (some ⟨ap, 0, none⟩)] μ) fun v μ' => v = .tuple #[.int .i64 (.ofNat a), .int .i64 (.ofNat t), .bool true] ∧ Grow μ μ' := by
  obtain ⟨k, rfl⟩ := Nat.exists_eq_add_of_le' hf
  have hB : ∀ f, 20 ≤ f → aFun Tryz.prog (aCode Tryz.prog X S0 f) 167 [.pointer (some ⟨ap, 0, none⟩)] μ = some (.int .i64 (.ofNat nb), μ) := fun f hf => hnb ▸ blocks_eq hf hA hN
  obtain ⟨b1, hb1⟩ : ∃ x, x = nb - 1 := ⟨_, rfl⟩
  have a1 : qwrap .i64 (Int.sub (.ofNat nb) 1) = .ofNat b1 := by rw [hb1]; exact sub_nat nb 1 (by omega) (by omega)
  refine fun_enter Tryz.func143 rfl rfl (Nat.le_of_ble_eq_true rfl) ?_
  simp only [T.lay, Nat.zero_add, Tryz.ntmps143, Nat.reduceAdd]
  refine code_seq ?_
  refine code_region ?_ ?_
  · rfl
  simp only [run1, aOne, aP, aR, aA, aT, aCall, aCallVal, aev, regAt_set, aput_mk, aput_none, plainV, aNilCheck, aExtract, aBin, aInt, Addr.add, Nat.zero_add, ends_some, Nat.reduceLT, Nat.reduceAdd, if_true, then_normal, Nat.reduceEqDiff, if_false, reduceIte, reduceCtorEq, decide_true, decide_false, Bool.not_true, Bool.not_false, beq_self_eq_true, beq_tf, beq_ft, aPick, List.map_cons, List.map_nil, List.nil_append, List.append_nil, List.getElem?_cons_zero, List.getElem?_cons_succ]
  refine code_seq ?_
  refine code_seq ?_
  refine code_region ?_ ?_
  · rfl
  simp only [run1, aOne, aP, aR, aA, aT, aCall, aCallVal, aev, regAt_set, aput_mk, aput_none, plainV, aNilCheck, aExtract, aBin, aInt, Addr.add, Nat.zero_add, ends_some, Nat.reduceLT, Nat.reduceAdd, if_true, then_normal, Nat.reduceEqDiff, if_false, reduceIte, reduceCtorEq, decide_true, decide_false, Bool.not_true, Bool.not_false, beq_self_eq_true, beq_tf, beq_ft, aPick, List.map_cons, List.map_nil, List.nil_append, List.append_nil, List.getElem?_cons_zero, List.getElem?_cons_succ, go_call (P := Tryz.prog) (X := X) (S := S0) Tryz.func167 rfl rfl, hB, Nat.reduceLeDiff, a1]
  refine code_block ?_
  rw [show k + 196 = (k + 46 - (b1 - d)) + (b1 - d) + 150 from by omega]
  refine EndsC.mono (block_loop hA hL h1 h2 h3 hnb hnL hN hLt ha ht hd (k + 46 - (b1 - d)) (b1 - d) b1 _ _ (by omega) (by omega) (fun x g1 g2 => hx x g1 (by omega)) (Grow.refl _) ?_ ?_) ?_
  · simp only [regAt_set, Nat.reduceEqDiff, reduceIte]
  · simp only [regAt_set, Nat.reduceEqDiff, reduceIte]
  rintro x' r' μ' ⟨rfl, hg, tm', rfl, g2, g3, g4⟩
  simp only [blockC, then_ret]
  refine ⟨rfl, _, ?_, rfl, hg⟩
  simp only [aResults, Tryz.results143, aRes, regAt_set, Nat.reduceEqDiff, reduceIte]
  simp only [g2, g3, g4]
end

noncomputable section
variable {X : FuncId → List Value → Mem → Option (Value × Mem)}

/-- an arena's words and lines -/
structure AB (μ : Mem) (ap wb lb N L : Nat) (ws : Nat → Nat) (ln : Nat → Bool) : Prop where
  arena : Arena μ ap wb N ws
  lines : Lines μ ap lb L ln
  blk : Blk μ ap 9 162
  n1 : ap < μ.next
  n2 : wb < μ.next
  n3 : lb < μ.next
  d1 : ap ≠ lb
  d2 : wb ≠ lb
  N1 : N < 1000000
  L1 : L < 1000000

/-- and where its runs stand -/
structure AC (μ : Mem) (ap sf st gf gt nx : Nat) : Prop where
  c2 : cellsAt μ ap 2 = some (.int .i64 (.ofNat sf))
  c3 : cellsAt μ ap 3 = some (.int .i64 (.ofNat st))
  c4 : cellsAt μ ap 4 = some (.int .i64 (.ofNat gf))
  c5 : cellsAt μ ap 5 = some (.int .i64 (.ofNat gt))
  c8 : cellsAt μ ap 8 = some (.int .i64 (.ofNat nx))

theorem AB.put {μ : Mem} {ap wb lb N L : Nat} {ws : Nat → Nat} {ln : Nat → Bool} (h : AB μ ap wb lb N L ws ln) {o : Nat} {vs : List Value} (ho : 2 ≤ o) (hl : o + vs.length ≤ 9) : AB (putL μ ap o vs) ap wb lb N L ws ln := by
  have e0 : cellsAt (putL μ ap o vs) ap 0 = cellsAt μ ap 0 := by rw [cells_put h.blk hl, dif_neg (by rintro ⟨_, g, _⟩; omega)]
  have e1 : cellsAt (putL μ ap o vs) ap 1 = cellsAt μ ap 1 := by rw [cells_put h.blk hl, dif_neg (by rintro ⟨_, g, _⟩; omega)]
  obtain ⟨c, hc⟩ := h.arena.head
  obtain ⟨z, ov, fx, sh, hwb, hws⟩ := h.arena.words
  exact ⟨⟨⟨c, e0.trans hc⟩, ⟨z, ov, fx, sh, (putL_get _ _ _ _ (Ne.symm h.arena.apart)).trans hwb, hws⟩, h.arena.apart⟩, h.lines.keep e1 (putL_get _ _ _ _ (Ne.symm h.d1)), h.blk.put _ _,
    by rw [putL_next]; exact h.n1, by rw [putL_next]; exact h.n2, by rw [putL_next]; exact h.n3, h.d1, h.d2, h.N1, h.L1⟩
theorem AB.grow {μ μ' : Mem} {ap wb lb N L : Nat} {ws : Nat → Nat} {ln : Nat → Bool} (h : AB μ ap wb lb N L ws ln) (hg : Grow μ μ') : AB μ' ap wb lb N L ws ln :=
  ⟨h.arena.grow hg h.n1 h.n2, h.lines.grow hg h.n1 h.n3, by unfold Blk; rw [hg.2 ap h.n1]; exact h.blk, Nat.lt_of_lt_of_le h.n1 hg.1, Nat.lt_of_lt_of_le h.n2 hg.1, Nat.lt_of_lt_of_le h.n3 hg.1, h.d1, h.d2, h.N1, h.L1⟩
theorem AC.grow {μ μ' : Mem} {ap sf st gf gt nx : Nat} (h : AC μ ap sf st gf gt nx) (hg : Grow μ μ') (hn : ap < μ.next) : AC μ' ap sf st gf gt nx := by
  have e : ∀ p, cellsAt μ' ap p = cellsAt μ ap p := fun p => by unfold cellsAt; rw [hg.2 ap hn]
  exact ⟨(e _).trans h.c2, (e _).trans h.c3, (e _).trans h.c4, (e _).trans h.c5, (e _).trans h.c8⟩
theorem grow_up (μ : Mem) (d : Nat) : Grow μ ⟨μ.obs, μ.next + d⟩ := ⟨Nat.le_add_right _ _, fun _ _ => rfl⟩

/-- what turns an arena alone -/
def Kept (μ μ' : Mem) (ap lb : Nat) : Prop := μ.next ≤ μ'.next ∧ ∀ i, i < μ.next → i ≠ ap → i ≠ lb → μ'.obs.get i = μ.obs.get i
theorem Kept.of {μ μ' : Mem} {ap lb : Nat} (h : Grow μ μ') : Kept μ μ' ap lb := ⟨h.1, fun i hi _ _ => h.2 i hi⟩
theorem Kept.trans {a b c : Mem} {ap lb : Nat} (h : Kept a b ap lb) (g : Kept b c ap lb) : Kept a c ap lb := ⟨Nat.le_trans h.1 g.1, fun i hi h1 h2 => (g.2 i (Nat.lt_of_lt_of_le hi h.1) h1 h2).trans (h.2 i hi h1 h2)⟩
theorem Kept.put (μ : Mem) (ap lb o : Nat) (vs : List Value) : Kept μ (putL μ ap o vs) ap lb := ⟨by rw [putL_next]; exact Nat.le_refl _, fun i _ h1 _ => putL_get _ _ _ _ h1⟩

theorem put2 {μ : Mem} {ap sf st gf gt nx f' t : Nat} (hb : Blk μ ap 9 t) (h : AC μ ap sf st gf gt nx) : AC (putL μ ap 2 [.int .i64 (.ofNat f')]) ap f' st gf gt nx := by
  have e : ∀ p, p ≠ 2 → cellsAt (putL μ ap 2 [.int .i64 (.ofNat f')]) ap p = cellsAt μ ap p := fun p hp => by
    rw [cells_put hb (by show 2 + 1 ≤ 9; decide), dif_neg (by rintro ⟨_, g1, g2⟩; simp only [List.length_cons, List.length_nil] at g2; omega)]
  exact ⟨by rw [cells_put hb (by show 2 + 1 ≤ 9; decide), dif_pos ⟨rfl, Nat.le_refl _, Nat.le_of_ble_eq_true rfl⟩]; rfl, (e _ (by decide)).trans h.c3, (e _ (by decide)).trans h.c4, (e _ (by decide)).trans h.c5, (e _ (by decide)).trans h.c8⟩
theorem put4 {μ : Mem} {ap sf st gf gt nx f' t : Nat} (hb : Blk μ ap 9 t) (h : AC μ ap sf st gf gt nx) : AC (putL μ ap 4 [.int .i64 (.ofNat f')]) ap sf st f' gt nx := by
  have e : ∀ p, p ≠ 4 → cellsAt (putL μ ap 4 [.int .i64 (.ofNat f')]) ap p = cellsAt μ ap p := fun p hp => by
    rw [cells_put hb (by show 4 + 1 ≤ 9; decide), dif_neg (by rintro ⟨_, g1, g2⟩; simp only [List.length_cons, List.length_nil] at g2; omega)]
  exact ⟨(e _ (by decide)).trans h.c2, (e _ (by decide)).trans h.c3, by rw [cells_put hb (by show 4 + 1 ≤ 9; decide), dif_pos ⟨rfl, Nat.le_refl _, Nat.le_of_ble_eq_true rfl⟩]; rfl, (e _ (by decide)).trans h.c5, (e _ (by decide)).trans h.c8⟩
theorem put8 {μ : Mem} {ap sf st gf gt nx f' t : Nat} (hb : Blk μ ap 9 t) (h : AC μ ap sf st gf gt nx) : AC (putL μ ap 8 [.int .i64 (.ofNat f')]) ap sf st gf gt f' := by
  have e : ∀ p, p ≠ 8 → cellsAt (putL μ ap 8 [.int .i64 (.ofNat f')]) ap p = cellsAt μ ap p := fun p hp => by
    rw [cells_put hb (by show 8 + 1 ≤ 9; decide), dif_neg (by rintro ⟨_, g1, g2⟩; simp only [List.length_cons, List.length_nil] at g2; omega)]
  exact ⟨(e _ (by decide)).trans h.c2, (e _ (by decide)).trans h.c3, (e _ (by decide)).trans h.c4, (e _ (by decide)).trans h.c5, by rw [cells_put hb (by show 8 + 1 ≤ 9; decide), dif_pos ⟨rfl, Nat.le_refl _, Nat.le_of_ble_eq_true rfl⟩]; rfl⟩
theorem put22 {μ : Mem} {ap sf st gf gt nx f' t' t : Nat} (hb : Blk μ ap 9 t) (h : AC μ ap sf st gf gt nx) : AC (putL μ ap 2 [.int .i64 (.ofNat f'), .int .i64 (.ofNat t')]) ap f' t' gf gt nx := by
  have e : ∀ p, p ≠ 2 → p ≠ 3 → cellsAt (putL μ ap 2 [.int .i64 (.ofNat f'), .int .i64 (.ofNat t')]) ap p = cellsAt μ ap p := fun p hp hq => by
    rw [cells_put hb (by show 2 + 2 ≤ 9; decide), dif_neg (by rintro ⟨_, g1, g2⟩; simp only [List.length_cons, List.length_nil] at g2; omega)]
  exact ⟨by rw [cells_put hb (by show 2 + 2 ≤ 9; decide), dif_pos ⟨rfl, by decide, Nat.le_of_ble_eq_true rfl⟩]; rfl, by rw [cells_put hb (by show 2 + 2 ≤ 9; decide), dif_pos ⟨rfl, by decide, Nat.le_of_ble_eq_true rfl⟩]; rfl,
    (e _ (by decide) (by decide)).trans h.c4, (e _ (by decide) (by decide)).trans h.c5, (e _ (by decide) (by decide)).trans h.c8⟩
theorem put42 {μ : Mem} {ap sf st gf gt nx f' t' t : Nat} (hb : Blk μ ap 9 t) (h : AC μ ap sf st gf gt nx) : AC (putL μ ap 4 [.int .i64 (.ofNat f'), .int .i64 (.ofNat t')]) ap sf st f' t' nx := by
  have e : ∀ p, p ≠ 4 → p ≠ 5 → cellsAt (putL μ ap 4 [.int .i64 (.ofNat f'), .int .i64 (.ofNat t')]) ap p = cellsAt μ ap p := fun p hp hq => by
    rw [cells_put hb (by show 4 + 2 ≤ 9; decide), dif_neg (by rintro ⟨_, g1, g2⟩; simp only [List.length_cons, List.length_nil] at g2; omega)]
  exact ⟨(e _ (by decide) (by decide)).trans h.c2, (e _ (by decide) (by decide)).trans h.c3, by rw [cells_put hb (by show 4 + 2 ≤ 9; decide), dif_pos ⟨rfl, by decide, Nat.le_of_ble_eq_true rfl⟩]; rfl, by rw [cells_put hb (by show 4 + 2 ≤ 9; decide), dif_pos ⟨rfl, by decide, Nat.le_of_ble_eq_true rfl⟩]; rfl,
    (e _ (by decide) (by decide)).trans h.c8⟩
end

noncomputable section
variable {X : FuncId → List Value → Mem → Option (Value × Mem)}

theorem takeno_eq {g ap o f t n : Nat} {μ : Mem} (hg : 20 ≤ g) (hf : cellsAt μ ap o = some (.int .i64 (.ofNat f))) (ht : cellsAt μ ap (o + 1) = some (.int .i64 (.ofNat t))) (hft : f ≤ t) (hT : t < 4611686018427387904) (hn : t - f < n) :
    aFun Tryz.prog (aCode Tryz.prog X S0 g) 119 [.pointer (some ⟨ap, o, none⟩), .int .i64 (.ofNat n)] μ = some (.tuple #[.int .i64 0, .bool false], ⟨μ.obs, μ.next + 11⟩) := by
  obtain ⟨k, rfl⟩ := Nat.exists_eq_add_of_le' hg
  exact ends_eq (take_no hf ht hft hT hn)
theorem takeok_eq {g ap o f t n c te : Nat} {μ : Mem} (hg : 20 ≤ g) (hb : Blk μ ap c te) (ho : o < c) (hf : cellsAt μ ap o = some (.int .i64 (.ofNat f))) (ht : cellsAt μ ap (o + 1) = some (.int .i64 (.ofNat t))) (hft : f ≤ t) (hT : t < 4611686018427387904) (hn : f + n ≤ t) :
    aFun Tryz.prog (aCode Tryz.prog X S0 g) 119 [.pointer (some ⟨ap, o, none⟩), .int .i64 (.ofNat n)] μ = some (.tuple #[.int .i64 (.ofNat f), .bool true], putL ⟨μ.obs, μ.next + 11⟩ ap o [.int .i64 (.ofNat (f + n))]) := by
  obtain ⟨k, rfl⟩ := Nat.exists_eq_add_of_le' hg
  exact ends_eq (take_ok hb ho hf ht hft hT hn)

theorem faA2 (ρ : Operand → Value) (x : Operand) : aFieldAddr Tryz.prog ρ 162 x 2 = (match ρ x with | .pointer (some a) => some (.pointer (some (a.add 2))) | _ => none) := fieldAddr_at (ft := 160) (off := 2) Tryz.underlying162 rfl iR rfl ρ x
theorem faA3 (ρ : Operand → Value) (x : Operand) : aFieldAddr Tryz.prog ρ 162 x 3 = (match ρ x with | .pointer (some a) => some (.pointer (some (a.add 4))) | _ => none) := fieldAddr_at (ft := 160) (off := 4) Tryz.underlying162 rfl iR rfl ρ x
theorem faA5 (ρ : Operand → Value) (x : Operand) : aFieldAddr Tryz.prog ρ 162 x 5 = (match ρ x with | .pointer (some a) => some (.pointer (some (a.add 8))) | _ => none) := fieldAddr_at (ft := 3) (off := 8) Tryz.underlying162 rfl i3 rfl ρ x

set_option maxHeartbeats 4000000 in
theorem great_old {g ap wb lb N L n sf st gf gt nx : Nat} {ws : Nat → Nat} {ln : Nat → Bool} {μ : Mem} (hg : 30 ≤ g) (hB : AB μ ap wb lb N L ws ln) (hC : AC μ ap sf st gf gt nx) (hgt : gf ≤ gt) (hgT : gt < 1000000) (hn : gf + n ≤ gt) :
    EndsF (aFun Tryz.prog (aCode Tryz.prog X S0 g) 118 [.pointer (some ⟨ap, 0, none⟩), .int .i64 (.ofNat n)] μ) fun v μ' => v = .tuple #[.int .i64 (.ofNat gf), .bool true] ∧ AB μ' ap wb lb N L ws ln ∧ AC μ' ap sf st (gf + n) gt nx ∧ Kept μ μ' ap lb := by
  obtain ⟨k, rfl⟩ := Nat.exists_eq_add_of_le' hg
  have ht : ∀ g, 20 ≤ g → aFun Tryz.prog (aCode Tryz.prog X S0 g) 119 [.pointer (some ⟨ap, 4, none⟩), .int .i64 (.ofNat n)] μ = some (.tuple #[.int .i64 (.ofNat gf), .bool true], putL ⟨μ.obs, μ.next + 11⟩ ap 4 [.int .i64 (.ofNat (gf + n))]) := fun g hg =>
    takeok_eq hg hB.blk (by decide) hC.c4 hC.c5 hgt (by omega) hn
  refine fun_enter Tryz.func118 rfl rfl (Nat.le_of_ble_eq_true rfl) ?_
  simp only [T.lay, Nat.zero_add, Tryz.ntmps118, Nat.reduceAdd]
  refine code_seq ?_
  refine code_region ?_ ?_
  · rfl
  simp only [run1, aOne, aP, aR, aA, aT, aCall, aCallVal, aev, regAt_set, aput_mk, aput_none, plainV, aNilCheck, aExtract, aBin, aInt, Addr.add, Nat.zero_add, ends_some, Nat.reduceLT, Nat.reduceAdd, if_true, then_normal, Nat.reduceEqDiff, if_false, reduceIte, reduceCtorEq, decide_true, decide_false, Bool.not_true, Bool.not_false, beq_self_eq_true, beq_tf, beq_ft, aPick, List.map_cons, List.map_nil, List.nil_append, List.append_nil, List.getElem?_cons_zero, List.getElem?_cons_succ]
  refine code_seq ?_
  refine code_seq ?_
  refine code_region ?_ ?_
  · rfl
  simp only [run1, aOne, aP, aR, aA, aT, aCall, aCallVal, aev, regAt_set, aput_mk, aput_none, plainV, aNilCheck, aExtract, aBin, aInt, Addr.add, Nat.zero_add, ends_some, Nat.reduceLT, Nat.reduceAdd, if_true, then_normal, Nat.reduceEqDiff, if_false, reduceIte, reduceCtorEq, decide_true, decide_false, Bool.not_true, Bool.not_false, beq_self_eq_true, beq_tf, beq_ft, aPick, List.map_cons, List.map_nil, List.nil_append, List.append_nil, List.getElem?_cons_zero, List.getElem?_cons_succ, faA3, go_call (P := Tryz.prog) (X := X) (S := S0) Tryz.func119 rfl rfl, ht, Nat.reduceLeDiff]
  refine code_seq ?_
  refine code_region ?_ ?_
  · rfl
  simp only [run1, aOne, aP, aR, aA, aT, aCall, aCallVal, aev, regAt_set, aput_mk, aput_none, plainV, aNilCheck, aExtract, aBin, aInt, Addr.add, Nat.zero_add, ends_some, Nat.reduceLT, Nat.reduceAdd, if_true, then_normal, Nat.reduceEqDiff, if_false, reduceIte, reduceCtorEq, decide_true, decide_false, Bool.not_true, Bool.not_false, beq_self_eq_true, beq_tf, beq_ft, aPick, List.map_cons, List.map_nil, List.nil_append, List.append_nil, List.getElem?_cons_zero, List.getElem?_cons_succ]
  refine code_cond_true ?_ ?_
  · simp only [aev, regAt_set, Nat.reduceEqDiff, reduceIte]
  refine code_seq ?_
  refine code_region ?_ ?_
  · rfl
  simp only [run1, aOne, aP, aR, aA, aT, aCall, aCallVal, aev, regAt_set, aput_mk, aput_none, plainV, aNilCheck, aExtract, aBin, aInt, Addr.add, Nat.zero_add, ends_some, Nat.reduceLT, Nat.reduceAdd, if_true, then_normal, Nat.reduceEqDiff, if_false, reduceIte, reduceCtorEq, decide_true, decide_false, Bool.not_true, Bool.not_false, beq_self_eq_true, beq_tf, beq_ft, aPick, List.map_cons, List.map_nil, List.nil_append, List.append_nil, List.getElem?_cons_zero, List.getElem?_cons_succ]
  refine code_ret ?_
  have hg1 := grow_up μ 11
  refine ⟨rfl, _, ?_, rfl, (hB.grow hg1).put (by decide) (Nat.le_of_ble_eq_true rfl), put4 (hB.grow hg1).blk (hC.grow hg1 hB.n1), (Kept.of hg1).trans (Kept.put _ _ _ _ _)⟩
  simp only [aResults, Tryz.results118, aRes, regAt_set, Nat.reduceEqDiff, reduceIte]

set_option maxHeartbeats 4000000 in
theorem great_new {g ap wb lb N L n sf st gf gt nx nb d a t fa ta : Nat} {ws : Nat → Nat} {ln : Nat → Bool} {μ : Mem} (hg : 300 ≤ g) (hB : AB μ ap wb lb N L ws ln) (hC : AC μ ap sf st gf gt nx) (hgt : gf ≤ gt) (hgT : gt < 1000000) (hn : gt - gf < n) (hn2 : n ≤ 256)
    (hnb : nb = N / 256) (hnL : nb * 16 ≤ L) (ha : a = d * 16) (ht : t = (d + 1) * 16) (hd : cnt ln a 16 = 16) (hdn : d < nb) (hdn2 : nb ≤ d + 20) (hx : ∀ x, d < x → x < nb → cnt ln (x * 16) 16 ≠ 16) (hfa : fa = a * 16) (hta : ta = t * 16) :
    EndsF (aFun Tryz.prog (aCode Tryz.prog X S0 g) 118 [.pointer (some ⟨ap, 0, none⟩), .int .i64 (.ofNat n)] μ) fun v μ' => v = .tuple #[.int .i64 (.ofNat fa), .bool true] ∧ AB μ' ap wb lb N L ws (fill ln a t) ∧ AC μ' ap sf st (fa + n) ta nx ∧ Kept μ μ' ap lb := by
  obtain ⟨k, rfl⟩ := Nat.exists_eq_add_of_le' hg
  have htk : ∀ g, 20 ≤ g → aFun Tryz.prog (aCode Tryz.prog X S0 g) 119 [.pointer (some ⟨ap, 4, none⟩), .int .i64 (.ofNat n)] μ = some (.tuple #[.int .i64 0, .bool false], ⟨μ.obs, μ.next + 11⟩) := fun g hg =>
    takeno_eq hg hC.c4 hC.c5 hgt (by omega) hn
  have hg1 := grow_up μ 11
  have hB1 := hB.grow hg1
  have hC1 := hC.grow hg1 hB.n1
  have hN1 := hB.N1
  have hL1 := hB.L1
  obtain ⟨v2, μ2, hbl, hv2, hg2⟩ := block_ends (X := X) (f := k + 296) (by omega) hB1.arena hB1.lines hB1.n1 hB1.n3 hB1.n2 hnb hnL hN1 hL1 ha ht hd hdn hdn2 hx
  subst hv2
  have hB2 := hB1.grow hg2
  have hC2 := hC1.grow hg2 hB1.n1
  obtain ⟨v3, μ3, hcl, hv3, hL3, hn3, hk3⟩ := claim (X := X) (f := k + 293) (a := a) (t := t) (by omega) hB2.lines hB2.d1 hB2.n1 hB2.n3 (by omega) (by omega) (by omega) hL1
  rw [← hfa, ← hta] at hv3
  subst hv3
  have e3 : ∀ p, cellsAt μ3 ap p = cellsAt μ2 ap p := fun p => by unfold cellsAt; rw [hk3 ap hB2.n1 hB2.d1]
  have hB3 : AB μ3 ap wb lb N L ws (fill ln a t) := ⟨hB2.arena.keep (hk3 ap hB2.n1 hB2.d1) (hk3 wb hB2.n2 hB2.d2), hL3, by unfold Blk; rw [hk3 ap hB2.n1 hB2.d1]; exact hB2.blk,
    by rw [hn3]; exact Nat.lt_succ_of_lt hB2.n1, by rw [hn3]; exact Nat.lt_succ_of_lt hB2.n2, by rw [hn3]; exact Nat.lt_succ_of_lt hB2.n3, hB2.d1, hB2.d2, hN1, hL1⟩
  have hC3 : AC μ3 ap sf st gf gt nx := ⟨(e3 _).trans hC2.c2, (e3 _).trans hC2.c3, (e3 _).trans hC2.c4, (e3 _).trans hC2.c5, (e3 _).trans hC2.c8⟩
  have hst : aStore Tryz.prog μ3 160 (.pointer (some ⟨ap, 4, none⟩)) (.agg #[.int .i64 (.ofNat fa), .int .i64 (.ofNat ta)]) = some (undef, putL μ3 ap 4 [.int .i64 (.ofNat fa), .int .i64 (.ofNat ta)]) := store_puts (t := 160) (o := 4) (vs := [.int .i64 (.ofNat fa), .int .i64 (.ofNat ta)]) iR rfl rfl hB3.blk (by show 4 + 2 ≤ 9; decide)
  have hB4 := hB3.put (o := 4) (vs := [.int .i64 (.ofNat fa), .int .i64 (.ofNat ta)]) (by decide) (by show 4 + 2 ≤ 9; decide)
  have hC4 := put42 (f' := fa) (t' := ta) hB3.blk hC3
  obtain ⟨μ4, hμ4⟩ : ∃ x, x = putL μ3 ap 4 [.int .i64 (.ofNat fa), .int .i64 (.ofNat ta)] := ⟨_, rfl⟩
  rw [← hμ4] at hst hB4 hC4
  have ht2 : ∀ g, 20 ≤ g → aFun Tryz.prog (aCode Tryz.prog X S0 g) 119 [.pointer (some ⟨ap, 4, none⟩), .int .i64 (.ofNat n)] μ4 = some (.tuple #[.int .i64 (.ofNat fa), .bool true], putL ⟨μ4.obs, μ4.next + 11⟩ ap 4 [.int .i64 (.ofNat (fa + n))]) := fun g hg =>
    takeok_eq hg hB4.blk (by decide) hC4.c4 hC4.c5 (by omega) (by omega) (by omega)
  have hg5 := grow_up μ4 11
  have hk : Kept μ μ4 ap lb := by
    refine (Kept.of (hg1.trans hg2)).trans ⟨?_, fun i hi h1 h2 => ?_⟩
    · rw [hμ4, putL_next, hn3]; exact Nat.le_succ _
    · rw [hμ4, putL_get _ _ _ _ h1]; exact hk3 i hi h2
  refine fun_enter Tryz.func118 rfl rfl (Nat.le_of_ble_eq_true rfl) ?_
  simp only [T.lay, Nat.zero_add, Tryz.ntmps118, Nat.reduceAdd]
  refine code_seq ?_
  refine code_region ?_ ?_
  · rfl
  simp only [run1, aOne, aP, aR, aA, aT, aCall, aCallVal, aev, regAt_set, aput_mk, aput_none, plainV, aNilCheck, aExtract, aBin, aInt, Addr.add, Nat.zero_add, ends_some, Nat.reduceLT, Nat.reduceAdd, if_true, then_normal, Nat.reduceEqDiff, if_false, reduceIte, reduceCtorEq, decide_true, decide_false, Bool.not_true, Bool.not_false, beq_self_eq_true, beq_tf, beq_ft, aPick, List.map_cons, List.map_nil, List.nil_append, List.append_nil, List.getElem?_cons_zero, List.getElem?_cons_succ]
  refine code_seq ?_
  refine code_seq ?_
  refine code_region ?_ ?_
  · rfl
  simp only [run1, aOne, aP, aR, aA, aT, aCall, aCallVal, aev, regAt_set, aput_mk, aput_none, plainV, aNilCheck, aExtract, aBin, aInt, Addr.add, Nat.zero_add, ends_some, Nat.reduceLT, Nat.reduceAdd, if_true, then_normal, Nat.reduceEqDiff, if_false, reduceIte, reduceCtorEq, decide_true, decide_false, Bool.not_true, Bool.not_false, beq_self_eq_true, beq_tf, beq_ft, aPick, List.map_cons, List.map_nil, List.nil_append, List.append_nil, List.getElem?_cons_zero, List.getElem?_cons_succ, faA3, go_call (P := Tryz.prog) (X := X) (S := S0) Tryz.func119 rfl rfl, htk, Nat.reduceLeDiff]
  refine code_seq ?_
  refine code_region ?_ ?_
  · rfl
  simp only [run1, aOne, aP, aR, aA, aT, aCall, aCallVal, aev, regAt_set, aput_mk, aput_none, plainV, aNilCheck, aExtract, aBin, aInt, Addr.add, Nat.zero_add, ends_some, Nat.reduceLT, Nat.reduceAdd, if_true, then_normal, Nat.reduceEqDiff, if_false, reduceIte, reduceCtorEq, decide_true, decide_false, Bool.not_true, Bool.not_false, beq_self_eq_true, beq_tf, beq_ft, aPick, List.map_cons, List.map_nil, List.nil_append, List.append_nil, List.getElem?_cons_zero, List.getElem?_cons_succ]
  refine code_cond_false ?_ ?_
  · simp only [aev, regAt_set, Nat.reduceEqDiff, reduceIte]
  refine code_skip ?_
  simp only [then_normal]
  refine code_seq ?_
  refine code_region ?_ ?_
  · rfl
  simp only [run1, aOne, aP, aR, aA, aT, aCall, aCallVal, aev, regAt_set, aput_mk, aput_none, plainV, aNilCheck, aExtract, aBin, aInt, Addr.add, Nat.zero_add, ends_some, Nat.reduceLT, Nat.reduceAdd, if_true, then_normal, Nat.reduceEqDiff, if_false, reduceIte, reduceCtorEq, decide_true, decide_false, Bool.not_true, Bool.not_false, beq_self_eq_true, beq_tf, beq_ft, aPick, List.map_cons, List.map_nil, List.nil_append, List.append_nil, List.getElem?_cons_zero, List.getElem?_cons_succ, go_call (P := Tryz.prog) (X := X) (S := S0) Tryz.func143 rfl rfl, hbl]
  refine code_seq ?_
  refine code_seq ?_
  refine code_region ?_ ?_
  · rfl
  simp only [run1, aOne, aP, aR, aA, aT, aCall, aCallVal, aev, regAt_set, aput_mk, aput_none, plainV, aNilCheck, aExtract, aBin, aInt, Addr.add, Nat.zero_add, ends_some, Nat.reduceLT, Nat.reduceAdd, if_true, then_normal, Nat.reduceEqDiff, if_false, reduceIte, reduceCtorEq, decide_true, decide_false, Bool.not_true, Bool.not_false, beq_self_eq_true, beq_tf, beq_ft, aPick, List.map_cons, List.map_nil, List.nil_append, List.append_nil, List.getElem?_cons_zero, List.getElem?_cons_succ]
  refine code_cond_false ?_ ?_
  · simp only [aev, regAt_set, Nat.reduceEqDiff, reduceIte]
  refine code_skip ?_
  simp only [then_normal]
  refine code_seq ?_
  refine code_seq ?_
  refine code_region ?_ ?_
  · rfl
  simp only [run1, aOne, aP, aR, aA, aT, aCall, aCallVal, aev, regAt_set, aput_mk, aput_none, plainV, aNilCheck, aExtract, aBin, aInt, Addr.add, Nat.zero_add, ends_some, Nat.reduceLT, Nat.reduceAdd, if_true, then_normal, Nat.reduceEqDiff, if_false, reduceIte, reduceCtorEq, decide_true, decide_false, Bool.not_true, Bool.not_false, beq_self_eq_true, beq_tf, beq_ft, aPick, List.map_cons, List.map_nil, List.nil_append, List.append_nil, List.getElem?_cons_zero, List.getElem?_cons_succ]
  refine code_cond_false ?_ ?_
  · simp only [aev, regAt_set, Nat.reduceEqDiff, reduceIte]
  refine code_skip ?_
  simp only [then_normal]
  refine code_seq ?_
  refine code_region ?_ ?_
  · rfl
  simp only [run1, aOne, aP, aR, aA, aT, aCall, aCallVal, aev, regAt_set, aput_mk, aput_none, plainV, aNilCheck, aExtract, aBin, aInt, Addr.add, Nat.zero_add, ends_some, Nat.reduceLT, Nat.reduceAdd, if_true, then_normal, Nat.reduceEqDiff, if_false, reduceIte, reduceCtorEq, decide_true, decide_false, Bool.not_true, Bool.not_false, beq_self_eq_true, beq_tf, beq_ft, aPick, List.map_cons, List.map_nil, List.nil_append, List.append_nil, List.getElem?_cons_zero, List.getElem?_cons_succ, go_call (P := Tryz.prog) (X := X) (S := S0) Tryz.func121 rfl rfl, hcl, faA3, hst]
  refine code_seq ?_
  refine code_region ?_ ?_
  · rfl
  simp only [run1, aOne, aP, aR, aA, aT, aCall, aCallVal, aev, regAt_set, aput_mk, aput_none, plainV, aNilCheck, aExtract, aBin, aInt, Addr.add, Nat.zero_add, ends_some, Nat.reduceLT, Nat.reduceAdd, if_true, then_normal, Nat.reduceEqDiff, if_false, reduceIte, reduceCtorEq, decide_true, decide_false, Bool.not_true, Bool.not_false, beq_self_eq_true, beq_tf, beq_ft, aPick, List.map_cons, List.map_nil, List.nil_append, List.append_nil, List.getElem?_cons_zero, List.getElem?_cons_succ, go_call (P := Tryz.prog) (X := X) (S := S0) Tryz.func119 rfl rfl, ht2, faA3, Nat.reduceLeDiff]
  refine code_ret ?_
  refine ⟨rfl, _, ?_, rfl, (hB4.grow hg5).put (by decide) (Nat.le_of_ble_eq_true rfl), put4 (hB4.grow hg5).blk (hC4.grow hg5 hB4.n1), (hk.trans (Kept.of hg5)).trans (Kept.put _ _ _ _ _)⟩
  simp only [aResults, Tryz.results118, aRes, regAt_set, Nat.reduceEqDiff, reduceIte]
end

noncomputable section
variable {X : FuncId → List Value → Mem → Option (Value × Mem)}

set_option maxHeartbeats 4000000 in
theorem alloc_great {g ap n : Nat} {μ μ2 : Mem} {v : Value} (h1 : 16 < n) (h2 : n ≤ 256) (hv : aFun Tryz.prog (aCode Tryz.prog X S0 g) 118 [.pointer (some ⟨ap, 0, none⟩), .int .i64 (.ofNat n)] μ = some (.tuple #[v, .bool true], μ2)) :
    aFun Tryz.prog (aCode Tryz.prog X S0 (g + 9)) 81 [.pointer (some ⟨ap, 0, none⟩), .int .i64 (.ofNat n)] μ = some (.tuple #[v, .bool true], μ2) := by
  refine ends_eq ?_
  have w1 : ilt (.ofNat n) 1 = false := (ilt_nat n 1).trans (decide_eq_false (by omega))
  have w2 : ilt 256 (.ofNat n) = false := (ilt_nat 256 n).trans (decide_eq_false (by omega))
  have w3 : ilt 16 (.ofNat n) = true := (ilt_nat 16 n).trans (decide_eq_true h1)
  refine fun_enter Tryz.func81 rfl rfl (Nat.le_of_ble_eq_true rfl) ?_
  simp only [T.lay, Nat.zero_add, Tryz.ntmps81, Nat.reduceAdd]
  refine code_seq ?_
  refine code_region ?_ ?_
  · rfl
  simp only [run1, aOne, aP, aR, aA, aT, aCall, aCallVal, aev, regAt_set, aput_mk, aput_none, plainV, aNilCheck, aExtract, aBin, aInt, Addr.add, Nat.zero_add, ends_some, Nat.reduceLT, Nat.reduceAdd, if_true, then_normal, Nat.reduceEqDiff, if_false, reduceIte, reduceCtorEq, decide_true, decide_false, Bool.not_true, Bool.not_false, beq_self_eq_true, beq_tf, beq_ft, aPick, List.map_cons, List.map_nil, List.nil_append, List.append_nil, List.getElem?_cons_zero, List.getElem?_cons_succ]
  refine code_seq ?_
  refine code_block ?_
  refine code_seq ?_
  refine code_guards (gs := ?_) ?_ ?_
  rotate_left
  · rfl
  refine run2_true (by first | rfl | (simp only [wanted, aOne, aP, aR, aA, aT, aCall, aCallVal, aev, regAt_set, aput_mk, aput_none, plainV, aNilCheck, aExtract, aBin, aInt, Addr.add, Nat.zero_add, ends_some, Nat.reduceLT, Nat.reduceAdd, if_true, then_normal, Nat.reduceEqDiff, if_false, reduceIte, reduceCtorEq, decide_true, decide_false, Bool.not_true, Bool.not_false, beq_self_eq_true, beq_tf, beq_ft, aPick, List.map_cons, List.map_nil, List.nil_append, List.append_nil, List.getElem?_cons_zero, List.getElem?_cons_succ, w1, w2])) (by simp only [aOne, aP, aR, aA, aT, aCall, aCallVal, aev, regAt_set, aput_mk, aput_none, plainV, aNilCheck, aExtract, aBin, aInt, Addr.add, Nat.zero_add, ends_some, Nat.reduceLT, Nat.reduceAdd, if_true, then_normal, Nat.reduceEqDiff, if_false, reduceIte, reduceCtorEq, decide_true, decide_false, Bool.not_true, Bool.not_false, beq_self_eq_true, beq_tf, beq_ft, aPick, List.map_cons, List.map_nil, List.nil_append, List.append_nil, List.getElem?_cons_zero, List.getElem?_cons_succ, w1, w2]; try exact rfl) rfl ?_
  refine run2_true (by first | rfl | (simp only [wanted, aOne, aP, aR, aA, aT, aCall, aCallVal, aev, regAt_set, aput_mk, aput_none, plainV, aNilCheck, aExtract, aBin, aInt, Addr.add, Nat.zero_add, ends_some, Nat.reduceLT, Nat.reduceAdd, if_true, then_normal, Nat.reduceEqDiff, if_false, reduceIte, reduceCtorEq, decide_true, decide_false, Bool.not_true, Bool.not_false, beq_self_eq_true, beq_tf, beq_ft, aPick, List.map_cons, List.map_nil, List.nil_append, List.append_nil, List.getElem?_cons_zero, List.getElem?_cons_succ, w1, w2])) (by simp only [aOne, aP, aR, aA, aT, aCall, aCallVal, aev, regAt_set, aput_mk, aput_none, plainV, aNilCheck, aExtract, aBin, aInt, Addr.add, Nat.zero_add, ends_some, Nat.reduceLT, Nat.reduceAdd, if_true, then_normal, Nat.reduceEqDiff, if_false, reduceIte, reduceCtorEq, decide_true, decide_false, Bool.not_true, Bool.not_false, beq_self_eq_true, beq_tf, beq_ft, aPick, List.map_cons, List.map_nil, List.nil_append, List.append_nil, List.getElem?_cons_zero, List.getElem?_cons_succ, w1, w2]; try exact rfl) rfl ?_
  refine run2_true (by first | rfl | (simp only [wanted, aOne, aP, aR, aA, aT, aCall, aCallVal, aev, regAt_set, aput_mk, aput_none, plainV, aNilCheck, aExtract, aBin, aInt, Addr.add, Nat.zero_add, ends_some, Nat.reduceLT, Nat.reduceAdd, if_true, then_normal, Nat.reduceEqDiff, if_false, reduceIte, reduceCtorEq, decide_true, decide_false, Bool.not_true, Bool.not_false, beq_self_eq_true, beq_tf, beq_ft, aPick, List.map_cons, List.map_nil, List.nil_append, List.append_nil, List.getElem?_cons_zero, List.getElem?_cons_succ, w1, w2])) (by simp only [aOne, aP, aR, aA, aT, aCall, aCallVal, aev, regAt_set, aput_mk, aput_none, plainV, aNilCheck, aExtract, aBin, aInt, Addr.add, Nat.zero_add, ends_some, Nat.reduceLT, Nat.reduceAdd, if_true, then_normal, Nat.reduceEqDiff, if_false, reduceIte, reduceCtorEq, decide_true, decide_false, Bool.not_true, Bool.not_false, beq_self_eq_true, beq_tf, beq_ft, aPick, List.map_cons, List.map_nil, List.nil_append, List.append_nil, List.getElem?_cons_zero, List.getElem?_cons_succ, w1, w2]; try exact rfl) rfl ?_
  refine run2_true (by first | rfl | (simp only [wanted, aOne, aP, aR, aA, aT, aCall, aCallVal, aev, regAt_set, aput_mk, aput_none, plainV, aNilCheck, aExtract, aBin, aInt, Addr.add, Nat.zero_add, ends_some, Nat.reduceLT, Nat.reduceAdd, if_true, then_normal, Nat.reduceEqDiff, if_false, reduceIte, reduceCtorEq, decide_true, decide_false, Bool.not_true, Bool.not_false, beq_self_eq_true, beq_tf, beq_ft, aPick, List.map_cons, List.map_nil, List.nil_append, List.append_nil, List.getElem?_cons_zero, List.getElem?_cons_succ, w1, w2])) (by simp only [aOne, aP, aR, aA, aT, aCall, aCallVal, aev, regAt_set, aput_mk, aput_none, plainV, aNilCheck, aExtract, aBin, aInt, Addr.add, Nat.zero_add, ends_some, Nat.reduceLT, Nat.reduceAdd, if_true, then_normal, Nat.reduceEqDiff, if_false, reduceIte, reduceCtorEq, decide_true, decide_false, Bool.not_true, Bool.not_false, beq_self_eq_true, beq_tf, beq_ft, aPick, List.map_cons, List.map_nil, List.nil_append, List.append_nil, List.getElem?_cons_zero, List.getElem?_cons_succ, w1, w2]; try exact rfl) rfl ?_
  refine run2_true (by first | rfl | (simp only [wanted, aOne, aP, aR, aA, aT, aCall, aCallVal, aev, regAt_set, aput_mk, aput_none, plainV, aNilCheck, aExtract, aBin, aInt, Addr.add, Nat.zero_add, ends_some, Nat.reduceLT, Nat.reduceAdd, if_true, then_normal, Nat.reduceEqDiff, if_false, reduceIte, reduceCtorEq, decide_true, decide_false, Bool.not_true, Bool.not_false, beq_self_eq_true, beq_tf, beq_ft, aPick, List.map_cons, List.map_nil, List.nil_append, List.append_nil, List.getElem?_cons_zero, List.getElem?_cons_succ, w1, w2])) (by simp only [aOne, aP, aR, aA, aT, aCall, aCallVal, aev, regAt_set, aput_mk, aput_none, plainV, aNilCheck, aExtract, aBin, aInt, Addr.add, Nat.zero_add, ends_some, Nat.reduceLT, Nat.reduceAdd, if_true, then_normal, Nat.reduceEqDiff, if_false, reduceIte, reduceCtorEq, decide_true, decide_false, Bool.not_true, Bool.not_false, beq_self_eq_true, beq_tf, beq_ft, aPick, List.map_cons, List.map_nil, List.nil_append, List.append_nil, List.getElem?_cons_zero, List.getElem?_cons_succ, w1, w2]; try exact rfl) rfl ?_
  refine run2_true (by first | rfl | (simp only [wanted, aOne, aP, aR, aA, aT, aCall, aCallVal, aev, regAt_set, aput_mk, aput_none, plainV, aNilCheck, aExtract, aBin, aInt, Addr.add, Nat.zero_add, ends_some, Nat.reduceLT, Nat.reduceAdd, if_true, then_normal, Nat.reduceEqDiff, if_false, reduceIte, reduceCtorEq, decide_true, decide_false, Bool.not_true, Bool.not_false, beq_self_eq_true, beq_tf, beq_ft, aPick, List.map_cons, List.map_nil, List.nil_append, List.append_nil, List.getElem?_cons_zero, List.getElem?_cons_succ, w1, w2])) (by simp only [aOne, aP, aR, aA, aT, aCall, aCallVal, aev, regAt_set, aput_mk, aput_none, plainV, aNilCheck, aExtract, aBin, aInt, Addr.add, Nat.zero_add, ends_some, Nat.reduceLT, Nat.reduceAdd, if_true, then_normal, Nat.reduceEqDiff, if_false, reduceIte, reduceCtorEq, decide_true, decide_false, Bool.not_true, Bool.not_false, beq_self_eq_true, beq_tf, beq_ft, aPick, List.map_cons, List.map_nil, List.nil_append, List.append_nil, List.getElem?_cons_zero, List.getElem?_cons_succ, w1, w2]; try exact rfl) rfl ?_
  refine run2_true (by first | rfl | (simp only [wanted, aOne, aP, aR, aA, aT, aCall, aCallVal, aev, regAt_set, aput_mk, aput_none, plainV, aNilCheck, aExtract, aBin, aInt, Addr.add, Nat.zero_add, ends_some, Nat.reduceLT, Nat.reduceAdd, if_true, then_normal, Nat.reduceEqDiff, if_false, reduceIte, reduceCtorEq, decide_true, decide_false, Bool.not_true, Bool.not_false, beq_self_eq_true, beq_tf, beq_ft, aPick, List.map_cons, List.map_nil, List.nil_append, List.append_nil, List.getElem?_cons_zero, List.getElem?_cons_succ, w1, w2])) (by simp only [aOne, aP, aR, aA, aT, aCall, aCallVal, aev, regAt_set, aput_mk, aput_none, plainV, aNilCheck, aExtract, aBin, aInt, Addr.add, Nat.zero_add, ends_some, Nat.reduceLT, Nat.reduceAdd, if_true, then_normal, Nat.reduceEqDiff, if_false, reduceIte, reduceCtorEq, decide_true, decide_false, Bool.not_true, Bool.not_false, beq_self_eq_true, beq_tf, beq_ft, aPick, List.map_cons, List.map_nil, List.nil_append, List.append_nil, List.getElem?_cons_zero, List.getElem?_cons_succ, w1, w2]; try exact rfl) rfl ?_
  simp only [run2, ends_some, then_normal]
  refine code_cond_false ?_ ?_
  · simp only [aev, regAt_set, Nat.reduceEqDiff, reduceIte]
  refine code_seq ?_
  refine code_region ?_ ?_
  · rfl
  simp only [run1, aOne, aP, aR, aA, aT, aCall, aCallVal, aev, regAt_set, aput_mk, aput_none, plainV, aNilCheck, aExtract, aBin, aInt, Addr.add, Nat.zero_add, ends_some, Nat.reduceLT, Nat.reduceAdd, if_true, then_normal, Nat.reduceEqDiff, if_false, reduceIte, reduceCtorEq, decide_true, decide_false, Bool.not_true, Bool.not_false, beq_self_eq_true, beq_tf, beq_ft, aPick, List.map_cons, List.map_nil, List.nil_append, List.append_nil, List.getElem?_cons_zero, List.getElem?_cons_succ, w3]
  refine code_cond_true ?_ ?_
  · simp only [aev, regAt_set, Nat.reduceEqDiff, reduceIte]
  refine code_seq ?_
  refine code_region ?_ ?_
  · rfl
  simp only [run1, aOne, aP, aR, aA, aT, aCall, aCallVal, aev, regAt_set, aput_mk, aput_none, plainV, aNilCheck, aExtract, aBin, aInt, Addr.add, Nat.zero_add, ends_some, Nat.reduceLT, Nat.reduceAdd, if_true, then_normal, Nat.reduceEqDiff, if_false, reduceIte, reduceCtorEq, decide_true, decide_false, Bool.not_true, Bool.not_false, beq_self_eq_true, beq_tf, beq_ft, aPick, List.map_cons, List.map_nil, List.nil_append, List.append_nil, List.getElem?_cons_zero, List.getElem?_cons_succ, go_call (P := Tryz.prog) (X := X) (S := S0) Tryz.func118 rfl rfl, hv]
  refine code_ret ?_
  simp only [blockC, then_ret]
  refine ⟨rfl, _, ?_, rfl, rfl⟩
  simp only [aResults, Tryz.results81, aRes, regAt_set, Nat.reduceEqDiff, reduceIte]

set_option maxHeartbeats 4000000 in
theorem small_old {g ap wb lb N L n sf st gf gt nx : Nat} {ws : Nat → Nat} {ln : Nat → Bool} {μ : Mem} (hg : 40 ≤ g) (hB : AB μ ap wb lb N L ws ln) (hC : AC μ ap sf st gf gt nx) (hst : sf ≤ st) (hsT : st < 1000000) (hn : sf + n ≤ st) (h1 : 1 ≤ n) (h2 : n ≤ 16) :
    EndsF (aFun Tryz.prog (aCode Tryz.prog X S0 g) 81 [.pointer (some ⟨ap, 0, none⟩), .int .i64 (.ofNat n)] μ) fun v μ' => v = .tuple #[.int .i64 (.ofNat sf), .bool true] ∧ AB μ' ap wb lb N L ws ln ∧ AC μ' ap (sf + n) st gf gt nx ∧ Kept μ μ' ap lb := by
  obtain ⟨k, rfl⟩ := Nat.exists_eq_add_of_le' hg
  have ht : ∀ g, 20 ≤ g → aFun Tryz.prog (aCode Tryz.prog X S0 g) 119 [.pointer (some ⟨ap, 2, none⟩), .int .i64 (.ofNat n)] μ = some (.tuple #[.int .i64 (.ofNat sf), .bool true], putL ⟨μ.obs, μ.next + 11⟩ ap 2 [.int .i64 (.ofNat (sf + n))]) := fun g hg =>
    takeok_eq hg hB.blk (by decide) hC.c2 hC.c3 hst (by omega) hn
  have w1 : ilt (.ofNat n) 1 = false := (ilt_nat n 1).trans (decide_eq_false (by omega))
  have w2 : ilt 256 (.ofNat n) = false := (ilt_nat 256 n).trans (decide_eq_false (by omega))
  have w3 : ilt 16 (.ofNat n) = false := (ilt_nat 16 n).trans (decide_eq_false (by omega))
  have hg1 := grow_up μ 11
  refine fun_enter Tryz.func81 rfl rfl (Nat.le_of_ble_eq_true rfl) ?_
  simp only [T.lay, Nat.zero_add, Tryz.ntmps81, Nat.reduceAdd]
  refine code_seq ?_
  refine code_region ?_ ?_
  · rfl
  simp only [run1, aOne, aP, aR, aA, aT, aCall, aCallVal, aev, regAt_set, aput_mk, aput_none, plainV, aNilCheck, aExtract, aBin, aInt, Addr.add, Nat.zero_add, ends_some, Nat.reduceLT, Nat.reduceAdd, if_true, then_normal, Nat.reduceEqDiff, if_false, reduceIte, reduceCtorEq, decide_true, decide_false, Bool.not_true, Bool.not_false, beq_self_eq_true, beq_tf, beq_ft, aPick, List.map_cons, List.map_nil, List.nil_append, List.append_nil, List.getElem?_cons_zero, List.getElem?_cons_succ]
  refine code_seq ?_
  refine code_block ?_
  refine code_seq ?_
  refine code_guards (gs := ?_) ?_ ?_
  rotate_left
  · rfl
  refine run2_true (by first | rfl | (simp only [wanted, aOne, aP, aR, aA, aT, aCall, aCallVal, aev, regAt_set, aput_mk, aput_none, plainV, aNilCheck, aExtract, aBin, aInt, Addr.add, Nat.zero_add, ends_some, Nat.reduceLT, Nat.reduceAdd, if_true, then_normal, Nat.reduceEqDiff, if_false, reduceIte, reduceCtorEq, decide_true, decide_false, Bool.not_true, Bool.not_false, beq_self_eq_true, beq_tf, beq_ft, aPick, List.map_cons, List.map_nil, List.nil_append, List.append_nil, List.getElem?_cons_zero, List.getElem?_cons_succ, w1, w2])) (by simp only [aOne, aP, aR, aA, aT, aCall, aCallVal, aev, regAt_set, aput_mk, aput_none, plainV, aNilCheck, aExtract, aBin, aInt, Addr.add, Nat.zero_add, ends_some, Nat.reduceLT, Nat.reduceAdd, if_true, then_normal, Nat.reduceEqDiff, if_false, reduceIte, reduceCtorEq, decide_true, decide_false, Bool.not_true, Bool.not_false, beq_self_eq_true, beq_tf, beq_ft, aPick, List.map_cons, List.map_nil, List.nil_append, List.append_nil, List.getElem?_cons_zero, List.getElem?_cons_succ, w1, w2]; try exact rfl) rfl ?_
  refine run2_true (by first | rfl | (simp only [wanted, aOne, aP, aR, aA, aT, aCall, aCallVal, aev, regAt_set, aput_mk, aput_none, plainV, aNilCheck, aExtract, aBin, aInt, Addr.add, Nat.zero_add, ends_some, Nat.reduceLT, Nat.reduceAdd, if_true, then_normal, Nat.reduceEqDiff, if_false, reduceIte, reduceCtorEq, decide_true, decide_false, Bool.not_true, Bool.not_false, beq_self_eq_true, beq_tf, beq_ft, aPick, List.map_cons, List.map_nil, List.nil_append, List.append_nil, List.getElem?_cons_zero, List.getElem?_cons_succ, w1, w2])) (by simp only [aOne, aP, aR, aA, aT, aCall, aCallVal, aev, regAt_set, aput_mk, aput_none, plainV, aNilCheck, aExtract, aBin, aInt, Addr.add, Nat.zero_add, ends_some, Nat.reduceLT, Nat.reduceAdd, if_true, then_normal, Nat.reduceEqDiff, if_false, reduceIte, reduceCtorEq, decide_true, decide_false, Bool.not_true, Bool.not_false, beq_self_eq_true, beq_tf, beq_ft, aPick, List.map_cons, List.map_nil, List.nil_append, List.append_nil, List.getElem?_cons_zero, List.getElem?_cons_succ, w1, w2]; try exact rfl) rfl ?_
  refine run2_true (by first | rfl | (simp only [wanted, aOne, aP, aR, aA, aT, aCall, aCallVal, aev, regAt_set, aput_mk, aput_none, plainV, aNilCheck, aExtract, aBin, aInt, Addr.add, Nat.zero_add, ends_some, Nat.reduceLT, Nat.reduceAdd, if_true, then_normal, Nat.reduceEqDiff, if_false, reduceIte, reduceCtorEq, decide_true, decide_false, Bool.not_true, Bool.not_false, beq_self_eq_true, beq_tf, beq_ft, aPick, List.map_cons, List.map_nil, List.nil_append, List.append_nil, List.getElem?_cons_zero, List.getElem?_cons_succ, w1, w2])) (by simp only [aOne, aP, aR, aA, aT, aCall, aCallVal, aev, regAt_set, aput_mk, aput_none, plainV, aNilCheck, aExtract, aBin, aInt, Addr.add, Nat.zero_add, ends_some, Nat.reduceLT, Nat.reduceAdd, if_true, then_normal, Nat.reduceEqDiff, if_false, reduceIte, reduceCtorEq, decide_true, decide_false, Bool.not_true, Bool.not_false, beq_self_eq_true, beq_tf, beq_ft, aPick, List.map_cons, List.map_nil, List.nil_append, List.append_nil, List.getElem?_cons_zero, List.getElem?_cons_succ, w1, w2]; try exact rfl) rfl ?_
  refine run2_true (by first | rfl | (simp only [wanted, aOne, aP, aR, aA, aT, aCall, aCallVal, aev, regAt_set, aput_mk, aput_none, plainV, aNilCheck, aExtract, aBin, aInt, Addr.add, Nat.zero_add, ends_some, Nat.reduceLT, Nat.reduceAdd, if_true, then_normal, Nat.reduceEqDiff, if_false, reduceIte, reduceCtorEq, decide_true, decide_false, Bool.not_true, Bool.not_false, beq_self_eq_true, beq_tf, beq_ft, aPick, List.map_cons, List.map_nil, List.nil_append, List.append_nil, List.getElem?_cons_zero, List.getElem?_cons_succ, w1, w2])) (by simp only [aOne, aP, aR, aA, aT, aCall, aCallVal, aev, regAt_set, aput_mk, aput_none, plainV, aNilCheck, aExtract, aBin, aInt, Addr.add, Nat.zero_add, ends_some, Nat.reduceLT, Nat.reduceAdd, if_true, then_normal, Nat.reduceEqDiff, if_false, reduceIte, reduceCtorEq, decide_true, decide_false, Bool.not_true, Bool.not_false, beq_self_eq_true, beq_tf, beq_ft, aPick, List.map_cons, List.map_nil, List.nil_append, List.append_nil, List.getElem?_cons_zero, List.getElem?_cons_succ, w1, w2]; try exact rfl) rfl ?_
  refine run2_true (by first | rfl | (simp only [wanted, aOne, aP, aR, aA, aT, aCall, aCallVal, aev, regAt_set, aput_mk, aput_none, plainV, aNilCheck, aExtract, aBin, aInt, Addr.add, Nat.zero_add, ends_some, Nat.reduceLT, Nat.reduceAdd, if_true, then_normal, Nat.reduceEqDiff, if_false, reduceIte, reduceCtorEq, decide_true, decide_false, Bool.not_true, Bool.not_false, beq_self_eq_true, beq_tf, beq_ft, aPick, List.map_cons, List.map_nil, List.nil_append, List.append_nil, List.getElem?_cons_zero, List.getElem?_cons_succ, w1, w2])) (by simp only [aOne, aP, aR, aA, aT, aCall, aCallVal, aev, regAt_set, aput_mk, aput_none, plainV, aNilCheck, aExtract, aBin, aInt, Addr.add, Nat.zero_add, ends_some, Nat.reduceLT, Nat.reduceAdd, if_true, then_normal, Nat.reduceEqDiff, if_false, reduceIte, reduceCtorEq, decide_true, decide_false, Bool.not_true, Bool.not_false, beq_self_eq_true, beq_tf, beq_ft, aPick, List.map_cons, List.map_nil, List.nil_append, List.append_nil, List.getElem?_cons_zero, List.getElem?_cons_succ, w1, w2]; try exact rfl) rfl ?_
  refine run2_true (by first | rfl | (simp only [wanted, aOne, aP, aR, aA, aT, aCall, aCallVal, aev, regAt_set, aput_mk, aput_none, plainV, aNilCheck, aExtract, aBin, aInt, Addr.add, Nat.zero_add, ends_some, Nat.reduceLT, Nat.reduceAdd, if_true, then_normal, Nat.reduceEqDiff, if_false, reduceIte, reduceCtorEq, decide_true, decide_false, Bool.not_true, Bool.not_false, beq_self_eq_true, beq_tf, beq_ft, aPick, List.map_cons, List.map_nil, List.nil_append, List.append_nil, List.getElem?_cons_zero, List.getElem?_cons_succ, w1, w2])) (by simp only [aOne, aP, aR, aA, aT, aCall, aCallVal, aev, regAt_set, aput_mk, aput_none, plainV, aNilCheck, aExtract, aBin, aInt, Addr.add, Nat.zero_add, ends_some, Nat.reduceLT, Nat.reduceAdd, if_true, then_normal, Nat.reduceEqDiff, if_false, reduceIte, reduceCtorEq, decide_true, decide_false, Bool.not_true, Bool.not_false, beq_self_eq_true, beq_tf, beq_ft, aPick, List.map_cons, List.map_nil, List.nil_append, List.append_nil, List.getElem?_cons_zero, List.getElem?_cons_succ, w1, w2]; try exact rfl) rfl ?_
  refine run2_true (by first | rfl | (simp only [wanted, aOne, aP, aR, aA, aT, aCall, aCallVal, aev, regAt_set, aput_mk, aput_none, plainV, aNilCheck, aExtract, aBin, aInt, Addr.add, Nat.zero_add, ends_some, Nat.reduceLT, Nat.reduceAdd, if_true, then_normal, Nat.reduceEqDiff, if_false, reduceIte, reduceCtorEq, decide_true, decide_false, Bool.not_true, Bool.not_false, beq_self_eq_true, beq_tf, beq_ft, aPick, List.map_cons, List.map_nil, List.nil_append, List.append_nil, List.getElem?_cons_zero, List.getElem?_cons_succ, w1, w2])) (by simp only [aOne, aP, aR, aA, aT, aCall, aCallVal, aev, regAt_set, aput_mk, aput_none, plainV, aNilCheck, aExtract, aBin, aInt, Addr.add, Nat.zero_add, ends_some, Nat.reduceLT, Nat.reduceAdd, if_true, then_normal, Nat.reduceEqDiff, if_false, reduceIte, reduceCtorEq, decide_true, decide_false, Bool.not_true, Bool.not_false, beq_self_eq_true, beq_tf, beq_ft, aPick, List.map_cons, List.map_nil, List.nil_append, List.append_nil, List.getElem?_cons_zero, List.getElem?_cons_succ, w1, w2]; try exact rfl) rfl ?_
  simp only [run2, ends_some, then_normal]
  refine code_cond_false ?_ ?_
  · simp only [aev, regAt_set, Nat.reduceEqDiff, reduceIte]
  refine code_seq ?_
  refine code_region ?_ ?_
  · rfl
  simp only [run1, aOne, aP, aR, aA, aT, aCall, aCallVal, aev, regAt_set, aput_mk, aput_none, plainV, aNilCheck, aExtract, aBin, aInt, Addr.add, Nat.zero_add, ends_some, Nat.reduceLT, Nat.reduceAdd, if_true, then_normal, Nat.reduceEqDiff, if_false, reduceIte, reduceCtorEq, decide_true, decide_false, Bool.not_true, Bool.not_false, beq_self_eq_true, beq_tf, beq_ft, aPick, List.map_cons, List.map_nil, List.nil_append, List.append_nil, List.getElem?_cons_zero, List.getElem?_cons_succ, w3]
  refine code_cond_false ?_ ?_
  · simp only [aev, regAt_set, Nat.reduceEqDiff, reduceIte]
  refine code_skip ?_
  simp only [blockC, then_normal]
  refine code_seq ?_
  refine code_seq ?_
  refine code_region ?_ ?_
  · rfl
  simp only [run1, aOne, aP, aR, aA, aT, aCall, aCallVal, aev, regAt_set, aput_mk, aput_none, plainV, aNilCheck, aExtract, aBin, aInt, Addr.add, Nat.zero_add, ends_some, Nat.reduceLT, Nat.reduceAdd, if_true, then_normal, Nat.reduceEqDiff, if_false, reduceIte, reduceCtorEq, decide_true, decide_false, Bool.not_true, Bool.not_false, beq_self_eq_true, beq_tf, beq_ft, aPick, List.map_cons, List.map_nil, List.nil_append, List.append_nil, List.getElem?_cons_zero, List.getElem?_cons_succ, faA2, go_call (P := Tryz.prog) (X := X) (S := S0) Tryz.func119 rfl rfl, ht, Nat.reduceLeDiff]
  refine code_seq ?_
  refine code_region ?_ ?_
  · rfl
  simp only [run1, aOne, aP, aR, aA, aT, aCall, aCallVal, aev, regAt_set, aput_mk, aput_none, plainV, aNilCheck, aExtract, aBin, aInt, Addr.add, Nat.zero_add, ends_some, Nat.reduceLT, Nat.reduceAdd, if_true, then_normal, Nat.reduceEqDiff, if_false, reduceIte, reduceCtorEq, decide_true, decide_false, Bool.not_true, Bool.not_false, beq_self_eq_true, beq_tf, beq_ft, aPick, List.map_cons, List.map_nil, List.nil_append, List.append_nil, List.getElem?_cons_zero, List.getElem?_cons_succ]
  refine code_cond_true ?_ ?_
  · simp only [aev, regAt_set, Nat.reduceEqDiff, reduceIte]
  refine code_seq ?_
  refine code_region ?_ ?_
  · rfl
  simp only [run1, aOne, aP, aR, aA, aT, aCall, aCallVal, aev, regAt_set, aput_mk, aput_none, plainV, aNilCheck, aExtract, aBin, aInt, Addr.add, Nat.zero_add, ends_some, Nat.reduceLT, Nat.reduceAdd, if_true, then_normal, Nat.reduceEqDiff, if_false, reduceIte, reduceCtorEq, decide_true, decide_false, Bool.not_true, Bool.not_false, beq_self_eq_true, beq_tf, beq_ft, aPick, List.map_cons, List.map_nil, List.nil_append, List.append_nil, List.getElem?_cons_zero, List.getElem?_cons_succ]
  refine code_ret ?_
  refine ⟨rfl, _, ?_, rfl, (hB.grow hg1).put (by decide) (Nat.le_of_ble_eq_true rfl), put2 (hB.grow hg1).blk (hC.grow hg1 hB.n1), (Kept.of hg1).trans (Kept.put _ _ _ _ _)⟩
  simp only [aResults, Tryz.results81, aRes, regAt_set, Nat.reduceEqDiff, reduceIte]

set_option maxHeartbeats 4000000 in
theorem small_new {g ap wb lb N L n sf st gf gt nx t fa ta : Nat} {ws : Nat → Nat} {ln : Nat → Bool} {μ : Mem} (hg : 300 ≤ g) (hB : AB μ ap wb lb N L ws ln) (hC : AC μ ap sf st gf gt nx) (hst : sf ≤ st) (hsT : st < 1000000) (hn : st - sf < n) (h1 : 1 ≤ n) (h2 : n ≤ 16)
    (h16 : nx % 16 = 0) (ht : t = nx + 16) (htL : t < L) (hln : ∀ k, nx ≤ k → k < t → ln k = false) (hfa : fa = nx * 16) (hta : ta = t * 16) :
    EndsF (aFun Tryz.prog (aCode Tryz.prog X S0 g) 81 [.pointer (some ⟨ap, 0, none⟩), .int .i64 (.ofNat n)] μ) fun v μ' => v = .tuple #[.int .i64 (.ofNat fa), .bool true] ∧ AB μ' ap wb lb N L ws (fill ln nx t) ∧ AC μ' ap (fa + n) ta gf gt t ∧ Kept μ μ' ap lb := by
  obtain ⟨k, rfl⟩ := Nat.exists_eq_add_of_le' hg
  have htk : ∀ g, 20 ≤ g → aFun Tryz.prog (aCode Tryz.prog X S0 g) 119 [.pointer (some ⟨ap, 2, none⟩), .int .i64 (.ofNat n)] μ = some (.tuple #[.int .i64 0, .bool false], ⟨μ.obs, μ.next + 11⟩) := fun g hg =>
    takeno_eq hg hC.c2 hC.c3 hst (by omega) hn
  have w1 : ilt (.ofNat n) 1 = false := (ilt_nat n 1).trans (decide_eq_false (by omega))
  have w2 : ilt 256 (.ofNat n) = false := (ilt_nat 256 n).trans (decide_eq_false (by omega))
  have w3 : ilt 16 (.ofNat n) = false := (ilt_nat 16 n).trans (decide_eq_false (by omega))
  have hg1 := grow_up μ 11
  have hB1 := hB.grow hg1
  have hC1 := hC.grow hg1 hB.n1
  have hN1 := hB.N1
  have hL1 := hB.L1
  have hfd : ∀ g, 90 ≤ g → aFun Tryz.prog (aCode Tryz.prog X S0 g) 120 [.pointer (some ⟨ap, 0, none⟩), .int .i64 (.ofNat nx), .int .i64 1] ⟨μ.obs, μ.next + 11⟩ = some (.tuple #[.int .i64 (.ofNat nx), .int .i64 (.ofNat t), .bool true], ⟨μ.obs, μ.next + 11⟩) := fun g hg =>
    find_eq hg hB1.lines h16 ht htL hL1 hln
  have hc8 := hC1.c8
  obtain ⟨v3, μ3, hcl, hv3, hL3, hn3, hk3⟩ := claim (X := X) (f := k + 293) (a := nx) (t := t) (by omega) hB1.lines hB1.d1 hB1.n1 hB1.n3 (by omega) (by omega) (by omega) hL1
  rw [← hfa, ← hta] at hv3
  subst hv3
  have e3 : ∀ p, cellsAt μ3 ap p = cellsAt ⟨μ.obs, μ.next + 11⟩ ap p := fun p => by unfold cellsAt; rw [hk3 ap hB1.n1 hB1.d1]
  have hB3 : AB μ3 ap wb lb N L ws (fill ln nx t) := ⟨hB1.arena.keep (hk3 ap hB1.n1 hB1.d1) (hk3 wb hB1.n2 hB1.d2), hL3, by unfold Blk; rw [hk3 ap hB1.n1 hB1.d1]; exact hB1.blk,
    by rw [hn3]; exact Nat.lt_succ_of_lt hB1.n1, by rw [hn3]; exact Nat.lt_succ_of_lt hB1.n2, by rw [hn3]; exact Nat.lt_succ_of_lt hB1.n3, hB1.d1, hB1.d2, hN1, hL1⟩
  have hC3 : AC μ3 ap sf st gf gt nx := ⟨(e3 _).trans hC1.c2, (e3 _).trans hC1.c3, (e3 _).trans hC1.c4, (e3 _).trans hC1.c5, (e3 _).trans hC1.c8⟩
  have hs1 : aStore Tryz.prog μ3 160 (.pointer (some ⟨ap, 2, none⟩)) (.agg #[.int .i64 (.ofNat fa), .int .i64 (.ofNat ta)]) = some (undef, putL μ3 ap 2 [.int .i64 (.ofNat fa), .int .i64 (.ofNat ta)]) := store_puts (t := 160) (o := 2) (vs := [.int .i64 (.ofNat fa), .int .i64 (.ofNat ta)]) iR rfl rfl hB3.blk (by show 2 + 2 ≤ 9; decide)
  have hB4 := hB3.put (o := 2) (vs := [.int .i64 (.ofNat fa), .int .i64 (.ofNat ta)]) (by decide) (by show 2 + 2 ≤ 9; decide)
  have hC4 := put22 (f' := fa) (t' := ta) hB3.blk hC3
  obtain ⟨μ4, hμ4⟩ : ∃ x, x = putL μ3 ap 2 [.int .i64 (.ofNat fa), .int .i64 (.ofNat ta)] := ⟨_, rfl⟩
  rw [← hμ4] at hs1 hB4 hC4
  have hs2 := store_put (t := 3) (v := .int .i64 (.ofNat t)) i3 rfl rfl hB4.blk (show 8 < 9 by decide)
  have hB5 := hB4.put (o := 8) (vs := [.int .i64 (.ofNat t)]) (by decide) (by show 8 + 1 ≤ 9; decide)
  have hC5 := put8 (f' := t) hB4.blk hC4
  obtain ⟨μ5, hμ5⟩ : ∃ x, x = putL μ4 ap 8 [.int .i64 (.ofNat t)] := ⟨_, rfl⟩
  rw [← hμ5] at hs2 hB5 hC5
  have ht2 : ∀ g, 20 ≤ g → aFun Tryz.prog (aCode Tryz.prog X S0 g) 119 [.pointer (some ⟨ap, 2, none⟩), .int .i64 (.ofNat n)] μ5 = some (.tuple #[.int .i64 (.ofNat fa), .bool true], putL ⟨μ5.obs, μ5.next + 11⟩ ap 2 [.int .i64 (.ofNat (fa + n))]) := fun g hg =>
    takeok_eq hg hB5.blk (by decide) hC5.c2 hC5.c3 (by omega) (by omega) (by omega)
  have hg5 := grow_up μ5 11
  have hk : Kept μ μ5 ap lb := by
    refine (Kept.of hg1).trans ⟨?_, fun i hi h1 h2 => ?_⟩
    · rw [hμ5, putL_next, hμ4, putL_next, hn3]; exact Nat.le_succ _
    · rw [hμ5, putL_get _ _ _ _ h1, hμ4, putL_get _ _ _ _ h1]; exact hk3 i hi h2
  refine fun_enter Tryz.func81 rfl rfl (Nat.le_of_ble_eq_true rfl) ?_
  simp only [T.lay, Nat.zero_add, Tryz.ntmps81, Nat.reduceAdd]
  refine code_seq ?_
  refine code_region ?_ ?_
  · rfl
  simp only [run1, aOne, aP, aR, aA, aT, aCall, aCallVal, aev, regAt_set, aput_mk, aput_none, plainV, aNilCheck, aExtract, aBin, aInt, Addr.add, Nat.zero_add, ends_some, Nat.reduceLT, Nat.reduceAdd, if_true, then_normal, Nat.reduceEqDiff, if_false, reduceIte, reduceCtorEq, decide_true, decide_false, Bool.not_true, Bool.not_false, beq_self_eq_true, beq_tf, beq_ft, aPick, List.map_cons, List.map_nil, List.nil_append, List.append_nil, List.getElem?_cons_zero, List.getElem?_cons_succ]
  refine code_seq ?_
  refine code_block ?_
  refine code_seq ?_
  refine code_guards (gs := ?_) ?_ ?_
  rotate_left
  · rfl
  refine run2_true (by first | rfl | (simp only [wanted, aOne, aP, aR, aA, aT, aCall, aCallVal, aev, regAt_set, aput_mk, aput_none, plainV, aNilCheck, aExtract, aBin, aInt, Addr.add, Nat.zero_add, ends_some, Nat.reduceLT, Nat.reduceAdd, if_true, then_normal, Nat.reduceEqDiff, if_false, reduceIte, reduceCtorEq, decide_true, decide_false, Bool.not_true, Bool.not_false, beq_self_eq_true, beq_tf, beq_ft, aPick, List.map_cons, List.map_nil, List.nil_append, List.append_nil, List.getElem?_cons_zero, List.getElem?_cons_succ, w1, w2])) (by simp only [aOne, aP, aR, aA, aT, aCall, aCallVal, aev, regAt_set, aput_mk, aput_none, plainV, aNilCheck, aExtract, aBin, aInt, Addr.add, Nat.zero_add, ends_some, Nat.reduceLT, Nat.reduceAdd, if_true, then_normal, Nat.reduceEqDiff, if_false, reduceIte, reduceCtorEq, decide_true, decide_false, Bool.not_true, Bool.not_false, beq_self_eq_true, beq_tf, beq_ft, aPick, List.map_cons, List.map_nil, List.nil_append, List.append_nil, List.getElem?_cons_zero, List.getElem?_cons_succ, w1, w2]; try exact rfl) rfl ?_
  refine run2_true (by first | rfl | (simp only [wanted, aOne, aP, aR, aA, aT, aCall, aCallVal, aev, regAt_set, aput_mk, aput_none, plainV, aNilCheck, aExtract, aBin, aInt, Addr.add, Nat.zero_add, ends_some, Nat.reduceLT, Nat.reduceAdd, if_true, then_normal, Nat.reduceEqDiff, if_false, reduceIte, reduceCtorEq, decide_true, decide_false, Bool.not_true, Bool.not_false, beq_self_eq_true, beq_tf, beq_ft, aPick, List.map_cons, List.map_nil, List.nil_append, List.append_nil, List.getElem?_cons_zero, List.getElem?_cons_succ, w1, w2])) (by simp only [aOne, aP, aR, aA, aT, aCall, aCallVal, aev, regAt_set, aput_mk, aput_none, plainV, aNilCheck, aExtract, aBin, aInt, Addr.add, Nat.zero_add, ends_some, Nat.reduceLT, Nat.reduceAdd, if_true, then_normal, Nat.reduceEqDiff, if_false, reduceIte, reduceCtorEq, decide_true, decide_false, Bool.not_true, Bool.not_false, beq_self_eq_true, beq_tf, beq_ft, aPick, List.map_cons, List.map_nil, List.nil_append, List.append_nil, List.getElem?_cons_zero, List.getElem?_cons_succ, w1, w2]; try exact rfl) rfl ?_
  refine run2_true (by first | rfl | (simp only [wanted, aOne, aP, aR, aA, aT, aCall, aCallVal, aev, regAt_set, aput_mk, aput_none, plainV, aNilCheck, aExtract, aBin, aInt, Addr.add, Nat.zero_add, ends_some, Nat.reduceLT, Nat.reduceAdd, if_true, then_normal, Nat.reduceEqDiff, if_false, reduceIte, reduceCtorEq, decide_true, decide_false, Bool.not_true, Bool.not_false, beq_self_eq_true, beq_tf, beq_ft, aPick, List.map_cons, List.map_nil, List.nil_append, List.append_nil, List.getElem?_cons_zero, List.getElem?_cons_succ, w1, w2])) (by simp only [aOne, aP, aR, aA, aT, aCall, aCallVal, aev, regAt_set, aput_mk, aput_none, plainV, aNilCheck, aExtract, aBin, aInt, Addr.add, Nat.zero_add, ends_some, Nat.reduceLT, Nat.reduceAdd, if_true, then_normal, Nat.reduceEqDiff, if_false, reduceIte, reduceCtorEq, decide_true, decide_false, Bool.not_true, Bool.not_false, beq_self_eq_true, beq_tf, beq_ft, aPick, List.map_cons, List.map_nil, List.nil_append, List.append_nil, List.getElem?_cons_zero, List.getElem?_cons_succ, w1, w2]; try exact rfl) rfl ?_
  refine run2_true (by first | rfl | (simp only [wanted, aOne, aP, aR, aA, aT, aCall, aCallVal, aev, regAt_set, aput_mk, aput_none, plainV, aNilCheck, aExtract, aBin, aInt, Addr.add, Nat.zero_add, ends_some, Nat.reduceLT, Nat.reduceAdd, if_true, then_normal, Nat.reduceEqDiff, if_false, reduceIte, reduceCtorEq, decide_true, decide_false, Bool.not_true, Bool.not_false, beq_self_eq_true, beq_tf, beq_ft, aPick, List.map_cons, List.map_nil, List.nil_append, List.append_nil, List.getElem?_cons_zero, List.getElem?_cons_succ, w1, w2])) (by simp only [aOne, aP, aR, aA, aT, aCall, aCallVal, aev, regAt_set, aput_mk, aput_none, plainV, aNilCheck, aExtract, aBin, aInt, Addr.add, Nat.zero_add, ends_some, Nat.reduceLT, Nat.reduceAdd, if_true, then_normal, Nat.reduceEqDiff, if_false, reduceIte, reduceCtorEq, decide_true, decide_false, Bool.not_true, Bool.not_false, beq_self_eq_true, beq_tf, beq_ft, aPick, List.map_cons, List.map_nil, List.nil_append, List.append_nil, List.getElem?_cons_zero, List.getElem?_cons_succ, w1, w2]; try exact rfl) rfl ?_
  refine run2_true (by first | rfl | (simp only [wanted, aOne, aP, aR, aA, aT, aCall, aCallVal, aev, regAt_set, aput_mk, aput_none, plainV, aNilCheck, aExtract, aBin, aInt, Addr.add, Nat.zero_add, ends_some, Nat.reduceLT, Nat.reduceAdd, if_true, then_normal, Nat.reduceEqDiff, if_false, reduceIte, reduceCtorEq, decide_true, decide_false, Bool.not_true, Bool.not_false, beq_self_eq_true, beq_tf, beq_ft, aPick, List.map_cons, List.map_nil, List.nil_append, List.append_nil, List.getElem?_cons_zero, List.getElem?_cons_succ, w1, w2])) (by simp only [aOne, aP, aR, aA, aT, aCall, aCallVal, aev, regAt_set, aput_mk, aput_none, plainV, aNilCheck, aExtract, aBin, aInt, Addr.add, Nat.zero_add, ends_some, Nat.reduceLT, Nat.reduceAdd, if_true, then_normal, Nat.reduceEqDiff, if_false, reduceIte, reduceCtorEq, decide_true, decide_false, Bool.not_true, Bool.not_false, beq_self_eq_true, beq_tf, beq_ft, aPick, List.map_cons, List.map_nil, List.nil_append, List.append_nil, List.getElem?_cons_zero, List.getElem?_cons_succ, w1, w2]; try exact rfl) rfl ?_
  refine run2_true (by first | rfl | (simp only [wanted, aOne, aP, aR, aA, aT, aCall, aCallVal, aev, regAt_set, aput_mk, aput_none, plainV, aNilCheck, aExtract, aBin, aInt, Addr.add, Nat.zero_add, ends_some, Nat.reduceLT, Nat.reduceAdd, if_true, then_normal, Nat.reduceEqDiff, if_false, reduceIte, reduceCtorEq, decide_true, decide_false, Bool.not_true, Bool.not_false, beq_self_eq_true, beq_tf, beq_ft, aPick, List.map_cons, List.map_nil, List.nil_append, List.append_nil, List.getElem?_cons_zero, List.getElem?_cons_succ, w1, w2])) (by simp only [aOne, aP, aR, aA, aT, aCall, aCallVal, aev, regAt_set, aput_mk, aput_none, plainV, aNilCheck, aExtract, aBin, aInt, Addr.add, Nat.zero_add, ends_some, Nat.reduceLT, Nat.reduceAdd, if_true, then_normal, Nat.reduceEqDiff, if_false, reduceIte, reduceCtorEq, decide_true, decide_false, Bool.not_true, Bool.not_false, beq_self_eq_true, beq_tf, beq_ft, aPick, List.map_cons, List.map_nil, List.nil_append, List.append_nil, List.getElem?_cons_zero, List.getElem?_cons_succ, w1, w2]; try exact rfl) rfl ?_
  refine run2_true (by first | rfl | (simp only [wanted, aOne, aP, aR, aA, aT, aCall, aCallVal, aev, regAt_set, aput_mk, aput_none, plainV, aNilCheck, aExtract, aBin, aInt, Addr.add, Nat.zero_add, ends_some, Nat.reduceLT, Nat.reduceAdd, if_true, then_normal, Nat.reduceEqDiff, if_false, reduceIte, reduceCtorEq, decide_true, decide_false, Bool.not_true, Bool.not_false, beq_self_eq_true, beq_tf, beq_ft, aPick, List.map_cons, List.map_nil, List.nil_append, List.append_nil, List.getElem?_cons_zero, List.getElem?_cons_succ, w1, w2])) (by simp only [aOne, aP, aR, aA, aT, aCall, aCallVal, aev, regAt_set, aput_mk, aput_none, plainV, aNilCheck, aExtract, aBin, aInt, Addr.add, Nat.zero_add, ends_some, Nat.reduceLT, Nat.reduceAdd, if_true, then_normal, Nat.reduceEqDiff, if_false, reduceIte, reduceCtorEq, decide_true, decide_false, Bool.not_true, Bool.not_false, beq_self_eq_true, beq_tf, beq_ft, aPick, List.map_cons, List.map_nil, List.nil_append, List.append_nil, List.getElem?_cons_zero, List.getElem?_cons_succ, w1, w2]; try exact rfl) rfl ?_
  simp only [run2, ends_some, then_normal]
  refine code_cond_false ?_ ?_
  · simp only [aev, regAt_set, Nat.reduceEqDiff, reduceIte]
  refine code_seq ?_
  refine code_region ?_ ?_
  · rfl
  simp only [run1, aOne, aP, aR, aA, aT, aCall, aCallVal, aev, regAt_set, aput_mk, aput_none, plainV, aNilCheck, aExtract, aBin, aInt, Addr.add, Nat.zero_add, ends_some, Nat.reduceLT, Nat.reduceAdd, if_true, then_normal, Nat.reduceEqDiff, if_false, reduceIte, reduceCtorEq, decide_true, decide_false, Bool.not_true, Bool.not_false, beq_self_eq_true, beq_tf, beq_ft, aPick, List.map_cons, List.map_nil, List.nil_append, List.append_nil, List.getElem?_cons_zero, List.getElem?_cons_succ, w3]
  refine code_cond_false ?_ ?_
  · simp only [aev, regAt_set, Nat.reduceEqDiff, reduceIte]
  refine code_skip ?_
  simp only [blockC, then_normal]
  refine code_seq ?_
  refine code_seq ?_
  refine code_region ?_ ?_
  · rfl
  simp only [run1, aOne, aP, aR, aA, aT, aCall, aCallVal, aev, regAt_set, aput_mk, aput_none, plainV, aNilCheck, aExtract, aBin, aInt, Addr.add, Nat.zero_add, ends_some, Nat.reduceLT, Nat.reduceAdd, if_true, then_normal, Nat.reduceEqDiff, if_false, reduceIte, reduceCtorEq, decide_true, decide_false, Bool.not_true, Bool.not_false, beq_self_eq_true, beq_tf, beq_ft, aPick, List.map_cons, List.map_nil, List.nil_append, List.append_nil, List.getElem?_cons_zero, List.getElem?_cons_succ, faA2, go_call (P := Tryz.prog) (X := X) (S := S0) Tryz.func119 rfl rfl, htk, Nat.reduceLeDiff]
  refine code_seq ?_
  refine code_region ?_ ?_
  · rfl
  simp only [run1, aOne, aP, aR, aA, aT, aCall, aCallVal, aev, regAt_set, aput_mk, aput_none, plainV, aNilCheck, aExtract, aBin, aInt, Addr.add, Nat.zero_add, ends_some, Nat.reduceLT, Nat.reduceAdd, if_true, then_normal, Nat.reduceEqDiff, if_false, reduceIte, reduceCtorEq, decide_true, decide_false, Bool.not_true, Bool.not_false, beq_self_eq_true, beq_tf, beq_ft, aPick, List.map_cons, List.map_nil, List.nil_append, List.append_nil, List.getElem?_cons_zero, List.getElem?_cons_succ]
  refine code_cond_false ?_ ?_
  · simp only [aev, regAt_set, Nat.reduceEqDiff, reduceIte]
  refine code_skip ?_
  simp only [then_normal]
  refine code_seq ?_
  refine code_region ?_ ?_
  · rfl
  simp only [run1, aOne, aP, aR, aA, aT, aCall, aCallVal, aev, regAt_set, aput_mk, aput_none, plainV, aNilCheck, aExtract, aBin, aInt, Addr.add, Nat.zero_add, ends_some, Nat.reduceLT, Nat.reduceAdd, if_true, then_normal, Nat.reduceEqDiff, if_false, reduceIte, reduceCtorEq, decide_true, decide_false, Bool.not_true, Bool.not_false, beq_self_eq_true, beq_tf, beq_ft, aPick, List.map_cons, List.map_nil, List.nil_append, List.append_nil, List.getElem?_cons_zero, List.getElem?_cons_succ, faA5, ld3, hc8, go_call (P := Tryz.prog) (X := X) (S := S0) Tryz.func120 rfl rfl, hfd, Nat.reduceLeDiff]
  refine code_seq ?_
  refine code_seq ?_
  refine code_region ?_ ?_
  · rfl
  simp only [run1, aOne, aP, aR, aA, aT, aCall, aCallVal, aev, regAt_set, aput_mk, aput_none, plainV, aNilCheck, aExtract, aBin, aInt, Addr.add, Nat.zero_add, ends_some, Nat.reduceLT, Nat.reduceAdd, if_true, then_normal, Nat.reduceEqDiff, if_false, reduceIte, reduceCtorEq, decide_true, decide_false, Bool.not_true, Bool.not_false, beq_self_eq_true, beq_tf, beq_ft, aPick, List.map_cons, List.map_nil, List.nil_append, List.append_nil, List.getElem?_cons_zero, List.getElem?_cons_succ]
  refine code_cond_false ?_ ?_
  · simp only [aev, regAt_set, Nat.reduceEqDiff, reduceIte]
  refine code_skip ?_
  simp only [then_normal]
  refine code_seq ?_
  refine code_region ?_ ?_
  · rfl
  simp only [run1, aOne, aP, aR, aA, aT, aCall, aCallVal, aev, regAt_set, aput_mk, aput_none, plainV, aNilCheck, aExtract, aBin, aInt, Addr.add, Nat.zero_add, ends_some, Nat.reduceLT, Nat.reduceAdd, if_true, then_normal, Nat.reduceEqDiff, if_false, reduceIte, reduceCtorEq, decide_true, decide_false, Bool.not_true, Bool.not_false, beq_self_eq_true, beq_tf, beq_ft, aPick, List.map_cons, List.map_nil, List.nil_append, List.append_nil, List.getElem?_cons_zero, List.getElem?_cons_succ, go_call (P := Tryz.prog) (X := X) (S := S0) Tryz.func121 rfl rfl, hcl, faA2, hs1]
  refine code_seq ?_
  refine code_region ?_ ?_
  · rfl
  simp only [run1, aOne, aP, aR, aA, aT, aCall, aCallVal, aev, regAt_set, aput_mk, aput_none, plainV, aNilCheck, aExtract, aBin, aInt, Addr.add, Nat.zero_add, ends_some, Nat.reduceLT, Nat.reduceAdd, if_true, then_normal, Nat.reduceEqDiff, if_false, reduceIte, reduceCtorEq, decide_true, decide_false, Bool.not_true, Bool.not_false, beq_self_eq_true, beq_tf, beq_ft, aPick, List.map_cons, List.map_nil, List.nil_append, List.append_nil, List.getElem?_cons_zero, List.getElem?_cons_succ, faA5, hs2]
  refine code_seq ?_
  refine code_region ?_ ?_
  · rfl
  simp only [run1, aOne, aP, aR, aA, aT, aCall, aCallVal, aev, regAt_set, aput_mk, aput_none, plainV, aNilCheck, aExtract, aBin, aInt, Addr.add, Nat.zero_add, ends_some, Nat.reduceLT, Nat.reduceAdd, if_true, then_normal, Nat.reduceEqDiff, if_false, reduceIte, reduceCtorEq, decide_true, decide_false, Bool.not_true, Bool.not_false, beq_self_eq_true, beq_tf, beq_ft, aPick, List.map_cons, List.map_nil, List.nil_append, List.append_nil, List.getElem?_cons_zero, List.getElem?_cons_succ, go_call (P := Tryz.prog) (X := X) (S := S0) Tryz.func119 rfl rfl, ht2, faA2, Nat.reduceLeDiff]
  refine code_ret ?_
  refine ⟨rfl, _, ?_, rfl, (hB5.grow hg5).put (by decide) (Nat.le_of_ble_eq_true rfl), put2 (hB5.grow hg5).blk (hC5.grow hg5 hB5.n1), (hk.trans (Kept.of hg5)).trans (Kept.put _ _ _ _ _)⟩
  simp only [aResults, Tryz.results81, aRes, regAt_set, Nat.reduceEqDiff, reduceIte]
end
end Go.Proofs.YtifoiijkaehpaaaGreatDoor.vt
