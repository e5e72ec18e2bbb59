/-
  distafflaw18.ValueNums, part Qa: its walk and its law. No conditions.
-/
import Derived.Test.YtdmfakpngnlokaaGreatDoorDwP
set_option linter.all false
set_option maxRecDepth 20000
set_option maxHeartbeats 8000000
namespace Go.Proofs.YtdmfakpngnlokaaGreatDoor.nu
open YtdmfakpngnlokaaGreatDoor.Ev
noncomputable section
@[go_sem] def gg97 {X ev} := gC X ev Tryz.func97 rfl rfl
@[go_sem] def gg197 {X ev} := gC X ev Tryz.func197 rfl rfl
@[go_sem] def gg198 {X ev} := gC X ev Tryz.func198 rfl rfl
@[go_sem] def gg240 {X ev} := gC X ev Tryz.func240 rfl rfl
@[go_sem] def gg98 {X ev} := gC X ev Tryz.func98 rfl rfl
@[go_sem] def gg161 {X ev} := gC X ev Tryz.func161 rfl rfl
@[go_sem] def gg138 {X ev} := gC X ev Tryz.func138 rfl rfl
@[go_sem] def gg137 {X ev} := gC X ev Tryz.func137 rfl rfl
@[go_sem] def gg135 {X ev} := gC X ev Tryz.func135 rfl rfl
@[go_sem] def gg162 {X ev} := gC X ev Tryz.func162 rfl rfl
@[go_sem] def gg136 {X ev} := gC X ev Tryz.func136 rfl rfl
@[go_sem] def gg65 {X ev} := gC X ev Tryz.func65 rfl rfl
@[go_sem] def gg14 {X ev} := gC X ev Tryz.func14 rfl rfl
@[go_sem] def gg58 {X ev} := gC X ev Tryz.func58 rfl rfl
@[go_sem] def gg59 {X ev} := gC X ev Tryz.func59 rfl rfl
@[go_sem] def gg64 {X ev} := gC X ev Tryz.func64 rfl rfl
@[go_sem] def gg39 {X ev} := gC X ev Tryz.func39 rfl rfl
@[go_sem] def gg8 {X ev} := gC X ev Tryz.func8 rfl rfl
@[go_sem] def gg10 {X ev} := gC X ev Tryz.func10 rfl rfl
@[go_sem] def gg13 {X ev} := gC X ev Tryz.func13 rfl rfl
@[go_sem] def gg7 {X ev} := gC X ev Tryz.func7 rfl rfl
@[go_sem] def gg29 {X ev} := gC X ev Tryz.func29 rfl rfl
@[go_sem] def gg22 {X ev} := gC X ev Tryz.func22 rfl rfl
@[go_sem] def gg99 {X ev} := gC X ev Tryz.func99 rfl rfl
@[go_sem] def gg239 {X ev} := gC X ev Tryz.func239 rfl rfl
@[go_sem] def gg24 {X ev} := gC X ev Tryz.func24 rfl rfl
@[go_sem] def gg142 {X ev} := gC X ev Tryz.func142 rfl rfl
@[go_sem] def gg88 {X ev} := gC X ev Tryz.func88 rfl rfl
@[go_sem] def gg60 {X ev} := gC X ev Tryz.func60 rfl rfl
@[go_sem] def gg167 {X ev} := gC X ev Tryz.func167 rfl rfl
@[go_sem] def gg102 {X ev} := gC X ev Tryz.func102 rfl rfl
@[go_sem] def gg205 {X ev} := gC X ev Tryz.func205 rfl rfl
@[go_sem] def gg106 {X ev} := gC X ev Tryz.func106 rfl rfl
@[go_sem] def gg6 {X ev} := gC X ev Tryz.func6 rfl rfl
@[go_sem] def gg26 {X ev} := gC X ev Tryz.func26 rfl rfl
@[go_sem] def gg100 {X ev} := gC X ev Tryz.func100 rfl rfl
@[go_sem] def gg50 {X ev} := gC X ev Tryz.func50 rfl rfl
@[go_sem] def gg25 {X ev} := gC X ev Tryz.func25 rfl rfl
@[go_sem] def gg28 {X ev} := gC X ev Tryz.func28 rfl rfl
@[go_sem] def gg61 {X ev} := gC X ev Tryz.func61 rfl rfl
@[go_sem] def gg206 {X ev} := gC X ev Tryz.func206 rfl rfl
variable {X : XT} {S : List (FuncId × LK)}
theorem iWs : pZ.info? 69 = some Tryz.t69 := by kernel_rfl
theorem iW : pZ.info? 33 = some Tryz.t33 := by kernel_rfl
theorem faA0 (ρ : Operand → Value) (x : Operand) : jaL pZ ρ 176 x 0 = (match ρ x with | .pointer (some a) => some (.pointer (some (a.add 0))) | _ => none) := jax (ft := 69) (off := 0) Tryz.underlying176 rfl iWs rfl ρ x
theorem ldWs (μ : Mem) (i o : Nat) : jbZ pZ μ 69 (.pointer (some ⟨i, o, none⟩)) = jad μ i o := jbx Tryz.underlying69 rfl μ i o
theorem ldW (μ : Mem) (i o : Nat) : jbZ pZ μ 33 (.pointer (some ⟨i, o, none⟩)) = jad μ i o := jbx Tryz.underlying33 rfl μ i o
structure Arena (μ : Mem) (ap wb N : Nat) (ws : Nat → Nat) : Prop where
 head : ∃ c, jad μ ap 0 = some (.slice (some ⟨wb, 0, none⟩) N c)
 words : ∃ z ov fx sh, μ.obs.get wb = some (.cells N 33 z ov 0 0 fx sh) ∧ ∀ k, k < N → cellAt z ov k = .int .u64 (.ofNat (ws k))
 apart : ap ≠ wb
def put (ws : Nat → Nat) (at_ w : Nat) : Nat → Nat := fun k => if k = at_ then w else ws k
theorem ilt_z (q : Nat) : ilt (.ofNat q) 0 = false := rfl
set_option maxHeartbeats 4000000 in
theorem jfD {k ap wb N q w : Nat} {ws : Nat → Nat} {μ : Mem} (hA : Arena μ ap wb N ws) (hq : q < N) :
  EndsF (aFun pZ (jai pZ X S (k + 20)) 98 [.pointer (some ⟨ap, 0, none⟩), .int .i64 (.ofNat q), .int .u64 (.ofNat w)] μ) fun v μ' => v = .int .i64 0 ∧ Arena μ' ap wb N (put ws q w) ∧ μ'.next = μ.next ∧ ∀ i, i ≠ wb → μ'.obs.get i = μ.obs.get i := by
 obtain ⟨c, hl⟩ := hA.head
 obtain ⟨z, ov, fx, sh, hwb, hws⟩ := hA.words
 have hia : ∀ ρ : Operand → Value, ∀ a b, ρ a = .slice (some ⟨wb, 0, none⟩) N c → ρ b = .int .i64 (.ofNat q) → jal pZ ρ 69 a b = some (.pointer (some ⟨wb, q, none⟩)) := fun ρ a b h1 h2 => by
  rw [jaF (P := pZ) Tryz.underlying69 iW rfl h1 h2 hq, rzT]
 have hst := jhi (P := pZ) (t := 33) (v := .int .u64 (.ofNat w)) iW rfl rfl hwb hq
 refine jac Tryz.func98 rfl rfl (by show 3 ≤ 25; decide) ?_
 simp only [go_sem, Tryz.ntmps98]
 refine jaf ?_
 refine jab ?_ ?_
 ·rfl
 simp only [run1, aOne, aP, aev, jaq, jaN, jaB, Nat.reduceLT, if_true, jaw, jag, Nat.reduceEqDiff, if_false, reduceIte]
 refine jaf ?_
 refine jaf ?_
 refine jbP (gs := ?_) ?_ ?_
 rotate_left
 ·rfl
 simp only [run2, wanted, aOne, aP, aR, aA, aT, jb2, aev, jaq, jaN, jaw, aBin, aInt, ilt_z, jap, hq, jbj, faA0, ldWs, hl, jbE, aLen, Tryz.underlying69, jao, jfQ, Addr.add, rzT,
  jaB, Nat.reduceLT, if_true, jag, Nat.reduceEqDiff, if_false, reduceIte, reduceCtorEq, decide_true, decide_false, Bool.not_true, Bool.not_false, beq_self_eq_true, jge, jgf]
 refine jan ?_ ?_
 ·simp only [go_sem]
 refine jaD ?_
 simp only [jag]
 refine jaf ?_
 refine jab ?_ ?_
 ·rfl
 simp only [run1, aOne, aP, aR, aA, aT, jb2, aev, jaq, jaN, jbX, jbj, faA0, ldWs, hl, hia, hst, Addr.add, rzT,
  jaB, Nat.reduceLT, if_true, jag, Nat.reduceEqDiff, if_false, reduceIte, reduceCtorEq]
 refine jaf ?_
 refine jab ?_ ?_
 ·rfl
 simp only [run1, aOne, aP, aev, jaq, jaN, jaB, Nat.reduceLT, if_true, jaw, jag, Nat.reduceEqDiff, if_false, reduceIte]
 refine jae ?_
 refine ⟨rfl, .int .i64 0, ?_, rfl, ⟨⟨c, ?_⟩, ⟨z, ov.set q (.int .u64 (.ofNat w)), fx, sh, ?_, fun j hj => ?_⟩, hA.apart⟩, rfl, fun i hi => ?_⟩
 ·simp only [go_sem, Tryz.results98]
 ·rw [← hl]; unfold jad; rw [T.get_set, if_neg hA.apart]
 ·show T.get _ wb = _
  rw [T.get_set, if_pos rfl]
 ·rw [jkU]
  unfold put
  by_cases h : j = q
  ·rw [if_pos h, if_pos h]
  ·rw [if_neg h, if_neg h]; exact hws j hj
 ·show T.get _ i = _
  rw [T.get_set, if_neg hi]
end
noncomputable section
variable {X : XT} {S : List (FuncId × LK)}
theorem Arena.cell {μ : Mem} {ap wb N : Nat} {ws : Nat → Nat} (hA : Arena μ ap wb N ws) {q : Nat} (hq : q < N) : jad μ wb q = some (.int .u64 (.ofNat (ws q))) := by
 obtain ⟨z, ov, fx, sh, hwb, hws⟩ := hA.words
 rw [jbw (n := N) (z := z) (ov := ov) (by rw [hwb]; rfl) hq, hws q hq]
theorem Arena.keep {μ μ' : Mem} {ap wb N : Nat} {ws : Nat → Nat} (hA : Arena μ ap wb N ws) (h1 : μ'.obs.get ap = μ.obs.get ap) (h2 : μ'.obs.get wb = μ.obs.get wb) : Arena μ' ap wb N ws := by
 obtain ⟨c, hl⟩ := hA.head
 obtain ⟨z, ov, fx, sh, hwb, hws⟩ := hA.words
 exact ⟨⟨c, by rw [← hl]; unfold jad; rw [h1]⟩, ⟨z, ov, fx, sh, h2.trans hwb, hws⟩, hA.apart⟩
set_option maxHeartbeats 4000000 in
theorem arena_get {k ap wb N q : Nat} {ws : Nat → Nat} {μ : Mem} (hA : Arena μ ap wb N ws) (hq : q < N) :
  EndsF (aFun pZ (jai pZ X S (k + 20)) 75 [.pointer (some ⟨ap, 0, none⟩), .int .i64 (.ofNat q)] μ) fun v μ' => v = .tuple #[.int .u64 (.ofNat (ws q)), .int .i64 0] ∧ μ' = μ := by
 obtain ⟨c, hl⟩ := hA.head
 have hcell := hA.cell hq
 have hia : ∀ ρ : Operand → Value, ∀ a b, ρ a = .slice (some ⟨wb, 0, none⟩) N c → ρ b = .int .i64 (.ofNat q) → jal pZ ρ 69 a b = some (.pointer (some ⟨wb, q, none⟩)) := fun ρ a b h1 h2 => by
  rw [jaF (P := pZ) Tryz.underlying69 iW rfl h1 h2 hq, rzT]
 refine jac Tryz.func75 rfl rfl (by show 2 ≤ 24; decide) ?_
 simp only [go_sem, Tryz.ntmps75]
 refine jaf ?_
 refine jab ?_ ?_
 ·rfl
 simp only [run1, aOne, aP, aev, jaq, jaN, jaB, Nat.reduceLT, if_true, jaw, jag, Nat.reduceEqDiff, if_false, reduceIte]
 refine jaf ?_
 refine jaf ?_
 refine jbP (gs := ?_) ?_ ?_
 rotate_left
 ·rfl
 simp only [run2, wanted, aOne, aP, aR, aA, aT, jb2, aev, jaq, jaN, jaw, aBin, aInt, ilt_z, jap, hq, jbj, faA0, ldWs, hl, jbE, aLen, Tryz.underlying69, jao, jfQ, Addr.add, rzT,
  jaB, Nat.reduceLT, if_true, jag, Nat.reduceEqDiff, if_false, reduceIte, reduceCtorEq, decide_true, decide_false, Bool.not_true, Bool.not_false, beq_self_eq_true, jge, jgf]
 refine jan ?_ ?_
 ·simp only [go_sem]
 refine jaD ?_
 simp only [jag]
 refine jaf ?_
 refine jab ?_ ?_
 ·rfl
 simp only [run1, aOne, aP, aR, aA, aT, jb2, aev, jaq, jaN, jbX, jbj, faA0, ldWs, ldW, hl, hia, hcell, jaw, Addr.add, rzT,
  jaB, Nat.reduceLT, if_true, jag, Nat.reduceEqDiff, if_false, reduceIte, reduceCtorEq]
 refine jae ?_
 refine ⟨rfl, _, ?_, rfl, rfl⟩
 simp only [go_sem, Tryz.results75]
end
noncomputable section
variable {X : XT} {S : List (FuncId × LK)}
theorem land_u (m b : Nat) (hb : b ≤ 32) (h : m < 18446744073709551616) : jbm Nat.land .u64 .u64 (.ofNat m) (.ofNat (2 ^ b - 1)) = some (.int .u64 (.ofNat (m % 2 ^ b))) := by
 have h1 : Nat.blt m 18446744073709551616 = true := by simpa using h
 have hp : 2 ^ b ≤ 2 ^ 32 := Nat.pow_le_pow_right (by decide) hb
 have h2 : Nat.blt (2 ^ b - 1) 18446744073709551616 = true := by
  have : 2 ^ b - 1 < 18446744073709551616 := by omega
  simpa using this
 have h3 : Nat.land m (2 ^ b - 1) = m % 2 ^ b := Nat.and_two_pow_sub_one_eq_mod m b
 have h4 : m % 2 ^ b < 18446744073709551616 := Nat.lt_of_le_of_lt (Nat.mod_le _ _) h
 unfold jbm
 simp only [decide_true, jbH, h1, h2, h3, qu64 _ h4]
theorem land_i (m b : Nat) (hb : b ≤ 32) (h : m < 9223372036854775808) : jbm Nat.land .i64 .i64 (.ofNat m) (.ofNat (2 ^ b - 1)) = some (.int .i64 (.ofNat (m % 2 ^ b))) := by
 have h1 : Nat.blt m 18446744073709551616 = true := by simp; omega
 have hp : 2 ^ b ≤ 2 ^ 32 := Nat.pow_le_pow_right (by decide) hb
 have h2 : Nat.blt (2 ^ b - 1) 18446744073709551616 = true := by
  have : 2 ^ b - 1 < 18446744073709551616 := by omega
  simpa using this
 have h3 : Nat.land m (2 ^ b - 1) = m % 2 ^ b := Nat.and_two_pow_sub_one_eq_mod m b
 have h4 : m % 2 ^ b < 9223372036854775808 := Nat.lt_of_le_of_lt (Nat.mod_le _ _) h
 unfold jbm
 simp only [decide_true, jbH, h1, h2, h3, q64 _ h4]
theorem land7 (m : Nat) (h : m < 18446744073709551616) : jbm Nat.land .u64 .u64 (.ofNat m) 7 = some (.int .u64 (.ofNat (m % 8))) := land_u m 3 (by decide) h
theorem land7i (m : Nat) (h : m < 9223372036854775808) : jbm Nat.land .i64 .i64 (.ofNat m) 7 = some (.int .i64 (.ofNat (m % 8))) := land_i m 3 (by decide) h
theorem shr_u (m y : Nat) (hy : y ≤ 64) : jaH false .u64 (.ofNat m) (.ofNat y) = some (.int .u64 (.ofNat (m / 2 ^ y))) := by
 unfold jaH
 simp only [jbH, show Nat.ble y 64 = true from rzP hy]
 rfl
theorem shr_i (m y : Nat) (hy : y ≤ 64) : jaH false .i64 (.ofNat m) (.ofNat y) = some (.int .i64 (.ofNat (m / 2 ^ y))) := by
 unfold jaH
 simp only [jbH, show Nat.ble y 64 = true from rzP hy]
 rfl
theorem shr3 (m : Nat) : jaH false .u64 (.ofNat m) 3 = some (.int .u64 (.ofNat (m / 8))) := shr_u m 3 (by decide)
theorem shr3i (m : Nat) : jaH false .i64 (.ofNat m) 3 = some (.int .i64 (.ofNat (m / 8))) := shr_i m 3 (by decide)
theorem shr5i (m : Nat) : jaH false .i64 (.ofNat m) 5 = some (.int .i64 (.ofNat (m / 32))) := shr_i m 5 (by decide)
theorem shr8i (m : Nat) : jaH false .i64 (.ofNat m) 8 = some (.int .i64 (.ofNat (m / 256))) := shr_i m 8 (by decide)
theorem rem32 (m : Nat) : aDiv true .i64 .i64 (.ofNat m) 32 = some (.int .i64 (.ofNat (m % 32))) := rfl
theorem cvWi (n : Int) : jay pZ 33 3 (.int .u64 n) = some (.int .i64 (jak .i64 n)) := by
 simp only [jay, Tryz.underlying3, Tryz.underlying33]
theorem cviW (n : Int) : jay pZ 3 33 (.int .i64 n) = some (.int .u64 (jak .u64 n)) := by
 simp only [jay, Tryz.underlying3, Tryz.underlying33]
theorem ieq_00 : ieq 0 0 = true := rfl
theorem jjI (m : Nat) : ieq (.ofNat m) 0 = decide (m = 0) := jbG m 0
theorem ieq_lit1 (m : Nat) : ieq (.ofNat m) 1 = decide (m = 1) := jbG m 1
theorem ieq_lit6 (m : Nat) : ieq (.ofNat m) 6 = decide (m = 6) := jbG m 6
set_option maxHeartbeats 4000000 in
theorem word_kind {k m : Nat} {μ : Mem} (hm : m < 9223372036854775808) :
  EndsF (aFun pZ (jai pZ X S (k + 20)) 26 [.int .u64 (.ofNat m)] μ) fun v μ' => v = .int .i64 (.ofNat (m % 8)) ∧ μ' = μ := by
 refine jac Tryz.func26 rfl rfl (by show 1 ≤ 6; decide) ?_
 simp only [go_sem, Tryz.ntmps26]
 refine jaf ?_
 refine jab ?_ ?_
 ·rfl
 simp only [run1, aOne, aP, aev, jaq, jaN, jaB, Nat.reduceLT, if_true, jaw, jag, Nat.reduceEqDiff, if_false, reduceIte]
 refine jaf ?_
 refine jab ?_ ?_
 ·rfl
 simp only [run1, aOne, aP, aev, jaq, jaN, jaw, aBin, aInt, land7 m (by omega), cvWi, q64 (m % 8) (by omega), jaB, Nat.reduceLT, if_true, jag, Nat.reduceEqDiff, if_false, reduceIte]
 refine jae ?_
 refine ⟨rfl, _, ?_, rfl, rfl⟩
 simp only [go_sem, Tryz.results26]
set_option maxHeartbeats 4000000 in
theorem jj5 {k m : Nat} {μ : Mem} (hm : m < 9223372036854775808) (h0 : m % 8 ≠ 0) :
  EndsF (aFun pZ (jai pZ X S (k + 20)) 28 [.int .u64 (.ofNat m)] μ) fun v μ' => v = .int .i64 (.ofNat (m / 8)) ∧ μ' = μ := by
 refine jac Tryz.func28 rfl rfl (by show 1 ≤ 12; decide) ?_
 simp only [go_sem, Tryz.ntmps28]
 refine jaf ?_
 refine jab ?_ ?_
 ·rfl
 simp only [run1, aOne, aP, aev, jaq, jaN, jaB, Nat.reduceLT, if_true, jaw, jag, Nat.reduceEqDiff, if_false, reduceIte]
 refine jaf ?_
 refine jaf ?_
 refine jab ?_ ?_
 ·rfl
 simp only [run1, aOne, aP, aev, jaq, jaN, jaw, aBin, aInt, land7 m (by omega), jjI, h0, decide_true, decide_false, jaB, Nat.reduceLT, if_true, jag, Nat.reduceEqDiff, if_false, reduceIte]
 refine jan ?_ ?_
 ·simp only [go_sem]
 refine jaD ?_
 simp only [jag]
 refine jaf ?_
 refine jab ?_ ?_
 ·rfl
 simp only [run1, aOne, aP, aev, jaq, jaN, jaw, aBin, aInt, shr3, cvWi, q64 (m / 8) (by omega), jaB, Nat.reduceLT, if_true, jag, Nat.reduceEqDiff, if_false, reduceIte]
 refine jae ?_
 refine ⟨rfl, _, ?_, rfl, rfl⟩
 simp only [go_sem, Tryz.results28]
end
noncomputable section
variable {X : XT}
theorem kindW_eq {f m : Nat} {μ : Mem} (hf : 20 ≤ f) (hm : m < 9223372036854775808) : aFun pZ (jai pZ X S0 f) 26 [.int .u64 (.ofNat m)] μ = some (.int .i64 (.ofNat (m % 8)), μ) := by
 obtain ⟨k, rfl⟩ := Nat.exists_eq_add_of_le' hf
 exact jau (word_kind hm)
theorem value_eq {f m : Nat} {μ : Mem} (hf : 20 ≤ f) (hm : m < 9223372036854775808) (h0 : m % 8 ≠ 0) : aFun pZ (jai pZ X S0 f) 28 [.int .u64 (.ofNat m)] μ = some (.int .i64 (.ofNat (m / 8)), μ) := by
 obtain ⟨k, rfl⟩ := Nat.exists_eq_add_of_le' hf
 exact jau (jj5 hm h0)
theorem get_eq {f ap wb N q : Nat} {ws : Nat → Nat} {μ : Mem} (hf : 20 ≤ f) (hA : Arena μ ap wb N ws) (hq : q < N) : aFun pZ (jai pZ X S0 f) 75 [.pointer (some ⟨ap, 0, none⟩), .int .i64 (.ofNat q)] μ = some (.tuple #[.int .u64 (.ofNat (ws q)), .int .i64 0], μ) := by
 obtain ⟨k, rfl⟩ := Nat.exists_eq_add_of_le' hf
 exact jau (arena_get hA hq)
theorem iH : pZ.info? 94 = some Tryz.t94 := by kernel_rfl
theorem iA : pZ.info? 128 = some Tryz.t128 := by kernel_rfl
theorem i3 : pZ.info? 3 = some Tryz.t3 := by kernel_rfl
theorem zH : jaO pZ 94 = some (.agg #[.int .i64 0, .int .i64 0, .int .i64 0]) := by unfold jaO; rw [iH]; rfl
theorem alH : jb4 pZ 94 = some (.cells 3 94 #[.int .i64 0, .int .i64 0, .int .i64 0] .e 0 0 false false, fun id => .pointer (some ⟨id, 0, none⟩)) := by unfold jb4; rw [zH]; rfl
theorem faH0 (ρ : Operand → Value) (x : Operand) : jaL pZ ρ 131 x 0 = (match ρ x with | .pointer (some a) => some (.pointer (some (a.add 0))) | _ => none) := jax (ft := 128) (off := 0) Tryz.underlying131 rfl iA rfl ρ x
theorem ldA (μ : Mem) (i o : Nat) : jbZ pZ μ 128 (.pointer (some ⟨i, o, none⟩)) = jad μ i o := jbx Tryz.underlying128 rfl μ i o
theorem bdH {ρ : Operand → Value} {a b c : Operand} {x y z : Value} (h1 : ρ a = x) (h2 : ρ b = y) (h3 : ρ c = z) (o1 : one x = true) (o2 : one y = true) (o3 : one z = true) : jbF pZ ρ 94 #[(0, a), (1, b), (2, c)] = some (.agg #[x, y, z]) := by
 refine jba (pl := [(0, 1), (1, 1), (2, 1)]) zH Tryz.underlying94 (by kernel_rfl) ?_
 show jcC _ [.int .i64 0, .int .i64 0, .int .i64 0] [(0, ρ a), (1, ρ b), (2, ρ c)] = some [x, y, z]
 rw [h1, h2, h3, jbK (off := 0) rfl o1 (by simp), jbK (off := 1) rfl o2 (by simp), jbK (off := 2) rfl o3 (by simp)]
 rfl
theorem bdH' (ρ : Operand → Value) (a b c : Operand) (o1 : one (ρ a) = true) (o2 : one (ρ b) = true) (o3 : one (ρ c) = true) : jbF pZ ρ 94 #[(0, a), (1, b), (2, c)] = some (.agg #[ρ a, ρ b, ρ c]) := bdH rfl rfl rfl o1 o2 o3
def headW (kd pn n : Nat) : Nat := ((n * 256 + pn * 32 + kd) * 8) + 6
def jaI (q : Nat) : Nat := 8 * q + 1
structure HeapAt (μ : Mem) (hp ap wb N : Nat) (ws : Nat → Nat) : Prop where
 head : jad μ hp 0 = some (.pointer (some ⟨ap, 0, none⟩))
 arena : Arena μ ap wb N ws
 h1 : hp < μ.next
 h2 : ap < μ.next
 h3 : wb < μ.next
 h4 : hp ≠ wb
theorem HeapAt.keep {μ μ' : Mem} {hp ap wb N : Nat} {ws : Nat → Nat} (h : HeapAt μ hp ap wb N ws) (hg : Grow μ μ') : HeapAt μ' hp ap wb N ws :=
 ⟨by rw [← h.head]; unfold jad; rw [hg.2 hp h.h1], h.arena.keep (hg.2 ap h.h2) (hg.2 wb h.h3), rzO h.h1 hg.1, rzO h.h2 hg.1, rzO h.h3 hg.1, h.h4⟩
set_option maxHeartbeats 4000000 in
theorem jgF {k hp ap wb N q kd pn n : Nat} {ws : Nat → Nat} {μ : Mem} (hH : HeapAt μ hp ap wb N ws) (hq : q < N) (hN : N < 1000000) (hw : ws q = headW kd pn n) (h1 : kd < 32) (h2 : pn < 8) (h3 : n < 1000000) :
  EndsF (aFun pZ (jai pZ X S0 (k + 50)) 39 [.pointer (some ⟨hp, 0, none⟩), .int .u64 (.ofNat (jaI q))] μ) fun v μ' => v = .tuple #[.int .i64 (.ofNat q), .agg #[.int .i64 (.ofNat kd), .int .i64 (.ofNat pn), .int .i64 (.ofNat n)], .bool true] ∧ Grow μ μ' := by
 have hpw : jaI q < 9223372036854775808 := by unfold jaI; omega
 have hm8 : jaI q % 8 = 1 := by unfold jaI; omega
 have hd8 : jaI q / 8 = q := by unfold jaI; omega
 have hhw : headW kd pn n < 9223372036854775808 := by unfold headW; omega
 have e1 : headW kd pn n % 8 = 6 := by unfold headW; omega
 have e2 : headW kd pn n / 8 = n * 256 + pn * 32 + kd := by unfold headW; omega
 have e3 : (n * 256 + pn * 32 + kd) % 32 = kd := by omega
 have e4 : (n * 256 + pn * 32 + kd) / 32 % 8 = pn := by omega
 have e5 : (n * 256 + pn * 32 + kd) / 256 = n := by omega
 have hg1 : Grow μ ⟨μ.obs.set μ.next (.cells 3 94 #[.int .i64 0, .int .i64 0, .int .i64 0] .e 0 0 false false), Nat.add μ.next 1⟩ := ⟨Nat.le_succ _, fun i hi => by show T.get _ i = _; rw [T.get_set, if_neg (by omega)]⟩
 have hH1 := hH.keep hg1
 have hKq : ∀ f, 20 ≤ f → aFun pZ (jai pZ X S0 f) 26 [.int .u64 (.ofNat (jaI q))] ⟨μ.obs.set μ.next (.cells 3 94 #[.int .i64 0, .int .i64 0, .int .i64 0] .e 0 0 false false), Nat.add μ.next 1⟩ = some (.int .i64 (.ofNat 1), ⟨μ.obs.set μ.next (.cells 3 94 #[.int .i64 0, .int .i64 0, .int .i64 0] .e 0 0 false false), Nat.add μ.next 1⟩) := fun f hf => by
  rw [kindW_eq hf hpw, hm8]
 have hVq : ∀ f, 20 ≤ f → aFun pZ (jai pZ X S0 f) 28 [.int .u64 (.ofNat (jaI q))] ⟨μ.obs.set μ.next (.cells 3 94 #[.int .i64 0, .int .i64 0, .int .i64 0] .e 0 0 false false), Nat.add μ.next 1⟩ = some (.int .i64 (.ofNat q), ⟨μ.obs.set μ.next (.cells 3 94 #[.int .i64 0, .int .i64 0, .int .i64 0] .e 0 0 false false), Nat.add μ.next 1⟩) := fun f hf => by
  rw [value_eq hf hpw (by omega), hd8]
 have hGq : ∀ f, 20 ≤ f → aFun pZ (jai pZ X S0 f) 75 [.pointer (some ⟨ap, 0, none⟩), .int .i64 (.ofNat q)] ⟨μ.obs.set μ.next (.cells 3 94 #[.int .i64 0, .int .i64 0, .int .i64 0] .e 0 0 false false), Nat.add μ.next 1⟩ = some (.tuple #[.int .u64 (.ofNat (headW kd pn n)), .int .i64 0], ⟨μ.obs.set μ.next (.cells 3 94 #[.int .i64 0, .int .i64 0, .int .i64 0] .e 0 0 false false), Nat.add μ.next 1⟩) := fun f hf => by
  rw [get_eq hf hH1.arena hq, hw]
 refine jac Tryz.func39 rfl rfl (by show 2 ≤ 46; decide) ?_
 simp only [go_sem, Tryz.ntmps39]
 refine jaf ?_
 refine jab ?_ ?_
 ·rfl
 simp only [run1, aOne, aP, aR, aA, alH, aev, jaq, jaN, jaB, Nat.reduceLT, if_true, jaw, jag, Nat.reduceEqDiff, if_false, reduceIte]
 refine jaf ?_
 refine jaf ?_
 refine jab ?_ ?_
 ·rfl
 simp only [run1, aOne, aP, aR, aA, aT, jb2, jbz, go_call (P := pZ) (X := X) (S := S0) Tryz.func26 rfl rfl, hKq, aev, jaq, jaN, jaw, aBin, aInt, ieq_lit1, jaB, Nat.reduceLT, if_true, jag, Nat.reduceEqDiff, if_false, reduceIte, List.map_cons, List.map_nil, List.nil_append, List.append_nil, decide_true, Bool.not_true, Nat.reduceLeDiff]
 refine jan ?_ ?_
 ·simp only [go_sem]
 refine jaD ?_
 simp only [jag]
 refine jaf ?_
 refine jab ?_ ?_
 ·rfl
 simp only [run1, aOne, aP, aR, aA, aT, jb2, jbz, go_call (P := pZ) (X := X) (S := S0) Tryz.func28 rfl rfl, hVq, aev, jaq, jaN, jaw, jaB, Nat.reduceLT, if_true, jag, Nat.reduceEqDiff, if_false, reduceIte, List.map_cons, List.map_nil, List.nil_append, List.append_nil, Nat.reduceLeDiff]
 refine jaf ?_
 refine jab ?_ ?_
 ·rfl
 simp only [run1, aOne, aP, aR, aA, aT, jb2, jbz, go_call (P := pZ) (X := X) (S := S0) Tryz.func75 rfl rfl, hGq, jbj, faH0, ldA, hH1.head, jb1, Addr.add, aev, jaq, jaN, jaw, jaB, Nat.reduceLT, if_true, jag, Nat.reduceEqDiff, if_false, reduceIte, List.map_cons, List.map_nil, List.nil_append, List.append_nil, Nat.reduceLeDiff, List.getElem?_cons_zero, List.getElem?_cons_succ]
 refine jaf ?_
 refine jaf ?_
 refine jbP (gs := ?_) ?_ ?_
 rotate_left
 ·rfl
 simp only [run2, wanted, aOne, aP, aR, aA, aT, aev, jaq, jaN, jaw, aBin, aInt, land7 _ (Nat.lt_trans hhw (by decide)), e1, ieq_00, ieq_lit6, jjI, jfQ,
  jaB, Nat.reduceLT, if_true, jag, Nat.reduceEqDiff, if_false, reduceIte, reduceCtorEq, decide_true, decide_false, Bool.not_true, Bool.not_false, beq_self_eq_true, jge, jgf]
 refine jan ?_ ?_
 ·simp only [go_sem]
 refine jaD ?_
 simp only [jag]
 refine jaf ?_
 refine jab ?_ ?_
 ·rfl
 simp only [run1, aOne, aP, aR, aA, aT, aev, jaq, jaN, jaw, aBin, aInt, shr3, e2, cvWi, q64 (n * 256 + pn * 32 + kd) (by omega), jaB, Nat.reduceLT, if_true, jag, Nat.reduceEqDiff, if_false, reduceIte, reduceCtorEq]
 refine jaf ?_
 refine jab ?_ ?_
 ·rfl
 have hst := jdv (P := pZ) (t := 94) (vs := [.int .i64 (.ofNat kd), .int .i64 (.ofNat pn), .int .i64 (.ofNat n)]) (μ := ⟨μ.obs.set μ.next (.cells 3 94 #[.int .i64 0, .int .i64 0, .int .i64 0] .e 0 0 false false), Nat.add μ.next 1⟩) (i := μ.next) (o := 0) iH rfl rfl (by rw [T.get_set, if_pos rfl]) (by simp)
 simp only [run1, aOne, aP, aR, aA, aT, aev, jaq, jaN, jbX, jaw, aBin, aInt, rem32, shr5i, shr8i, land7i _ (Nat.lt_of_le_of_lt (Nat.div_le_self _ _) (by omega : n * 256 + pn * 32 + kd < 9223372036854775808)), e3, e4, e5, bdH', one, hst, jaB, Nat.reduceLT, if_true, jag, Nat.reduceEqDiff, if_false, reduceIte, reduceCtorEq]
 refine jae ?_
 refine ⟨rfl, _, ?_, rfl, ?_⟩
 ·have hld := jb7 (P := pZ) (t := 94) (μ := ⟨(μ.obs.set μ.next (.cells 3 94 #[.int .i64 0, .int .i64 0, .int .i64 0] .e 0 0 false false)).set μ.next (.cells 3 94 #[.int .i64 0, .int .i64 0, .int .i64 0] (T.lay .e 0 [.int .i64 (.ofNat kd), .int .i64 (.ofNat pn), .int .i64 (.ofNat n)]) 0 0 false false), Nat.add μ.next 1⟩) (i := μ.next) (o := 0) (n := 3) (z := #[.int .i64 0, .int .i64 0, .int .i64 0]) (ov := T.lay .e 0 [.int .i64 (.ofNat kd), .int .i64 (.ofNat pn), .int .i64 (.ofNat n)]) Tryz.underlying94 iH (by rw [T.get_set, if_pos rfl]; rfl) (by decide)
  simp only [go_sem] at hld
  simp only [go_sem, Tryz.results39, hld]
  rfl
 ·refine ⟨Nat.le_succ _, fun i hi => ?_⟩
  show T.get _ i = _
  rw [T.get_set, if_neg (by omega), T.get_set, if_neg (by omega)]
end
noncomputable section
variable {X : XT}
def hd0 : Ob := .cells 3 94 #[.int .i64 0, .int .i64 0, .int .i64 0] .e 0 0 false false
def hd1 (kd pn n : Nat) : Ob := .cells 3 94 #[.int .i64 0, .int .i64 0, .int .i64 0] (T.lay .e 0 [.int .i64 (.ofNat kd), .int .i64 (.ofNat pn), .int .i64 (.ofNat n)]) 0 0 false false
theorem alH0 : jb4 pZ 94 = some (hd0, fun id => .pointer (some ⟨id, 0, none⟩)) := alH
theorem stH (t : T Ob) (x a kd pn n : Nat) : jbu pZ ⟨t.set a hd0, x⟩ 94 (.pointer (some ⟨a, 0, none⟩)) (.agg #[.int .i64 (.ofNat kd), .int .i64 (.ofNat pn), .int .i64 (.ofNat n)]) = some (undef, ⟨(t.set a hd0).set a (hd1 kd pn n), x⟩) :=
 jdv (P := pZ) (t := 94) (vs := [.int .i64 (.ofNat kd), .int .i64 (.ofNat pn), .int .i64 (.ofNat n)]) (μ := ⟨t.set a hd0, x⟩) (i := a) (o := 0) iH rfl rfl (by show T.get _ a = _; rw [T.get_set, if_pos rfl]; rfl) (by simp)
theorem cH (t : T Ob) (x a kd pn n : Nat) : jbk (Mem.obs ⟨(t.set a hd0).set a (hd1 kd pn n), x⟩ |>.get a) = some (3, #[.int .i64 0, .int .i64 0, .int .i64 0], T.lay .e 0 [.int .i64 (.ofNat kd), .int .i64 (.ofNat pn), .int .i64 (.ofNat n)]) := by
 show jbk (T.get _ a) = _
 rw [T.get_set, if_pos rfl]; rfl
theorem cH0 (t : T Ob) (x a kd pn n : Nat) : jad ⟨(t.set a hd0).set a (hd1 kd pn n), x⟩ a 0 = some (.int .i64 (.ofNat kd)) := (jbw (cH t x a kd pn n) (by decide)).trans rfl
theorem cH2 (t : T Ob) (x a kd pn n : Nat) : jad ⟨(t.set a hd0).set a (hd1 kd pn n), x⟩ a 2 = some (.int .i64 (.ofNat n)) := (jbw (cH t x a kd pn n) (by decide)).trans rfl
theorem ld3 (μ : Mem) (i o : Nat) : jbZ pZ μ 3 (.pointer (some ⟨i, o, none⟩)) = jad μ i o := jbx Tryz.underlying3 rfl μ i o
theorem faD0 (ρ : Operand → Value) (x : Operand) : jaL pZ ρ 94 x 0 = (match ρ x with | .pointer (some a) => some (.pointer (some (a.add 0))) | _ => none) := jax (ft := 3) (off := 0) Tryz.underlying94 rfl i3 rfl ρ x
theorem faD2 (ρ : Operand → Value) (x : Operand) : jaL pZ ρ 94 x 2 = (match ρ x with | .pointer (some a) => some (.pointer (some (a.add 2))) | _ => none) := jax (ft := 3) (off := 2) Tryz.underlying94 rfl i3 rfl ρ x
theorem jiH (μ : Mem) (o1 o2 : Ob) : Grow μ ⟨(μ.obs.set μ.next o1).set μ.next o2, Nat.add μ.next 1⟩ := ⟨Nat.le_succ _, fun i hi => by show T.get _ i = _; rw [T.get_set, if_neg (by omega), T.get_set, if_neg (by omega)]⟩
set_option maxHeartbeats 4000000 in
theorem jfp {k hp ap wb N q kd pn n : Nat} {ws : Nat → Nat} {μ : Mem} (hH : HeapAt μ hp ap wb N ws) (hq : q < N) (hN : N < 1000000) (hw : ws q = headW kd pn n) (h1 : kd < 32) (h2 : pn < 8) (h3 : n < 1000000) :
  EndsF (aFun pZ (jai pZ X S0 (k + 80)) 14 [.pointer (some ⟨hp, 0, none⟩), .int .u64 (.ofNat (jaI q))] μ) fun v μ' => v = .int .i64 (.ofNat kd) ∧ Grow μ μ' := by
 refine jac Tryz.func14 rfl rfl (by show 2 ≤ 19; decide) ?_
 simp only [go_sem, Tryz.ntmps14]
 refine jaf ?_
 refine jab ?_ ?_
 ·rfl
 simp only [run1, aOne, aP, aev, jaq, jaN, jaB, Nat.reduceLT, if_true, jaw, jag, Nat.reduceEqDiff, if_false, reduceIte]
 refine jaf ?_
 refine jab ?_ ?_
 ·rfl
 obtain ⟨v1, μ1, hat, hv1, hg1⟩ := jgF (X := X) (k := k + 27) hH hq hN hw h1 h2 h3
 subst hv1
 have hat : aFun pZ (jai pZ X S0 (k + 77)) 39 [.pointer (some ⟨hp, 0, none⟩), .int .u64 (.ofNat (jaI q))] μ = some (.tuple #[.int .i64 (.ofNat q), .agg #[.int .i64 (.ofNat kd), .int .i64 (.ofNat pn), .int .i64 (.ofNat n)], .bool true], μ1) := hat
 simp only [run1, aOne, aP, aR, aA, aT, jb2, jbz, go_call (P := pZ) (X := X) (S := S0) Tryz.func39 rfl rfl, hat, jb1, alH0, stH, aev, jaq, jaN, jbX, jaw, jaB, Nat.reduceLT, if_true, jag, Nat.reduceEqDiff, if_false, reduceIte, List.map_cons, List.map_nil, List.nil_append, List.append_nil, List.getElem?_cons_zero, List.getElem?_cons_succ]
 refine jaf ?_
 refine jaf ?_
 refine jab ?_ ?_
 ·rfl
 simp only [run1, aOne, aP, aev, jaq, jaN, jaB, Nat.reduceLT, if_true, jaw, jag, Nat.reduceEqDiff, if_false, reduceIte, Bool.not_true]
 refine jan ?_ ?_
 ·simp only [go_sem]
 refine jaD ?_
 simp only [jag]
 refine jaf ?_
 refine jab ?_ ?_
 ·rfl
 simp only [run1, aOne, aP, aR, aA, aT, faD0, ld3, cH0, Addr.add, aev, jaq, jaN, jaB, Nat.reduceLT, if_true, jaw, jag, Nat.reduceEqDiff, if_false, reduceIte]
 refine jae ?_
 refine ⟨rfl, .int .i64 (.ofNat kd), ?_, rfl, hg1.trans (jiH _ _ _)⟩
 simp only [go_sem, Tryz.results14]
set_option maxHeartbeats 4000000 in
theorem heap_size {k hp ap wb N q kd pn n : Nat} {ws : Nat → Nat} {μ : Mem} (hH : HeapAt μ hp ap wb N ws) (hq : q < N) (hN : N < 1000000) (hw : ws q = headW kd pn n) (h1 : kd < 32) (h2 : pn < 8) (h3 : n < 1000000) :
  EndsF (aFun pZ (jai pZ X S0 (k + 80)) 64 [.pointer (some ⟨hp, 0, none⟩), .int .u64 (.ofNat (jaI q))] μ) fun v μ' => v = .int .i64 (.ofNat n) ∧ Grow μ μ' := by
 refine jac Tryz.func64 rfl rfl (by show 2 ≤ 19; decide) ?_
 simp only [go_sem, Tryz.ntmps64]
 refine jaf ?_
 refine jab ?_ ?_
 ·rfl
 simp only [run1, aOne, aP, aev, jaq, jaN, jaB, Nat.reduceLT, if_true, jaw, jag, Nat.reduceEqDiff, if_false, reduceIte]
 refine jaf ?_
 refine jab ?_ ?_
 ·rfl
 obtain ⟨v1, μ1, hat, hv1, hg1⟩ := jgF (X := X) (k := k + 27) hH hq hN hw h1 h2 h3
 subst hv1
 have hat : aFun pZ (jai pZ X S0 (k + 77)) 39 [.pointer (some ⟨hp, 0, none⟩), .int .u64 (.ofNat (jaI q))] μ = some (.tuple #[.int .i64 (.ofNat q), .agg #[.int .i64 (.ofNat kd), .int .i64 (.ofNat pn), .int .i64 (.ofNat n)], .bool true], μ1) := hat
 simp only [run1, aOne, aP, aR, aA, aT, jb2, jbz, go_call (P := pZ) (X := X) (S := S0) Tryz.func39 rfl rfl, hat, jb1, alH0, stH, aev, jaq, jaN, jbX, jaw, jaB, Nat.reduceLT, if_true, jag, Nat.reduceEqDiff, if_false, reduceIte, List.map_cons, List.map_nil, List.nil_append, List.append_nil, List.getElem?_cons_zero, List.getElem?_cons_succ]
 refine jaf ?_
 refine jaf ?_
 refine jab ?_ ?_
 ·rfl
 simp only [run1, aOne, aP, aev, jaq, jaN, jaB, Nat.reduceLT, if_true, jaw, jag, Nat.reduceEqDiff, if_false, reduceIte, Bool.not_true]
 refine jan ?_ ?_
 ·simp only [go_sem]
 refine jaD ?_
 simp only [jag]
 refine jaf ?_
 refine jab ?_ ?_
 ·rfl
 simp only [run1, aOne, aP, aR, aA, aT, faD2, ld3, cH2, Addr.add, rzT, aev, jaq, jaN, jaB, Nat.reduceLT, if_true, jaw, jag, Nat.reduceEqDiff, if_false, reduceIte]
 refine jae ?_
 refine ⟨rfl, .int .i64 (.ofNat n), ?_, rfl, hg1.trans (jiH _ _ _)⟩
 simp only [go_sem, Tryz.results64]
set_option maxHeartbeats 4000000 in
theorem heap_get {k hp ap wb N q kd pn n i : Nat} {ws : Nat → Nat} {μ : Mem} (hH : HeapAt μ hp ap wb N ws) (hq : q + n < N) (hN : N < 1000000) (hw : ws q = headW kd pn n) (h1 : kd < 32) (h2 : pn < 8) (hi : i < n) :
  EndsF (aFun pZ (jai pZ X S0 (k + 80)) 65 [.pointer (some ⟨hp, 0, none⟩), .int .u64 (.ofNat (jaI q)), .int .i64 (.ofNat i)] μ) fun v μ' => v = .tuple #[.int .u64 (.ofNat (ws (q + 1 + i))), .int .i64 0] ∧ Grow μ μ' := by
 have hq' : q < N := by omega
 have h3 : n < 1000000 := by omega
 refine jac Tryz.func65 rfl rfl (by show 3 ≤ 47; decide) ?_
 simp only [go_sem, Tryz.ntmps65]
 refine jaf ?_
 refine jab ?_ ?_
 ·rfl
 simp only [run1, aOne, aP, aev, jaq, jaN, jaB, Nat.reduceLT, if_true, jaw, jag, Nat.reduceEqDiff, if_false, reduceIte]
 refine jaf ?_
 refine jab ?_ ?_
 ·rfl
 obtain ⟨v1, μ1, hat, hv1, hg1⟩ := jgF (X := X) (k := k + 27) hH hq' hN hw h1 h2 h3
 subst hv1
 have hat : aFun pZ (jai pZ X S0 (k + 77)) 39 [.pointer (some ⟨hp, 0, none⟩), .int .u64 (.ofNat (jaI q))] μ = some (.tuple #[.int .i64 (.ofNat q), .agg #[.int .i64 (.ofNat kd), .int .i64 (.ofNat pn), .int .i64 (.ofNat n)], .bool true], μ1) := hat
 have hg2 := hg1.trans (jiH μ1 hd0 (hd1 kd pn n))
 have hH2 := hH.keep hg2
 have a1 : jak .i64 (Int.add (.ofNat q) 1) = .ofNat (q + 1) := jaT q 1 (by omega)
 have a2 : jak .i64 (Int.add (.ofNat (q + 1)) (.ofNat i)) = .ofNat (q + 1 + i) := jaT (q + 1) i (by omega)
 simp only [run1, aOne, aP, aR, aA, aT, jb2, jbz, go_call (P := pZ) (X := X) (S := S0) Tryz.func39 rfl rfl, hat, jb1, alH0, stH, aev, jaq, jaN, jbX, jaw, jaB, Nat.reduceLT, if_true, jag, Nat.reduceEqDiff, if_false, reduceIte, List.map_cons, List.map_nil, List.nil_append, List.append_nil, List.getElem?_cons_zero, List.getElem?_cons_succ]
 refine jaf ?_
 refine jaf ?_
 refine jbP (gs := ?_) ?_ ?_
 rotate_left
 ·rfl
 simp only [run2, wanted, aOne, aP, aR, aA, aT, faD2, ld3, cH2, aev, jaq, jaN, jaw, aBin, aInt, ilt_z, jap, hi, jfQ, Addr.add, rzT,
  jaB, Nat.reduceLT, if_true, jag, Nat.reduceEqDiff, if_false, reduceIte, reduceCtorEq, decide_true, decide_false, Bool.not_true, Bool.not_false, beq_self_eq_true, jge, jgf]
 refine jan ?_ ?_
 ·simp only [go_sem]
 refine jaD ?_
 simp only [jag]
 refine jaf ?_
 refine jab ?_ ?_
 ·rfl
 have hG : ∀ f, 20 ≤ f → aFun pZ (jai pZ X S0 f) 75 [.pointer (some ⟨ap, 0, none⟩), .int .i64 (.ofNat (q + 1 + i))] ⟨(μ1.obs.set μ1.next hd0).set μ1.next (hd1 kd pn n), Nat.add μ1.next 1⟩ = some (.tuple #[.int .u64 (.ofNat (ws (q + 1 + i))), .int .i64 0], ⟨(μ1.obs.set μ1.next hd0).set μ1.next (hd1 kd pn n), Nat.add μ1.next 1⟩) := fun f hf => get_eq hf hH2.arena (by omega)
 simp only [run1, aOne, aP, aR, aA, aT, jb2, jbz, go_call (P := pZ) (X := X) (S := S0) Tryz.func75 rfl rfl, hG, jbj, faH0, ldA, hH2.head, jb1, aBin, aInt, a1, a2, Addr.add, rzT, aev, jaq, jaN, jaw, jaB, Nat.reduceLT, if_true, jag, Nat.reduceEqDiff, if_false, reduceIte, decide_true, List.map_cons, List.map_nil, List.nil_append, List.append_nil, List.getElem?_cons_zero, List.getElem?_cons_succ, Nat.reduceLeDiff]
 refine jaf ?_
 refine jaf ?_
 refine jab ?_ ?_
 ·rfl
 simp only [run1, aOne, aP, aev, jaq, jaN, jaw, aBin, aInt, ieq_00, decide_true, Bool.not_true, jaB, Nat.reduceLT, if_true, jag, Nat.reduceEqDiff, if_false, reduceIte]
 refine jan ?_ ?_
 ·simp only [go_sem]
 refine jaD ?_
 simp only [jag]
 refine jaf ?_
 refine jab ?_ ?_
 ·rfl
 simp only [run1, aOne, aP, aev, jaq, jaN, jaw, jaB, Nat.reduceLT, if_true, jag, Nat.reduceEqDiff, if_false, reduceIte]
 refine jae ?_
 refine ⟨rfl, _, ?_, rfl, hg2⟩
 simp only [go_sem, Tryz.results65]
set_option maxHeartbeats 4000000 in
theorem heap_set {k hp ap wb N q kd pn n i w : Nat} {ws : Nat → Nat} {μ : Mem} (hH : HeapAt μ hp ap wb N ws) (hq : q + n < N) (hN : N < 1000000) (hw : ws q = headW kd pn n) (h1 : kd < 32) (h2 : pn < 8) (hi : i < n) :
  EndsF (aFun pZ (jai pZ X S0 (k + 80)) 59 [.pointer (some ⟨hp, 0, none⟩), .int .u64 (.ofNat (jaI q)), .int .i64 (.ofNat i), .int .u64 (.ofNat w)] μ) fun v μ' => v = .int .i64 0 ∧ HeapAt μ' hp ap wb N (put ws (q + 1 + i) w) ∧ μ.next ≤ μ'.next ∧ ∀ j, j < μ.next → j ≠ wb → μ'.obs.get j = μ.obs.get j := by
 have hq' : q < N := by omega
 have h3 : n < 1000000 := by omega
 refine jac Tryz.func59 rfl rfl (by show 4 ≤ 44; decide) ?_
 simp only [go_sem, Tryz.ntmps59]
 refine jaf ?_
 refine jab ?_ ?_
 ·rfl
 simp only [run1, aOne, aP, aev, jaq, jaN, jaB, Nat.reduceLT, if_true, jaw, jag, Nat.reduceEqDiff, if_false, reduceIte]
 refine jaf ?_
 refine jab ?_ ?_
 ·rfl
 obtain ⟨v1, μ1, hat, hv1, hg1⟩ := jgF (X := X) (k := k + 27) hH hq' hN hw h1 h2 h3
 subst hv1
 have hat : aFun pZ (jai pZ X S0 (k + 77)) 39 [.pointer (some ⟨hp, 0, none⟩), .int .u64 (.ofNat (jaI q))] μ = some (.tuple #[.int .i64 (.ofNat q), .agg #[.int .i64 (.ofNat kd), .int .i64 (.ofNat pn), .int .i64 (.ofNat n)], .bool true], μ1) := hat
 have hg2 := hg1.trans (jiH μ1 hd0 (hd1 kd pn n))
 have hH2 := hH.keep hg2
 have a1 : jak .i64 (Int.add (.ofNat q) 1) = .ofNat (q + 1) := jaT q 1 (by omega)
 have a2 : jak .i64 (Int.add (.ofNat (q + 1)) (.ofNat i)) = .ofNat (q + 1 + i) := jaT (q + 1) i (by omega)
 simp only [run1, aOne, aP, aR, aA, aT, jb2, jbz, go_call (P := pZ) (X := X) (S := S0) Tryz.func39 rfl rfl, hat, jb1, alH0, stH, aev, jaq, jaN, jbX, jaw, jaB, Nat.reduceLT, if_true, jag, Nat.reduceEqDiff, if_false, reduceIte, List.map_cons, List.map_nil, List.nil_append, List.append_nil, List.getElem?_cons_zero, List.getElem?_cons_succ]
 obtain ⟨v2, μ3, hS, hv2, hA3, hn3, hk3⟩ := jfD (X := X) (S := S0) (k := k + 55) (w := w) hH2.arena (q := q + 1 + i) (by omega)
 subst hv2
 have hS : aFun pZ (jai pZ X S0 (k + 75)) 98 [.pointer (some ⟨ap, 0, none⟩), .int .i64 (.ofNat (q + 1 + i)), .int .u64 (.ofNat w)] ⟨(μ1.obs.set μ1.next hd0).set μ1.next (hd1 kd pn n), Nat.add μ1.next 1⟩ = some (.int .i64 0, μ3) := hS
 refine jaf ?_
 refine jaf ?_
 refine jbP (gs := ?_) ?_ ?_
 rotate_left
 ·rfl
 simp only [run2, wanted, aOne, aP, aR, aA, aT, jb2, jbz, go_call (P := pZ) (X := X) (S := S0) Tryz.func98 rfl rfl, hS, faD2, ld3, cH2, jbj, faH0, ldA, hH2.head, a1, a2, ieq_00, aev, jaq, jaN, jaw, aBin, aInt, ilt_z, jap, hi, jfQ, Addr.add, rzT, List.map_cons, List.map_nil, List.nil_append, List.append_nil,
  jaB, Nat.reduceLT, if_true, jag, Nat.reduceEqDiff, if_false, reduceIte, reduceCtorEq, decide_true, decide_false, Bool.not_true, Bool.not_false, beq_self_eq_true, jge, jgf]
 refine jan ?_ ?_
 ·simp only [go_sem]
 refine jaD ?_
 simp only [jag]
 refine jaf ?_
 refine jab ?_ ?_
 ·rfl
 simp only [run1, aOne, aP, aev, jaq, jaN, jaw, jaB, Nat.reduceLT, if_true, jag, Nat.reduceEqDiff, if_false, reduceIte]
 refine jae ?_
 have hle : μ.next ≤ μ3.next := by rw [hn3]; exact hg2.1
 refine ⟨rfl, .int .i64 0, ?_, rfl, ⟨?_, hA3, rzO hH.h1 hle, rzO hH.h2 hle, rzO hH.h3 hle, hH.h4⟩, hle, fun j hj hjw => (hk3 j hjw).trans (hg2.2 j hj)⟩
 ·simp only [go_sem, Tryz.results59]
 ·rw [← hH.head]
  unfold jad
  rw [hk3 hp hH.h4, hg2.2 hp hH.h1]
end
noncomputable section
variable {X : XT}
theorem quo16 (m : Nat) (h : m < 4611686018427387904) : aDiv false .i64 .i64 (.ofNat m) 16 = some (.int .i64 (.ofNat (m / 16))) := by
 show some (Value.int .i64 (jak .i64 (.ofNat (m / 16)))) = _
 rw [q64 _ (by omega)]
theorem quo256 (m : Nat) (h : m < 4611686018427387904) : aDiv false .i64 .i64 (.ofNat m) 256 = some (.int .i64 (.ofNat (m / 256))) := by
 show some (Value.int .i64 (jak .i64 (.ofNat (m / 256)))) = _
 rw [q64 _ (by omega)]
theorem jex (z : Array Value) (ov : T Value) (o k : Nat) (vs : List Value) : cellAt z (ov.lay o vs) k = if h : o ≤ k ∧ k < o + vs.length then vs[k - o]'(by omega) else cellAt z ov k := by
 unfold cellAt
 rw [T.get_lay]
 by_cases h : o ≤ k ∧ k < o + vs.length
 ·rw [if_pos h, dif_pos h, rzK (by omega)]
 ·rw [if_neg h, dif_neg h]
theorem iR : pZ.info? 174 = some Tryz.t174 := by kernel_rfl
theorem faR0 (ρ : Operand → Value) (x : Operand) : jaL pZ ρ 174 x 0 = (match ρ x with | .pointer (some a) => some (.pointer (some (a.add 0))) | _ => none) := jax (ft := 3) (off := 0) Tryz.underlying174 rfl i3 rfl ρ x
theorem faR1 (ρ : Operand → Value) (x : Operand) : jaL pZ ρ 174 x 1 = (match ρ x with | .pointer (some a) => some (.pointer (some (a.add 1))) | _ => none) := jax (ft := 3) (off := 1) Tryz.underlying174 rfl i3 rfl ρ x
theorem blk_uh {t : T Ob} {n m i a b : Nat} (h : Blk ⟨t, n⟩ i a b) : Blk ⟨t, m⟩ i a b := h
set_option maxHeartbeats 4000000 in
theorem take_no {k ap o f t n : Nat} {μ : Mem} (hf : jad μ ap o = some (.int .i64 (.ofNat f))) (ht : jad μ ap (o + 1) = some (.int .i64 (.ofNat t))) (hft : f ≤ t) (hT : t < 4611686018427387904) (hn : t - f < n) :
  EndsF (aFun pZ (jai pZ X S0 (k + 20)) 136 [.pointer (some ⟨ap, o, none⟩), .int .i64 (.ofNat n)] μ) fun v μ' => v = .tuple #[.int .i64 0, .bool false] ∧ μ' = ⟨μ.obs, μ.next + 11⟩ := by
 have a1 := jaZ t f hft hT
 have hf' : ∀ m, jad ⟨μ.obs, m⟩ ap o = some (.int .i64 (.ofNat f)) := fun m => hf
 have ht' : ∀ m, jad ⟨μ.obs, m⟩ ap (o + 1) = some (.int .i64 (.ofNat t)) := fun m => ht
 refine jac Tryz.func136 rfl rfl (nbl rfl) ?_
 simp only [go_sem, Tryz.ntmps136]
 refine jaf ?_
 refine jab ?_ ?_
 ·rfl
 simp only [go_sem]
 refine jaf ?_
 refine jaf ?_
 refine jaY (n := 11) (ms := [0, 1, 3, 7, 0, 16, 48, 112, 255, 0, 1023]) (ord := [0, 1, 2, 3, 4, 5, 6, 7, 8, 9, 10]) (ds := ?_) ?_ ?_ ?_ ?_ ?_ ?_
 rotate_left
 ·kernel_rfl
 ·kernel_rfl
 ·kernel_rfl
 ·rfl
 ·rfl
 try simp only [dRun, wanted, jaV, heavy, aP, jbg, aR, aev, jaq, jaN, jbj, faR0, faR1, ld3, Addr.add, Nat.add_zero, hf', ht', aBin, aInt, a1, jap, hn, jaK, Nat.reduceLT, if_true, jag, Nat.reduceEqDiff, if_false, reduceIte, decide_true]
 refine jaG ?_ ?_
 ·simp only [go_sem]
 refine jaf ?_
 refine jab ?_ ?_
 ·rfl
 simp only [go_sem]
 exact jae ⟨rfl, _, by simp only [go_sem, Tryz.results136], rfl, rfl⟩
set_option maxHeartbeats 4000000 in
theorem take_ok {k ap o f t n c te : Nat} {μ : Mem} (hb : Blk μ ap c te) (ho : o < c) (hf : jad μ ap o = some (.int .i64 (.ofNat f))) (ht : jad μ ap (o + 1) = some (.int .i64 (.ofNat t))) (hft : f ≤ t) (hT : t < 4611686018427387904) (hn : f + n ≤ t) :
  EndsF (aFun pZ (jai pZ X S0 (k + 20)) 136 [.pointer (some ⟨ap, o, none⟩), .int .i64 (.ofNat n)] μ) fun v μ' => v = .tuple #[.int .i64 (.ofNat f), .bool true] ∧ μ' = putL ⟨μ.obs, μ.next + 11⟩ ap o [.int .i64 (.ofNat (f + n))] := by
 have a1 := jaZ t f hft hT
 have a2 := jaT f n (by omega)
 have hn' : ¬ t - f < n := by omega
 have hf' : ∀ m, jad ⟨μ.obs, m⟩ ap o = some (.int .i64 (.ofNat f)) := fun m => hf
 have ht' : ∀ m, jad ⟨μ.obs, m⟩ ap (o + 1) = some (.int .i64 (.ofNat t)) := fun m => ht
 have hst := jaW (t := 3) (v := .int .i64 (.ofNat (f + n))) (μ := ⟨μ.obs, μ.next + 11⟩) i3 rfl rfl (blk_uh hb) ho
 refine jac Tryz.func136 rfl rfl (nbl rfl) ?_
 simp only [go_sem, Tryz.ntmps136]
 refine jaf ?_
 refine jab ?_ ?_
 ·rfl
 simp only [go_sem]
 refine jaf ?_
 refine jaf ?_
 refine jaY (n := 11) (ms := [0, 1, 3, 7, 0, 16, 48, 112, 255, 0, 1023]) (ord := [0, 1, 2, 3, 4, 5, 6, 7, 8, 9, 10]) (ds := ?_) ?_ ?_ ?_ ?_ ?_ ?_
 rotate_left
 ·kernel_rfl
 ·kernel_rfl
 ·kernel_rfl
 ·rfl
 ·rfl
 try simp only [dRun, wanted, jaV, heavy, aP, jbg, aR, aev, jaq, jaN, jbj, faR0, faR1, ld3, Addr.add, Nat.add_zero, hf', ht', aBin, aInt, a1, jap, hn', jaK, Nat.reduceLT, if_true, jag, Nat.reduceEqDiff, if_false, reduceIte, decide_true, decide_false]
 refine jan ?_ ?_
 ·simp only [go_sem]
 refine jaD ?_
 simp only [jag]
 refine jaf ?_
 refine jab ?_ ?_
 ·rfl
 simp only [go_sem, faR0, ld3, hf', Nat.add_zero]
 refine jaf ?_
 refine jab ?_ ?_
 ·rfl
 simp only [go_sem, faR0, ld3, hf', Nat.add_zero, a2, hst]
 refine jaf ?_
 refine jab ?_ ?_
 ·rfl
 simp only [go_sem]
 exact jae ⟨rfl, _, by simp only [go_sem, Tryz.results136], rfl, rfl⟩
end
noncomputable section
variable {X : XT}
theorem iLs : pZ.info? 172 = some Tryz.t172 := by kernel_rfl
theorem iL : pZ.info? 229 = some Tryz.t229 := by kernel_rfl
theorem i4 : pZ.info? 4 = some Tryz.t4 := by kernel_rfl
theorem faA1 (ρ : Operand → Value) (x : Operand) : jaL pZ ρ 176 x 1 = (match ρ x with | .pointer (some a) => some (.pointer (some (a.add 1))) | _ => none) := jax (ft := 172) (off := 1) Tryz.underlying176 rfl iLs rfl ρ x
theorem faL0 (ρ : Operand → Value) (x : Operand) : jaL pZ ρ 229 x 0 = (match ρ x with | .pointer (some a) => some (.pointer (some (a.add 0))) | _ => none) := jax (ft := 4) (off := 0) Tryz.underlying229 rfl i4 rfl ρ x
theorem ldLs (μ : Mem) (i o : Nat) : jbZ pZ μ 172 (.pointer (some ⟨i, o, none⟩)) = jad μ i o := jbx Tryz.underlying172 rfl μ i o
theorem ld4 (μ : Mem) (i o : Nat) : jbZ pZ μ 4 (.pointer (some ⟨i, o, none⟩)) = jad μ i o := jbx Tryz.underlying4 rfl μ i o
structure Lines (μ : Mem) (ap lb L : Nat) (ln : Nat → Bool) : Prop where
 head : ∃ c, jad μ ap 1 = some (.slice (some ⟨lb, 0, none⟩) L (2 * c)) ∧ L ≤ c
 blk : Blk μ lb (2 * L) 229
 ln : ∀ k, k < L → jad μ lb (k * 2) = some (.bool (ln k))
 mrk : ∀ k, k < L → ∃ b, jad μ lb (k * 2 + 1) = some (.bool b)
set_option maxHeartbeats 4000000 in
theorem hole_loop {ap lb L f t : Nat} {ln : Nat → Bool} {μ : Mem} (hL : Lines μ ap lb L ln) (h16 : f % 16 = 0) (ht : t = f + 16) (htL : t ≤ L) (hT : L < 1000000) (hf : ∀ k, f ≤ k → k < t → ln k = false) :
  ∀ (e m p : Nat) (tm : T Value), p + m = t → f ≤ p → jah tm 0 = .pointer (some ⟨ap, 0, none⟩) → jah tm 1 = .int .i64 (.ofNat f) → jah tm 5 = .int .i64 (.ofNat p) →
   LpC X (e + m + 20) Tryz.f162 0 35 tm μ fun x r μ' => x = .exit 0 ∧ μ' = μ ∧ ∃ tm', r = ⟨35, tm', [], none⟩ ∧ jah tm' 5 = .int .i64 (.ofNat t) := by
 obtain ⟨c, hl, hc⟩ := hL.head
 obtain ⟨df, hdf⟩ := exq (f / 16)
 have q2 : aDiv false .i64 .i64 (.ofNat f) 16 = some (.int .i64 (.ofNat df)) := hdf ▸ quo16 f (by omega)
 intro e m
 induction m with
 | zero =>
   intro p tm hj hp h0 h1 h5
   obtain rfl : p = t := hj
   obtain ⟨dp, hdp⟩ := exq (p / 16)
   have q1 : aDiv false .i64 .i64 (.ofNat p) 16 = some (.int .i64 (.ofNat dp)) := hdp ▸ quo16 p (by omega)
   have hne : ieq (.ofNat dp) (.ofNat df) = false := dF (jbG _ _) (by omega)
   have lnL : aLen pZ 172 (.slice (some ⟨lb, 0, none⟩) L (2 * c)) = some L := by
    unfold aLen
    try simp only [Tryz.underlying172]
   obtain ⟨t1, e1⟩ := eqx (ilt (.ofNat p) (.ofNat L))
   refine jam ?_
   cases t1
   all_goals
    repeat ((first | refine jaa rfl ?_ | refine jaj rfl ?_); (try simp only [go_sem, h0, h1, h5, faA1, ldLs, hl, lnL, jao, e1, q1, q2, hne]); fail_if_success refine stk ?_)
    exact ⟨by trivial, by trivial, _, rfl, by simp only [go_sem, h5]⟩
 | succ m ih =>
   intro p tm hj hp h0 h1 h5
   have hlt : p < L := by omega
   obtain ⟨dp, hdp⟩ := exq (p / 16)
   have q1 : aDiv false .i64 .i64 (.ofNat p) 16 = some (.int .i64 (.ofNat dp)) := hdp ▸ quo16 p (by omega)
   have heq : decide (dp = df) = true := rzU (by omega)
   have hln : jad μ lb (p * 2) = some (.bool false) := by rw [hL.ln _ hlt, hf p hp (by omega)]
   have hia : ∀ ρ : Operand → Value, ∀ a b', ρ a = .slice (some ⟨lb, 0, none⟩) L (2 * c) → ρ b' = .int .i64 (.ofNat p) → jal pZ ρ 172 a b' = some (.pointer (some ⟨lb, p * 2, none⟩)) := fun ρ a b' g1 g2 => by
    rw [jdp (P := pZ) Tryz.underlying172 iL g1 g2 hlt, rzT]; rfl
   have a1 : jak .i64 (Int.add (.ofNat p) 1) = .ofNat (p + 1) := jaT p 1 (by omega)
   refine jam ?_
   refine jaf ?_
   refine jaf ?_
   refine jaa rfl ?_
   repeat (refine jaj rfl ?_; (try simp only [go_sem, h0, h1, h5, faA1, faL0, ldLs, ld4, hl, hia, hln, aLen, Tryz.underlying172, jao, jap, hlt, q1, q2, jbG, heq, Nat.add_zero]); fail_if_success refine stk ?_)
   refine jaG ?_ ?_
   ·simp only [go_sem]
   refine jaD ?_
   simp only [jag]
   refine jaR ?_
   refine jab ?_ ?_
   ·rfl
   simp only [go_sem, h5, jbI, a1]
   rw [(by omega : e + (m + 1) + 19 = e + m + 20)]
   refine ih (p + 1) _ (by omega) (by omega) ?_ ?_ ?_
   ·try simp only [go_sem, h0]
   ·try simp only [go_sem, h1]
   ·try simp only [go_sem]
set_option maxHeartbeats 4000000 in
theorem hole_eq {f ap lb L a t : Nat} {ln : Nat → Bool} {μ : Mem} (hf : 60 ≤ f) (hL : Lines μ ap lb L ln) (h16 : a % 16 = 0) (ht : t = a + 16) (htL : t ≤ L) (hT : L < 1000000) (hln : ∀ k, a ≤ k → k < t → ln k = false) :
  aFun pZ (jai pZ X S0 f) 162 [.pointer (some ⟨ap, 0, none⟩), .int .i64 (.ofNat a)] μ = some (.int .i64 (.ofNat t), μ) := by
 obtain ⟨k, rfl⟩ := Nat.exists_eq_add_of_le' hf
 refine jau ?_
 refine jac Tryz.func162 rfl rfl (nbl rfl) ?_
 simp only [go_sem, Tryz.ntmps162]
 refine jaf ?_
 refine jab ?_ ?_
 ·rfl
 simp only [go_sem]
 refine jaf ?_
 refine jab ?_ ?_
 ·rfl
 simp only [go_sem]
 refine jaf ?_
 refine jaR ?_
 refine rzM (hole_loop hL h16 ht htL hT hln (k + 20) 16 a _ (by omega) (rzN _) ?_ ?_ ?_) ?_
 ·try simp only [go_sem]
 ·try simp only [go_sem]
 ·try simp only [go_sem]
 rintro x' r' μ' ⟨rfl, rfl, tm', rfl, g5⟩
 try simp only [go_sem]
 refine jaf ?_
 refine jab ?_ ?_
 ·rfl
 simp only [go_sem, g5]
 exact jae ⟨rfl, _, by simp only [go_sem, Tryz.results162], rfl, rfl⟩
set_option maxHeartbeats 4000000 in
theorem find_eq {f ap lb L a t : Nat} {ln : Nat → Bool} {μ : Mem} (hf : 90 ≤ f) (hL : Lines μ ap lb L ln) (h16 : a % 16 = 0) (ht : t = a + 16) (htL : t ≤ L) (hT : L < 1000000) (hln : ∀ k, a ≤ k → k < t → ln k = false) :
  aFun pZ (jai pZ X S0 f) 137 [.pointer (some ⟨ap, 0, none⟩), .int .i64 (.ofNat a), .int .i64 1] μ = some (.tuple #[.int .i64 (.ofNat a), .int .i64 (.ofNat t), .bool true], μ) := by
 obtain ⟨k, rfl⟩ := Nat.exists_eq_add_of_le' hf
 refine jau ?_
 obtain ⟨c, hl, hc⟩ := hL.head
 have hlt : a < L := by omega
 have hh : ∀ f, 60 ≤ f → aFun pZ (jai pZ X S0 f) 162 [.pointer (some ⟨ap, 0, none⟩), .int .i64 (.ofNat a)] μ = some (.int .i64 (.ofNat t), μ) := fun f hf => hole_eq hf hL h16 ht htL hT hln
 have a1 := jaZ t a (by omega) (by omega)
 have a2 : ilt (.ofNat (t - a)) 1 = false := dF (jap (t - a) 1) (by omega)
 refine jac Tryz.func137 rfl rfl (nbl rfl) ?_
 simp only [go_sem, Tryz.ntmps137]
 refine jaf ?_
 refine jab ?_ ?_
 ·rfl
 simp only [go_sem]
 refine jaf ?_
 refine jaf ?_
 refine jab ?_ ?_
 ·rfl
 simp only [go_sem]
 refine jaR ?_
 refine jam ?_
 refine jaf ?_
 refine jaf ?_
 refine jab ?_ ?_
 ·rfl
 simp only [go_sem, faA1, ldLs, hl, jbE, aLen, Tryz.underlying172, jao, jap, hlt]
 refine jaG ?_ ?_
 ·simp only [go_sem]
 refine jaD ?_
 simp only [jag]
 refine jaR ?_
 refine jaf ?_
 refine jab ?_ ?_
 ·rfl
 simp only [go_sem, gg162, hh, Nat.reduceLeDiff]
 refine jaf ?_
 refine jaf ?_
 refine jab ?_ ?_
 ·rfl
 simp only [go_sem, a1, a2]
 refine jaG ?_ ?_
 ·simp only [go_sem]
 refine jaf ?_
 refine jab ?_ ?_
 ·rfl
 simp only [go_sem]
 exact jae ⟨rfl, _, by simp only [go_sem, Tryz.results137], rfl, rfl⟩
end
noncomputable section
variable {X : XT}
theorem cells_set {t : T Ob} {i j p n m : Nat} {o : Ob} (h : j ≠ i) : jad ⟨t.set i o, n⟩ j p = jad ⟨t, m⟩ j p := by
 have : T.get (t.set i o) j = t.get j := by rw [T.get_set, if_neg h]
 unfold jad
 try simp only [this]
def fill (ln : Nat → Bool) (a p : Nat) : Nat → Bool := fun k => if a ≤ k ∧ k < p then true else ln k
theorem fill_self (ln : Nat → Bool) (a : Nat) : fill ln a a = ln := by
 funext k; unfold fill; rw [if_neg (by omega)]
theorem Lines.put {μ : Mem} {ap lb L a p : Nat} {ln : Nat → Bool} (h : Lines μ ap lb L (fill ln a p)) (hne : ap ≠ lb) (hp : p < L) (ha : a ≤ p) : Lines (putL μ lb (p * 2) [.bool true]) ap lb L (fill ln a (p + 1)) := by
 obtain ⟨c, h1, h2⟩ := h.head
 refine ⟨⟨c, by rw [jfx hne]; exact h1, h2⟩, h.blk.put _ _, fun k hk => ?_, fun k hk => ?_⟩
 ·rw [jaP h.blk (by show p * 2 + 1 ≤ 2 * L; omega)]
  by_cases e : k = p
  ·subst e
   rw [dif_pos ⟨rfl, rzN _, by show k * 2 < k * 2 + 1; omega⟩]
   unfold fill
   rw [if_pos ⟨ha, by omega⟩]
   simp
  ·rw [dif_neg (by rintro ⟨_, g1, g2⟩; simp only [List.length_cons, List.length_nil] at g2; omega), h.ln k hk]
   unfold fill
   by_cases e2 : a ≤ k ∧ k < p
   ·rw [if_pos e2, if_pos ⟨e2.1, by omega⟩]
   ·rw [if_neg e2, if_neg (by omega)]
 ·rw [jaP h.blk (by show p * 2 + 1 ≤ 2 * L; omega), dif_neg (by rintro ⟨_, g1, g2⟩; simp only [List.length_cons, List.length_nil] at g2; omega)]
  exact h.mrk k hk
theorem Lines.keep {μ μ' : Mem} {ap lb L : Nat} {ln : Nat → Bool} (h : Lines μ ap lb L ln) (h1 : jad μ' ap 1 = jad μ ap 1) (h2 : μ'.obs.get lb = μ.obs.get lb) : Lines μ' ap lb L ln := by
 obtain ⟨c, g1, g2⟩ := h.head
 refine ⟨⟨c, h1.trans g1, g2⟩, ?_, fun k hk => ?_, fun k hk => ?_⟩
 ·unfold Blk; rw [h2]; exact h.blk
 ·rw [← h.ln k hk]; unfold jad; rw [h2]
 ·obtain ⟨b, hb⟩ := h.mrk k hk
  exact ⟨b, by rw [← hb]; unfold jad; rw [h2]⟩
set_option maxHeartbeats 4000000 in
theorem jkS {ap lb L a t : Nat} {ln : Nat → Bool} {μ0 : Mem} (hne : ap ≠ lb) (htL : t ≤ L) (hT : L < 1000000) :
  ∀ (e m p : Nat) (tm : T Value) (μ : Mem), p + m = t → a ≤ p → Lines μ ap lb L (fill ln a p) → μ.next = μ0.next → (∀ i, i ≠ lb → μ.obs.get i = μ0.obs.get i) → jah tm 0 = .pointer (some ⟨ap, 0, none⟩) → jah tm 1 = .int .i64 (.ofNat a) → jah tm 2 = .int .i64 (.ofNat t) → jah tm 6 = .pointer (some ⟨μ0.next - 1, 0, none⟩) → jah tm 7 = .int .i64 (.ofNat p) →
   LpC X (e + m + 20) Tryz.f138 0 26 tm μ fun x r μ' => x = .exit 0 ∧ Lines μ' ap lb L (fill ln a t) ∧ μ'.next = μ0.next ∧ (∀ i, i ≠ lb → μ'.obs.get i = μ0.obs.get i) ∧ ∃ tm', r = ⟨26, tm', [], none⟩ ∧ jah tm' 1 = .int .i64 (.ofNat a) ∧ jah tm' 2 = .int .i64 (.ofNat t) ∧ jah tm' 6 = .pointer (some ⟨μ0.next - 1, 0, none⟩) := by
 intro e m
 induction m with
 | zero =>
   intro p tm μ hj hp hL hn hk h0 h1 h2 h6 h7
   obtain rfl : p = t := hj
   refine jam ?_
   refine jaf ?_
   refine jaf ?_
   refine jab ?_ ?_
   ·rfl
   simp only [go_sem, h7, h2, jap, Nat.lt_irrefl]
   refine jan ?_ ?_
   ·simp only [go_sem]
   refine jcZ ?_
   simp only [jcp]
   exact ⟨trivial, hL, hn, hk, _, rfl, by simp only [go_sem, h1], by simp only [go_sem, h2], by simp only [go_sem, h6]⟩
 | succ m ih =>
   intro p tm μ hj hp hL hn hk h0 h1 h2 h6 h7
   obtain ⟨c, hl, hc⟩ := hL.head
   have hlt : p < t := by omega
   have hia : ∀ ρ : Operand → Value, ∀ a b', ρ a = .slice (some ⟨lb, 0, none⟩) L (2 * c) → ρ b' = .int .i64 (.ofNat p) → jal pZ ρ 172 a b' = some (.pointer (some ⟨lb, p * 2, none⟩)) := fun ρ a b' g1 g2 => by
    rw [jdp (P := pZ) Tryz.underlying172 iL g1 g2 (by omega), rzT]; rfl
   have a1 : jak .i64 (Int.add (.ofNat p) 1) = .ofNat (p + 1) := jaT p 1 (by omega)
   have hst := jaW (t := 4) (v := .bool true) i4 rfl rfl hL.blk (show p * 2 < 2 * L by omega)
   refine jam ?_
   refine jaf ?_
   refine jaf ?_
   refine jab ?_ ?_
   ·rfl
   simp only [go_sem, h7, h2, jap, hlt]
   refine jaG ?_ ?_
   ·simp only [go_sem]
   refine jaD ?_
   simp only [jag]
   refine jaf ?_
   refine jaR ?_
   refine jab ?_ ?_
   ·rfl
   simp only [go_sem, h0, h7, faA1, faL0, ldLs, hl, hia, hst, Nat.add_zero]
   try simp only [jbI, jag]
   refine jab ?_ ?_
   ·rfl
   simp only [go_sem, h7, a1]
   rw [(by omega : e + (m + 1) + 19 = e + m + 20)]
   refine ih (p + 1) _ _ (by omega) (by omega) (hL.put hne (by omega) hp) (by rw [jaE]; exact hn) (fun i hi => by rw [jaX _ _ _ _ hi]; exact hk i hi) ?_ ?_ ?_ ?_ ?_ <;> simp only [go_sem, h0, h1, h2, h6]
theorem zR : jaO pZ 174 = some (.agg #[.int .i64 0, .int .i64 0]) := by unfold jaO; rw [iR]; rfl
def rn0 : Ob := .cells 2 174 #[.int .i64 0, .int .i64 0] .e 0 0 false false
theorem alR : jb4 pZ 174 = some (rn0, fun id => .pointer (some ⟨id, 0, none⟩)) := by unfold jb4; rw [zR]; rfl
theorem bdR (ρ : Operand → Value) (a b : Operand) (o1 : one (ρ a) = true) (o2 : one (ρ b) = true) : jbF pZ ρ 174 #[(0, a), (1, b)] = some (.agg #[ρ a, ρ b]) := by
 refine jba (pl := [(0, 1), (1, 1)]) zR Tryz.underlying174 (by kernel_rfl) ?_
 show jcC _ [.int .i64 0, .int .i64 0] [(0, ρ a), (1, ρ b)] = some [ρ a, ρ b]
 rw [jbK (off := 0) rfl o1 (by simp), jbK (off := 1) rfl o2 (by simp)]
 rfl
theorem ldR {μ : Mem} {i : Nat} {x y : Value} (h : ∃ ov, μ.obs.get i = some (.cells 2 174 #[.int .i64 0, .int .i64 0] ov 0 0 false false) ∧ ov = T.lay .e 0 [x, y]) : jbZ pZ μ 174 (.pointer (some ⟨i, 0, none⟩)) = some (.agg #[x, y]) := by
 obtain ⟨ov, h1, rfl⟩ := h
 rw [jb7 (P := pZ) (n := 2) (z := #[.int .i64 0, .int .i64 0]) (ov := T.lay .e 0 [x, y]) Tryz.underlying174 iR (by rw [h1]; rfl) (by decide)]
 rfl
set_option maxHeartbeats 4000000 in
theorem claim {f ap lb L a t : Nat} {ln : Nat → Bool} {μ : Mem} (hf : 60 ≤ f) (hL : Lines μ ap lb L ln) (hne : ap ≠ lb) (h1 : ap < μ.next) (h2 : lb < μ.next) (hat : a ≤ t) (htL : t ≤ L) (hta : t - a ≤ 20) (hT : L < 1000000) :
  EndsF (aFun pZ (jai pZ X S0 f) 138 [.pointer (some ⟨ap, 0, none⟩), .int .i64 (.ofNat a), .int .i64 (.ofNat t)] μ) fun v μ' => v = .agg #[.int .i64 (.ofNat (a * 16)), .int .i64 (.ofNat (t * 16))] ∧ Lines μ' ap lb L (fill ln a t) ∧ μ'.next = μ.next + 1 ∧ (∀ i, i < μ.next → i ≠ lb → μ'.obs.get i = μ.obs.get i) := by
 obtain ⟨k, rfl⟩ := Nat.exists_eq_add_of_le' hf
 have hL1 : Lines ⟨μ.obs.set μ.next rn0, μ.next + 1⟩ ap lb L (fill ln a a) := by
  rw [fill_self]
  refine hL.keep ?_ ?_
  ·exact cells_set (by omega)
  ·show T.get _ lb = _; rw [T.get_set, if_neg (by omega)]
 have m1 : jak .i64 (Int.mul (.ofNat a) 16) = .ofNat (a * 16) := jc7 a 16 (by omega)
 have m2 : jak .i64 (Int.mul (.ofNat t) 16) = .ofNat (t * 16) := jc7 t 16 (by omega)
 obtain ⟨a16, ha16⟩ := exq (a * 16)
 obtain ⟨t16, ht16⟩ := exq (t * 16)
 rw [← ha16] at m1
 rw [← ht16] at m2
 rw [← ha16, ← ht16]
 refine jac Tryz.func138 rfl rfl (nbl rfl) ?_
 simp only [go_sem, Tryz.ntmps138]
 refine jaf ?_
 refine jab ?_ ?_
 ·rfl
 simp only [go_sem, alR]
 refine jaf ?_
 refine jaf ?_
 refine jab ?_ ?_
 ·rfl
 simp only [go_sem]
 refine jaR ?_
 rw [(by omega : k + 56 = (k + 36 - (t - a)) + (t - a) + 20)]
 refine rzM (jkS hne htL hT (k + 36 - (t - a)) (t - a) a _ ⟨μ.obs.set μ.next rn0, μ.next + 1⟩ (by omega) (rzN _) hL1 rfl (fun _ _ => rfl) ?_ ?_ ?_ ?_ ?_) ?_
 ·try simp only [go_sem]
 ·try simp only [go_sem]
 ·try simp only [go_sem]
 ·try simp only [go_sem]; rfl
 ·try simp only [go_sem]
 rintro x' r' μ' ⟨rfl, hL2, hn2, hk2, tm', rfl, g1, g2, g6⟩
 try simp only [go_sem]
 have g6' : jah tm' 6 = .pointer (some ⟨μ.next, 0, none⟩) := g6
 have hob : μ'.obs.get μ.next = some rn0 := by
  rw [hk2 _ (by omega)]; show T.get _ _ = _; rw [T.get_set, if_pos rfl]
 have hb : Blk μ' μ.next 2 174 := ⟨_, _, _, _, hob⟩
 have hst : jbu pZ μ' 174 (.pointer (some ⟨μ.next, 0, none⟩)) (.agg #[.int .i64 (.ofNat a16), .int .i64 (.ofNat t16)]) = some (undef, putL μ' μ.next 0 [.int .i64 (.ofNat a16), .int .i64 (.ofNat t16)]) := jcR (t := 174) (o := 0) (vs := [.int .i64 (.ofNat a16), .int .i64 (.ofNat t16)]) iR rfl rfl hb (by show 0 + 2 ≤ 2; decide)
 refine jaf ?_
 refine jab ?_ ?_
 ·rfl
 simp only [go_sem, g1, g2, g6', m1, m2, bdR, one, hst]
 refine jae ?_
 have e1 : (putL μ' μ.next 0 [.int .i64 (.ofNat a16), .int .i64 (.ofNat t16)]).obs.get μ.next = some (.cells 2 174 #[.int .i64 0, .int .i64 0] (T.lay .e 0 [.int .i64 (.ofNat a16), .int .i64 (.ofNat t16)]) 0 0 false false) := jdK hob
 refine ⟨rfl, .agg #[.int .i64 (.ofNat a16), .int .i64 (.ofNat t16)], ?_, rfl, hL2.keep (jfx (by omega)) (jaX _ _ _ _ (by omega)), (jaE _ _ _ _).trans hn2, fun i hi hil => ?_⟩
 ·try simp only [go_sem, Tryz.results138, g6', ldR ⟨_, e1, rfl⟩]
 ·rw [jaX _ _ _ _ (by omega), hk2 i hil]
  show T.get _ _ = _; rw [T.get_set, if_neg (by omega)]
set_option maxHeartbeats 4000000 in
theorem jhX {f ap wb N : Nat} {ws : Nat → Nat} {μ : Mem} (hf : 20 ≤ f) (hA : Arena μ ap wb N ws) (hN : N < 1000000) : aFun pZ (jai pZ X S0 f) 197 [.pointer (some ⟨ap, 0, none⟩)] μ = some (.int .i64 (.ofNat (N / 256)), μ) := by
 obtain ⟨k, rfl⟩ := Nat.exists_eq_add_of_le' hf
 obtain ⟨c, hl⟩ := hA.head
 obtain ⟨d, hd⟩ := exq (N / 256)
 have q1 : aDiv false .i64 .i64 (.ofNat N) 256 = some (.int .i64 (.ofNat d)) := hd ▸ quo256 N (by omega)
 rw [← hd]
 refine jau ?_
 refine jac Tryz.func197 rfl rfl (nbl rfl) ?_
 simp only [go_sem, Tryz.ntmps197]
 refine jaf ?_
 refine jab ?_ ?_
 ·rfl
 simp only [go_sem]
 refine jaf ?_
 refine jab ?_ ?_
 ·rfl
 simp only [go_sem, faA0, ldWs, hl, jbE, aLen, Tryz.underlying69, jao, q1]
 exact jae ⟨rfl, _, by simp only [go_sem, Tryz.results197], rfl, rfl⟩
end
noncomputable section
variable {X : XT}
theorem jim {P : Program} {ρ : Operand → Value} {t e : TypeId} {inf : TypeInfo} {x y z : Operand} {i o n c l h : Nat} {kd kd' : IntKind} (hu : P.underlying t = some (.slice e)) (hi : P.info? e = some inf) (hx : ρ x = .slice (some ⟨i, o, none⟩) n (2 * c)) (hy : ρ y = .int kd (.ofNat l)) (hz : ρ z = .int kd' (.ofNat h)) (hlh : l ≤ h) (hhc : h ≤ c) (hlc : l < c) :
  jaJ P ρ t x (some y) (some z) none = some (.slice (some ⟨i, o + l * inf.size, none⟩) (h - l) (2 * (c - l))) := by
 unfold jaJ
 have e1 : Nat.beq (Nat.mod (2 * c) 2) 0 = true := by rw [show Nat.mod (2 * c) 2 = 0 from Nat.mul_mod_right 2 c]; rfl
 have e2 : Nat.div (2 * c) 2 = c := by show 2 * c / 2 = c; omega
 have e3 : Nat.ble h c = true := rzP hhc
 have e4 : Nat.ble l h = true := rzP hlh
 have e5 : Nat.beq c l = false := by
  cases hb : Nat.beq c l with
  | false => rfl
  | true => have := Nat.eq_of_beq_eq_true hb; omega
 try simp only [hx, hu, hi, e1, e2, ja2, jbl, hy, hz, e3, e4, e5]
 try simp only [Addr.add, Nat.mul_eq, Nat.sub_eq]
 by_cases h0 : l * inf.size = 0
 ·rw [if_pos h0, h0]; rfl
 ·rw [if_neg h0]
def lnO : Ob := .cells 2 229 #[.bool false, .bool false] .e 0 0 false false
def lnI (x y : Bool) : Ob := .cells 2 229 #[.bool false, .bool false] (T.lay .e 0 [.bool x, .bool y]) 0 0 false false
theorem zL : jaO pZ 229 = some (.agg #[.bool false, .bool false]) := by unfold jaO; rw [iL]; rfl
theorem alL : jb4 pZ 229 = some (lnO, fun id => .pointer (some ⟨id, 0, none⟩)) := by unfold jb4; rw [zL]; rfl
theorem stL (t : T Ob) (n a : Nat) (x y : Bool) : jbu pZ ⟨t.set a lnO, n⟩ 229 (.pointer (some ⟨a, 0, none⟩)) (.agg #[.bool x, .bool y]) = some (undef, ⟨(t.set a lnO).set a (lnI x y), n⟩) :=
 jdv (P := pZ) (t := 229) (vs := [.bool x, .bool y]) (μ := ⟨t.set a lnO, n⟩) (i := a) (o := 0) iL rfl rfl (by show T.get _ a = _; rw [T.get_set, if_pos rfl]; rfl) (by show 0 + 2 ≤ 2; decide)
theorem ldLi (t : T Ob) (n a : Nat) (x y : Bool) : jbZ pZ ⟨(t.set a lnO).set a (lnI x y), n⟩ 229 (.pointer (some ⟨a, 0, none⟩)) = some (.agg #[.bool x, .bool y]) := by
 rw [jb7 (P := pZ) (n := 2) (z := #[.bool false, .bool false]) (ov := T.lay .e 0 [.bool x, .bool y]) Tryz.underlying229 iL (by show jbk (T.get _ a) = _; rw [T.get_set, if_pos rfl]; rfl) (by decide)]
 rfl
theorem ldL2 {μ : Mem} {i o n te : Nat} {x y : Value} (h : Blk μ i n te) (ho : o + 2 ≤ n) (hx : jad μ i o = some x) (hy : jad μ i (o + 1) = some y) : jbZ pZ μ 229 (.pointer (some ⟨i, o, none⟩)) = some (.agg #[x, y]) := by
 obtain ⟨z, ov, fx, sh, hz⟩ := h
 have e : jbk (μ.obs.get i) = some (n, z, ov) := by rw [hz]; rfl
 rw [jb7 (P := pZ) Tryz.underlying229 iL e ho]
 rw [jbw e (by omega)] at hx hy
 cases hx; cases hy
 rfl
theorem bxL (x y : Bool) : aBox 229 (.agg #[.bool x, .bool y]) = some (.cells 2 229 #[.bool x, .bool y] .e 0 0 false false, fun id => .pointer (some ⟨id, 0, none⟩)) := rfl
set_option maxHeartbeats 4000000 in
theorem taken_eq {f : Nat} {x y : Bool} {μ : Mem} (hf : 20 ≤ f) : aFun pZ (jai pZ X S0 f) 240 [.agg #[.bool x, .bool y]] μ = some (.bool (!x), ⟨μ.obs.set μ.next (.cells 2 229 #[.bool x, .bool y] .e 0 0 false false), μ.next + 1⟩) := by
 obtain ⟨k, rfl⟩ := Nat.exists_eq_add_of_le' hf
 refine jau ?_
 have hc : ∀ n, jad ⟨μ.obs.set μ.next (.cells 2 229 #[.bool x, .bool y] .e 0 0 false false), n⟩ μ.next 0 = some (.bool x) := fun n =>
  (jbw (n := 2) (z := #[.bool x, .bool y]) (ov := .e) (by show jbk (T.get _ μ.next) = _; rw [T.get_set, if_pos rfl]; rfl) (by decide)).trans rfl
 refine jac Tryz.func240 rfl rfl (nbl rfl) ?_
 simp only [go_sem, Tryz.ntmps240]
 refine jaf ?_
 refine jab ?_ ?_
 ·rfl
 simp only [go_sem, bxL]
 refine jaf ?_
 refine jab ?_ ?_
 ·rfl
 simp only [go_sem, faL0, ld4, hc, Nat.add_zero]
 exact jae ⟨rfl, _, by simp only [go_sem, Tryz.results240], rfl, rfl⟩
def cnt (ln : Nat → Bool) (a : Nat) : Nat → Nat
 | 0 => 0
 | j + 1 => cnt ln a j + (if ln (a + j) then 0 else 1)
theorem cnt_le (ln : Nat → Bool) (a : Nat) : ∀ j, cnt ln a j ≤ j
 | 0 => rzN _
 | j + 1 => by have := cnt_le ln a j; unfold cnt; split <;> omega
theorem Lines.grow {μ μ' : Mem} {ap lb L : Nat} {ln : Nat → Bool} (h : Lines μ ap lb L ln) (hg : Grow μ μ') (h1 : ap < μ.next) (h2 : lb < μ.next) : Lines μ' ap lb L ln :=
 h.keep (by unfold jad; rw [hg.2 ap h1]) (hg.2 lb h2)
set_option maxHeartbeats 4000000 in
theorem jkO {ap lb L a oa c : Nat} {ln : Nat → Bool} {μ0 : Mem} (h1 : ap < μ0.next) (h2 : lb < μ0.next) (hoa : oa = a * 2) (hL0 : Lines μ0 ap lb L ln) (haL : a + 16 ≤ L) :
  ∀ (e m j : Nat) (tm : T Value) (μ : Mem), j + m = 16 → Grow μ0 μ → jah tm 1 = .func (.func 240) #[] #[] → jah tm 5 = .int .i64 (.ofNat (cnt ln a j)) → jah tm 8 = .slice (some ⟨lb, oa, none⟩) 16 c → jah tm 9 = .int .i64 (.ofNat 16) → jah tm 10 = .int .i64 (.ofNat j) →
   LpC X (e + m + 60) Tryz.f239 0 21 tm μ fun x r μ' => x = .exit 0 ∧ Grow μ0 μ' ∧ ∃ tm', r = ⟨21, tm', [], none⟩ ∧ jah tm' 5 = .int .i64 (.ofNat (cnt ln a 16)) := by
 intro e m
 induction m with
 | zero =>
   intro j tm μ hj hg r1 r5 r8 r9 r10
   obtain rfl : j = 16 := hj
   refine jam ?_
   refine jaf ?_
   refine jab ?_ ?_
   ·rfl
   simp only [go_sem, r10, r9, jap, Nat.lt_irrefl]
   refine jaf ?_
   refine jan ?_ ?_
   ·simp only [go_sem]
   refine jcZ ?_
   simp only [jcp]
   exact ⟨trivial, hg, _, rfl, by simp only [go_sem, r5]⟩
 | succ m ih =>
   intro j tm μ hj hg r1 r5 r8 r9 r10
   have hlt : j < 16 := by omega
   have hL := hL0.grow hg h1 h2
   obtain ⟨bm, hbm⟩ := hL.mrk (a + j) (by omega)
   have hbl := hL.ln (a + j) (by omega)
   obtain ⟨oj, hoj⟩ := exq (oa + j * 2)
   have eo : (a + j) * 2 = oj := by omega
   rw [eo] at hbm hbl
   have hia : ∀ ρ : Operand → Value, ∀ a b', ρ a = .slice (some ⟨lb, oa, none⟩) 16 c → ρ b' = .int .i64 (.ofNat j) → jal pZ ρ 172 a b' = some (.pointer (some ⟨lb, oj, none⟩)) := fun ρ a b' g1 g2 => by
    rw [jdp (P := pZ) Tryz.underlying172 iL g1 g2 hlt, hoj]; rfl
   have hld := ldL2 hL.blk (by omega) hbl hbm
   have a1 : jak .i64 (Int.add (.ofNat j) 1) = .ofNat (j + 1) := jaT j 1 (by omega)
   have hcl := cnt_le ln a j
   obtain ⟨cj, hcj⟩ := exq (cnt ln a j)
   have a2 : jak .i64 (Int.add (.ofNat cj) 1) = .ofNat (cj + 1) := jaT cj 1 (by omega)
   rw [← hcj] at r5
   refine jam ?_
   refine jaf ?_
   refine jab ?_ ?_
   ·rfl
   simp only [go_sem, r10, r9, jap, hlt]
   refine jaf ?_
   refine jaG ?_ ?_
   ·simp only [go_sem]
   refine jaD ?_
   simp only [jag]
   refine jaf ?_
   refine jaR ?_
   refine jaf ?_
   refine jab ?_ ?_
   ·rfl
   simp only [go_sem, r8, r10, hia, hld, alL, stL]
   refine jaf ?_
   refine jab ?_ ?_
   ·rfl
   simp only [go_sem, r1, ldLi, gg240, taken_eq, Nat.reduceLeDiff]
   have hg2 := hg.trans ((jiH μ lnO (lnI (ln (a + j)) bm)).trans (jbc _ (.cells 2 229 #[.bool (ln (a + j)), .bool bm] .e 0 0 false false)))
   cases hb : ln (a + j) with
   | true =>
     rw [hb] at hg2
     refine jan ?_ ?_
     ·simp only [go_sem, Bool.not_true]
     refine jaD ?_
     try simp only [jbI, jag]
     refine jab ?_ ?_
     ·rfl
     simp only [go_sem, r10, a1]
     rw [(by omega : e + (m + 1) + 59 = e + m + 60)]
     refine ih (j + 1) _ _ (by omega) hg2 ?_ ?_ ?_ ?_ ?_
     ·try simp only [go_sem, r1]
     ·try simp only [go_sem, r5]; unfold cnt; rw [hb, hcj]; rfl
     ·try simp only [go_sem, r8]
     ·try simp only [go_sem, r9]
     ·try simp only [go_sem]
   | false =>
     rw [hb] at hg2
     refine jaG ?_ ?_
     ·simp only [go_sem, Bool.not_false]
     refine jab ?_ ?_
     ·rfl
     simp only [go_sem, r5, a2]
     try simp only [jbI, jag]
     refine jab ?_ ?_
     ·rfl
     simp only [go_sem, r10, a1]
     rw [(by omega : e + (m + 1) + 59 = e + m + 60)]
     refine ih (j + 1) _ _ (by omega) hg2 ?_ ?_ ?_ ?_ ?_
     ·try simp only [go_sem, r1]
     ·try simp only [go_sem]; unfold cnt; rw [hb, hcj]; rfl
     ·try simp only [go_sem, r8]
     ·try simp only [go_sem, r9]
     ·try simp only [go_sem]
end
noncomputable section
variable {X : XT}
set_option maxHeartbeats 4000000 in
theorem jkP {f ap lb L a oa c : Nat} {ln : Nat → Bool} {μ : Mem} (hf : 100 ≤ f) (h1 : ap < μ.next) (h2 : lb < μ.next) (hoa : oa = a * 2) (hL : Lines μ ap lb L ln) (haL : a + 16 ≤ L) :
  EndsF (aFun pZ (jai pZ X S0 f) 239 [.slice (some ⟨lb, oa, none⟩) 16 c, .func (.func 240) #[] #[]] μ) fun v μ' => v = .int .i64 (.ofNat (cnt ln a 16)) ∧ Grow μ μ' := by
 obtain ⟨k, rfl⟩ := Nat.exists_eq_add_of_le' hf
 refine jac Tryz.func239 rfl rfl (nbl rfl) ?_
 simp only [go_sem, Tryz.ntmps239]
 refine jaf ?_
 refine jab ?_ ?_
 ·rfl
 simp only [go_sem]
 refine jaf ?_
 refine jab ?_ ?_
 ·rfl
 simp only [go_sem]
 refine jaf ?_
 refine jaf ?_
 refine jab ?_ ?_
 ·rfl
 simp only [go_sem, jbE, aLen, Tryz.underlying172, jao]
 refine jaR ?_
 refine rzM (jkO (c := c) h1 h2 hoa hL haL (k + 19) 16 0 _ _ (by omega) (Grow.refl _) ?_ ?_ ?_ ?_ ?_) ?_
 ·try simp only [go_sem]
 ·try simp only [go_sem]; rfl
 ·try simp only [go_sem]
 ·try simp only [go_sem]
 ·try simp only [go_sem]; rfl
 rintro x' r' μ' ⟨rfl, hg, tm', rfl, g5⟩
 try simp only [go_sem]
 refine jaf ?_
 refine jab ?_ ?_
 ·rfl
 simp only [go_sem, g5]
 exact jae ⟨rfl, _, by simp only [go_sem, Tryz.results239], rfl, hg⟩
theorem ilt_z0 (q : Nat) : ilt (.ofNat q) 0 = false := rfl
set_option maxHeartbeats 4000000 in
theorem jhN {f ap wb lb N L b nb a t : Nat} {ws : Nat → Nat} {ln : Nat → Bool} {μ : Mem} (hf : 130 ≤ f) (hA : Arena μ ap wb N ws) (hL : Lines μ ap lb L ln) (h1 : ap < μ.next) (h2 : lb < μ.next) (hnb : nb = N / 256) (hbn : b < nb) (ha : a = b * 16) (ht : t = (b + 1) * 16) (htL : t ≤ L) (hN : N < 1000000) (hLt : L < 1000000) :
  EndsF (aFun pZ (jai pZ X S0 f) 198 [.pointer (some ⟨ap, 0, none⟩), .int .i64 (.ofNat b)] μ) fun v μ' => v = .int .i64 (.ofNat (cnt ln a 16)) ∧ Grow μ μ' := by
 obtain ⟨k, rfl⟩ := Nat.exists_eq_add_of_le' hf
 obtain ⟨c, hl, hc⟩ := hL.head
 have hB : ∀ f, 20 ≤ f → aFun pZ (jai pZ X S0 f) 197 [.pointer (some ⟨ap, 0, none⟩)] μ = some (.int .i64 (.ofNat nb), μ) := fun f hf => hnb ▸ jhX hf hA hN
 have a1 : jak .i64 (Int.mul (.ofNat b) 16) = .ofNat a := by rw [ha]; exact jc7 b 16 (by omega)
 obtain ⟨b1, hb1⟩ := exq (b + 1)
 have a2 : jak .i64 (Int.add (.ofNat b) 1) = .ofNat b1 := by rw [hb1]; exact jaT b 1 (by omega)
 have a3 : jak .i64 (Int.mul (.ofNat b1) 16) = .ofNat t := by rw [ht, ← hb1]; exact jc7 b1 16 (by omega)
 obtain ⟨oa, hoa⟩ := exq (a * 2)
 have hsl : ∀ ρ : Operand → Value, ∀ x y z, ρ x = .slice (some ⟨lb, 0, none⟩) L (2 * c) → ρ y = .int .i64 (.ofNat a) → ρ z = .int .i64 (.ofNat t) → jaJ pZ ρ 172 x (some y) (some z) none = some (.slice (some ⟨lb, oa, none⟩) 16 (2 * (c - a))) := fun ρ x y z g1 g2 g3 => by
  rw [jim (P := pZ) Tryz.underlying172 iL g1 g2 g3 (by omega) (by omega) (by omega), rzT, show t - a = 16 from by omega, hoa]; rfl
 obtain ⟨v1, μ1, hcnt, hv1, hg1⟩ := jkP (X := X) (f := k + 126) (c := 2 * (c - a)) (by omega) h1 h2 hoa hL (by omega)
 subst hv1
 refine jac Tryz.func198 rfl rfl (nbl rfl) ?_
 simp only [go_sem, Tryz.ntmps198]
 refine jaf ?_
 refine jab ?_ ?_
 ·rfl
 simp only [go_sem]
 refine jaf ?_
 refine jaf ?_
 refine jaa rfl ?_
 repeat (refine jaj rfl ?_; (try simp only [go_sem, ilt_z0, jap, hB, hbn, Nat.reduceLeDiff]); fail_if_success refine stk ?_)
 refine jan ?_ ?_
 ·simp only [go_sem]
 refine jaD ?_
 simp only [jag]
 refine jaf ?_
 refine jab ?_ ?_
 ·rfl
 simp only [go_sem, faA1, ldLs, hl, a1, a2, a3, hsl, gg239, hcnt]
 exact jae ⟨rfl, _, by simp only [go_sem, Tryz.results198], rfl, hg1⟩
theorem Arena.grow {μ μ' : Mem} {ap wb N : Nat} {ws : Nat → Nat} (h : Arena μ ap wb N ws) (hg : Grow μ μ') (h1 : ap < μ.next) (h2 : wb < μ.next) : Arena μ' ap wb N ws := h.keep (hg.2 ap h1) (hg.2 wb h2)
set_option maxHeartbeats 4000000 in
theorem jkX {ap wb lb N L nb d a t : Nat} {ws : Nat → Nat} {ln : Nat → Bool} {μ0 : Mem} (hA0 : Arena μ0 ap wb N ws) (hL0 : Lines μ0 ap lb L ln) (h1 : ap < μ0.next) (h2 : lb < μ0.next) (h3 : wb < μ0.next) (hnb : nb = N / 256) (hnL : nb * 16 ≤ L) (hN : N < 1000000) (hLt : L < 1000000)
  (ha : a = d * 16) (ht : t = (d + 1) * 16) (hd : cnt ln a 16 = 16) :
  ∀ (e m b : Nat) (tm : T Value) (μ : Mem), d + m = b → b < nb → (∀ x, d < x → x ≤ b → cnt ln (x * 16) 16 ≠ 16) → Grow μ0 μ → jah tm 0 = .pointer (some ⟨ap, 0, none⟩) → jah tm 5 = .int .i64 (.ofNat b) →
   LpC X (e + m + 150) Tryz.f161 0 22 tm μ fun x r μ' => x = .ret ∧ Grow μ0 μ' ∧ ∃ tm', r = ⟨22, tm', [], none⟩ ∧ jah tm' 2 = .int .i64 (.ofNat a) ∧ jah tm' 3 = .int .i64 (.ofNat t) ∧ jah tm' 4 = .bool true := by
 intro e m
 induction m with
 | zero =>
   intro b tm μ hj hb hx hg r0 r5
   obtain rfl : d = b := hj
   obtain ⟨v1, μ1, hfr, hv1, hg1⟩ := jhN (X := X) (f := e + 144) (by omega) (hA0.grow hg h1 h3) (hL0.grow hg h1 h2) (rzO h1 hg.1) (rzO h2 hg.1) hnb hb ha ht (by omega) hN hLt
   subst hv1
   rw [hd] at hfr
   have a1 : jak .i64 (Int.mul (.ofNat d) 16) = .ofNat a := by rw [ha]; exact jc7 d 16 (by omega)
   obtain ⟨b1, hb1⟩ := exq (d + 1)
   have a2 : jak .i64 (Int.add (.ofNat d) 1) = .ofNat b1 := by rw [hb1]; exact jaT d 1 (by omega)
   have a3 : jak .i64 (Int.mul (.ofNat b1) 16) = .ofNat t := by rw [ht, ← hb1]; exact jc7 b1 16 (by omega)
   have e16 : ieq (.ofNat 16) 16 = true := rfl
   refine jam ?_
   refine jaf ?_
   refine jaf ?_
   refine jab ?_ ?_
   ·rfl
   simp only [go_sem, r5, ilt_z0]
   refine jaG ?_ ?_
   ·simp only [go_sem]
   refine jaD ?_
   simp only [jag]
   refine jaf ?_
   refine jaR ?_
   refine jaf ?_
   refine jab ?_ ?_
   ·rfl
   simp only [go_sem, r0, r5, gg198, hfr, e16]
   refine jaG ?_ ?_
   ·simp only [go_sem]
   refine jaf ?_
   refine jab ?_ ?_
   ·rfl
   simp only [go_sem, r5, a1, a2, a3]
   refine jae ?_
   exact ⟨rfl, hg.trans hg1, _, rfl, by simp only [go_sem], by simp only [go_sem], by simp only [go_sem]⟩
 | succ m ih =>
   intro b tm μ hj hb hx hg r0 r5
   obtain ⟨ab, hab⟩ := exq (b * 16)
   obtain ⟨tb, htb⟩ := exq ((b + 1) * 16)
   obtain ⟨v1, μ1, hfr, hv1, hg1⟩ := jhN (X := X) (f := e + (m + 1) + 144) (by omega) (hA0.grow hg h1 h3) (hL0.grow hg h1 h2) (rzO h1 hg.1) (rzO h2 hg.1) hnb hb hab htb (by omega) hN hLt
   subst hv1
   obtain ⟨cc, hcc⟩ := exq (cnt ln ab 16)
   rw [← hcc] at hfr
   have hne : cc ≠ 16 := by rw [hcc, hab]; exact hx b (by omega) (rzN _)
   have e16 : ieq (.ofNat cc) 16 = false := dF (jbG cc 16) hne
   obtain ⟨b1, hb1⟩ := exq (b - 1)
   have a1 : jak .i64 (Int.sub (.ofNat b) 1) = .ofNat b1 := by rw [hb1]; exact jaZ b 1 (by omega) (by omega)
   refine jam ?_
   refine jaf ?_
   refine jaf ?_
   refine jab ?_ ?_
   ·rfl
   simp only [go_sem, r5, ilt_z0]
   refine jaG ?_ ?_
   ·simp only [go_sem]
   refine jaD ?_
   simp only [jag]
   refine jaf ?_
   refine jaR ?_
   refine jaf ?_
   refine jab ?_ ?_
   ·rfl
   simp only [go_sem, r0, r5, gg198, hfr, e16]
   refine jan ?_ ?_
   ·simp only [go_sem]
   refine jaD ?_
   try simp only [jbI, jag]
   refine jab ?_ ?_
   ·rfl
   simp only [go_sem, r5, a1]
   rw [(by omega : e + (m + 1) + 149 = e + m + 150)]
   refine ih b1 _ _ (by omega) (by omega) (fun x g1 g2 => hx x g1 (by omega)) (hg.trans hg1) ?_ ?_ <;> simp only [go_sem, r0]
set_option maxHeartbeats 4000000 in
theorem jkY {f ap wb lb N L nb d a t : Nat} {ws : Nat → Nat} {ln : Nat → Bool} {μ : Mem} (hf : 200 ≤ f) (hA : Arena μ ap wb N ws) (hL : Lines μ ap lb L ln) (h1 : ap < μ.next) (h2 : lb < μ.next) (h3 : wb < μ.next) (hnb : nb = N / 256) (hnL : nb * 16 ≤ L) (hN : N < 1000000) (hLt : L < 1000000)
  (ha : a = d * 16) (ht : t = (d + 1) * 16) (hd : cnt ln a 16 = 16) (hdn : d < nb) (hdn2 : nb ≤ d + 20) (hx : ∀ x, d < x → x < nb → cnt ln (x * 16) 16 ≠ 16) :
  EndsF (aFun pZ (jai pZ X S0 f) 161 [.pointer (some ⟨ap, 0, none⟩)] μ) fun v μ' => v = .tuple #[.int .i64 (.ofNat a), .int .i64 (.ofNat t), .bool true] ∧ Grow μ μ' := by
 obtain ⟨k, rfl⟩ := Nat.exists_eq_add_of_le' hf
 have hB : ∀ f, 20 ≤ f → aFun pZ (jai pZ X S0 f) 197 [.pointer (some ⟨ap, 0, none⟩)] μ = some (.int .i64 (.ofNat nb), μ) := fun f hf => hnb ▸ jhX hf hA hN
 obtain ⟨b1, hb1⟩ := exq (nb - 1)
 have a1 : jak .i64 (Int.sub (.ofNat nb) 1) = .ofNat b1 := by rw [hb1]; exact jaZ nb 1 (by omega) (by omega)
 refine jac Tryz.func161 rfl rfl (nbl rfl) ?_
 simp only [go_sem, Tryz.ntmps161]
 refine jaf ?_
 refine jab ?_ ?_
 ·rfl
 simp only [go_sem]
 refine jaf ?_
 refine jaf ?_
 refine jab ?_ ?_
 ·rfl
 simp only [go_sem, gg197, hB, Nat.reduceLeDiff, a1]
 refine jaR ?_
 rw [(by omega : k + 196 = (k + 46 - (b1 - d)) + (b1 - d) + 150)]
 refine rzM (jkX hA hL h1 h2 h3 hnb hnL hN hLt ha ht hd (k + 46 - (b1 - d)) (b1 - d) b1 _ _ (by omega) (by omega) (fun x g1 g2 => hx x g1 (by omega)) (Grow.refl _) ?_ ?_) ?_
 ·try simp only [go_sem]
 ·try simp only [go_sem]
 rintro x' r' μ' ⟨rfl, hg, tm', rfl, g2, g3, g4⟩
 try simp only [jbI, jgo]
 refine ⟨rfl, _, ?_, rfl, hg⟩
 simp only [go_sem, Tryz.results161]
 try simp only [g2, g3, g4]
end
end Go.Proofs.YtdmfakpngnlokaaGreatDoor.nu
