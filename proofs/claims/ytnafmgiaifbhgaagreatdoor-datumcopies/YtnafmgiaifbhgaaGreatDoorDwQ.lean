/-
  distafflaw05.DatumCopies, part Q: its walk and its law. No conditions.
-/
import Derived.Test.YtnafmgiaifbhgaaGreatDoorDwP
set_option maxRecDepth 20000
set_option maxHeartbeats 8000000
set_option linter.unusedSimpArgs false
set_option linter.unusedVariables false
set_option linter.unusedSectionVars false
namespace Go.Proofs.YtnafmgiaifbhgaaGreatDoor.dc
open Go Go.Proofs Go.Proofs.YtnafmgiaifbhgaaGreatDoor Go.Proofs.YtnafmgiaifbhgaaGreatDoor.Ev
noncomputable section
open Go.Proofs.YtnafmgiaifbhgaaGreatDoor.DecM (val Dg)
theorem n8_sub {a b : Nat} (h : b ≤ a) (h2 : a < 256) : jax .u8 (Int.sub (.ofNat a) (.ofNat b)) = .ofNat (a - b) := by
 have e : Int.sub (.ofNat a) (.ofNat b) = .ofNat (a - b) := by show (a : Int) - (b : Int) = ((a - b : Nat) : Int); omega
 rw [e]; exact qu8 _ (by omega)
theorem n8_rem2 (a : Nat) : aDiv true .u8 .u8 (.ofNat a) 2 = some (.int .u8 (.ofNat (a % 2))) := rfl
theorem sru_ex {D : Nat → Nat} {n : Nat} {tr : Bool} (hD : Dg D n) (hn : n ≤ 800) (d : Int) (hd : d < 1000000) : ∃ b, ∀ {X : XT} {g i : Nat} {μ : Mem} {dp : Int} {neg : Bool}, 60 ≤ g → Dec μ i D n dp neg tr →
  aFun pZ (jao pZ X S0 g) 170 [.pointer (some ⟨i, 0, none⟩), .int .i64 d] μ = some (.bool b, μ) := by
 by_cases h0 : d < 0
 ·have e1 : ilt d 0 = true := (jbf _ _).trans (decide_eq_true h0)
  refine ⟨false, fun {X g i μ dp neg} hg h => ?_⟩
  obtain ⟨f, rfl⟩ := gle hg
  have hc := h.n
  have ht := h.t
  refine jaN ?_
  refine jaj Tryz.func170 rfl rfl (nbl rfl) ?_
  simp only [go_sem, Tryz.ntmps170]
  refine jag ?_
  refine jaw ?_ ?_
  ·rfl
  simp only [go_sem]
  refine jag ?_
  refine jag ?_
  refine jad rfl ?_
  have zz := (⟨@jaH, @jaz, @jaZ, @jau, @ja4, @jaM, @hc, @ht, @e1⟩ : _ ∧ _ ∧ _ ∧ _ ∧ _ ∧ _ ∧ _ ∧ _ ∧ _)
  (repeat (first | (refine jai ?_ rfl ?_; (solve | simp only [go_sem, undef, zz])) | (refine jaf (v := ?_) (μ' := ?_) ?_ ?_ rfl ?_; rotate_left 2; (solve | rfl | simp only [go_sem, undef, zz]); (solve | simp only [go_sem, undef, zz]; try exact rfl))))
  clear zz
  simp only [go_sem]
  repeat (first | refine jab rfl ?_ | (refine jac rfl ?_; (try simp only [go_sem, undef, jaH, jaz, jaZ, jau, ja4, jaM, hc, ht, e1]); fail_if_success refine ifC ?_))
  refine jah ?_
  refine ⟨rfl, _, ?_, rfl, rfl⟩
  simp only [go_sem, Tryz.results170]
 have e1 : ilt d 0 = false := (jbf _ _).trans (decide_eq_false h0)
 obtain ⟨m, hm⟩ : ∃ m : Nat, d = .ofNat m := ⟨d.toNat, by show d = ((d.toNat : Nat) : Int); omega⟩
 subst hm
 have hm6 : m < 1000000 := by have : (m : Int) < 1000000 := hd; omega
 by_cases hmn : m < n
 rotate_left
 ·have e2 : ilt (.ofNat m) (.ofNat n) = false := (jat _ _).trans (decide_eq_false hmn)
  refine ⟨false, fun {X g i μ dp neg} hg h => ?_⟩
  obtain ⟨f, rfl⟩ := gle hg
  have hc := h.n
  have ht := h.t
  refine jaN ?_
  refine jaj Tryz.func170 rfl rfl (nbl rfl) ?_
  simp only [go_sem, Tryz.ntmps170]
  refine jag ?_
  refine jaw ?_ ?_
  ·rfl
  simp only [go_sem]
  refine jag ?_
  refine jag ?_
  refine jad rfl ?_
  iterate 10 (refine jaf (by first | rfl | (simp only [go_sem, undef, jaH, jaz, jaZ, jau, ja4, jaM, hc, ht, e1, e2])) (by simp only [go_sem, undef, jaH, jaz, jaZ, jau, ja4, jaM, hc, ht, e1, e2]; try exact rfl) rfl ?_)
  simp only [go_sem]
  repeat (first | refine jab rfl ?_ | (refine jac rfl ?_; (try simp only [go_sem, undef, jaH, jaz, jaZ, jau, ja4, jaM, hc, ht, e1, e2]); fail_if_success refine ifC ?_))
  refine jah ?_
  refine ⟨rfl, _, ?_, rfl, rfl⟩
  simp only [go_sem, Tryz.results170]
 have e2 : ilt (.ofNat m) (.ofNat n) = true := (jat _ _).trans (decide_eq_true hmn)
 by_cases h53 : D m = 53
 rotate_left
 ·have e3 : ieq (.ofNat (D m)) 53 = false := (jaQ _ 53 53 rfl).trans (decide_eq_false h53)
  obtain ⟨b, hb⟩ : ∃ b, ilt (.ofNat (D m)) 53 = b := ⟨_, rfl⟩
  refine ⟨!b, fun {X g i μ dp neg} hg h => ?_⟩
  obtain ⟨f, rfl⟩ := gle hg
  have hc := h.n
  have ht := h.t
  refine jaN ?_
  refine jaj Tryz.func170 rfl rfl (nbl rfl) ?_
  simp only [go_sem, Tryz.ntmps170]
  refine jag ?_
  refine jaw ?_ ?_
  ·rfl
  simp only [go_sem]
  have hix : ∀ (rg : Rg) (a b : Operand), aev pZ rg a = .pointer (some ⟨i, 0, none⟩) → aev pZ rg b = .int .i64 (.ofNat m) → jas pZ (aev pZ rg) 165 a b = some (.pointer (some ⟨i, m, none⟩)) := fun rg a b g1 g2 => jcY (by omega) g1 g2
  have hd := h.d m (by omega)
  refine jag ?_
  refine jag ?_
  refine jad rfl ?_
  iterate 10 (refine jaf (by first | rfl | (simp only [go_sem, undef, jaH, jaz, jaZ, jau, ja4, jaM, hc, ht, e1, e2, e3, hix, hd, hb])) (by simp only [go_sem, undef, jaH, jaz, jaZ, jau, ja4, jaM, hc, ht, e1, e2, e3, hix, hd, hb]; try exact rfl) rfl ?_)
  simp only [go_sem]
  refine jaC ?_ ?_
  ·simp only [go_sem]
  refine jbz ?_
  simp only [jak]
  refine jag ?_
  refine jag ?_
  refine jad rfl ?_
  have zz := (⟨@jaH, @jaz, @jaZ, @jau, @ja4, @jaM, @hc, @ht, @e1, @e2, @e3, @hix, @hd, @hb⟩ : _ ∧ _ ∧ _ ∧ _ ∧ _ ∧ _ ∧ _ ∧ _ ∧ _ ∧ _ ∧ _ ∧ _ ∧ _ ∧ _)
  (repeat (first | (refine jai ?_ rfl ?_; (solve | simp only [go_sem, undef, zz])) | (refine jaf (v := ?_) (μ' := ?_) ?_ ?_ rfl ?_; rotate_left 2; (solve | rfl | simp only [go_sem, undef, zz]); (solve | simp only [go_sem, undef, zz]; try exact rfl))))
  clear zz
  simp only [go_sem]
  repeat (first | refine jab rfl ?_ | (refine jac rfl ?_; (try simp only [go_sem, undef, jaH, jaz, jaZ, jau, ja4, jaM, hc, ht, e1, e2, e3, hix, hd, hb]); fail_if_success refine ifC ?_))
  refine jah ?_
  refine ⟨rfl, _, ?_, rfl, rfl⟩
  simp only [go_sem, Tryz.results170]
 have e3 : ieq (.ofNat (D m)) 53 = true := (jaQ _ 53 53 rfl).trans (decide_eq_true h53)
 have a1 : jax .i64 (Int.add (.ofNat m) 1) = .ofNat (m + 1) := jaV m 1 (by omega)
 by_cases hl : m + 1 = n
 rotate_left
 ·have e4 : ieq (.ofNat (m + 1)) (.ofNat n) = false := (jbu _ _).trans (decide_eq_false hl)
  obtain ⟨b, hb⟩ : ∃ b, ilt (.ofNat (D m)) 53 = b := ⟨_, rfl⟩
  refine ⟨!b, fun {X g i μ dp neg} hg h => ?_⟩
  obtain ⟨f, rfl⟩ := gle hg
  have hc := h.n
  have ht := h.t
  refine jaN ?_
  refine jaj Tryz.func170 rfl rfl (nbl rfl) ?_
  simp only [go_sem, Tryz.ntmps170]
  refine jag ?_
  refine jaw ?_ ?_
  ·rfl
  simp only [go_sem]
  have hix : ∀ (rg : Rg) (a b : Operand), aev pZ rg a = .pointer (some ⟨i, 0, none⟩) → aev pZ rg b = .int .i64 (.ofNat m) → jas pZ (aev pZ rg) 165 a b = some (.pointer (some ⟨i, m, none⟩)) := fun rg a b g1 g2 => jcY (by omega) g1 g2
  have hd := h.d m (by omega)
  refine jag ?_
  refine jag ?_
  refine jad rfl ?_
  iterate 10 (refine jaf (by first | rfl | (simp only [go_sem, undef, jaH, jaz, jaZ, jau, ja4, jaM, hc, ht, e1, e2, e3, e4, a1, hix, hd, hb])) (by simp only [go_sem, undef, jaH, jaz, jaZ, jau, ja4, jaM, hc, ht, e1, e2, e3, e4, a1, hix, hd, hb]; try exact rfl) rfl ?_)
  simp only [go_sem]
  refine jaC ?_ ?_
  ·simp only [go_sem]
  refine jbz ?_
  simp only [jak]
  refine jag ?_
  refine jag ?_
  refine jad rfl ?_
  iterate 16 (refine jaf (by first | rfl | (simp only [go_sem, undef, jaH, jaz, jaZ, jau, ja4, jaM, hc, ht, e1, e2, e3, e4, a1, hix, hd, hb])) (by simp only [go_sem, undef, jaH, jaz, jaZ, jau, ja4, jaM, hc, ht, e1, e2, e3, e4, a1, hix, hd, hb]; try exact rfl) rfl ?_)
  simp only [go_sem]
  repeat (first | refine jab rfl ?_ | (refine jac rfl ?_; (try simp only [go_sem, undef, jaH, jaz, jaZ, jau, ja4, jaM, hc, ht, e1, e2, e3, e4, a1, hix, hd, hb]); fail_if_success refine ifC ?_))
  refine jah ?_
  refine ⟨rfl, _, ?_, rfl, rfl⟩
  simp only [go_sem, Tryz.results170]
 have e4 : ieq (.ofNat (m + 1)) (.ofNat n) = true := (jbu _ _).trans (decide_eq_true hl)
 cases tr with
 | true =>
   refine ⟨true, fun {X g i μ dp neg} hg h => ?_⟩
   obtain ⟨f, rfl⟩ := gle hg
   have hc := h.n
   have ht := h.t
   refine jaN ?_
   refine jaj Tryz.func170 rfl rfl (nbl rfl) ?_
   simp only [go_sem, Tryz.ntmps170]
   refine jag ?_
   refine jaw ?_ ?_
   ·rfl
   simp only [go_sem]
   have hix : ∀ (rg : Rg) (a b : Operand), aev pZ rg a = .pointer (some ⟨i, 0, none⟩) → aev pZ rg b = .int .i64 (.ofNat m) → jas pZ (aev pZ rg) 165 a b = some (.pointer (some ⟨i, m, none⟩)) := fun rg a b g1 g2 => jcY (by omega) g1 g2
   have hd := h.d m (by omega)
   refine jag ?_
   refine jag ?_
   refine jad rfl ?_
   iterate 10 (refine jaf (by first | rfl | (simp only [go_sem, undef, jaH, jaz, jaZ, jau, ja4, jaM, hc, ht, e1, e2, e3, e4, a1, hix, hd])) (by simp only [go_sem, undef, jaH, jaz, jaZ, jau, ja4, jaM, hc, ht, e1, e2, e3, e4, a1, hix, hd]; try exact rfl) rfl ?_)
   simp only [go_sem]
   refine jaC ?_ ?_
   ·simp only [go_sem]
   refine jbz ?_
   simp only [jak]
   refine jag ?_
   refine jag ?_
   refine jad rfl ?_
   iterate 16 (refine jaf (by first | rfl | (simp only [go_sem, undef, jaH, jaz, jaZ, jau, ja4, jaM, hc, ht, e1, e2, e3, e4, a1, hix, hd])) (by simp only [go_sem, undef, jaH, jaz, jaZ, jau, ja4, jaM, hc, ht, e1, e2, e3, e4, a1, hix, hd]; try exact rfl) rfl ?_)
   simp only [go_sem]
   repeat (first | refine jab rfl ?_ | (refine jac rfl ?_; (try simp only [go_sem, undef, jaH, jaz, jaZ, jau, ja4, jaM, hc, ht, e1, e2, e3, e4, a1, hix, hd]); fail_if_success refine ifC ?_))
   refine jah ?_
   refine ⟨rfl, _, ?_, rfl, rfl⟩
   simp only [go_sem, Tryz.results170]
 | false =>
   by_cases hm0 : m = 0
   ·have e5 : ilt 0 (.ofNat m) = false := (jat 0 m).trans (decide_eq_false (by omega))
    refine ⟨false, fun {X g i μ dp neg} hg h => ?_⟩
    obtain ⟨f, rfl⟩ := gle hg
    have hc := h.n
    have ht := h.t
    have hix : ∀ (rg : Rg) (a b : Operand), aev pZ rg a = .pointer (some ⟨i, 0, none⟩) → aev pZ rg b = .int .i64 (.ofNat m) → jas pZ (aev pZ rg) 165 a b = some (.pointer (some ⟨i, m, none⟩)) := fun rg a b g1 g2 => jcY (by omega) g1 g2
    have hd := h.d m (by omega)
    refine jaN ?_
    refine jaj Tryz.func170 rfl rfl (nbl rfl) ?_
    simp only [go_sem, Tryz.ntmps170]
    refine jag ?_
    refine jaw ?_ ?_
    ·rfl
    simp only [go_sem]
    refine jag ?_
    refine jag ?_
    refine jad rfl ?_
    iterate 10 (refine jaf (by first | rfl | (simp only [go_sem, undef, jaH, jaz, jaZ, jau, ja4, jaM, hc, ht, e1, e2, e3, e4, e5, a1, hix, hd])) (by simp only [go_sem, undef, jaH, jaz, jaZ, jau, ja4, jaM, hc, ht, e1, e2, e3, e4, e5, a1, hix, hd]; try exact rfl) rfl ?_)
    simp only [go_sem]
    refine jaC ?_ ?_
    ·simp only [go_sem]
    refine jbz ?_
    simp only [jak]
    refine jag ?_
    refine jag ?_
    refine jad rfl ?_
    iterate 16 (refine jaf (by first | rfl | (simp only [go_sem, undef, jaH, jaz, jaZ, jau, ja4, jaM, hc, ht, e1, e2, e3, e4, e5, a1, hix, hd])) (by simp only [go_sem, undef, jaH, jaz, jaZ, jau, ja4, jaM, hc, ht, e1, e2, e3, e4, e5, a1, hix, hd]; try exact rfl) rfl ?_)
    simp only [go_sem]
    refine jbZ ?_ ?_
    ·simp only [go_sem]
    refine jag ?_
    refine jag ?_
    refine jaw ?_ ?_
    ·rfl
    simp only [go_sem, undef, jaH, jaz, jaZ, jau, ja4, jaM, hc, ht, e1, e2, e3, e4, e5, a1, hix, hd]
    refine jaC ?_ ?_
    ·simp only [go_sem]
    refine jbz ?_
    simp only [jak]
    refine jag ?_
    refine jad rfl ?_
    have zz := (⟨@jaH, @jaz, @jaZ, @jau, @ja4, @jaM, @hc, @ht, @e1, @e2, @e3, @e4, @e5, @a1, @hix, @hd⟩ : _ ∧ _ ∧ _ ∧ _ ∧ _ ∧ _ ∧ _ ∧ _ ∧ _ ∧ _ ∧ _ ∧ _ ∧ _ ∧ _ ∧ _ ∧ _)
    (repeat (first | (refine jai ?_ rfl ?_; (solve | simp only [go_sem, undef, zz])) | (refine jaf (v := ?_) (μ' := ?_) ?_ ?_ rfl ?_; rotate_left 2; (solve | rfl | simp only [go_sem, undef, zz]); (solve | simp only [go_sem, undef, zz]; try exact rfl))))
    clear zz
    simp only [go_sem]
    refine jah ?_
    refine ⟨rfl, _, ?_, rfl, rfl⟩
    simp only [go_sem, Tryz.results170]
   ·have e5 : ilt 0 (.ofNat m) = true := (jat 0 m).trans (decide_eq_true (by omega))
    have a2 : jax .i64 (Int.sub (.ofNat m) 1) = .ofNat (m - 1) := jck m 1 (by omega) (by omega)
    have hdm := hD (m - 1) (by omega)
    have a3 : jax .u8 (Int.sub (.ofNat (D (m - 1))) 48) = .ofNat (D (m - 1) - 48) := n8_sub (b := 48) hdm.1 (by omega)
    have a4 : aDiv true .u8 .u8 (.ofNat (D (m - 1) - 48)) 2 = some (.int .u8 (.ofNat ((D (m - 1) - 48) % 2))) := n8_rem2 _
    obtain ⟨b, hb⟩ : ∃ b, ieq (.ofNat ((D (m - 1) - 48) % 2)) 0 = b := ⟨_, rfl⟩
    refine ⟨!b, fun {X g i μ dp neg} hg h => ?_⟩
    obtain ⟨f, rfl⟩ := gle hg
    have hc := h.n
    have ht := h.t
    have hix : ∀ (rg : Rg) (a b : Operand), aev pZ rg a = .pointer (some ⟨i, 0, none⟩) → aev pZ rg b = .int .i64 (.ofNat m) → jas pZ (aev pZ rg) 165 a b = some (.pointer (some ⟨i, m, none⟩)) := fun rg a b g1 g2 => jcY (by omega) g1 g2
    have hd := h.d m (by omega)
    have hix' : ∀ (rg : Rg) (a b : Operand), aev pZ rg a = .pointer (some ⟨i, 0, none⟩) → aev pZ rg b = .int .i64 (.ofNat (m - 1)) → jas pZ (aev pZ rg) 165 a b = some (.pointer (some ⟨i, m - 1, none⟩)) := fun rg a b g1 g2 => jcY (by omega) g1 g2
    have hd' := h.d (m - 1) (by omega)
    refine jaN ?_
    refine jaj Tryz.func170 rfl rfl (nbl rfl) ?_
    simp only [go_sem, Tryz.ntmps170]
    refine jag ?_
    refine jaw ?_ ?_
    ·rfl
    simp only [go_sem]
    refine jag ?_
    refine jag ?_
    refine jad rfl ?_
    iterate 10 (refine jaf (by first | rfl | (simp only [go_sem, undef, jaH, jaz, jaZ, jau, ja4, jaM, hc, ht, e1, e2, e3, e4, e5, a1, a2, a3, a4, hix, hd, hix', hd', hb])) (by simp only [go_sem, undef, jaH, jaz, jaZ, jau, ja4, jaM, hc, ht, e1, e2, e3, e4, e5, a1, a2, a3, a4, hix, hd, hix', hd', hb]; try exact rfl) rfl ?_)
    simp only [go_sem]
    refine jaC ?_ ?_
    ·simp only [go_sem]
    refine jbz ?_
    simp only [jak]
    refine jag ?_
    refine jag ?_
    refine jad rfl ?_
    iterate 16 (refine jaf (by first | rfl | (simp only [go_sem, undef, jaH, jaz, jaZ, jau, ja4, jaM, hc, ht, e1, e2, e3, e4, e5, a1, a2, a3, a4, hix, hd, hix', hd', hb])) (by simp only [go_sem, undef, jaH, jaz, jaZ, jau, ja4, jaM, hc, ht, e1, e2, e3, e4, e5, a1, a2, a3, a4, hix, hd, hix', hd', hb]; try exact rfl) rfl ?_)
    simp only [go_sem]
    refine jbZ ?_ ?_
    ·simp only [go_sem]
    refine jag ?_
    refine jag ?_
    refine jaw ?_ ?_
    ·rfl
    simp only [go_sem, undef, jaH, jaz, jaZ, jau, ja4, jaM, hc, ht, e1, e2, e3, e4, e5, a1, a2, a3, a4, hix, hd, hix', hd', hb]
    refine jaC ?_ ?_
    ·simp only [go_sem]
    refine jbz ?_
    simp only [jak]
    refine jag ?_
    refine jad rfl ?_
    iterate 15 (refine jaf (by first | rfl | (simp only [go_sem, undef, jaH, jaz, jaZ, jau, ja4, jaM, hc, ht, e1, e2, e3, e4, e5, a1, a2, a3, a4, hix, hd, hix', hd', hb])) (by simp only [go_sem, undef, jaH, jaz, jaZ, jau, ja4, jaM, hc, ht, e1, e2, e3, e4, e5, a1, a2, a3, a4, hix, hd, hix', hd', hb]; try exact rfl) rfl ?_)
    simp only [go_sem]
    refine jah ?_
    refine ⟨rfl, _, ?_, rfl, rfl⟩
    simp only [go_sem, Tryz.results170]
section
variable {D : Nat → Nat} {n : Nat} {dp : Int}
def lim (n : Nat) (dp : Int) : Nat := if dp.toNat < n then dp.toNat else n
theorem ri_1 (hD : Dg D n) (hn : n ≤ 800) (hp : dp ≤ 20) : ∀ m j a, j + m = lim n dp → ∃ a', ∀ {X : XT} {e i : Nat} {tm : T Value} {μ : Mem} {neg tr : Bool}, Dec μ i D n dp neg tr → jam tm 0 = .pointer (some ⟨i, 0, none⟩) → jam tm 3 = .int .i64 (.ofNat j) → jam tm 4 = u a →
  EndsC (jao pZ X S0 (e + m + 40) (.loop (jaR Tryz.f198 0)) ⟨56, tm, [], none⟩ μ) fun x r μ' => x = .exit 0 ∧ μ' = μ ∧ ∃ tm', r = ⟨56, tm', [], none⟩ ∧ jam tm' 0 = .pointer (some ⟨i, 0, none⟩) ∧ jam tm' 3 = .int .i64 (.ofNat (lim n dp)) ∧ jam tm' 4 = u a' := by
 have hlim : lim n dp = (if dp.toNat < n then dp.toNat else n) := rfl
 intro m
 induction m with
 | zero =>
   intro j a hj
   obtain rfl : j = lim n dp := hj
   refine ⟨a, fun {X e i tm μ neg tr} h h0 h3 h4 => ?_⟩
   have hc := h.n
   have hc2 := h.p
   by_cases hdn : dp.toNat < n
   ·rw [if_pos hdn] at hlim
    have e1 : ilt (.ofNat (lim n dp)) dp = false := (jbf _ _).trans (decide_eq_false (by show ¬ ((lim n dp : Nat) : Int) < dp; omega))
    refine jan ?_
    refine jag ?_
    refine jag ?_
    refine jad rfl ?_
    have zz := (⟨@h0, @h3, @h4, @jaz, @jaP, @jau, @hc, @hc2, @e1⟩ : _ ∧ _ ∧ _ ∧ _ ∧ _ ∧ _ ∧ _ ∧ _ ∧ _)
    (repeat (first | (refine jai ?_ rfl ?_; (solve | simp only [go_sem, undef, zz])) | (refine jaf (v := ?_) (μ' := ?_) ?_ ?_ rfl ?_; rotate_left 2; (solve | rfl | simp only [go_sem, undef, zz]); (solve | simp only [go_sem, undef, zz]; try exact rfl))))
    clear zz
    simp only [go_sem]
    refine jaC ?_ ?_
    ·simp only [go_sem]
    refine jbA ?_
    simp only [jbC]
    exact ⟨by trivial, by trivial, _, rfl, by simp only [go_sem, h0], by simp only [go_sem, h3], by simp only [go_sem, h4]⟩
   ·rw [if_neg hdn] at hlim
    have e2 : ilt (.ofNat (lim n dp)) (.ofNat n) = false := (jat _ _).trans (decide_eq_false (by omega))
    by_cases hz : ((lim n dp : Nat) : Int) < dp
    ·have e1 : ilt (.ofNat (lim n dp)) dp = true := (jbf _ _).trans (decide_eq_true hz)
     refine jan ?_
     refine jag ?_
     refine jag ?_
     refine jad rfl ?_
     iterate 14 (refine jaf (by first | rfl | (simp only [go_sem, undef, h0, h3, h4, jaz, jaP, jau, hc, hc2, e1, e2])) (by simp only [go_sem, undef, h0, h3, h4, jaz, jaP, jau, hc, hc2, e1, e2]; try exact rfl) rfl ?_)
     simp only [go_sem]
     refine jaC ?_ ?_
     ·simp only [go_sem]
     refine jbA ?_
     simp only [jbC]
     exact ⟨by trivial, by trivial, _, rfl, by simp only [go_sem, h0], by simp only [go_sem, h3], by simp only [go_sem, h4]⟩
    ·have e1 : ilt (.ofNat (lim n dp)) dp = false := (jbf _ _).trans (decide_eq_false hz)
     refine jan ?_
     refine jag ?_
     refine jag ?_
     refine jad rfl ?_
     have zz := (⟨@h0, @h3, @h4, @jaz, @jaP, @jau, @hc, @hc2, @e1⟩ : _ ∧ _ ∧ _ ∧ _ ∧ _ ∧ _ ∧ _ ∧ _ ∧ _)
     (repeat (first | (refine jai ?_ rfl ?_; (solve | simp only [go_sem, undef, zz])) | (refine jaf (v := ?_) (μ' := ?_) ?_ ?_ rfl ?_; rotate_left 2; (solve | rfl | simp only [go_sem, undef, zz]); (solve | simp only [go_sem, undef, zz]; try exact rfl))))
     clear zz
     simp only [go_sem]
     refine jaC ?_ ?_
     ·simp only [go_sem]
     refine jbA ?_
     simp only [jbC]
     exact ⟨by trivial, by trivial, _, rfl, by simp only [go_sem, h0], by simp only [go_sem, h3], by simp only [go_sem, h4]⟩
 | succ m ih =>
   intro j a hj
   have hjn : j < n ∧ (j : Int) < dp := by
    by_cases hdn : dp.toNat < n
    ·rw [if_pos hdn] at hlim; omega
    ·rw [if_neg hdn] at hlim; omega
   obtain ⟨a', hih⟩ := ih (j + 1) (W (W a * 10) + W (D j - 48)) (by omega)
   refine ⟨a', fun {X e i tm μ neg tr} h h0 h3 h4 => ?_⟩
   have hc := h.n
   have hc2 := h.p
   have hd := h.d j (by omega)
   have dj := hD j hjn.1
   have e1 : ilt (.ofNat j) dp = true := (jbf _ _).trans (decide_eq_true hjn.2)
   have e2 : ilt (.ofNat j) (.ofNat n) = true := (jat _ _).trans (decide_eq_true hjn.1)
   have q1 : jax .u8 (Int.sub (.ofNat (D j)) 48) = .ofNat (D j - 48) := n8_sub (b := 48) dj.1 (by omega)
   have q2 : jax .u64 (.ofNat (D j - 48)) = .ofNat (W (D j - 48)) := jbP _
   have q3 : jax .i64 (Int.add (.ofNat j) 1) = .ofNat (j + 1) := jaV j 1 (by omega)
   have hix : ∀ (rg : Rg) (a b : Operand), aev pZ rg a = .pointer (some ⟨i, 0, none⟩) → aev pZ rg b = .int .i64 (.ofNat j) → jas pZ (aev pZ rg) 165 a b = some (.pointer (some ⟨i, j, none⟩)) := fun rg a b g1 g2 => jcY (by omega) g1 g2
   refine jan ?_
   refine jag ?_
   refine jag ?_
   refine jad rfl ?_
   iterate 14 (refine jaf (by first | rfl | (simp only [go_sem, undef, h0, h3, h4, jaz, jaP, jau, hc, hc2, e1, e2])) (by simp only [go_sem, undef, h0, h3, h4, jaz, jaP, jau, hc, hc2, e1, e2]; try exact rfl) rfl ?_)
   simp only [go_sem]
   repeat (first | refine jab rfl ?_ | (refine jac rfl ?_; (try simp only [go_sem, h0, h3, h4, jaH, ja4, hd, hix, jgL, wAdd, jfo, q1, q2, q3]); fail_if_success refine ifC ?_))
   rw [show e + (m + 1) + 39 = e + m + 40 from by omega]
   exact hih h (by simp only [go_sem, h0]) (by simp only [go_sem]) (by simp only [go_sem])
theorem ri_2 (hp : dp ≤ 20) : ∀ m j a, j + m = dp.toNat → ∃ a', ∀ {X : XT} {e i : Nat} {tm : T Value} {μ : Mem} {neg tr : Bool}, Dec μ i D n dp neg tr → jam tm 0 = .pointer (some ⟨i, 0, none⟩) → jam tm 3 = .int .i64 (.ofNat j) → jam tm 4 = u a →
  EndsC (jao pZ X S0 (e + m + 40) (.loop (jaR Tryz.f198 1)) ⟨56, tm, [], none⟩ μ) fun x r μ' => x = .exit 2 ∧ μ' = μ ∧ ∃ tm', r = ⟨56, tm', [], none⟩ ∧ jam tm' 0 = .pointer (some ⟨i, 0, none⟩) ∧ jam tm' 4 = u a' := by
 intro m
 induction m with
 | zero =>
   intro j a hj
   refine ⟨a, fun {X e i tm μ neg tr} h h0 h3 h4 => ?_⟩
   have hc2 := h.p
   have e1 : ilt (.ofNat j) dp = false := (jbf _ _).trans (decide_eq_false (by show ¬ (j : Int) < dp; omega))
   refine jan ?_
   repeat (first | refine jab rfl ?_ | (refine jac rfl ?_; (try simp only [go_sem, h0, h3, h4, jaP, jau, hc2, e1]); fail_if_success refine ifC ?_))
   exact ⟨by trivial, by trivial, _, rfl, by simp only [go_sem, h0], by simp only [go_sem, h4]⟩
 | succ m ih =>
   intro j a hj
   obtain ⟨a', hih⟩ := ih (j + 1) (W a * 10) (by omega)
   refine ⟨a', fun {X e i tm μ neg tr} h h0 h3 h4 => ?_⟩
   have hc2 := h.p
   have e1 : ilt (.ofNat j) dp = true := (jbf _ _).trans (decide_eq_true (by show (j : Int) < dp; omega))
   have q3 : jax .i64 (Int.add (.ofNat j) 1) = .ofNat (j + 1) := jaV j 1 (by omega)
   refine jan ?_
   repeat (first | refine jab rfl ?_ | (refine jac rfl ?_; (try simp only [go_sem, h0, h3, h4, jaP, jau, hc2, e1, jgL, q3]); fail_if_success refine ifC ?_))
   rw [show e + (m + 1) + 39 = e + m + 40 from by omega]
   exact hih h (by simp only [go_sem, h0]) (by simp only [go_sem]) (by simp only [go_sem])
theorem ri_ex {tr : Bool} (hD : Dg D n) (hn : n ≤ 800) (hp : dp < 1000000) : ∃ m, ∀ {X : XT} {g i : Nat} {μ : Mem} {neg : Bool}, 300 ≤ g → Dec μ i D n dp neg tr →
  aFun pZ (jao pZ X S0 g) 198 [.pointer (some ⟨i, 0, none⟩)] μ = some (u m, μ) := by
 by_cases h20 : 20 < dp
 ·have e1 : ilt 20 dp = true := (jbf _ _).trans (decide_eq_true h20)
  have um : u 18446744073709551615 = .int .u64 18446744073709551615 := (u_of (n := 18446744073709551615) (by decide)).symm
  refine ⟨18446744073709551615, fun {X g i μ neg} hg h => ?_⟩
  obtain ⟨f, rfl⟩ := gle hg
  have hc2 := h.p
  rw [um]
  refine jaN ?_
  refine jaj Tryz.func198 rfl rfl (nbl rfl) ?_
  simp only [go_sem, Tryz.ntmps198]
  repeat (first | refine jab rfl ?_ | (refine jac rfl ?_; (try simp only [go_sem, jaP, jau, hc2, e1]); fail_if_success refine ifC ?_))
  refine jah ?_
  refine ⟨rfl, _, ?_, rfl, rfl⟩
  simp only [go_sem, Tryz.results198]
 have e1 : ilt 20 dp = false := (jbf _ _).trans (decide_eq_false h20)
 have hl2 : lim n dp ≤ dp.toNat := by unfold lim; split <;> omega
 obtain ⟨a1, hlp1⟩ := ri_1 (dp := dp) hD hn (by omega) (lim n dp) 0 0 (Nat.zero_add _)
 obtain ⟨a2, hlp2⟩ := ri_2 (D := D) (n := n) (dp := dp) (by omega) (dp.toNat - lim n dp) (lim n dp) a1 (by omega)
 obtain ⟨b, hsr⟩ := sru_ex (tr := tr) hD hn dp hp
 refine ⟨if b then W a2 + 1 else a2, fun {X g i μ neg} hg h => ?_⟩
 obtain ⟨f, rfl⟩ := gle hg
 have hc2 := h.p
 have hsr : ∀ q, 60 ≤ q → aFun pZ (jao pZ X S0 q) 170 [.pointer (some ⟨i, 0, none⟩), .int .i64 dp] μ = some (.bool b, μ) := fun q hq => hsr hq h
 refine jaN ?_
 refine jaj Tryz.func198 rfl rfl (nbl rfl) ?_
 simp only [go_sem, Tryz.ntmps198]
 repeat (first | refine jab rfl ?_ | (refine jac rfl ?_; (try simp only [go_sem, jaP, jau, hc2, e1]); fail_if_success refine ifC ?_))
 rw [show f + 293 = (f + 253 - lim n dp) + lim n dp + 40 from by have : lim n dp ≤ 20 := by omega
                                                                 omega]
 refine EndsC.mono (hlp1 h (by simp only [go_sem]) (by simp only [go_sem]; try rfl) (by simp only [go_sem]; exact u_of (n := 0) (by decide))) ?_
 rintro x r μ' ⟨rfl, rfl, tm', rfl, h0, h3, h4⟩
 simp only [jaX, reduceIte, jak]
 repeat (first | refine jab rfl ?_ | (refine jac rfl ?_; (try simp only [go_sem]); fail_if_success refine ifC ?_))
 rw [show f + 293 = (f + 253 - (dp.toNat - lim n dp)) + (dp.toNat - lim n dp) + 40 from by omega]
 refine EndsC.mono (hlp2 h h0 h3 h4) ?_
 rintro x r μ' ⟨rfl, rfl, tm', rfl, h0, h4⟩
 simp only [jaX, reduceIte, jak]
 cases b with
 | true =>
   repeat (first | refine jab rfl ?_ | (refine jac rfl ?_; (try simp only [go_sem, h0, h4, jaP, jau, hc2, gg170, hsr, Nat.reduceLeDiff, wAdd1]); fail_if_success refine ifC ?_))
   refine jah ?_
   refine ⟨rfl, _, ?_, rfl, rfl⟩
   simp only [go_sem, Tryz.results198]
 | false =>
   repeat (first | refine jab rfl ?_ | (refine jac rfl ?_; (try simp only [go_sem, h0, h4, jaP, jau, hc2, gg170, hsr, Nat.reduceLeDiff]); fail_if_success refine ifC ?_))
   refine jah ?_
   refine ⟨rfl, _, ?_, rfl, rfl⟩
   simp only [go_sem, Tryz.results198]
end
end
noncomputable section
open Go.Proofs.YtnafmgiaifbhgaaGreatDoor.DecM (val Dg)
def jaU (fn : Func) : Code := match fn.body with
 | some (.seq _ (.scope c)) => c
 | _ => .skip
theorem fs17 : ja0 17 (jaU Tryz.f190) = .seq (jaY 17 (jaU Tryz.f190)) (.seq (jaY 18 (jaU Tryz.f190)) (.seq (jaY 19 (jaU Tryz.f190)) (.seq (jaY 20 (jaU Tryz.f190)) (ja0 21 (jaU Tryz.f190))))) := by kernel_rfl
theorem fs14 : ja0 14 (jaU Tryz.f190) = .seq (jaY 14 (jaU Tryz.f190)) (.seq (jaY 15 (jaU Tryz.f190)) (ja0 16 (jaU Tryz.f190))) := by kernel_rfl
theorem fs13 : ja0 13 (jaU Tryz.f190) = .seq (jaY 13 (jaU Tryz.f190)) (ja0 14 (jaU Tryz.f190)) := by kernel_rfl
theorem fs10 : ja0 10 (jaU Tryz.f190) = .seq (jaY 10 (jaU Tryz.f190)) (.seq (jaY 11 (jaU Tryz.f190)) (.seq (jaY 12 (jaU Tryz.f190)) (ja0 13 (jaU Tryz.f190)))) := by kernel_rfl
theorem fs8 : ja0 8 (jaU Tryz.f190) = .seq (jaY 8 (jaU Tryz.f190)) (.seq (jaY 9 (jaU Tryz.f190)) (ja0 10 (jaU Tryz.f190))) := by kernel_rfl
theorem fs7 : ja0 7 (jaU Tryz.f190) = .seq (jaY 7 (jaU Tryz.f190)) (ja0 8 (jaU Tryz.f190)) := by kernel_rfl
theorem fs6 : ja0 6 (jaU Tryz.f190) = .seq (jaY 6 (jaU Tryz.f190)) (ja0 7 (jaU Tryz.f190)) := by kernel_rfl
theorem fs0 : (jaU Tryz.f190) = .seq (jaY 0 (jaU Tryz.f190)) (.seq (jaY 1 (jaU Tryz.f190)) (.seq (jaY 2 (jaU Tryz.f190)) (.seq (jaY 3 (jaU Tryz.f190)) (.seq (jaY 4 (jaU Tryz.f190)) (.seq (jaY 5 (jaU Tryz.f190)) (ja0 6 (jaU Tryz.f190))))))) := by kernel_rfl
theorem lab0 : findLabel (jaU Tryz.f190) 0 = some (.seq .skip (ja0 21 (jaU Tryz.f190))) := by kernel_rfl
theorem lab1 : findLabel (jaU Tryz.f190) 1 = some (.seq .skip (ja0 17 (jaU Tryz.f190))) := by kernel_rfl
theorem jfQ : ja5 true .u64 1 52 = some (.int .u64 4503599627370496) := by kernel_rfl
theorem sh52_2 : ja5 true .u64 2 52 = some (.int .u64 9007199254740992) := by kernel_rfl
theorem jcF : ja5 true .i64 1 11 = some (.int .i64 2048) := by kernel_rfl
theorem sh11_b : ja5 true .u64 4503599627370496 11 = some (.int .u64 9223372036854775808) := by kernel_rfl
theorem qs1 : jax .i64 (Int.sub 2048 1) = 2047 := by kernel_rfl
theorem qs2 : jax .u64 (Int.sub 4503599627370496 1) = 4503599627370495 := by kernel_rfl
theorem qs3 : jax .i64 (Int.add (-1023) 1) = -1022 := by kernel_rfl
theorem qs4 : jax .u64 (Int.add 1 52) = 53 := by kernel_rfl
theorem qs5 : jax .i64 53 = 53 := by kernel_rfl
theorem qs6 : jax .i64 (Int.add 2047 (-1023)) = 1024 := by kernel_rfl
theorem wAndL (a : Nat) : jbW Nat.land .u64 .u64 (.ofNat (W a)) 4503599627370495 = some (.int .u64 (.ofNat (W (W a &&& 4503599627370495)))) := jfE _ 4503599627370495 (W_lt a) (by decide)
theorem wOrS (a : Nat) : jbW Nat.lor .u64 .u64 (.ofNat (W a)) 9223372036854775808 = some (.int .u64 (.ofNat (W (W a ||| 9223372036854775808)))) := w_or _ 9223372036854775808 (W_lt a) (by decide)
theorem wShr1 (a : Nat) : ja5 false .u64 (.ofNat (W a)) 1 = some (.int .u64 (.ofNat (W (W a / 2 ^ 1)))) := wShr a 1 (by decide)
theorem i_and (y : Nat) (hy : y < 18446744073709551616) : jbW Nat.land .i64 .i64 (.ofNat y) 2047 = some (.int .i64 (.ofNat (y &&& 2047))) := by
 have h : jbW Nat.land .i64 .i64 (.ofNat y) 2047 = some (.int .i64 (jax .i64 (.ofNat (y &&& 2047)))) := by
  unfold jbW
  simp only [decide_true, jdH]
  rw [show Nat.blt y 18446744073709551616 = true from by simpa using hy]
  rfl
 rw [h]
 have : y &&& 2047 ≤ 2047 := Nat.and_le_right
 exact congrArg (fun z => some (Value.int .i64 z)) (wrap_i64 _ (by show (-9223372036854775808 : Int) ≤ ((y &&& 2047 : Nat) : Int); omega) (by show ((y &&& 2047 : Nat) : Int) < 9223372036854775808; omega))
theorem conv_wi (n : Int) : ja9 pZ 96 3 (.int .u64 n) = some (.int .i64 (jax .i64 n)) := by
 simp only [ja9, Tryz.underlying3, Tryz.underlying96]
theorem fb_out (m : Nat) (e : Int) (he : -1023 ≤ e) (he2 : e < 100000) (ovf neg : Bool) : ∃ b, ∀ {X : XT} {k i n : Nat} {tm : T Value} {μ : Mem} {D : Nat → Nat} {dp : Int} {tr : Bool}, Lay μ → Dec μ i D n dp neg tr → jam tm 0 = .pointer (some ⟨i, 0, none⟩) → jam tm 1 = .pointer (some ⟨13, 0, none⟩) → jam tm 5 = .bool ovf → jam tm 6 = .int .i64 e → jam tm 7 = u m →
  EndsC (jao pZ X S0 (k + 60) (ja0 21 (jaU Tryz.f190)) ⟨243, tm, [], none⟩ μ) fun x r μ' => x = .ret ∧ (∃ c, μ' = ⟨μ.obs, μ.next + c⟩) ∧ ∃ tm', r = ⟨243, tm', [], none⟩ ∧ jam tm' 4 = u b ∧ jam tm' 5 = .bool ovf := by
 obtain ⟨y, hy⟩ : ∃ y : Nat, e - (-1023) = .ofNat y := ⟨(e + 1023).toNat, by show e - (-1023) = (((e + 1023).toNat : Nat) : Int); omega⟩
 have hyb : y < 18446744073709551616 := by have : e - (-1023) = (y : Int) := hy; omega
 have q1 : jax .i64 (Int.sub e (-1023)) = .ofNat y := by rw [← hy]; exact jdm e (-1023) (by omega) (by omega)
 have q2 := i_and y hyb
 have q3 : jax .u64 (.ofNat (y &&& 2047)) = .ofNat (W (y &&& 2047)) := jbP _
 cases neg with
 | false =>
   refine ⟨W (W m &&& 4503599627370495) ||| W (Sh (W (y &&& 2047)) 52), fun {X k i n tm μ D dp tr} hL h h0 h1 h5 h6 h7 => ?_⟩
   have f0 : ∀ z, jal ⟨μ.obs, z⟩ 13 0 = some (.int .u64 52) := fun z => hL.fi0
   have f1 : ∀ z, jal ⟨μ.obs, z⟩ 13 1 = some (.int .u64 11) := fun z => hL.fi1
   have f2 : ∀ z, jal ⟨μ.obs, z⟩ 13 2 = some (.int .i64 (-1023)) := fun z => hL.fi2
   have hg := fun z => (h.up z).g
   repeat (first | refine jab rfl ?_ | (refine jac rfl ?_; (try simp only [go_sem, h0, h1, h5, h6, h7, ja8, jcj, jbD, jaW, jau, hL.fi0, hL.fi1, hL.fi2, jfQ, qs2, wAndL]); fail_if_success refine ifC ?_))
   refine jaG (n := 22) (ms := [0, 0, 0, 4, 12, 28, 62, 0, 128, 384, 896, 1920, 3968, 8190, 16382, 0, 32768, 98304, 229376, 524286, 1048575, 2097151]) (ord := [0, 1, 2, 3, 4, 5, 6, 7, 8, 9, 10, 11, 12, 13, 14, 15, 16, 17, 18, 19, 20, 21]) (ds := ?_) ?_ ?_ ?_ ?_ ?_ ?_
   rotate_left
   ·kernel_rfl
   ·kernel_rfl
   ·kernel_rfl
   ·rfl
   ·rfl
   iterate 22 (refine jar (by first | rfl | (simp only [go_sem, h0, h1, h5, h6, h7, ja8, jcj, jbD, jaW, jau, f0, f1, f2, q1, jcF, qs1, q2, jcC, q3, jde, wOr])) (by simp only [jav, heavy, jaI, jaq, go_sem, h0, h1, h5, h6, h7, ja8, jcj, jbD, jaW, jau, f0, f1, f2, q1, jcF, qs1, q2, jcC, q3, jde, wOr]; try exact rfl) rfl ?_)
   simp only [dRun, jay, jak]
   repeat (first | refine jab rfl ?_ | (refine jac rfl ?_; (try simp only [go_sem, h0, h1, h5, h6, h7, jer, jaM, hg]); fail_if_success refine ifC ?_))
   refine jah ?_
   exact ⟨by trivial, ⟨_, rfl⟩, _, rfl, by simp only [go_sem], by simp only [go_sem, h5]⟩
 | true =>
   refine ⟨W (W (W m &&& 4503599627370495) ||| W (Sh (W (y &&& 2047)) 52)) ||| 9223372036854775808, fun {X k i n tm μ D dp tr} hL h h0 h1 h5 h6 h7 => ?_⟩
   have f0 : ∀ z, jal ⟨μ.obs, z⟩ 13 0 = some (.int .u64 52) := fun z => hL.fi0
   have f1 : ∀ z, jal ⟨μ.obs, z⟩ 13 1 = some (.int .u64 11) := fun z => hL.fi1
   have f2 : ∀ z, jal ⟨μ.obs, z⟩ 13 2 = some (.int .i64 (-1023)) := fun z => hL.fi2
   have hg := fun z => (h.up z).g
   repeat (first | refine jab rfl ?_ | (refine jac rfl ?_; (try simp only [go_sem, h0, h1, h5, h6, h7, ja8, jcj, jbD, jaW, jau, hL.fi0, hL.fi1, hL.fi2, jfQ, qs2, wAndL]); fail_if_success refine ifC ?_))
   refine jaG (n := 22) (ms := [0, 0, 0, 4, 12, 28, 62, 0, 128, 384, 896, 1920, 3968, 8190, 16382, 0, 32768, 98304, 229376, 524286, 1048575, 2097151]) (ord := [0, 1, 2, 3, 4, 5, 6, 7, 8, 9, 10, 11, 12, 13, 14, 15, 16, 17, 18, 19, 20, 21]) (ds := ?_) ?_ ?_ ?_ ?_ ?_ ?_
   rotate_left
   ·kernel_rfl
   ·kernel_rfl
   ·kernel_rfl
   ·rfl
   ·rfl
   iterate 22 (refine jar (by first | rfl | (simp only [go_sem, h0, h1, h5, h6, h7, ja8, jcj, jbD, jaW, jau, f0, f1, f2, q1, jcF, qs1, q2, jcC, q3, jde, wOr])) (by simp only [jav, heavy, jaI, jaq, go_sem, h0, h1, h5, h6, h7, ja8, jcj, jbD, jaW, jau, f0, f1, f2, q1, jcF, qs1, q2, jcC, q3, jde, wOr]; try exact rfl) rfl ?_)
   simp only [dRun, jay, jak]
   repeat (first | refine jab rfl ?_ | (refine jac rfl ?_; (try simp only [go_sem, h0, h1, h5, h6, h7, jer, jaM, hg]); fail_if_success refine ifC ?_))
   refine jaG (n := 13) (ms := [0, 0, 2, 6, 14, 30, 0, 64, 192, 448, 1022, 2047, 4095]) (ord := [0, 1, 2, 3, 4, 5, 6, 7, 8, 9, 10, 11, 12]) (ds := ?_) ?_ ?_ ?_ ?_ ?_ ?_
   rotate_left
   ·kernel_rfl
   ·kernel_rfl
   ·kernel_rfl
   ·rfl
   ·rfl
   iterate 13 (refine jar (by first | rfl | (simp only [go_sem, h0, h1, h5, h6, h7, ja8, jcj, jbD, jaW, jau, f0, f1, f2, jfQ, sh11_b, wOrS])) (by simp only [jav, heavy, jaI, jaq, go_sem, h0, h1, h5, h6, h7, ja8, jcj, jbD, jaW, jau, f0, f1, f2, jfQ, sh11_b, wOrS]; try exact rfl) rfl ?_)
   simp only [dRun, jay, jak]
   repeat (first | refine jab rfl ?_ | (refine jac rfl ?_; (try simp only [go_sem, h0, h1, h5, h6, h7]); fail_if_success refine ifC ?_))
   refine jah ?_
   exact ⟨by trivial, ⟨22 + 13, by rw [← Nat.add_assoc]⟩, _, rfl, by simp only [go_sem], by simp only [go_sem, h5]⟩
def Mid (o : Option (Nat × Int)) (neg : Bool) (i : Nat) (μ : Mem) : Ax → Rg → Mem → Prop := fun x r μ' => Only μ μ' i ∧ (∃ D n dp tr, Dec μ' i D n dp neg tr) ∧ ∃ tm', r = ⟨243, tm', [], none⟩ ∧ jam tm' 0 = .pointer (some ⟨i, 0, none⟩) ∧ jam tm' 1 = .pointer (some ⟨13, 0, none⟩) ∧
 (match o with
 | none => x = .goto 1
 | some (m, e) => x = .goto 0 ∧ jam tm' 5 = .bool false ∧ jam tm' 6 = .int .i64 e ∧ jam tm' 7 = u m)
def FinB (b : Nat) (ovf : Bool) (i : Nat) (μ : Mem) : Ax → Rg → Mem → Prop := fun x r μ' => x = .ret ∧ Only μ μ' i ∧ ∃ tm', r = ⟨243, tm', [], none⟩ ∧ jam tm' 4 = u b ∧ jam tm' 5 = .bool ovf
attribute [local irreducible] ja0
theorem fb_fin (o : Option (Nat × Int)) (neg : Bool) (ho : ∀ m e, o = some (m, e) → -1023 ≤ e ∧ e < 100000) : ∃ b ovf, ∀ {X : XT} {k i : Nat} {μ0 μ : Mem} {y : Option (Ax × Rg × Mem)}, Lay μ0 → Grow μ0 μ → μ0.next ≤ i → EndsC y (Mid o neg i μ) → EndsC y (scopeC (k + 100) pZ X S0 (jaU Tryz.f190) (FinB b ovf i μ)) := by
 cases o with
 | none =>
   obtain ⟨b, hb⟩ := fb_out 0 1024 (by decide) (by decide) true neg
   refine ⟨b, true, fun {X k i μ0 μ y} hL hG hi h => ?_⟩
   refine EndsC.mono h ?_
   rintro x r μ1 ⟨ho, ⟨D, n, dp, tr, hd⟩, tm, rfl, h0, h1, rfl⟩
   have hL1 := hL.grow (hG.only ho hi)
   have f1 : ∀ z, jal ⟨μ1.obs, z⟩ 13 1 = some (.int .u64 11) := fun z => hL1.fi1
   have f2 : ∀ z, jal ⟨μ1.obs, z⟩ 13 2 = some (.int .i64 (-1023)) := fun z => hL1.fi2
   refine ⟨_, lab1, ?_⟩
   rw [fs17]
   repeat (first | refine jab rfl ?_ | (refine jac rfl ?_; (try simp only [go_sem]); fail_if_success refine ifC ?_))
   refine jaG (n := 12) (ms := [0, 1, 3, 7, 15, 31, 0, 64, 192, 448, 1023, 2047]) (ord := [0, 1, 2, 3, 4, 5, 6, 7, 8, 9, 10, 11]) (ds := ?_) ?_ ?_ ?_ ?_ ?_ ?_
   rotate_left
   ·kernel_rfl
   ·kernel_rfl
   ·kernel_rfl
   ·rfl
   ·rfl
   iterate 12 (refine jar (by first | rfl | (simp only [go_sem, h0, h1, ja8, jcj, jbD, jaW, jau, f1, f2, jcF, qs1, qs6])) (by simp only [jav, heavy, jaI, jaq, go_sem, h0, h1, ja8, jcj, jbD, jaW, jau, f1, f2, jcF, qs1, qs6]; try exact rfl) rfl ?_)
   simp only [dRun, jay, jak]
   repeat (first | refine jab rfl ?_ | (refine jac rfl ?_; (try simp only [go_sem]); fail_if_success refine ifC ?_))
   refine EndsC.mono (hb (k := k + 35) (hL1.grow ⟨Nat.le_add_right _ _, fun _ _ => rfl⟩) (hd.up _) (by simp only [go_sem, h0]) (by simp only [go_sem, h1]) (by simp only [go_sem]) (by simp only [go_sem]) (by simp only [go_sem]; exact u_of (n := 0) (by decide))) ?_
   rintro x r μ2 ⟨rfl, ⟨c, rfl⟩, tm', rfl, h4, h5⟩
   exact ⟨rfl, ho.trans ((Only.up μ1 i 12).trans (Only.up _ _ _)), _, rfl, h4, h5⟩
 | some p =>
   obtain ⟨m, e⟩ := p
   obtain ⟨h1, h2⟩ := ho m e rfl
   obtain ⟨b, hb⟩ := fb_out m e h1 h2 false neg
   refine ⟨b, false, fun {X k i μ0 μ y} hL hG hi h => ?_⟩
   refine EndsC.mono h ?_
   rintro x r μ1 ⟨ho, ⟨D, n, dp, tr, hd⟩, tm, rfl, h0, h1, rfl, h5, h6, h7⟩
   have hL1 := hL.grow (hG.only ho hi)
   refine ⟨_, lab0, ?_⟩
   repeat (first | refine jab rfl ?_ | (refine jac rfl ?_; (try simp only [go_sem]); fail_if_success refine ifC ?_))
   refine EndsC.mono (hb (k := k + 39) hL1 hd h0 h1 h5 h6 h7) ?_
   rintro x r μ2 ⟨rfl, ⟨c, rfl⟩, tm', rfl, h4, h5⟩
   exact ⟨rfl, ho.trans (Only.up _ _ _), _, rfl, h4, h5⟩
end
noncomputable section
open Go.Proofs.YtnafmgiaifbhgaaGreatDoor.DecM (val Dg)
theorem Only.obs {μ : Mem} {i m : Nat} (h : μ.next ≤ m) : Only μ ⟨μ.obs, m⟩ i := ⟨h, fun _ _ _ => rfl⟩
theorem jdB {a : Option Addr} {n c : Nat} : aLen pZ 239 (.slice a n c) = some n := by
 unfold aLen
 simp only [Tryz.underlying239]
theorem jiw : ∀ q, q < 9 → 1 ≤ powts.getD q 0 ∧ powts.getD q 0 ≤ 26 := by decide
theorem neg_lit {n : Nat} (hn : n < 1000000) (ρ : Operand → Value) (d : Option Tmp) (t ty : TypeId) (a : Operand) (ps : String) (af : Array Edge) (gd : Option (Nat × Bool)) (h : ρ a = .int .i64 (.ofNat n)) : jaT pZ ρ ⟨d, .unOp .neg t a, ty, ps, af, gd⟩ = some (.int .i64 (-(n : Int))) :=
 jcN (n := (n : Int)) h (by omega) (by omega)
theorem fr_exit {D : Nat → Nat} {n : Nat} {tr : Bool} {dp e : Int} (hz : dp ≤ 0) {X : XT} {k i : Nat} {tm : T Value} {μ : Mem} {neg : Bool} (h : Dec μ i D n dp neg tr) (h0 : jam tm 0 = .pointer (some ⟨i, 0, none⟩)) (h1 : jam tm 1 = .pointer (some ⟨13, 0, none⟩)) (h5 : jam tm 5 = .bool false) (h6 : jam tm 6 = .int .i64 e) :
  EndsC (jao pZ X S0 (k + 6000) (.loop (jaR Tryz.f190 0)) ⟨243, tm, [], none⟩ μ) fun x r μ' => x = .exit 0 ∧ Dec μ' i D n dp neg tr ∧ Only μ μ' i ∧ ∃ tm', r = ⟨243, tm', [], none⟩ ∧ jam tm' 0 = .pointer (some ⟨i, 0, none⟩) ∧ jam tm' 1 = .pointer (some ⟨13, 0, none⟩) ∧ jam tm' 5 = .bool false ∧ jam tm' 6 = .int .i64 e := by
 have hp := h.p
 have e1 : ilt 0 dp = false := (jbf _ _).trans (decide_eq_false (by omega))
 refine jan ?_
 repeat (first | refine jab rfl ?_ | (refine jac rfl ?_; (try simp only [go_sem, h0, h1, h5, h6, jaP, jau, hp, e1]); fail_if_success refine ifC ?_))
 exact ⟨by trivial, h, Only.refl _ _, _, rfl, (by simp only [go_sem, h0]), (by simp only [go_sem, h1]), (by simp only [go_sem, h5]), (by simp only [go_sem, h6])⟩
theorem fr_loop : ∀ (m : Nat) (D : Nat → Nat) (n : Nat) (tr : Bool) (dp e : Int), Good D n → (dp ≤ 0 ∨ 10 * dp + ((D 0 - 48 : Nat) : Int) ≤ m) → dp ≤ 310 → -330 ≤ dp → -200000 < e → e + 27 * m < 200000 →
  ∃ (D' : Nat → Nat) (n' : Nat) (tr' : Bool) (dp' e' : Int), Good D' n' ∧ dp' ≤ 0 ∧ -330 ≤ dp' ∧ e ≤ e' ∧ e' ≤ e + 27 * m ∧ ∀ {X : XT} {k i : Nat} {tm : T Value} {μ0 μ : Mem} {neg : Bool}, Lay μ0 → Grow μ0 μ → μ0.next ≤ i → Dec μ i D n dp neg tr → jam tm 0 = .pointer (some ⟨i, 0, none⟩) → jam tm 1 = .pointer (some ⟨13, 0, none⟩) → jam tm 5 = .bool false → jam tm 6 = .int .i64 e →
  EndsC (jao pZ X S0 (k + m + 6000) (.loop (jaR Tryz.f190 0)) ⟨243, tm, [], none⟩ μ) fun x r μ' => x = .exit 0 ∧ Dec μ' i D' n' dp' neg tr' ∧ Only μ μ' i ∧ ∃ tm', r = ⟨243, tm', [], none⟩ ∧ jam tm' 0 = .pointer (some ⟨i, 0, none⟩) ∧ jam tm' 1 = .pointer (some ⟨13, 0, none⟩) ∧ jam tm' 5 = .bool false ∧ jam tm' 6 = .int .i64 e' := by
 intro m
 induction m with
 | zero =>
   intro D n tr dp e G hm hdp hdp2 he he2
   have hz : dp ≤ 0 := by have := G.lead; omega
   exact ⟨D, n, tr, dp, e, G, hz, hdp2, Int.le_refl _, by omega, fun {X k i tm μ0 μ neg} hL hG hi h h0 h1 h5 h6 => fr_exit (k := k) hz h h0 h1 h5 h6⟩
 | succ m ih =>
   intro D n tr dp e G hm hdp hdp2 he he2
   by_cases hz : dp ≤ 0
   ·exact ⟨D, n, tr, dp, e, G, hz, hdp2, Int.le_refl _, by omega, fun {X k i tm μ0 μ neg} hL hG hi h h0 h1 h5 h6 => fr_exit (k := k + (m + 1)) hz h h0 h1 h5 h6⟩
   have hm := hm.resolve_left hz
   have hlead := G.lead
   have hdg0 := G.dg 0 G.pos
   obtain ⟨q, hq⟩ : ∃ q : Nat, dp = .ofNat q := ⟨dp.toNat, by show dp = ((dp.toNat : Nat) : Int); omega⟩
   have hqd : dp = (q : Int) := hq
   obtain ⟨K, hK⟩ : ∃ K, K = (if 9 ≤ q then 27 else powts.getD q 0) := ⟨_, rfl⟩
   have hKb : 1 ≤ K ∧ K ≤ 27 := by
    rw [hK]; split
    ·omega
    ·have := jiw q (by omega); omega
   obtain ⟨D1, n1, s, tr1, G1, b1, b2, hsh⟩ := jgR (k := K) (tr := tr) G hKb.1 (by omega)
   have hs : s ≤ 19 := by omega
   have hlead1 := G1.dg 0 G1.pos
   obtain ⟨D', n', tr', dp', e', c1, c2, c3, c4, c5, hih⟩ := ih D1 n1 tr1 (dp - (s : Int)) (e + (K : Int)) G1 (by
    by_cases hd' : dp - (s : Int) ≤ 0
    ·exact .inl hd'
    ·refine .inr ?_
     by_cases hs0 : s = 0
     ·have := b2 (by omega) hs0; omega
     ·omega) (by omega) (by omega) (by omega) (by omega)
   refine ⟨D', n', tr', dp', e', c1, c2, c3, by omega, by omega, fun {X k i tm μ0 μ neg} hL hG hi h h0 h1 h5 h6 => ?_⟩
   have e1 : ilt 0 dp = true := (jbf _ _).trans (decide_eq_true (by omega))
   have np := fun ρ d t ty a ps af gd => neg_lit (n := K) (by omega) ρ d t ty a ps af gd
   have q2 : jax .i64 (Int.add e (.ofNat K)) = e + (K : Int) := jfg e (K : Int) (by omega) (by omega)
   have hpd := h.p
   have hp := fun z => (h.up z).p
   have hd0 := fun z => (h.up z).d 0 (by omega)
   obtain ⟨pb, po, pc, p1, p2, p3⟩ := (hL.grow hG).pw
   have p1 : ∀ z, jal ⟨μ.obs, z⟩ 15 0 = some (.slice (some ⟨pb, po, none⟩) 9 pc) := fun z => p1
   by_cases h9 : 9 ≤ q
   ·have e2 : ilt dp (.ofNat 9) = false := (jbf _ _).trans (decide_eq_false (by show ¬ dp < 9; omega))
    rw [if_pos h9] at hK
    subst hK
    have np27 : ∀ (ρ : Operand → Value) (d : Option Tmp) (t ty : TypeId) (a : Operand) (ps : String) (af : Array Edge) (gd : Option (Nat × Bool)), ρ a = .int .i64 27 → jaT pZ ρ ⟨d, .unOp .neg t a, ty, ps, af, gd⟩ = some (.int .i64 (-((27 : Nat) : Int))) := np
    have q27 : jax .i64 (Int.add e 27) = e + ((27 : Nat) : Int) := q2
    obtain ⟨μ1, hr, z1, z2⟩ := hsh (X := X) (g := k + (m + 1) + 5993) (i := i) (x := -((27 : Nat) : Int)) (μ := ⟨μ.obs, μ.next + 7⟩) (dp := dp) (neg := neg) (by omega) rfl (by omega) (by omega) (h.up _)
    have hG1 : Grow μ0 μ1 := (hG.only (Only.obs (by omega)) hi).only z2 hi
    refine jan ?_
    repeat (first | refine jab rfl ?_ | (refine jac rfl ?_; (try simp only [go_sem, h0, h1, h5, h6, jaP, jau, hpd, e1]); fail_if_success refine ifC ?_))
    refine jaG (n := 7) (ms := [0, 1, 3, 7, 0, 16, 63]) (ord := [0, 1, 2, 3, 4, 5, 6]) (ds := ?_) ?_ ?_ ?_ ?_ ?_ ?_
    rotate_left
    ·kernel_rfl
    ·kernel_rfl
    ·kernel_rfl
    ·rfl
    ·rfl
    iterate 7 (refine jar (by first | rfl | (simp only [go_sem, h0, h1, h5, h6, nW, jaH, jaz, jaP, jau, ja4, jdC, jdB, jae, jaa, hp, p1, e2])) (by simp only [jav, heavy, jaI, jaq, go_sem, h0, h1, h5, h6, nW, jaH, jaz, jaP, jau, ja4, jdC, jdB, jae, jaa, hp, p1, e2]; try exact rfl) rfl ?_)
    simp only [dRun, jay, jak]
    repeat (first | refine jab rfl ?_ | (refine jac rfl ?_; (try simp only [go_sem, h0, h1, h5, h6, np27, jh2, hr, q27]); fail_if_success refine ifC ?_))
    rw [show k + (m + 1) + 5999 = k + m + 6000 from by omega]
    refine EndsC.mono (hih hL hG1 hi z1 (by simp only [go_sem, h0]) (by simp only [go_sem, h1]) (by simp only [go_sem, h5]) (by simp only [go_sem])) ?_
    rintro x r μ' ⟨hx, g1, g2, g3⟩
    exact ⟨hx, g1, (Only.obs (by omega)).trans (z2.trans g2), g3⟩
   ·have e2 : ilt dp (.ofNat 9) = true := (jbf _ _).trans (decide_eq_true (by show dp < 9; omega))
    rw [if_neg h9] at hK
    have p4 : ∀ z, jal ⟨μ.obs, z⟩ pb (po + q) = some (.int .i64 (.ofNat (powts.getD q 0))) := fun z => p3 q (by omega)
    have hix : ∀ (rg : Rg) (a b : Operand), aev pZ rg a = .slice (some ⟨pb, po, none⟩) 9 pc → aev pZ rg b = .int .i64 (.ofNat q) → jas pZ (aev pZ rg) 239 a b = some (.pointer (some ⟨pb, po + q, none⟩)) := fun rg a b g1 g2 => ja1 (P := pZ) Tryz.underlying239 jdn rfl g1 g2 (by omega)
    have p4 : ∀ z, jal ⟨μ.obs, z⟩ pb (po + q) = some (.int .i64 (.ofNat K)) := fun z => by rw [hK]; exact p4 z
    rw [hq] at hp e2
    obtain ⟨μ1, hr, z1, z2⟩ := hsh (X := X) (g := k + (m + 1) + 5993) (i := i) (x := -(K : Int)) (μ := ⟨μ.obs, μ.next + 7 + 8⟩) (dp := dp) (neg := neg) (by omega) rfl (by omega) (by omega) (h.up _)
    have hG1 : Grow μ0 μ1 := (hG.only (Only.obs (by omega)) hi).only z2 hi
    refine jan ?_
    repeat (first | refine jab rfl ?_ | (refine jac rfl ?_; (try simp only [go_sem, h0, h1, h5, h6, jaP, jau, hpd, e1]); fail_if_success refine ifC ?_))
    refine jaG (n := 7) (ms := [0, 1, 3, 7, 0, 16, 63]) (ord := [0, 1, 2, 3, 4, 5, 6]) (ds := ?_) ?_ ?_ ?_ ?_ ?_ ?_
    rotate_left
    ·kernel_rfl
    ·kernel_rfl
    ·kernel_rfl
    ·rfl
    ·rfl
    iterate 7 (refine jar (by first | rfl | (simp only [go_sem, h0, h1, h5, h6, nW, jaH, jaz, jaP, jau, ja4, jdC, jdB, jae, jaa, hp, p1, e2])) (by simp only [jav, heavy, jaI, jaq, go_sem, h0, h1, h5, h6, nW, jaH, jaz, jaP, jau, ja4, jdC, jdB, jae, jaa, hp, p1, e2]; try exact rfl) rfl ?_)
    simp only [dRun, jay, jak]
    repeat (first | refine jab rfl ?_ | (refine jac rfl ?_; (try simp only [go_sem, h0, h1, h5, h6]); fail_if_success refine ifC ?_))
    refine jaG (n := 8) (ms := [0, 0, 2, 6, 14, 31, 63, 127]) (ord := [0, 1, 2, 3, 4, 5, 6, 7]) (ds := ?_) ?_ ?_ ?_ ?_ ?_ ?_
    rotate_left
    ·kernel_rfl
    ·kernel_rfl
    ·kernel_rfl
    ·rfl
    ·rfl
    iterate 8 (refine jar (by first | rfl | (simp only [go_sem, h0, h1, h5, h6, nW, jaH, jaz, jaP, jau, ja4, jdC, jdB, jae, jaa, hp, p1, hix, p4])) (by simp only [jav, heavy, jaI, jaq, go_sem, h0, h1, h5, h6, nW, jaH, jaz, jaP, jau, ja4, jdC, jdB, jae, jaa, hp, p1, hix, p4]; try exact rfl) rfl ?_)
    simp only [dRun, jay, jak]
    repeat (first | refine jab rfl ?_ | (refine jac rfl ?_; (try simp only [go_sem, h0, h1, h5, h6, np, jh2, hr, q2]); fail_if_success refine ifC ?_))
    rw [show k + (m + 1) + 5999 = k + m + 6000 from by omega]
    refine EndsC.mono (hih hL hG1 hi z1 (by simp only [go_sem, h0]) (by simp only [go_sem, h1]) (by simp only [go_sem, h5]) (by simp only [go_sem])) ?_
    rintro x r μ' ⟨hx, g1, g2, g3⟩
    exact ⟨hx, g1, (Only.obs (by omega)).trans (z2.trans g2), g3⟩
theorem fl_exit {D : Nat → Nat} {n : Nat} {tr : Bool} {dp e : Int} (G : Good D n) (hz : 0 < dp ∨ (dp = 0 ∧ 53 ≤ D 0)) {X : XT} {k i : Nat} {tm : T Value} {μ : Mem} {neg : Bool} (h : Dec μ i D n dp neg tr) (h0 : jam tm 0 = .pointer (some ⟨i, 0, none⟩)) (h1 : jam tm 1 = .pointer (some ⟨13, 0, none⟩)) (h5 : jam tm 5 = .bool false) (h6 : jam tm 6 = .int .i64 e) :
  EndsC (jao pZ X S0 (k + 6000) (.loop (jaR Tryz.f190 1)) ⟨243, tm, [], none⟩ μ) fun x r μ' => x = .exit 2 ∧ Dec μ' i D n dp neg tr ∧ Only μ μ' i ∧ ∃ tm', r = ⟨243, tm', [], none⟩ ∧ jam tm' 0 = .pointer (some ⟨i, 0, none⟩) ∧ jam tm' 1 = .pointer (some ⟨13, 0, none⟩) ∧ jam tm' 5 = .bool false ∧ jam tm' 6 = .int .i64 e := by
 have hp := h.p
 have hd0 := h.d 0 (by omega)
 have hix0 : ∀ (rg : Rg) (a : Operand), aev pZ rg a = .pointer (some ⟨i, 0, none⟩) → jas pZ (aev pZ rg) 165 a (.const (.int .i64 0)) = some (.pointer (some ⟨i, 0, none⟩)) := fun rg a g1 => jcY (m := 0) (by omega) g1 rfl
 have e1 : ilt dp 0 = false := (jbf _ _).trans (decide_eq_false (by omega))
 rcases hz with hz | ⟨hz, hz2⟩
 ·have e2 : ieq dp 0 = false := by rw [jd5]; exact decide_eq_false (by omega)
  refine jan ?_
  refine jag ?_
  refine jag ?_
  refine jad rfl ?_
  have zz := (⟨@h0, @h1, @h5, @h6, @jaH, @jaP, @jau, @ja4, @hp, @hix0, @e1, @e2⟩ : _ ∧ _ ∧ _ ∧ _ ∧ _ ∧ _ ∧ _ ∧ _ ∧ _ ∧ _ ∧ _ ∧ _)
  (repeat (first | (refine jai ?_ rfl ?_; (solve | simp only [go_sem, undef, hd0, zz])) | (refine jaf (v := ?_) (μ' := ?_) ?_ ?_ rfl ?_; rotate_left 2; (solve | rfl | simp only [go_sem, undef, hd0, zz]); (solve | simp only [go_sem, undef, hd0, zz]; try exact rfl))))
  clear zz
  simp only [go_sem]
  refine jaC ?_ ?_
  ·simp only [go_sem]
  refine jbA ?_
  simp only [jbC]
  exact ⟨by trivial, h, Only.refl _ _, _, rfl, (by simp only [go_sem, h0]), (by simp only [go_sem, h1]), (by simp only [go_sem, h5]), (by simp only [go_sem, h6])⟩
 ·have e2 : ieq dp 0 = true := by rw [jd5]; exact decide_eq_true hz
  have e3 : ilt (.ofNat (D 0)) 53 = false := (jbM _ 53 53 rfl).trans (decide_eq_false (by omega))
  refine jan ?_
  refine jag ?_
  refine jag ?_
  refine jad rfl ?_
  iterate 20 (refine jaf (by first | rfl | (simp only [go_sem, undef, h0, h1, h5, h6, jaH, jaP, jau, ja4, hp, hd0, hix0, e1, e2, e3])) (by simp only [go_sem, undef, h0, h1, h5, h6, jaH, jaP, jau, ja4, hp, hd0, hix0, e1, e2, e3]; try exact rfl) rfl ?_)
  simp only [go_sem]
  refine jaC ?_ ?_
  ·simp only [go_sem]
  refine jbA ?_
  simp only [jbC]
  exact ⟨by trivial, h, Only.refl _ _, _, rfl, (by simp only [go_sem, h0]), (by simp only [go_sem, h1]), (by simp only [go_sem, h5]), (by simp only [go_sem, h6])⟩
theorem fl_loop : ∀ (m : Nat) (D : Nat → Nat) (n : Nat) (tr : Bool) (dp e : Int), Good D n → ((0 < dp ∨ (dp = 0 ∧ 53 ≤ D 0)) ∨ 10 * (-dp) + ((57 - D 0 : Nat) : Int) ≤ m) → dp ≤ 20 → -330 ≤ dp → -200000 < e - 27 * m → e < 200000 →
  ∃ (D' : Nat → Nat) (n' : Nat) (tr' : Bool) (dp' e' : Int), Good D' n' ∧ 0 ≤ dp' ∧ dp' ≤ 20 ∧ e' ≤ e ∧ e - 27 * m ≤ e' ∧ ∀ {X : XT} {k i : Nat} {tm : T Value} {μ0 μ : Mem} {neg : Bool}, Lay μ0 → Grow μ0 μ → μ0.next ≤ i → Dec μ i D n dp neg tr → jam tm 0 = .pointer (some ⟨i, 0, none⟩) → jam tm 1 = .pointer (some ⟨13, 0, none⟩) → jam tm 5 = .bool false → jam tm 6 = .int .i64 e →
  EndsC (jao pZ X S0 (k + m + 6000) (.loop (jaR Tryz.f190 1)) ⟨243, tm, [], none⟩ μ) fun x r μ' => x = .exit 2 ∧ Dec μ' i D' n' dp' neg tr' ∧ Only μ μ' i ∧ ∃ tm', r = ⟨243, tm', [], none⟩ ∧ jam tm' 0 = .pointer (some ⟨i, 0, none⟩) ∧ jam tm' 1 = .pointer (some ⟨13, 0, none⟩) ∧ jam tm' 5 = .bool false ∧ jam tm' 6 = .int .i64 e' := by
 intro m
 induction m with
 | zero =>
   intro D n tr dp e G hm hdp hdp2 he he2
   have hz : 0 < dp ∨ (dp = 0 ∧ 53 ≤ D 0) := by have := G.dg 0 G.pos; omega
   exact ⟨D, n, tr, dp, e, G, by omega, hdp, Int.le_refl _, by omega, fun {X k i tm μ0 μ neg} hL hG hi h h0 h1 h5 h6 => fl_exit (k := k) G hz h h0 h1 h5 h6⟩
 | succ m ih =>
   intro D n tr dp e G hm hdp hdp2 he he2
   by_cases hz : 0 < dp ∨ (dp = 0 ∧ 53 ≤ D 0)
   ·exact ⟨D, n, tr, dp, e, G, by omega, hdp, Int.le_refl _, by omega, fun {X k i tm μ0 μ neg} hL hG hi h h0 h1 h5 h6 => fl_exit (k := k + (m + 1)) G hz h h0 h1 h5 h6⟩
   have hm := hm.resolve_left hz
   have hlead := G.lead
   have hdg0 := G.dg 0 G.pos
   obtain ⟨q, hqd⟩ : ∃ q : Nat, dp = -(q : Int) := ⟨(-dp).toNat, by omega⟩
   obtain ⟨K, hK⟩ : ∃ K, K = (if 9 ≤ q then 27 else powts.getD q 0) := ⟨_, rfl⟩
   have hKb : 1 ≤ K ∧ K ≤ 27 := by
    rw [hK]; split
    ·omega
    ·have := jiw q (by omega); omega
   obtain ⟨D1, n1, s, tr1, G1, b1, b2, hsh⟩ := jgS (k := K) (tr := tr) G hKb.1 (by omega)
   have hlead1 := G1.dg 0 G1.pos
   obtain ⟨D', n', tr', dp', e', c1, c2, c3, c4, c5, hih⟩ := ih D1 n1 tr1 (dp + (s : Int)) (e - (K : Int)) G1 (by
    by_cases hd' : 0 < dp + (s : Int) ∨ (dp + (s : Int) = 0 ∧ 53 ≤ D1 0)
    ·exact .inl hd'
    ·refine .inr ?_
     by_cases hs0 : s = 0
     ·have := b2 hs0
      have := G1.lead
      omega
     ·have := G1.lead
      omega) (by omega) (by omega) (by omega) (by omega)
   refine ⟨D', n', tr', dp', e', c1, c2, c3, by omega, by omega, fun {X k i tm μ0 μ neg} hL hG hi h h0 h1 h5 h6 => ?_⟩
   have np : ∀ (ρ : Operand → Value) (d : Option Tmp) (t ty : TypeId) (a : Operand) (ps : String) (af : Array Edge) (gd : Option (Nat × Bool)), ρ a = .int .i64 dp → jaT pZ ρ ⟨d, .unOp .neg t a, ty, ps, af, gd⟩ = some (.int .i64 (.ofNat q)) := fun ρ d t ty a ps af gd g => by
    have := jcN (d := d) (t := t) (ty := ty) (ps := ps) (af := af) (gd := gd) g (by omega) (by omega)
    rw [this, hqd, Int.neg_neg]; rfl
   have q2 : jax .i64 (Int.sub e (.ofNat K)) = e - (K : Int) := jdm e (K : Int) (by omega) (by omega)
   have hpd := h.p
   have hdd := h.d 0 (by omega)
   have hix0 : ∀ (rg : Rg) (a : Operand), aev pZ rg a = .pointer (some ⟨i, 0, none⟩) → jas pZ (aev pZ rg) 165 a (.const (.int .i64 0)) = some (.pointer (some ⟨i, 0, none⟩)) := fun rg a g1 => jcY (m := 0) (by omega) g1 rfl
   have hp := fun z => (h.up z).p
   have hd0 := fun z => (h.up z).d 0 (by omega)
   obtain ⟨pb, po, pc, p1, p2, p3⟩ := (hL.grow hG).pw
   have p1 : ∀ z, jal ⟨μ.obs, z⟩ 15 0 = some (.slice (some ⟨pb, po, none⟩) 9 pc) := fun z => p1
   by_cases hneg : dp < 0
   ·have e1 : ilt dp 0 = true := (jbf _ _).trans (decide_eq_true hneg)
    by_cases h9 : 9 ≤ q
    ·have e2 : ilt (.ofNat q) (.ofNat 9) = false := (jat _ _).trans (decide_eq_false (by omega))
     rw [if_pos h9] at hK
     subst hK
     have q27 : jax .i64 (Int.sub e 27) = e - ((27 : Nat) : Int) := q2
     obtain ⟨μ1, hr, z1, z2⟩ := hsh (X := X) (g := k + (m + 1) + 5993) (i := i) (μ := ⟨μ.obs, μ.next + 8⟩) (dp := dp) (neg := neg) (by omega) (hL.grow (hG.only (Only.obs (by omega)) hi)) (by omega) (by omega) (h.up _)
     have hG1 : Grow μ0 μ1 := (hG.only (Only.obs (by omega)) hi).only z2 hi
     have hr27 : aFun pZ (jao pZ X S0 (k + (m + 1) + 5993)) 138 [.pointer (some ⟨i, 0, none⟩), .int .i64 27] ⟨μ.obs, μ.next + 8⟩ = some (.tuple #[], μ1) := hr
     refine jan ?_
     refine jag ?_
     refine jag ?_
     refine jad rfl ?_
     have zz := (⟨@h0, @h1, @h5, @h6, @jaH, @jaP, @jau, @ja4, @hpd, @hdd, @hix0, @e1⟩ : _ ∧ _ ∧ _ ∧ _ ∧ _ ∧ _ ∧ _ ∧ _ ∧ _ ∧ _ ∧ _ ∧ _)
     (repeat (first | (refine jai ?_ rfl ?_; (solve | simp only [go_sem, undef, zz])) | (refine jaf (v := ?_) (μ' := ?_) ?_ ?_ rfl ?_; rotate_left 2; (solve | rfl | simp only [go_sem, undef, zz]); (solve | simp only [go_sem, undef, zz]; try exact rfl))))
     clear zz
     simp only [go_sem]
     repeat (first | refine jab rfl ?_ | (refine jac rfl ?_; (try simp only [go_sem, h0, h1, h5, h6]); fail_if_success refine ifC ?_))
     refine jaG (n := 8) (ms := [0, 1, 3, 7, 15, 0, 32, 127]) (ord := [0, 1, 2, 3, 4, 5, 6, 7]) (ds := ?_) ?_ ?_ ?_ ?_ ?_ ?_
     rotate_left
     ·kernel_rfl
     ·kernel_rfl
     ·kernel_rfl
     ·rfl
     ·rfl
     iterate 8 (refine jar (by first | rfl | (simp only [go_sem, h0, h1, h5, h6, nW, jaH, jaz, jaP, jau, ja4, jdC, jdB, jae, jaa, hp, p1, np, e2])) (by simp only [jav, heavy, jaI, jaq, go_sem, h0, h1, h5, h6, nW, jaH, jaz, jaP, jau, ja4, jdC, jdB, jae, jaa, hp, p1, np, e2]; try exact rfl) rfl ?_)
     simp only [dRun, jay, jak]
     repeat (first | refine jab rfl ?_ | (refine jac rfl ?_; (try simp only [go_sem, h0, h1, h5, h6, hr27, q27, jh2, hr, q2]); fail_if_success refine ifC ?_))
     rw [show k + (m + 1) + 5999 = k + m + 6000 from by omega]
     refine EndsC.mono (hih hL hG1 hi z1 (by simp only [go_sem, h0]) (by simp only [go_sem, h1]) (by simp only [go_sem, h5]) (by simp only [go_sem])) ?_
     rintro x r μ' ⟨hx, g1, g2, g3⟩
     exact ⟨hx, g1, (Only.obs (by omega)).trans (z2.trans g2), g3⟩
    ·have e2 : ilt (.ofNat q) (.ofNat 9) = true := (jat _ _).trans (decide_eq_true (by omega))
     rw [if_neg h9] at hK
     have p4 : ∀ z, jal ⟨μ.obs, z⟩ pb (po + q) = some (.int .i64 (.ofNat (powts.getD q 0))) := fun z => p3 q (by omega)
     have hix : ∀ (rg : Rg) (a b : Operand), aev pZ rg a = .slice (some ⟨pb, po, none⟩) 9 pc → aev pZ rg b = .int .i64 (.ofNat q) → jas pZ (aev pZ rg) 239 a b = some (.pointer (some ⟨pb, po + q, none⟩)) := fun rg a b g1 g2 => ja1 (P := pZ) Tryz.underlying239 jdn rfl g1 g2 (by omega)
     have p4 : ∀ z, jal ⟨μ.obs, z⟩ pb (po + q) = some (.int .i64 (.ofNat K)) := fun z => by rw [hK]; exact p4 z
     obtain ⟨μ1, hr, z1, z2⟩ := hsh (X := X) (g := k + (m + 1) + 5993) (i := i) (μ := ⟨μ.obs, μ.next + 8 + 9⟩) (dp := dp) (neg := neg) (by omega) (hL.grow (hG.only (Only.obs (by omega)) hi)) (by omega) (by omega) (h.up _)
     have hG1 : Grow μ0 μ1 := (hG.only (Only.obs (by omega)) hi).only z2 hi
     refine jan ?_
     refine jag ?_
     refine jag ?_
     refine jad rfl ?_
     have zz := (⟨@h0, @h1, @h5, @h6, @jaH, @jaP, @jau, @ja4, @hpd, @hdd, @hix0, @e1⟩ : _ ∧ _ ∧ _ ∧ _ ∧ _ ∧ _ ∧ _ ∧ _ ∧ _ ∧ _ ∧ _ ∧ _)
     (repeat (first | (refine jai ?_ rfl ?_; (solve | simp only [go_sem, undef, zz])) | (refine jaf (v := ?_) (μ' := ?_) ?_ ?_ rfl ?_; rotate_left 2; (solve | rfl | simp only [go_sem, undef, zz]); (solve | simp only [go_sem, undef, zz]; try exact rfl))))
     clear zz
     simp only [go_sem]
     repeat (first | refine jab rfl ?_ | (refine jac rfl ?_; (try simp only [go_sem, h0, h1, h5, h6]); fail_if_success refine ifC ?_))
     refine jaG (n := 8) (ms := [0, 1, 3, 7, 15, 0, 32, 127]) (ord := [0, 1, 2, 3, 4, 5, 6, 7]) (ds := ?_) ?_ ?_ ?_ ?_ ?_ ?_
     rotate_left
     ·kernel_rfl
     ·kernel_rfl
     ·kernel_rfl
     ·rfl
     ·rfl
     iterate 8 (refine jar (by first | rfl | (simp only [go_sem, h0, h1, h5, h6, nW, jaH, jaz, jaP, jau, ja4, jdC, jdB, jae, jaa, hp, p1, np, e2])) (by simp only [jav, heavy, jaI, jaq, go_sem, h0, h1, h5, h6, nW, jaH, jaz, jaP, jau, ja4, jdC, jdB, jae, jaa, hp, p1, np, e2]; try exact rfl) rfl ?_)
     simp only [dRun, jay, jak]
     repeat (first | refine jab rfl ?_ | (refine jac rfl ?_; (try simp only [go_sem, h0, h1, h5, h6]); fail_if_success refine ifC ?_))
     refine jaG (n := 9) (ms := [0, 0, 2, 6, 14, 30, 63, 127, 255]) (ord := [0, 1, 2, 3, 4, 5, 6, 7, 8]) (ds := ?_) ?_ ?_ ?_ ?_ ?_ ?_
     rotate_left
     ·kernel_rfl
     ·kernel_rfl
     ·kernel_rfl
     ·rfl
     ·rfl
     iterate 9 (refine jar (by first | rfl | (simp only [go_sem, h0, h1, h5, h6, nW, jaH, jaz, jaP, jau, ja4, jdC, jdB, jae, jaa, hp, p1, np, hix, p4])) (by simp only [jav, heavy, jaI, jaq, go_sem, h0, h1, h5, h6, nW, jaH, jaz, jaP, jau, ja4, jdC, jdB, jae, jaa, hp, p1, np, hix, p4]; try exact rfl) rfl ?_)
     simp only [dRun, jay, jak]
     repeat (first | refine jab rfl ?_ | (refine jac rfl ?_; (try simp only [go_sem, h0, h1, h5, h6, jh2, hr, q2]); fail_if_success refine ifC ?_))
     rw [show k + (m + 1) + 5999 = k + m + 6000 from by omega]
     refine EndsC.mono (hih hL hG1 hi z1 (by simp only [go_sem, h0]) (by simp only [go_sem, h1]) (by simp only [go_sem, h5]) (by simp only [go_sem])) ?_
     rintro x r μ' ⟨hx, g1, g2, g3⟩
     exact ⟨hx, g1, (Only.obs (by omega)).trans (z2.trans g2), g3⟩
   ·have e1 : ilt dp 0 = false := (jbf _ _).trans (decide_eq_false hneg)
    have e0 : ieq dp 0 = true := by rw [jd5]; exact decide_eq_true (by omega)
    have e3 : ilt (.ofNat (D 0)) 53 = true := (jbM _ 53 53 rfl).trans (decide_eq_true (by omega))
    have h9 : ¬ 9 ≤ q := by omega
    have e2 : ilt (.ofNat q) (.ofNat 9) = true := (jat _ _).trans (decide_eq_true (by omega))
    rw [if_neg h9] at hK
    have p4 : ∀ z, jal ⟨μ.obs, z⟩ pb (po + q) = some (.int .i64 (.ofNat (powts.getD q 0))) := fun z => p3 q (by omega)
    have hix : ∀ (rg : Rg) (a b : Operand), aev pZ rg a = .slice (some ⟨pb, po, none⟩) 9 pc → aev pZ rg b = .int .i64 (.ofNat q) → jas pZ (aev pZ rg) 239 a b = some (.pointer (some ⟨pb, po + q, none⟩)) := fun rg a b g1 g2 => ja1 (P := pZ) Tryz.underlying239 jdn rfl g1 g2 (by omega)
    have p4 : ∀ z, jal ⟨μ.obs, z⟩ pb (po + q) = some (.int .i64 (.ofNat K)) := fun z => by rw [hK]; exact p4 z
    obtain ⟨μ1, hr, z1, z2⟩ := hsh (X := X) (g := k + (m + 1) + 5993) (i := i) (μ := ⟨μ.obs, μ.next + 8 + 9⟩) (dp := dp) (neg := neg) (by omega) (hL.grow (hG.only (Only.obs (by omega)) hi)) (by omega) (by omega) (h.up _)
    have hG1 : Grow μ0 μ1 := (hG.only (Only.obs (by omega)) hi).only z2 hi
    refine jan ?_
    refine jag ?_
    refine jag ?_
    refine jad rfl ?_
    iterate 20 (refine jaf (by first | rfl | (simp only [go_sem, undef, h0, h1, h5, h6, jaH, jaP, jau, ja4, hpd, hdd, hix0, e1, e0, e3])) (by simp only [go_sem, undef, h0, h1, h5, h6, jaH, jaP, jau, ja4, hpd, hdd, hix0, e1, e0, e3]; try exact rfl) rfl ?_)
    simp only [go_sem]
    repeat (first | refine jab rfl ?_ | (refine jac rfl ?_; (try simp only [go_sem, h0, h1, h5, h6]); fail_if_success refine ifC ?_))
    refine jaG (n := 8) (ms := [0, 1, 3, 7, 15, 0, 32, 127]) (ord := [0, 1, 2, 3, 4, 5, 6, 7]) (ds := ?_) ?_ ?_ ?_ ?_ ?_ ?_
    rotate_left
    ·kernel_rfl
    ·kernel_rfl
    ·kernel_rfl
    ·rfl
    ·rfl
    iterate 8 (refine jar (by first | rfl | (simp only [go_sem, h0, h1, h5, h6, nW, jaH, jaz, jaP, jau, ja4, jdC, jdB, jae, jaa, hp, p1, np, e2])) (by simp only [jav, heavy, jaI, jaq, go_sem, h0, h1, h5, h6, nW, jaH, jaz, jaP, jau, ja4, jdC, jdB, jae, jaa, hp, p1, np, e2]; try exact rfl) rfl ?_)
    simp only [dRun, jay, jak]
    repeat (first | refine jab rfl ?_ | (refine jac rfl ?_; (try simp only [go_sem, h0, h1, h5, h6]); fail_if_success refine ifC ?_))
    refine jaG (n := 9) (ms := [0, 0, 2, 6, 14, 30, 63, 127, 255]) (ord := [0, 1, 2, 3, 4, 5, 6, 7, 8]) (ds := ?_) ?_ ?_ ?_ ?_ ?_ ?_
    rotate_left
    ·kernel_rfl
    ·kernel_rfl
    ·kernel_rfl
    ·rfl
    ·rfl
    iterate 9 (refine jar (by first | rfl | (simp only [go_sem, h0, h1, h5, h6, nW, jaH, jaz, jaP, jau, ja4, jdC, jdB, jae, jaa, hp, p1, np, hix, p4])) (by simp only [jav, heavy, jaI, jaq, go_sem, h0, h1, h5, h6, nW, jaH, jaz, jaP, jau, ja4, jdC, jdB, jae, jaa, hp, p1, np, hix, p4]; try exact rfl) rfl ?_)
    simp only [dRun, jay, jak]
    repeat (first | refine jab rfl ?_ | (refine jac rfl ?_; (try simp only [go_sem, h0, h1, h5, h6, jh2, hr, q2]); fail_if_success refine ifC ?_))
    rw [show k + (m + 1) + 5999 = k + m + 6000 from by omega]
    refine EndsC.mono (hih hL hG1 hi z1 (by simp only [go_sem, h0]) (by simp only [go_sem, h1]) (by simp only [go_sem, h5]) (by simp only [go_sem])) ?_
    rintro x r μ' ⟨hx, g1, g2, g3⟩
    exact ⟨hx, g1, (Only.obs (by omega)).trans (z2.trans g2), g3⟩
end
noncomputable section
open Go.Proofs.YtnafmgiaifbhgaaGreatDoor.DecM (val Dg)
attribute [local irreducible] ja0
theorem fb14 (m : Nat) (e : Int) (he : -1023 ≤ e) : ∃ e', -1023 ≤ e' ∧ (e' = e ∨ e' = -1023) ∧ ∀ {X : XT} {k i n : Nat} {tm : T Value} {μ0 μ : Mem} {D : Nat → Nat} {dp : Int} {tr neg : Bool}, Lay μ0 → Grow μ0 μ → μ0.next ≤ i → Dec μ i D n dp neg tr → jam tm 0 = .pointer (some ⟨i, 0, none⟩) → jam tm 1 = .pointer (some ⟨13, 0, none⟩) → jam tm 5 = .bool false → jam tm 6 = .int .i64 e → jam tm 7 = u m →
  EndsC (jao pZ X S0 (k + 40) (ja0 14 (jaU Tryz.f190)) ⟨243, tm, [], none⟩ μ) (Mid (some (m, e')) neg i μ) := by
 by_cases hz : W (W m &&& 4503599627370496) = 0
 ·have e1 : ieq (.ofNat (W (W m &&& 4503599627370496))) 0 = true := (jaQ _ 0 0 rfl).trans (decide_eq_true hz)
  refine ⟨-1023, Int.le_refl _, .inr rfl, fun {X k i n tm μ0 μ D dp tr neg} hL hG hi h h0 h1 h5 h6 h7 => ?_⟩
  have hLm := hL.grow hG
  have f0 : ∀ z, jal ⟨μ.obs, z⟩ 13 0 = some (.int .u64 52) := fun z => hLm.fi0
  have f1 : ∀ z, jal ⟨μ.obs, z⟩ 13 1 = some (.int .u64 11) := fun z => hLm.fi1
  have f2 : ∀ z, jal ⟨μ.obs, z⟩ 13 2 = some (.int .i64 (-1023)) := fun z => hLm.fi2
  have g0 := hLm.fi0
  have g1 := hLm.fi1
  have g2 := hLm.fi2
  rw [fs14]
  repeat (first | refine jab rfl ?_ | (refine jac rfl ?_; (try simp only [go_sem, h0, h1, h5, h6, h7, ja8, jbD, jaW, jau, g0, g2, jfQ, wAndH, e1]); fail_if_success refine ifC ?_))
  refine jcD ?_
  simp only [jcx]
  exact ⟨Only.refl _ _, ⟨D, n, dp, tr, h⟩, _, rfl, (by simp only [go_sem, h0]), (by simp only [go_sem, h1]), by trivial, (by simp only [go_sem, h5]), (by simp only [go_sem]), (by simp only [go_sem, h7])⟩
 ·have e1 : ieq (.ofNat (W (W m &&& 4503599627370496))) 0 = false := (jaQ _ 0 0 rfl).trans (decide_eq_false hz)
  refine ⟨e, he, .inl rfl, fun {X k i n tm μ0 μ D dp tr neg} hL hG hi h h0 h1 h5 h6 h7 => ?_⟩
  have hLm := hL.grow hG
  have f0 : ∀ z, jal ⟨μ.obs, z⟩ 13 0 = some (.int .u64 52) := fun z => hLm.fi0
  have f1 : ∀ z, jal ⟨μ.obs, z⟩ 13 1 = some (.int .u64 11) := fun z => hLm.fi1
  have f2 : ∀ z, jal ⟨μ.obs, z⟩ 13 2 = some (.int .i64 (-1023)) := fun z => hLm.fi2
  have g0 := hLm.fi0
  have g1 := hLm.fi1
  have g2 := hLm.fi2
  rw [fs14]
  repeat (first | refine jab rfl ?_ | (refine jac rfl ?_; (try simp only [go_sem, h0, h1, h5, h6, h7, ja8, jbD, jaW, jau, g0, g2, jfQ, wAndH, e1]); fail_if_success refine ifC ?_))
  refine jcD ?_
  simp only [jcx]
  exact ⟨Only.refl _ _, ⟨D, n, dp, tr, h⟩, _, rfl, (by simp only [go_sem, h0]), (by simp only [go_sem, h1]), by trivial, (by simp only [go_sem, h5]), (by simp only [go_sem, h6]), (by simp only [go_sem, h7])⟩
theorem Mid.up {o : Option (Nat × Int)} {neg : Bool} {i : Nat} {μ μ1 : Mem} {y : Option (Ax × Rg × Mem)} (g : Only μ μ1 i) (h : EndsC y (Mid o neg i μ1)) : EndsC y (Mid o neg i μ) :=
 EndsC.mono h fun x r μ' ⟨h1, h2⟩ => ⟨g.trans h1, h2⟩
theorem Dec.any {μ : Mem} {i n : Nat} {D : Nat → Nat} {dp : Int} {neg tr : Bool} (h : Dec μ i D n dp neg tr) : ∃ D n dp tr, Dec μ i D n dp neg tr := ⟨_, _, _, _, h⟩
theorem fb13 (m : Nat) (e : Int) (he : -1022 ≤ e) (he2 : e < 2000) : ∃ o, (∀ m' e', o = some (m', e') → -1023 ≤ e' ∧ e' < 100000) ∧ ∀ {X : XT} {k i n : Nat} {tm : T Value} {μ0 μ : Mem} {D : Nat → Nat} {dp : Int} {tr neg : Bool}, Lay μ0 → Grow μ0 μ → μ0.next ≤ i → Dec μ i D n dp neg tr → jam tm 0 = .pointer (some ⟨i, 0, none⟩) → jam tm 1 = .pointer (some ⟨13, 0, none⟩) → jam tm 5 = .bool false → jam tm 6 = .int .i64 e → jam tm 7 = u m →
  EndsC (jao pZ X S0 (k + 80) (ja0 13 (jaU Tryz.f190)) ⟨243, tm, [], none⟩ μ) (Mid o neg i μ) := by
 have qe : jax .i64 (Int.add e 1) = e + 1 := jfg e 1 (by omega) (by omega)
 have qe2 : jax .i64 (Int.sub (e + 1) (-1023)) = e + 1 - (-1023) := jdm (e + 1) (-1023) (by omega) (by omega)
 by_cases hm : W m = 9007199254740992
 rotate_left
 ·have e1 : ieq (.ofNat (W m)) 9007199254740992 = false := (jaQ _ 9007199254740992 9007199254740992 rfl).trans (decide_eq_false hm)
  obtain ⟨e', b1, b2, h14⟩ := fb14 m e (by omega)
  refine ⟨some (m, e'), fun m' e'' h => by cases h; omega, fun {X k i n tm μ0 μ D dp tr neg} hL hG hi h h0 h1 h5 h6 h7 => ?_⟩
  have hLm := hL.grow hG
  have f0 : ∀ z, jal ⟨μ.obs, z⟩ 13 0 = some (.int .u64 52) := fun z => hLm.fi0
  have f1 : ∀ z, jal ⟨μ.obs, z⟩ 13 1 = some (.int .u64 11) := fun z => hLm.fi1
  have f2 : ∀ z, jal ⟨μ.obs, z⟩ 13 2 = some (.int .i64 (-1023)) := fun z => hLm.fi2
  have g0 := hLm.fi0
  have g1 := hLm.fi1
  have g2 := hLm.fi2
  rw [fs13]
  repeat (first | refine jab rfl ?_ | (refine jac rfl ?_; (try simp only [go_sem, h0, h1, h5, h6, h7, ja8, jbD, jaW, jau, g0, g2, sh52_2, e1]); fail_if_success refine ifC ?_))
  exact h14 (k := k + 39) hL hG hi h (by simp only [go_sem, h0]) (by simp only [go_sem, h1]) (by simp only [go_sem, h5]) (by simp only [go_sem, h6]) (by simp only [go_sem, h7])
 have e1 : ieq (.ofNat (W m)) 9007199254740992 = true := (jaQ _ 9007199254740992 9007199254740992 rfl).trans (decide_eq_true hm)
 by_cases ho : 2047 ≤ e + 1 - (-1023)
 ·have e2 : ilt (e + 1 - (-1023)) 2047 = false := (jbf _ _).trans (decide_eq_false (by omega))
  refine ⟨none, fun m' e'' h => (by cases h), fun {X k i n tm μ0 μ D dp tr neg} hL hG hi h h0 h1 h5 h6 h7 => ?_⟩
  have hLm := hL.grow hG
  have f0 : ∀ z, jal ⟨μ.obs, z⟩ 13 0 = some (.int .u64 52) := fun z => hLm.fi0
  have f1 : ∀ z, jal ⟨μ.obs, z⟩ 13 1 = some (.int .u64 11) := fun z => hLm.fi1
  have f2 : ∀ z, jal ⟨μ.obs, z⟩ 13 2 = some (.int .i64 (-1023)) := fun z => hLm.fi2
  have g0 := hLm.fi0
  have g1 := hLm.fi1
  have g2 := hLm.fi2
  rw [fs13]
  repeat (first | refine jab rfl ?_ | (refine jac rfl ?_; (try simp only [go_sem, h0, h1, h5, h6, h7, ja8, jbD, jaW, jau, g0, g2, sh52_2, e1, wShr1, qe]); fail_if_success refine ifC ?_))
  refine jaG (n := 13) (ms := [0, 0, 2, 6, 14, 31, 0, 64, 192, 448, 960, 1984, 4095]) (ord := [0, 1, 2, 3, 4, 5, 6, 7, 8, 9, 10, 11, 12]) (ds := ?_) ?_ ?_ ?_ ?_ ?_ ?_
  rotate_left
  ·kernel_rfl
  ·kernel_rfl
  ·kernel_rfl
  ·rfl
  ·rfl
  iterate 13 (refine jar (by first | rfl | (simp only [go_sem, h0, h1, h5, h6, h7, ja8, jcj, jbD, jaW, jau, f0, f1, f2, qe2, jcF, qs1, e2])) (by simp only [jav, heavy, jaI, jaq, go_sem, h0, h1, h5, h6, h7, ja8, jcj, jbD, jaW, jau, f0, f1, f2, qe2, jcF, qs1, e2]; try exact rfl) rfl ?_)
  simp only [dRun, jay, jak]
  repeat (first | refine jab rfl ?_ | (refine jac rfl ?_; (try simp only [go_sem, h0, h1]); fail_if_success refine ifC ?_))
  refine jcD ?_
  simp only [jcx]
  exact ⟨Only.up _ _ _, (h.up _).any, _, rfl, (by simp only [go_sem, h0]), (by simp only [go_sem, h1]), by trivial⟩
 ·have e2 : ilt (e + 1 - (-1023)) 2047 = true := (jbf _ _).trans (decide_eq_true (by omega))
  obtain ⟨e', b1, b2, h14⟩ := fb14 (W m / 2 ^ 1) (e + 1) (by omega)
  refine ⟨some (W m / 2 ^ 1, e'), fun m' e'' h => by cases h; omega, fun {X k i n tm μ0 μ D dp tr neg} hL hG hi h h0 h1 h5 h6 h7 => ?_⟩
  have hLm := hL.grow hG
  have f0 : ∀ z, jal ⟨μ.obs, z⟩ 13 0 = some (.int .u64 52) := fun z => hLm.fi0
  have f1 : ∀ z, jal ⟨μ.obs, z⟩ 13 1 = some (.int .u64 11) := fun z => hLm.fi1
  have f2 : ∀ z, jal ⟨μ.obs, z⟩ 13 2 = some (.int .i64 (-1023)) := fun z => hLm.fi2
  have g0 := hLm.fi0
  have g1 := hLm.fi1
  have g2 := hLm.fi2
  rw [fs13]
  repeat (first | refine jab rfl ?_ | (refine jac rfl ?_; (try simp only [go_sem, h0, h1, h5, h6, h7, ja8, jbD, jaW, jau, g0, g2, sh52_2, e1, wShr1, qe]); fail_if_success refine ifC ?_))
  refine jaG (n := 13) (ms := [0, 0, 2, 6, 14, 31, 0, 64, 192, 448, 960, 1984, 4095]) (ord := [0, 1, 2, 3, 4, 5, 6, 7, 8, 9, 10, 11, 12]) (ds := ?_) ?_ ?_ ?_ ?_ ?_ ?_
  rotate_left
  ·kernel_rfl
  ·kernel_rfl
  ·kernel_rfl
  ·rfl
  ·rfl
  iterate 13 (refine jar (by first | rfl | (simp only [go_sem, h0, h1, h5, h6, h7, ja8, jcj, jbD, jaW, jau, f0, f1, f2, qe2, jcF, qs1, e2])) (by simp only [jav, heavy, jaI, jaq, go_sem, h0, h1, h5, h6, h7, ja8, jcj, jbD, jaW, jau, f0, f1, f2, qe2, jcF, qs1, e2]; try exact rfl) rfl ?_)
  simp only [dRun, jay, jak]
  repeat (first | refine jab rfl ?_ | (refine jac rfl ?_; (try simp only [go_sem, h0, h1]); fail_if_success refine ifC ?_))
  exact Mid.up (Only.up _ _ _) (h14 (k := k + 39) hL (hG.only (Only.up _ _ _) hi) hi (h.up _) (by simp only [go_sem, h0]) (by simp only [go_sem, h1]) (by simp only [go_sem, h5]) (by simp only [go_sem]) (by simp only [go_sem]))
theorem fb10 {D : Nat → Nat} {n : Nat} {tr : Bool} {dp e : Int} (G : Good D n) (hp1 : -490000 < dp) (hp2 : dp < 490000) (he : -1022 ≤ e) (he2 : e < 100000) : ∃ o, (∀ m' e', o = some (m', e') → -1023 ≤ e' ∧ e' < 100000) ∧ ∀ {X : XT} {k i : Nat} {tm : T Value} {μ0 μ : Mem} {neg : Bool}, Lay μ0 → Grow μ0 μ → μ0.next ≤ i → Dec μ i D n dp neg tr → jam tm 0 = .pointer (some ⟨i, 0, none⟩) → jam tm 1 = .pointer (some ⟨13, 0, none⟩) → jam tm 5 = .bool false → jam tm 6 = .int .i64 e →
  EndsC (jao pZ X S0 (k + 6000) (ja0 10 (jaU Tryz.f190)) ⟨243, tm, [], none⟩ μ) (Mid o neg i μ) := by
 have qe2 : jax .i64 (Int.sub e (-1023)) = e - (-1023) := jdm e (-1023) (by omega) (by omega)
 by_cases ho : 2047 ≤ e - (-1023)
 ·have e2 : ilt (e - (-1023)) 2047 = false := (jbf _ _).trans (decide_eq_false (by omega))
  refine ⟨none, fun m' e'' h => (by cases h), fun {X k i tm μ0 μ neg} hL hG hi h h0 h1 h5 h6 => ?_⟩
  have hLm := hL.grow hG
  have f0 : ∀ z, jal ⟨μ.obs, z⟩ 13 0 = some (.int .u64 52) := fun z => hLm.fi0
  have f1 : ∀ z, jal ⟨μ.obs, z⟩ 13 1 = some (.int .u64 11) := fun z => hLm.fi1
  have f2 : ∀ z, jal ⟨μ.obs, z⟩ 13 2 = some (.int .i64 (-1023)) := fun z => hLm.fi2
  have g0 := hLm.fi0
  have g1 := hLm.fi1
  have g2 := hLm.fi2
  rw [fs10]
  refine jag ?_
  refine jag ?_
  refine jaG (n := 13) (ms := [0, 0, 2, 6, 14, 31, 0, 64, 192, 448, 960, 1984, 4095]) (ord := [0, 1, 2, 3, 4, 5, 6, 7, 8, 9, 10, 11, 12]) (ds := ?_) ?_ ?_ ?_ ?_ ?_ ?_
  rotate_left
  ·kernel_rfl
  ·kernel_rfl
  ·kernel_rfl
  ·rfl
  ·rfl
  iterate 13 (refine jar (by first | rfl | (simp only [go_sem, h0, h1, h5, h6, ja8, jcj, jbD, jaW, jau, f0, f1, f2, qe2, jcF, qs1, e2])) (by simp only [jav, heavy, jaI, jaq, go_sem, h0, h1, h5, h6, ja8, jcj, jbD, jaW, jau, f0, f1, f2, qe2, jcF, qs1, e2]; try exact rfl) rfl ?_)
  simp only [dRun, jay, jak]
  repeat (first | refine jab rfl ?_ | (refine jac rfl ?_; (try simp only [go_sem, h0, h1]); fail_if_success refine ifC ?_))
  refine jcD ?_
  simp only [jcx]
  exact ⟨Only.up _ _ _, (h.up _).any, _, rfl, (by simp only [go_sem, h0]), (by simp only [go_sem, h1]), by trivial⟩
 ·have e2 : ilt (e - (-1023)) 2047 = true := (jbf _ _).trans (decide_eq_true (by omega))
  obtain ⟨D1, n1, s, tr1, G1, b1, b2, hsh⟩ := jgS (k := 53) (tr := tr) G (by decide) (by decide)
  obtain ⟨m, hri⟩ := ri_ex (tr := tr1) (dp := dp + (s : Int)) G1.dg G1.le (by omega)
  obtain ⟨o, c1, h13⟩ := fb13 m e he (by omega)
  refine ⟨o, c1, fun {X k i tm μ0 μ neg} hL hG hi h h0 h1 h5 h6 => ?_⟩
  have hLm := hL.grow hG
  have f0 : ∀ z, jal ⟨μ.obs, z⟩ 13 0 = some (.int .u64 52) := fun z => hLm.fi0
  have f1 : ∀ z, jal ⟨μ.obs, z⟩ 13 1 = some (.int .u64 11) := fun z => hLm.fi1
  have f2 : ∀ z, jal ⟨μ.obs, z⟩ 13 2 = some (.int .i64 (-1023)) := fun z => hLm.fi2
  have g0 := hLm.fi0
  have g1 := hLm.fi1
  have g2 := hLm.fi2
  obtain ⟨μ1, hr, z1, z2⟩ := hsh (X := X) (g := k + 5997) (i := i) (μ := ⟨μ.obs, μ.next + 13⟩) (dp := dp) (neg := neg) (by omega) (hL.grow (hG.only (Only.up μ i _) hi)) (by omega) (by omega) (h.up _)
  have hr : aFun pZ (jao pZ X S0 (k + 5997)) 138 [.pointer (some ⟨i, 0, none⟩), .int .i64 53] ⟨μ.obs, μ.next + 13⟩ = some (.tuple #[], μ1) := hr
  have hri := hri (X := X) (g := k + 5996) (i := i) (μ := μ1) (neg := neg) (by omega) z1
  rw [fs10]
  refine jag ?_
  refine jag ?_
  refine jaG (n := 13) (ms := [0, 0, 2, 6, 14, 31, 0, 64, 192, 448, 960, 1984, 4095]) (ord := [0, 1, 2, 3, 4, 5, 6, 7, 8, 9, 10, 11, 12]) (ds := ?_) ?_ ?_ ?_ ?_ ?_ ?_
  rotate_left
  ·kernel_rfl
  ·kernel_rfl
  ·kernel_rfl
  ·rfl
  ·rfl
  iterate 13 (refine jar (by first | rfl | (simp only [go_sem, h0, h1, h5, h6, ja8, jcj, jbD, jaW, jau, f0, f1, f2, qe2, jcF, qs1, e2])) (by simp only [jav, heavy, jaI, jaq, go_sem, h0, h1, h5, h6, ja8, jcj, jbD, jaW, jau, f0, f1, f2, qe2, jcF, qs1, e2]; try exact rfl) rfl ?_)
  simp only [dRun, jay, jak]
  repeat (first | refine jab rfl ?_ | (refine jac rfl ?_; (try simp only [go_sem, h0, h1, ja8, jaW, f0, qs4, conv_wi, qs5, jh2, hr, gg198, hri]); fail_if_success refine ifC ?_))
  exact Mid.up ((Only.up _ _ _).trans z2) (h13 (k := k + 5917) hL ((hG.only (Only.up μ i _) hi).only z2 hi) hi z1 (by simp only [go_sem, h0]) (by simp only [go_sem, h1]) (by simp only [go_sem, h5]) (by simp only [go_sem, h6]) (by simp only [go_sem]))
theorem fb8 {D : Nat → Nat} {n : Nat} {tr : Bool} {dp e : Int} (G : Good D n) (hp1 : -400 < dp) (hp2 : dp < 400) (he : -98000 ≤ e) (he2 : e < 98000) : ∃ o, (∀ m' e', o = some (m', e') → -1023 ≤ e' ∧ e' < 100000) ∧ ∀ {X : XT} {k i : Nat} {tm : T Value} {μ0 μ : Mem} {neg : Bool}, Lay μ0 → Grow μ0 μ → μ0.next ≤ i → Dec μ i D n dp neg tr → jam tm 0 = .pointer (some ⟨i, 0, none⟩) → jam tm 1 = .pointer (some ⟨13, 0, none⟩) → jam tm 5 = .bool false → jam tm 6 = .int .i64 e →
  EndsC (jao pZ X S0 (k + 6100) (ja0 8 (jaU Tryz.f190)) ⟨243, tm, [], none⟩ μ) (Mid o neg i μ) := by
 have qe : jax .i64 (Int.sub e 1) = e - 1 := jdm e 1 (by omega) (by omega)
 by_cases hb : e - 1 < -1022
 rotate_left
 ·have e1 : ilt (e - 1) (-1022) = false := (jbf _ _).trans (decide_eq_false hb)
  obtain ⟨o, c1, h10⟩ := fb10 (tr := tr) (dp := dp) (e := e - 1) G (by omega) (by omega) (by omega) (by omega)
  refine ⟨o, c1, fun {X k i tm μ0 μ neg} hL hG hi h h0 h1 h5 h6 => ?_⟩
  have hLm := hL.grow hG
  have f0 : ∀ z, jal ⟨μ.obs, z⟩ 13 0 = some (.int .u64 52) := fun z => hLm.fi0
  have f1 : ∀ z, jal ⟨μ.obs, z⟩ 13 1 = some (.int .u64 11) := fun z => hLm.fi1
  have f2 : ∀ z, jal ⟨μ.obs, z⟩ 13 2 = some (.int .i64 (-1023)) := fun z => hLm.fi2
  have g0 := hLm.fi0
  have g1 := hLm.fi1
  have g2 := hLm.fi2
  rw [fs8]
  repeat (first | refine jab rfl ?_ | (refine jac rfl ?_; (try simp only [go_sem, h0, h1, h5, h6, jbD, jau, g2, qe, qs3, e1]); fail_if_success refine ifC ?_))
  exact h10 (k := k + 98) hL hG hi h (by simp only [go_sem, h0]) (by simp only [go_sem, h1]) (by simp only [go_sem, h5]) (by simp only [go_sem])
 ·have e1 : ilt (e - 1) (-1022) = true := (jbf _ _).trans (decide_eq_true hb)
  obtain ⟨K, hK⟩ : ∃ K : Nat, -1022 - (e - 1) = .ofNat K := ⟨(-1022 - (e - 1)).toNat, by show -1022 - (e - 1) = (((-1022 - (e - 1)).toNat : Nat) : Int); omega⟩
  have hKd : -1022 - (e - 1) = (K : Int) := hK
  obtain ⟨D1, n1, s, tr1, G1, b1, b2, hsh⟩ := jgR (k := K) (tr := tr) G (by omega) (by omega)
  obtain ⟨o, c1, h10⟩ := fb10 (tr := tr1) (dp := dp - (s : Int)) (e := -1022) G1 (by omega) (by omega) (by decide) (by decide)
  have q1 : jax .i64 (Int.sub (-1022) (e - 1)) = .ofNat K := by rw [← hK]; exact jdm (-1022) (e - 1) (by omega) (by omega)
  have q2 : jax .i64 (Int.add (e - 1) (.ofNat K)) = -1022 := (jfg (e - 1) (K : Int) (by omega) (by omega)).trans (by omega)
  have np := fun ρ d t ty a ps af gd => neg_lit (n := K) (by omega) ρ d t ty a ps af gd
  refine ⟨o, c1, fun {X k i tm μ0 μ neg} hL hG hi h h0 h1 h5 h6 => ?_⟩
  have hLm := hL.grow hG
  have f0 : ∀ z, jal ⟨μ.obs, z⟩ 13 0 = some (.int .u64 52) := fun z => hLm.fi0
  have f1 : ∀ z, jal ⟨μ.obs, z⟩ 13 1 = some (.int .u64 11) := fun z => hLm.fi1
  have f2 : ∀ z, jal ⟨μ.obs, z⟩ 13 2 = some (.int .i64 (-1023)) := fun z => hLm.fi2
  have g0 := hLm.fi0
  have g1 := hLm.fi1
  have g2 := hLm.fi2
  obtain ⟨μ1, hr, z1, z2⟩ := hsh (X := X) (g := k + 6093) (i := i) (x := -(K : Int)) (μ := μ) (dp := dp) (neg := neg) (by omega) rfl (by omega) (by omega) h
  rw [fs8]
  repeat (first | refine jab rfl ?_ | (refine jac rfl ?_; (try simp only [go_sem, h0, h1, h5, h6, jbD, jau, g2, qe, qs3, e1, q1, np, jh2, hr, q2]); fail_if_success refine ifC ?_))
  exact Mid.up z2 (h10 (k := k + 98) hL (hG.only z2 hi) hi z1 (by simp only [go_sem, h0]) (by simp only [go_sem, h1]) (by simp only [go_sem, h5]) (by simp only [go_sem]))
theorem fb6 {D : Nat → Nat} {n : Nat} {tr : Bool} {dp : Int} (G : Good D n) (hp1 : -330 ≤ dp) (hp2 : dp ≤ 310) : ∃ o, (∀ m' e', o = some (m', e') → -1023 ≤ e' ∧ e' < 100000) ∧ ∀ {X : XT} {k i : Nat} {tm : T Value} {μ0 μ : Mem} {neg : Bool} {e : Int}, e = 0 → Lay μ0 → Grow μ0 μ → μ0.next ≤ i → Dec μ i D n dp neg tr → jam tm 0 = .pointer (some ⟨i, 0, none⟩) → jam tm 1 = .pointer (some ⟨13, 0, none⟩) → jam tm 5 = .bool false → jam tm 6 = .int .i64 e →
  EndsC (jao pZ X S0 (k + 10000) (ja0 6 (jaU Tryz.f190)) ⟨243, tm, [], none⟩ μ) (Mid o neg i μ) := by
 have hd0 := G.dg 0 G.pos
 obtain ⟨D1, n1, tr1, dp1, e1, G1, a1, a2, a3, a4, hlp1⟩ := fr_loop 3200 D n tr dp 0 G (by by_cases h : dp ≤ 0; exact .inl h; exact .inr (by omega)) hp2 hp1 (by decide) (by decide)
 have hd1 := G1.dg 0 G1.pos
 obtain ⟨D2, n2, tr2, dp2, e2, G2, b1, b2, b3, b4, hlp2⟩ := fl_loop 3310 D1 n1 tr1 dp1 e1 G1 (.inr (by omega)) (by omega) (by omega) (by omega) (by omega)
 obtain ⟨o, c1, h8⟩ := fb8 (tr := tr2) (dp := dp2) (e := e2) G2 (by omega) (by omega) (by omega) (by omega)
 refine ⟨o, c1, fun {X k i tm μ0 μ neg e} he hL hG hi h h0 h1 h5 h6 => ?_⟩
 subst he
 rw [fs6]
 repeat (first | refine jab rfl ?_ | (refine jac rfl ?_; (try simp only [go_sem]); fail_if_success refine ifC ?_))
 rw [show k + 9998 = (k + 798) + 3200 + 6000 from by omega]
 refine EndsC.mono (hlp1 hL hG hi h h0 h1 h5 h6) ?_
 rintro x r μ1 ⟨rfl, g1, g2, tm1, rfl, h0, h1, h5, h6⟩
 simp only [jaX, reduceIte, jak]
 rw [fs7]
 have hG1 := hG.only g2 hi
 repeat (first | refine jab rfl ?_ | (refine jac rfl ?_; (try simp only [go_sem]); fail_if_success refine ifC ?_))
 rw [show k + 9997 = (k + 687) + 3310 + 6000 from by omega]
 refine EndsC.mono (hlp2 hL hG1 hi g1 h0 h1 h5 h6) ?_
 rintro x r μ2 ⟨rfl, k1, k2, tm2, rfl, h0, h1, h5, h6⟩
 simp only [jaX, reduceIte, jak]
 exact Mid.up (g2.trans k2) (h8 (k := k + 3898) hL (hG1.only k2 hi) hi k1 h0 h1 h5 h6)
theorem jhc {D : Nat → Nat} {n : Nat} {tr neg : Bool} {dp : Int} (G : n = 0 ∨ Good D n) (hp1 : -200000 < dp) (hp2 : dp < 200000) : ∃ b ovf, ∀ {X : XT} {g i : Nat} {μ0 μ : Mem}, 11000 ≤ g → Lay μ0 → Grow μ0 μ → μ0.next ≤ i → Dec μ i D n dp neg tr →
  ∃ μ', aFun pZ (jao pZ X S0 g) 190 [.pointer (some ⟨i, 0, none⟩), .pointer (some ⟨13, 0, none⟩)] μ = some (.tuple #[u b, .bool ovf], μ') ∧ Only μ μ' i := by
 have mid : ∃ o, (∀ m' e', o = some (m', e') → -1023 ≤ e' ∧ e' < 100000) ∧ ∀ {X : XT} {k i : Nat} {tm : T Value} {μ0 μ : Mem}, Lay μ0 → Grow μ0 μ → μ0.next ≤ i → Dec μ i D n dp neg tr → jam tm 0 = .pointer (some ⟨i, 0, none⟩) → jam tm 1 = .pointer (some ⟨13, 0, none⟩) → jam tm 5 = .bool false →
   EndsC (jao pZ X S0 (k + 10100) (jaU Tryz.f190) ⟨243, tm, [], none⟩ μ) (Mid o neg i μ) := by
  by_cases hn : n = 0
  ·subst hn
   refine ⟨some (0, -1023), fun m' e' h => by cases h; decide, fun {X k i tm μ0 μ} hL hG hi h h0 h1 h5 => ?_⟩
   have hLm := hL.grow hG
   have f0 : ∀ z, jal ⟨μ.obs, z⟩ 13 0 = some (.int .u64 52) := fun z => hLm.fi0
   have f1 : ∀ z, jal ⟨μ.obs, z⟩ 13 1 = some (.int .u64 11) := fun z => hLm.fi1
   have f2 : ∀ z, jal ⟨μ.obs, z⟩ 13 2 = some (.int .i64 (-1023)) := fun z => hLm.fi2
   have g0 := hLm.fi0
   have g1 := hLm.fi1
   have g2 := hLm.fi2
   have hc := h.n
   have z1 : ieq (.ofNat 0) 0 = true := rfl
   rw [fs0]
   repeat (first | refine jab rfl ?_ | (refine jac rfl ?_; (try simp only [go_sem, h0, h1, h5, jaz, jbD, jau, hc, g2, z1]); fail_if_success refine ifC ?_))
   refine jcD ?_
   simp only [jcx]
   exact ⟨Only.refl _ _, h.any, _, rfl, (by simp only [go_sem, h0]), (by simp only [go_sem, h1]), by trivial, (by simp only [go_sem, h5]), (by simp only [go_sem]), (by simp only [go_sem]; exact u_of (n := 0) (by decide))⟩
  have G := G.resolve_left hn
  have z1 : ieq (.ofNat n) 0 = false := (jaQ _ 0 0 rfl).trans (decide_eq_false hn)
  by_cases hbig : 310 < dp
  ·have z2 : ilt 310 dp = true := (jbf _ _).trans (decide_eq_true hbig)
   refine ⟨none, fun m' e' h => (by cases h), fun {X k i tm μ0 μ} hL hG hi h h0 h1 h5 => ?_⟩
   have hc := h.n
   have hp := h.p
   rw [fs0]
   repeat (first | refine jab rfl ?_ | (refine jac rfl ?_; (try simp only [go_sem, h0, h1, h5, jaz, jaP, jau, hc, hp, z1, z2]); fail_if_success refine ifC ?_))
   refine jcD ?_
   simp only [jcx]
   exact ⟨Only.refl _ _, h.any, _, rfl, (by simp only [go_sem, h0]), (by simp only [go_sem, h1]), by trivial⟩
  have z2 : ilt 310 dp = false := (jbf _ _).trans (decide_eq_false hbig)
  by_cases hsm : dp < -330
  ·have z3 : ilt dp (-330) = true := (jbf _ _).trans (decide_eq_true hsm)
   refine ⟨some (0, -1023), fun m' e' h => by cases h; decide, fun {X k i tm μ0 μ} hL hG hi h h0 h1 h5 => ?_⟩
   have hLm := hL.grow hG
   have f0 : ∀ z, jal ⟨μ.obs, z⟩ 13 0 = some (.int .u64 52) := fun z => hLm.fi0
   have f1 : ∀ z, jal ⟨μ.obs, z⟩ 13 1 = some (.int .u64 11) := fun z => hLm.fi1
   have f2 : ∀ z, jal ⟨μ.obs, z⟩ 13 2 = some (.int .i64 (-1023)) := fun z => hLm.fi2
   have g0 := hLm.fi0
   have g1 := hLm.fi1
   have g2 := hLm.fi2
   have hc := h.n
   have hp := h.p
   rw [fs0]
   repeat (first | refine jab rfl ?_ | (refine jac rfl ?_; (try simp only [go_sem, h0, h1, h5, jaz, jaP, jbD, jau, hc, hp, g2, z1, z2, z3]); fail_if_success refine ifC ?_))
   refine jcD ?_
   simp only [jcx]
   exact ⟨Only.refl _ _, h.any, _, rfl, (by simp only [go_sem, h0]), (by simp only [go_sem, h1]), by trivial, (by simp only [go_sem, h5]), (by simp only [go_sem]), (by simp only [go_sem]; exact u_of (n := 0) (by decide))⟩
  have z3 : ilt dp (-330) = false := (jbf _ _).trans (decide_eq_false hsm)
  obtain ⟨o, c1, h6⟩ := fb6 (tr := tr) (dp := dp) G (by omega) (by omega)
  refine ⟨o, c1, fun {X k i tm μ0 μ} hL hG hi h h0 h1 h5 => ?_⟩
  have hc := h.n
  have hp := h.p
  rw [fs0]
  repeat (first | refine jab rfl ?_ | (refine jac rfl ?_; (try simp only [go_sem, h0, h1, h5, jaz, jaP, jau, hc, hp, z1, z2, z3]); fail_if_success refine ifC ?_))
  exact h6 (k := k + 94) rfl hL hG hi h (by simp only [go_sem, h0]) (by simp only [go_sem, h1]) (by simp only [go_sem, h5]) (by simp only [go_sem])
 obtain ⟨o, ho, hmid⟩ := mid
 obtain ⟨b, ovf, hfin⟩ := fb_fin o neg ho
 refine ⟨b, ovf, fun {X g i μ0 μ} hg hL hG hi h => ?_⟩
 obtain ⟨f, rfl⟩ := gle hg
 have key : EndsF (aFun pZ (jao pZ X S0 (f + 11000)) 190 [.pointer (some ⟨i, 0, none⟩), .pointer (some ⟨13, 0, none⟩)] μ) fun v μ' => v = .tuple #[u b, .bool ovf] ∧ Only μ μ' i := by
  refine jaj Tryz.func190 rfl rfl (nbl rfl) ?_
  simp only [go_sem, Tryz.ntmps190]
  refine jag ?_
  refine jaw ?_ ?_
  ·rfl
  simp only [go_sem]
  refine jdy ?_
  change EndsC (jao pZ X S0 _ (jaU Tryz.f190) _ _) _
  have fin : ∀ x r μ', FinB b ovf i μ x r μ' → retQ pZ Tryz.f190 (fun v μ' => v = .tuple #[u b, .bool ovf] ∧ Only μ μ' i) x r μ' := by
   rintro x r μ' ⟨rfl, g, tm', rfl, h4, h5⟩
   refine ⟨rfl, _, ?_, rfl, g⟩
   simp only [go_sem, Tryz.results190]
   simp only [h4, h5]
  refine EndsC.mono (hfin (X := X) (k := f + 10898) hL hG hi (hmid (k := f + 898) hL hG hi h (by simp only [go_sem]) (by simp only [go_sem]) (by simp only [go_sem]))) ?_
  intro x r μ' hx
  cases x with
  | goto l =>
    obtain ⟨rest, hr, he⟩ := hx
    refine ⟨rest, hr, EndsC.mono he ?_⟩
    intro x r μ' hx
    cases x with
    | goto l => exact hx
    | normal => exact fin _ _ _ hx
    | ret => exact fin _ _ _ hx
    | exit id => exact fin _ _ _ hx
  | normal => exact fin _ _ _ hx
  | ret => exact fin _ _ _ hx
  | exit id => exact fin _ _ _ hx
 obtain ⟨v, μ', h1, rfl, h2⟩ := key
 exact ⟨μ', h1, h2⟩
end
noncomputable section
open Go.Proofs.YtnafmgiaifbhgaaGreatDoor.DecM (val Dg)
structure RegS (tm : T Value) (s : ByteArray) (bi i : Nat) (sd sg : Bool) : Prop where
 r0 : jam tm 0 = .pointer (some ⟨bi, 0, none⟩)
 r1 : jam tm 1 = .string s
 r4 : jam tm 4 = .bool false
 r5 : jam tm 5 = .int .i64 (.ofNat i)
 r6 : jam tm 6 = .bool sd
 r7 : jam tm 7 = .bool sg
def Fit (D : Nat → Nat) (n : Nat) : Prop := n = 0 ∨ Good D n
theorem Fit.le {D : Nat → Nat} {n : Nat} (h : Fit D n) : n ≤ 800 := by
 rcases h with rfl | h
 ·omega
 ·exact h.le
theorem Fit.put {D : Nat → Nat} {n c : Nat} (h : Fit D n) (hn : n < 800) (h1 : 48 ≤ c) (h2 : c ≤ 57) (h3 : n = 0 → c ≠ 48) : Fit (put1 D n c) (n + 1) := by
 refine .inr ⟨fun k hk => ?_, Nat.succ_pos n, hn, ?_⟩
 ·unfold put1
  by_cases e : k = n
  ·rw [if_pos e]; exact ⟨h1, h2⟩
  ·rw [if_neg e]
   exact (h.resolve_left (by omega)).dg k (by omega)
 ·unfold put1
  by_cases e : 0 = n
  ·rw [if_pos e]; have := h3 e.symm; omega
  ·rw [if_neg e]; exact (h.resolve_left (by omega)).lead
def outS (ret : Bool) : Ax := if ret then .ret else .exit 1
set_option maxHeartbeats 16000000 in
theorem set_loop {s : ByteArray} (hs : ∀ c ∈ bys s, c ∈ nums) (hl : (bys s).length ≤ 1000) : ∀ (m i n : Nat) (D : Nat → Nat) (dp : Int) (tr sd sg : Bool), i + m = (bys s).length → Fit D n → n ≤ i → -(i : Int) ≤ dp → dp ≤ 800 →
  ∃ (ret : Bool) (i' n' : Nat) (D' : Nat → Nat) (dp' : Int) (tr' sd' sg' : Bool), i ≤ i' ∧ i' ≤ (bys s).length ∧ Fit D' n' ∧ n' ≤ i' ∧ -(i' : Int) ≤ dp' ∧ dp' ≤ 800 ∧ ∀ {X : XT} {e bi : Nat} {tm : T Value} {μ : Mem} {neg : Bool}, Dec μ bi D n dp neg tr → RegS tm s bi i sd sg →
   EndsC (jao pZ X S0 (e + m + 60) (.loop (jaR Tryz.f189 0)) ⟨224, tm, [], none⟩ μ) fun x r μ' => x = outS ret ∧ Dec μ' bi D' n' dp' neg tr' ∧ Only μ μ' bi ∧ ∃ tm', r = ⟨224, tm', [], none⟩ ∧ RegS tm' s bi i' sd' sg' := by
 have ls := ja6 s
 intro m
 induction m with
 | zero =>
   intro i n D dp tr sd sg hi hf hni hd1 hd2
   have hi : i = (bys s).length := hi
   have e1 : ilt (.ofNat i) (.ofNat (bys s).length) = false := (jat _ _).trans (decide_eq_false (by omega))
   refine ⟨false, i, n, D, dp, tr, sd, sg, Nat.le_refl _, by omega, hf, hni, hd1, hd2, fun {X e bi tm μ neg} hd h => ?_⟩
   refine jan ?_
   repeat (first | refine jab rfl ?_ | (refine jac rfl ?_; (try simp only [go_sem, h.r0, h.r1, h.r4, h.r5, h.r6, h.r7, jaa, ls, jae, e1]); fail_if_success refine ifC ?_))
   exact ⟨by trivial, hd, Only.refl _ _, _, rfl, (by constructor <;> simp only [go_sem, h.r0, h.r1, h.r4, h.r5, h.r6, h.r7])⟩
 | succ m ih =>
   intro i n D dp tr sd sg hi hf hni hd1 hd2
   have hlt : i < (bys s).length := by omega
   obtain ⟨c, hc⟩ : ∃ c, c = (bys s)[i]'hlt := ⟨_, rfl⟩
   have hcn : c ∈ nums := by rw [hc]; exact hs _ (List.getElem_mem hlt)
   have hc256 := jgf c hcn
   have hx : ∀ (r : Rg) (x y : Operand), aev pZ r x = .string s → aev pZ r y = .int .i64 (.ofNat i) → ja3 pZ (aev pZ r) 9 x y = some (.int .u8 (.ofNat c)) := fun r x y h1 h2 => by rw [hc]; exact jbU hlt h1 h2
   have e1 : ilt (.ofNat i) (.ofNat (bys s).length) = true := (jat _ _).trans (decide_eq_true hlt)
   have e95 : ieq (.ofNat c) 95 = false := (jaQ c 95 95 rfl).trans (decide_eq_false (jd3 c hcn).2.2.2.2)
   have a1 : jax .i64 (Int.add (.ofNat i) 1) = .ofNat (i + 1) := jaV i 1 (by omega)
   have hn8 := hf.le
   clear hc
   by_cases h46 : c = 46
   ·have e46 : ieq (.ofNat c) 46 = true := (jaQ c 46 46 rfl).trans (decide_eq_true h46)
    cases sd with
    | true =>
      refine ⟨true, i, n, D, dp, tr, true, sg, Nat.le_refl _, by omega, hf, hni, hd1, hd2, fun {X e bi tm μ neg} hd h => ?_⟩
      refine jan ?_
      repeat (first | refine jab rfl ?_ | (refine jac rfl ?_; (try simp only [go_sem, h.r0, h.r1, h.r4, h.r5, h.r6, h.r7, jaa, ls, jae, e1, hx, e95, e46]); fail_if_success refine ifC ?_))
      refine jah ?_
      exact ⟨by trivial, hd, Only.refl _ _, _, rfl, (by constructor <;> simp only [go_sem, h.r0, h.r1, h.r4, h.r5, h.r6, h.r7])⟩
    | false =>
      obtain ⟨ret, i', n', D', dp', tr', sd', sg', b1, b2, b3, b4, b5, b6, hih⟩ := ih (i + 1) n D (.ofNat n) tr true sg (by omega) hf (by omega) (by show -((i + 1 : Nat) : Int) ≤ (n : Int); omega) (by show (n : Int) ≤ 800; omega)
      refine ⟨ret, i', n', D', dp', tr', sd', sg', by omega, b2, b3, b4, b5, b6, fun {X e bi tm μ neg} hd h => ?_⟩
      have hcn := hd.n
      have hst := st_p (v := .ofNat n) hd.blk
      refine jan ?_
      repeat (first | refine jab rfl ?_ | (refine jac rfl ?_; (try simp only [go_sem, h.r0, h.r1, h.r4, h.r5, h.r6, h.r7, jaa, ls, jae, e1, hx, e95, e46, jaz, jaP, jau, hcn, hst, a1]); fail_if_success refine ifC ?_))
      rw [show e + (m + 1) + 59 = e + m + 60 from by omega]
      refine EndsC.mono (hih (hd.setP (.ofNat n)) (by constructor <;> simp only [go_sem, h.r0, h.r1, h.r4, h.r5, h.r6, h.r7])) ?_
      rintro x r μ' ⟨g1, g2, g3, g4⟩
      exact ⟨g1, g2, (Only.put _ _ _ _).trans g3, g4⟩
   have e46 : ieq (.ofNat c) 46 = false := (jaQ c 46 46 rfl).trans (decide_eq_false h46)
   by_cases hdg : 48 ≤ c ∧ c ≤ 57
   rotate_left
   ·refine ⟨false, i, n, D, dp, tr, sd, sg, Nat.le_refl _, by omega, hf, hni, hd1, hd2, fun {X e bi tm μ neg} hd h => ?_⟩
    by_cases h48 : c < 48
    ·have d1 : ilt (.ofNat c) 48 = true := (jbM c 48 48 rfl).trans (decide_eq_true h48)
     refine jan ?_
     repeat (first | refine jab rfl ?_ | (refine jac rfl ?_; (try simp only [go_sem, h.r0, h.r1, h.r4, h.r5, h.r6, h.r7, jaa, ls, jae, e1, hx, e95, e46, d1, undef]); fail_if_success refine ifC ?_))
     exact ⟨by trivial, hd, Only.refl _ _, _, rfl, (by constructor <;> simp only [go_sem, h.r0, h.r1, h.r4, h.r5, h.r6, h.r7])⟩
    ·have d1 : ilt (.ofNat c) 48 = false := (jbM c 48 48 rfl).trans (decide_eq_false h48)
     have d2 : ilt 57 (.ofNat c) = true := (jcn c 57 57 rfl).trans (decide_eq_true (by omega))
     refine jan ?_
     repeat (first | refine jab rfl ?_ | (refine jac rfl ?_; (try simp only [go_sem, h.r0, h.r1, h.r4, h.r5, h.r6, h.r7, jaa, ls, jae, e1, hx, e95, e46, d1, d2, undef]); fail_if_success refine ifC ?_))
     exact ⟨by trivial, hd, Only.refl _ _, _, rfl, (by constructor <;> simp only [go_sem, h.r0, h.r1, h.r4, h.r5, h.r6, h.r7])⟩
   have d1 : ilt (.ofNat c) 48 = false := (jbM c 48 48 rfl).trans (decide_eq_false (by omega))
   have d2 : ilt 57 (.ofNat c) = false := (jcn c 57 57 rfl).trans (decide_eq_false (by omega))
   by_cases hz : c = 48
   ·have z1 : ieq (.ofNat c) 48 = true := (jaQ c 48 48 rfl).trans (decide_eq_true hz)
    by_cases hn0 : n = 0
    ·subst hn0
     obtain ⟨ret, i', n', D', dp', tr', sd', sg', b1, b2, b3, b4, b5, b6, hih⟩ := ih (i + 1) 0 D (dp - 1) tr sd true (by omega) hf (by omega) (by omega) (by omega)
     refine ⟨ret, i', n', D', dp', tr', sd', sg', by omega, b2, b3, b4, b5, b6, fun {X e bi tm μ neg} hd h => ?_⟩
     have hcn := hd.n
     have hp := hd.p
     have n0 : ieq (.ofNat 0) 0 = true := rfl
     have q1 : jax .i64 (Int.sub dp 1) = dp - 1 := jdm dp 1 (by omega) (by omega)
     have hst := st_p (v := dp - 1) hd.blk
     refine jan ?_
     repeat (first | refine jab rfl ?_ | (refine jac rfl ?_; (try simp only [go_sem, h.r0, h.r1, h.r4, h.r5, h.r6, h.r7, jaa, ls, jae, e1, hx, e95, e46, d1, d2, z1, undef, jaz, jaP, jau, hcn, hp, n0, q1, hst, a1]); fail_if_success refine ifC ?_))
     rw [show e + (m + 1) + 59 = e + m + 60 from by omega]
     refine EndsC.mono (hih (hd.setP (dp - 1)) (by constructor <;> simp only [go_sem, h.r0, h.r1, h.r4, h.r5, h.r6, h.r7])) ?_
     rintro x r μ' ⟨g1, g2, g3, g4⟩
     exact ⟨g1, g2, (Only.put _ _ _ _).trans g3, g4⟩
    ·have n0 : ieq (.ofNat n) 0 = false := (jaQ n 0 0 rfl).trans (decide_eq_false hn0)
     by_cases h8 : n < 800
     ·have l8 : ilt (.ofNat n) 800 = true := (jbM n 800 800 rfl).trans (decide_eq_true h8)
      obtain ⟨ret, i', n', D', dp', tr', sd', sg', b1, b2, b3, b4, b5, b6, hih⟩ := ih (i + 1) (n + 1) (put1 D n c) dp tr sd true (by omega) (hf.put h8 hdg.1 hdg.2 (by omega)) (by omega) (by omega) (by omega)
      refine ⟨ret, i', n', D', dp', tr', sd', sg', by omega, b2, b3, b4, b5, b6, fun {X e bi tm μ neg} hd h => ?_⟩
      have hcn := hd.n
      have hcz := (hd.up (μ.next + 12)).n
      have hu := (hd.up (μ.next + 12))
      have hst := st_d (v := c) hu.blk h8
      have hu2 := hu.setD (v := c) h8
      have hcn2 := hu2.n
      have hst2 := st_n (v := .ofNat (n + 1)) hu2.blk
      have q1 : jax .i64 (Int.add (.ofNat n) 1) = .ofNat (n + 1) := jaV n 1 (by omega)
      have hix : ∀ (rg : Rg) (a b : Operand), aev pZ rg a = .pointer (some ⟨bi, 0, none⟩) → aev pZ rg b = .int .i64 (.ofNat n) → jas pZ (aev pZ rg) 165 a b = some (.pointer (some ⟨bi, n, none⟩)) := fun rg a b g1 g2 => jcY h8 g1 g2
      refine jan ?_
      repeat (first | refine jab rfl ?_ | (refine jac rfl ?_; (try simp only [go_sem, h.r0, h.r1, h.r4, h.r5, h.r6, h.r7, jaa, ls, jae, e1, hx, e95, e46, d1, d2, undef, jaz, jaP, jau, hcn, l8, z1, n0]); fail_if_success refine ifC ?_))
      refine jaG (n := 12) (ms := [0, 0, 2, 6, 14, 0, 0, 96, 1, 257, 1023, 2047]) (ord := [0, 1, 2, 3, 4, 5, 6, 7, 8, 9, 10, 11]) (ds := ?_) ?_ ?_ ?_ ?_ ?_ ?_
      rotate_left
      ·kernel_rfl
      ·kernel_rfl
      ·kernel_rfl
      ·rfl
      ·rfl
      iterate 12 (refine jar (by first | rfl | (simp only [go_sem, h.r0, h.r1, h.r4, h.r5, h.r6, h.r7, hx, jaH, jaz, jau, hcz, hix, hst])) (by simp only [jav, heavy, jaI, jaq, go_sem, h.r0, h.r1, h.r4, h.r5, h.r6, h.r7, hx, jaH, jaz, jau, hcz, hix, hst]; try exact rfl) rfl ?_)
      simp only [dRun, jay, jak]
      repeat (first | refine jab rfl ?_ | (refine jac rfl ?_; (try simp only [go_sem, h.r0, h.r1, h.r4, h.r5, h.r6, h.r7, jaz, jau, hcn2, q1, hst2, a1]); fail_if_success refine ifC ?_))
      rw [show e + (m + 1) + 59 = e + m + 60 from by omega]
      refine EndsC.mono (hih (hu2.setN (n + 1)) (by constructor <;> simp only [go_sem, h.r0, h.r1, h.r4, h.r5, h.r6, h.r7])) ?_
      rintro x r μ' ⟨g1, g2, g3, g4⟩
      exact ⟨g1, g2, (Only.up _ _ _).trans ((Only.put _ _ _ _).trans ((Only.put _ _ _ _).trans g3)), g4⟩
     ·have l8 : ilt (.ofNat n) 800 = false := (jbM n 800 800 rfl).trans (decide_eq_false h8)
      obtain ⟨ret, i', n', D', dp', tr', sd', sg', b1, b2, b3, b4, b5, b6, hih⟩ := ih (i + 1) n D dp tr sd true (by omega) hf (by omega) (by omega) (by omega)
      refine ⟨ret, i', n', D', dp', tr', sd', sg', by omega, b2, b3, b4, b5, b6, fun {X e bi tm μ neg} hd h => ?_⟩
      have hcn := hd.n
      refine jan ?_
      repeat (first | refine jab rfl ?_ | (refine jac rfl ?_; (try simp only [go_sem, h.r0, h.r1, h.r4, h.r5, h.r6, h.r7, jaa, ls, jae, e1, hx, e95, e46, d1, d2, z1, undef, jaz, jaP, jau, hcn, n0, l8, a1]); fail_if_success refine ifC ?_))
      rw [show e + (m + 1) + 59 = e + m + 60 from by omega]
      exact hih hd (by constructor <;> simp only [go_sem, h.r0, h.r1, h.r4, h.r5, h.r6, h.r7])
   ·have z1 : ieq (.ofNat c) 48 = false := (jaQ c 48 48 rfl).trans (decide_eq_false hz)
    by_cases h8 : n < 800
    ·have l8 : ilt (.ofNat n) 800 = true := (jbM n 800 800 rfl).trans (decide_eq_true h8)
     obtain ⟨ret, i', n', D', dp', tr', sd', sg', b1, b2, b3, b4, b5, b6, hih⟩ := ih (i + 1) (n + 1) (put1 D n c) dp tr sd true (by omega) (hf.put h8 hdg.1 hdg.2 (by omega)) (by omega) (by omega) (by omega)
     refine ⟨ret, i', n', D', dp', tr', sd', sg', by omega, b2, b3, b4, b5, b6, fun {X e bi tm μ neg} hd h => ?_⟩
     have hcn := hd.n
     have hcz := (hd.up (μ.next + 12)).n
     have hu := (hd.up (μ.next + 12))
     have hst := st_d (v := c) hu.blk h8
     have hu2 := hu.setD (v := c) h8
     have hcn2 := hu2.n
     have hst2 := st_n (v := .ofNat (n + 1)) hu2.blk
     have q1 : jax .i64 (Int.add (.ofNat n) 1) = .ofNat (n + 1) := jaV n 1 (by omega)
     have hix : ∀ (rg : Rg) (a b : Operand), aev pZ rg a = .pointer (some ⟨bi, 0, none⟩) → aev pZ rg b = .int .i64 (.ofNat n) → jas pZ (aev pZ rg) 165 a b = some (.pointer (some ⟨bi, n, none⟩)) := fun rg a b g1 g2 => jcY h8 g1 g2
     refine jan ?_
     repeat (first | refine jab rfl ?_ | (refine jac rfl ?_; (try simp only [go_sem, h.r0, h.r1, h.r4, h.r5, h.r6, h.r7, jaa, ls, jae, e1, hx, e95, e46, d1, d2, undef, jaz, jaP, jau, hcn, l8, z1]); fail_if_success refine ifC ?_))
     refine jaG (n := 12) (ms := [0, 0, 2, 6, 14, 0, 0, 96, 1, 257, 1023, 2047]) (ord := [0, 1, 2, 3, 4, 5, 6, 7, 8, 9, 10, 11]) (ds := ?_) ?_ ?_ ?_ ?_ ?_ ?_
     rotate_left
     ·kernel_rfl
     ·kernel_rfl
     ·kernel_rfl
     ·rfl
     ·rfl
     iterate 12 (refine jar (by first | rfl | (simp only [go_sem, h.r0, h.r1, h.r4, h.r5, h.r6, h.r7, hx, jaH, jaz, jau, hcz, hix, hst])) (by simp only [jav, heavy, jaI, jaq, go_sem, h.r0, h.r1, h.r4, h.r5, h.r6, h.r7, hx, jaH, jaz, jau, hcz, hix, hst]; try exact rfl) rfl ?_)
     simp only [dRun, jay, jak]
     repeat (first | refine jab rfl ?_ | (refine jac rfl ?_; (try simp only [go_sem, h.r0, h.r1, h.r4, h.r5, h.r6, h.r7, jaz, jau, hcn2, q1, hst2, a1]); fail_if_success refine ifC ?_))
     rw [show e + (m + 1) + 59 = e + m + 60 from by omega]
     refine EndsC.mono (hih (hu2.setN (n + 1)) (by constructor <;> simp only [go_sem, h.r0, h.r1, h.r4, h.r5, h.r6, h.r7])) ?_
     rintro x r μ' ⟨g1, g2, g3, g4⟩
     exact ⟨g1, g2, (Only.up _ _ _).trans ((Only.put _ _ _ _).trans ((Only.put _ _ _ _).trans g3)), g4⟩
    ·have l8 : ilt (.ofNat n) 800 = false := (jbM n 800 800 rfl).trans (decide_eq_false h8)
     obtain ⟨ret, i', n', D', dp', tr', sd', sg', b1, b2, b3, b4, b5, b6, hih⟩ := ih (i + 1) n D dp true sd true (by omega) hf (by omega) (by omega) (by omega)
     refine ⟨ret, i', n', D', dp', tr', sd', sg', by omega, b2, b3, b4, b5, b6, fun {X e bi tm μ neg} hd h => ?_⟩
     have hcn := hd.n
     have hst := st_t (v := true) hd.blk
     refine jan ?_
     repeat (first | refine jab rfl ?_ | (refine jac rfl ?_; (try simp only [go_sem, h.r0, h.r1, h.r4, h.r5, h.r6, h.r7, jaa, ls, jae, e1, hx, e95, e46, d1, d2, z1, undef, jaz, jaP, jaZ, jau, hcn, l8, hst, a1]); fail_if_success refine ifC ?_))
     rw [show e + (m + 1) + 59 = e + m + 60 from by omega]
     refine EndsC.mono (hih (hd.setT true) (by constructor <;> simp only [go_sem, h.r0, h.r1, h.r4, h.r5, h.r6, h.r7])) ?_
     rintro x r μ' ⟨g1, g2, g3, g4⟩
     exact ⟨g1, g2, (Only.put _ _ _ _).trans g3, g4⟩
set_option maxHeartbeats 4000000 in
theorem set_exp {s : ByteArray} (hs : ∀ c ∈ bys s, c ∈ nums) (hl : (bys s).length ≤ 1000) (sd sg : Bool) : ∀ (m i v : Nat), i + m = (bys s).length → v < 110000 →
  ∃ i' v', i ≤ i' ∧ i' ≤ (bys s).length ∧ v' < 110000 ∧ ∀ {X : XT} {e bi : Nat} {tm : T Value} {μ : Mem} {es : Value}, RegS tm s bi i sd sg → jam tm 9 = .int .i64 (.ofNat v) → jam tm 8 = es →
   EndsC (jao pZ X S0 (e + m + 30) (.loop (jaR Tryz.f189 1)) ⟨224, tm, [], none⟩ μ) fun x r μ' => x = .exit 5 ∧ μ' = μ ∧ ∃ tm', r = ⟨224, tm', [], none⟩ ∧ RegS tm' s bi i' sd sg ∧ jam tm' 9 = .int .i64 (.ofNat v') ∧ jam tm' 8 = es := by
 have ls := ja6 s
 intro m
 induction m with
 | zero =>
   intro i v hi hv
   have hi : i = (bys s).length := hi
   have e1 : ilt (.ofNat i) (.ofNat (bys s).length) = false := (jat _ _).trans (decide_eq_false (by omega))
   refine ⟨i, v, Nat.le_refl _, by omega, hv, fun {X e bi tm μ es} h h20 h19 => ?_⟩
   refine jan ?_
   refine jag ?_
   refine jag ?_
   refine jad rfl ?_
   (repeat (first | (refine jai ?_ rfl ?_; (solve | simp only [go_sem, undef, h.r0, h.r1, h.r4, h.r5, h.r6, h.r7, jaa, ls, jae, e1])) | (refine jaf (v := ?_) (μ' := ?_) ?_ ?_ rfl ?_; rotate_left 2; (solve | rfl | simp only [go_sem, undef, h.r0, h.r1, h.r4, h.r5, h.r6, h.r7, jaa, ls, jae, e1]); (solve | simp only [go_sem, undef, h.r0, h.r1, h.r4, h.r5, h.r6, h.r7, jaa, ls, jae, e1]; try exact rfl))))
   simp only [go_sem]
   repeat (first | refine jab rfl ?_ | (refine jac rfl ?_; (try simp only [go_sem, undef, h.r0, h.r1, h.r4, h.r5, h.r6, h.r7, jaa, ls, jae, e1]); fail_if_success refine ifC ?_))
   exact ⟨by trivial, by trivial, _, rfl, (by constructor <;> simp only [go_sem, h.r0, h.r1, h.r4, h.r5, h.r6, h.r7]), by simp only [go_sem, h20], by simp only [go_sem, h19]⟩
 | succ m ih =>
   intro i v hi hv
   have hlt : i < (bys s).length := by omega
   obtain ⟨c, hc⟩ : ∃ c, c = (bys s)[i]'hlt := ⟨_, rfl⟩
   have hcn : c ∈ nums := by rw [hc]; exact hs _ (List.getElem_mem hlt)
   have hc256 := jgf c hcn
   have hx : ∀ (r : Rg) (x y : Operand), aev pZ r x = .string s → aev pZ r y = .int .i64 (.ofNat i) → ja3 pZ (aev pZ r) 9 x y = some (.int .u8 (.ofNat c)) := fun r x y h1 h2 => by rw [hc]; exact jbU hlt h1 h2
   have e1 : ilt (.ofNat i) (.ofNat (bys s).length) = true := (jat _ _).trans (decide_eq_true hlt)
   have e95 : ieq (.ofNat c) 95 = false := (jaQ c 95 95 rfl).trans (decide_eq_false (jd3 c hcn).2.2.2.2)
   have a1 : jax .i64 (Int.add (.ofNat i) 1) = .ofNat (i + 1) := jaV i 1 (by omega)
   clear hc
   by_cases hd : 48 ≤ c ∧ c ≤ 57
   ·have d1 : ilt (.ofNat c) 48 = false := (jbM c 48 48 rfl).trans (decide_eq_false (by omega))
    have d2 : ilt 57 (.ofNat c) = false := (jcn c 57 57 rfl).trans (decide_eq_false (by omega))
    by_cases hv2 : v < 10000
    ·obtain ⟨i', v', b1, b2, b3, hih⟩ := ih (i + 1) (v * 10 + c - 48) (by omega) (by omega)
     have v1 : ilt (.ofNat v) 10000 = true := (jbM v 10000 10000 rfl).trans (decide_eq_true hv2)
     have q1 : jax .i64 (Int.mul (.ofNat v) 10) = .ofNat (v * 10) := mul_nat v 10 (by omega)
     have q2 : jax .i64 (.ofNat c) = .ofNat c := q64 c (by omega)
     have q3 : jax .i64 (Int.add (.ofNat (v * 10)) (.ofNat c)) = .ofNat (v * 10 + c) := jaV _ _ (by omega)
     have q4 : jax .i64 (Int.sub (.ofNat (v * 10 + c)) 48) = .ofNat (v * 10 + c - 48) := jck (v * 10 + c) 48 (by omega) (by omega)
     refine ⟨i', v', by omega, b2, b3, fun {X e bi tm μ es} h h20 h19 => ?_⟩
     refine jan ?_
     refine jag ?_
     refine jag ?_
     refine jad rfl ?_
     have zz := (⟨@h20, @ls, @jae, @e1, @hx, @e95, @d1, @d2, @v1, @q1, @jco, @q2, @q3, @q4, @a1⟩ : _ ∧ _ ∧ _ ∧ _ ∧ _ ∧ _ ∧ _ ∧ _ ∧ _ ∧ _ ∧ _ ∧ _ ∧ _ ∧ _ ∧ _)
     (repeat (first | (refine jai ?_ rfl ?_; (solve | simp only [go_sem, undef, h.r0, h.r1, h.r4, h.r5, h.r6, h.r7, jaa, zz])) | (refine jaf (v := ?_) (μ' := ?_) ?_ ?_ rfl ?_; rotate_left 2; (solve | rfl | simp only [go_sem, undef, h.r0, h.r1, h.r4, h.r5, h.r6, h.r7, jaa, zz]); (solve | simp only [go_sem, undef, h.r0, h.r1, h.r4, h.r5, h.r6, h.r7, jaa, zz]; try exact rfl))))
     clear zz
     simp only [go_sem]
     repeat (first | refine jab rfl ?_ | (refine jac rfl ?_; (try simp only [go_sem, undef, h.r0, h.r1, h.r4, h.r5, h.r6, h.r7, h20, jaa, ls, jae, e1, hx, e95, d1, d2, v1, q1, jco, q2, q3, q4, a1]); fail_if_success refine ifC ?_))
     rw [show e + (m + 1) + 29 = e + m + 30 from by omega]
     exact hih (by constructor <;> simp only [go_sem, h.r0, h.r1, h.r4, h.r5, h.r6, h.r7]) (by simp only [go_sem]) (by simp only [go_sem, h19])
    ·obtain ⟨i', v', b1, b2, b3, hih⟩ := ih (i + 1) v (by omega) hv
     have v1 : ilt (.ofNat v) 10000 = false := (jbM v 10000 10000 rfl).trans (decide_eq_false hv2)
     refine ⟨i', v', by omega, b2, b3, fun {X e bi tm μ es} h h20 h19 => ?_⟩
     refine jan ?_
     refine jag ?_
     refine jag ?_
     refine jad rfl ?_
     have zz := (⟨@h20, @ls, @jae, @e1, @hx, @e95, @d1, @d2, @v1, @a1⟩ : _ ∧ _ ∧ _ ∧ _ ∧ _ ∧ _ ∧ _ ∧ _ ∧ _ ∧ _)
     (repeat (first | (refine jai ?_ rfl ?_; (solve | simp only [go_sem, undef, h.r0, h.r1, h.r4, h.r5, h.r6, h.r7, jaa, zz])) | (refine jaf (v := ?_) (μ' := ?_) ?_ ?_ rfl ?_; rotate_left 2; (solve | rfl | simp only [go_sem, undef, h.r0, h.r1, h.r4, h.r5, h.r6, h.r7, jaa, zz]); (solve | simp only [go_sem, undef, h.r0, h.r1, h.r4, h.r5, h.r6, h.r7, jaa, zz]; try exact rfl))))
     clear zz
     simp only [go_sem]
     repeat (first | refine jab rfl ?_ | (refine jac rfl ?_; (try simp only [go_sem, undef, h.r0, h.r1, h.r4, h.r5, h.r6, h.r7, h20, jaa, ls, jae, e1, hx, e95, d1, d2, v1, a1]); fail_if_success refine ifC ?_))
     rw [show e + (m + 1) + 29 = e + m + 30 from by omega]
     exact hih (by constructor <;> simp only [go_sem, h.r0, h.r1, h.r4, h.r5, h.r6, h.r7]) (by simp only [go_sem, h20]) (by simp only [go_sem, h19])
   ·refine ⟨i, v, Nat.le_refl _, by omega, hv, fun {X e bi tm μ es} h h20 h19 => ?_⟩
    by_cases h48 : c < 48
    ·have d1 : ilt (.ofNat c) 48 = true := (jbM c 48 48 rfl).trans (decide_eq_true h48)
     refine jan ?_
     refine jag ?_
     refine jag ?_
     refine jad rfl ?_
     (repeat (first | (refine jai ?_ rfl ?_; (solve | simp only [go_sem, undef, h.r0, h.r1, h.r4, h.r5, h.r6, h.r7, jaa, ls, jae, e1, hx, e95, d1])) | (refine jaf (v := ?_) (μ' := ?_) ?_ ?_ rfl ?_; rotate_left 2; (solve | rfl | simp only [go_sem, undef, h.r0, h.r1, h.r4, h.r5, h.r6, h.r7, jaa, ls, jae, e1, hx, e95, d1]); (solve | simp only [go_sem, undef, h.r0, h.r1, h.r4, h.r5, h.r6, h.r7, jaa, ls, jae, e1, hx, e95, d1]; try exact rfl))))
     simp only [go_sem]
     repeat (first | refine jab rfl ?_ | (refine jac rfl ?_; (try simp only [go_sem, undef, h.r0, h.r1, h.r4, h.r5, h.r6, h.r7, jaa, ls, jae, e1, hx, e95, d1]); fail_if_success refine ifC ?_))
     exact ⟨by trivial, by trivial, _, rfl, (by constructor <;> simp only [go_sem, h.r0, h.r1, h.r4, h.r5, h.r6, h.r7]), by simp only [go_sem, h20], by simp only [go_sem, h19]⟩
    ·have d1 : ilt (.ofNat c) 48 = false := (jbM c 48 48 rfl).trans (decide_eq_false h48)
     have d2 : ilt 57 (.ofNat c) = true := (jcn c 57 57 rfl).trans (decide_eq_true (by omega))
     refine jan ?_
     refine jag ?_
     refine jag ?_
     refine jad rfl ?_
     iterate 22 (refine jaf (by first | rfl | (simp only [go_sem, undef, h.r0, h.r1, h.r4, h.r5, h.r6, h.r7, jaa, ls, jae, e1, hx, e95, d1, d2])) (by simp only [go_sem, undef, h.r0, h.r1, h.r4, h.r5, h.r6, h.r7, jaa, ls, jae, e1, hx, e95, d1, d2]; try exact rfl) rfl ?_)
     simp only [go_sem]
     repeat (first | refine jab rfl ?_ | (refine jac rfl ?_; (try simp only [go_sem, undef, h.r0, h.r1, h.r4, h.r5, h.r6, h.r7, jaa, ls, jae, e1, hx, e95, d1, d2]); fail_if_success refine ifC ?_))
     exact ⟨by trivial, by trivial, _, rfl, (by constructor <;> simp only [go_sem, h.r0, h.r1, h.r4, h.r5, h.r6, h.r7]), by simp only [go_sem, h20], by simp only [go_sem, h19]⟩
end
noncomputable section
open Go.Proofs.YtnafmgiaifbhgaaGreatDoor.DecM (val Dg)
def thenS : Code → Code
 | .seq _ (.cond _ a _) => a
 | _ => .skip
def itemA : Code → Code
 | .seq a _ => a
 | c => c
def elseS : Code → Code
 | .seq _ (.cond _ _ b) => b
 | _ => .skip
def outE (done : Bool) : Ax := if done then .normal else .ret
theorem ss0 : (jaB Tryz.f189) = .seq (jaY 0 (jaB Tryz.f189)) (.seq (jaY 1 (jaB Tryz.f189)) (.seq (jaY 2 (jaB Tryz.f189)) (.seq (jaY 3 (jaB Tryz.f189)) (.seq (jaY 4 (jaB Tryz.f189)) (.seq (jaY 5 (jaB Tryz.f189)) (ja0 6 (jaB Tryz.f189))))))) := by kernel_rfl
theorem ss6 : ja0 6 (jaB Tryz.f189) = .seq (jaY 6 (jaB Tryz.f189)) (.seq (jaY 7 (jaB Tryz.f189)) (.seq (jaY 8 (jaB Tryz.f189)) (ja0 9 (jaB Tryz.f189)))) := by kernel_rfl
theorem ss9 : ja0 9 (jaB Tryz.f189) = .seq (jaY 9 (jaB Tryz.f189)) (.seq (jaY 10 (jaB Tryz.f189)) (ja0 11 (jaB Tryz.f189))) := by kernel_rfl
theorem ss11 : ja0 11 (jaB Tryz.f189) = .seq (jaY 11 (jaB Tryz.f189)) (ja0 12 (jaB Tryz.f189)) := by kernel_rfl
theorem si11 : jaY 11 (jaB Tryz.f189) = .seq (itemA (jaY 11 (jaB Tryz.f189))) (.cond (.tmp 138) (.seq (jaY 0 (thenS (jaY 11 (jaB Tryz.f189)))) (.seq (jaY 1 (thenS (jaY 11 (jaB Tryz.f189)))) (.seq (jaY 2 (thenS (jaY 11 (jaB Tryz.f189)))) (.seq (jaY 3 (thenS (jaY 11 (jaB Tryz.f189)))) (ja0 4 (thenS (jaY 11 (jaB Tryz.f189)))))))) (elseS (jaY 11 (jaB Tryz.f189)))) := by kernel_rfl
def FinS (ok : Bool) (D : Nat → Nat) (n : Nat) (dp : Int) (neg tr : Bool) (bi : Nat) (μ : Mem) : Ax → Rg → Mem → Prop := fun x r μ' => x = .ret ∧ Dec μ' bi D n dp neg tr ∧ Only μ μ' bi ∧ ∃ tm, r = ⟨224, tm, [], none⟩ ∧ jam tm 4 = .bool ok
theorem set12 (s : ByteArray) (hl : (bys s).length ≤ 1000) (i : Nat) (sd sg : Bool) : ∃ ok, ∀ {X : XT} {k bi n : Nat} {D : Nat → Nat} {tm : T Value} {μ : Mem} {dp : Int} {neg tr : Bool}, Dec μ bi D n dp neg tr → RegS tm s bi i sd sg →
  EndsC (jao pZ X S0 (k + 30) (ja0 12 (jaB Tryz.f189)) ⟨224, tm, [], none⟩ μ) (FinS ok D n dp neg tr bi μ) := by
 have ls := ja6 s
 by_cases he : i = (bys s).length
 ·have e1 : ieq (.ofNat i) (.ofNat (bys s).length) = true := (jbu _ _).trans (decide_eq_true he)
  refine ⟨true, fun {X k bi n D tm μ dp neg tr} hd h => ?_⟩
  repeat (first | refine jab rfl ?_ | (refine jac rfl ?_; (try simp only [go_sem, h.r0, h.r1, h.r4, h.r5, h.r6, h.r7, jaa, ls, jae, e1]); fail_if_success refine ifC ?_))
  refine jah ?_
  exact ⟨by trivial, hd, Only.refl _ _, _, rfl, (by simp only [go_sem])⟩
 ·have e1 : ieq (.ofNat i) (.ofNat (bys s).length) = false := (jbu _ _).trans (decide_eq_false he)
  refine ⟨false, fun {X k bi n D tm μ dp neg tr} hd h => ?_⟩
  repeat (first | refine jab rfl ?_ | (refine jac rfl ?_; (try simp only [go_sem, h.r0, h.r1, h.r4, h.r5, h.r6, h.r7, jaa, ls, jae, e1]); fail_if_success refine ifC ?_))
  refine jah ?_
  exact ⟨by trivial, hd, Only.refl _ _, _, rfl, (by simp only [go_sem, h.r4])⟩
theorem setE {s : ByteArray} (hs : ∀ c ∈ bys s, c ∈ nums) (hl : (bys s).length ≤ 1000) (i : Nat) (dp : Int) (sd sg : Bool) (es : Int) (hes : es = 1 ∨ es = -1) (hi : i ≤ (bys s).length) (hd1 : -2000 < dp) (hd2 : dp < 2000) : ∃ done i' dp', i' ≤ (bys s).length ∧ -150000 < dp' ∧ dp' < 150000 ∧ ∀ {X : XT} {k bi n : Nat} {D : Nat → Nat} {tm : T Value} {μ : Mem} {neg tr : Bool}, Dec μ bi D n dp neg tr → RegS tm s bi i sd sg → jam tm 8 = .int .i64 es →
  EndsC (jao pZ X S0 (k + 1100) (ja0 4 (thenS (jaY 11 (jaB Tryz.f189)))) ⟨224, tm, [], none⟩ μ) fun x r μ' => x = outE done ∧ Dec μ' bi D n dp' neg tr ∧ Only μ μ' bi ∧ ∃ tm', r = ⟨224, tm', [], none⟩ ∧ RegS tm' s bi i' sd sg := by
 have ls := ja6 s
 by_cases hlt : i < (bys s).length
 rotate_left
 ·have e1 : ilt (.ofNat i) (.ofNat (bys s).length) = false := (jat _ _).trans (decide_eq_false hlt)
  refine ⟨false, i, dp, hi, by omega, by omega, fun {X k bi n D tm μ neg tr} hd h h8 => ?_⟩
  refine jag ?_
  refine jag ?_
  refine jad rfl ?_
  (repeat (first | (refine jai ?_ rfl ?_; (solve | simp only [go_sem, undef, h.r0, h.r1, h.r4, h.r5, h.r6, h.r7, jaa, ls, jae, e1])) | (refine jaf (v := ?_) (μ' := ?_) ?_ ?_ rfl ?_; rotate_left 2; (solve | rfl | simp only [go_sem, undef, h.r0, h.r1, h.r4, h.r5, h.r6, h.r7, jaa, ls, jae, e1]); (solve | simp only [go_sem, undef, h.r0, h.r1, h.r4, h.r5, h.r6, h.r7, jaa, ls, jae, e1]; try exact rfl))))
  simp only [go_sem]
  repeat (first | refine jab rfl ?_ | (refine jac rfl ?_; (try simp only [go_sem, undef, h.r0, h.r1, h.r4, h.r5, h.r6, h.r7, jaa, ls, jae, e1]); fail_if_success refine ifC ?_))
  refine jah ?_
  exact ⟨by trivial, hd, Only.refl _ _, _, rfl, (by constructor <;> simp only [go_sem, h.r0, h.r1, h.r4, h.r5, h.r6, h.r7])⟩
 have e1 : ilt (.ofNat i) (.ofNat (bys s).length) = true := (jat _ _).trans (decide_eq_true hlt)
 obtain ⟨c, hc⟩ : ∃ c, c = (bys s)[i]'hlt := ⟨_, rfl⟩
 have hx : ∀ (r : Rg) (x y : Operand), aev pZ r x = .string s → aev pZ r y = .int .i64 (.ofNat i) → ja3 pZ (aev pZ r) 9 x y = some (.int .u8 (.ofNat c)) := fun r x y h1 h2 => by rw [hc]; exact jbU hlt h1 h2
 clear hc
 by_cases h48 : c < 48
 ·have d1 : ilt (.ofNat c) 48 = true := (jbM c 48 48 rfl).trans (decide_eq_true h48)
  refine ⟨false, i, dp, hi, by omega, by omega, fun {X k bi n D tm μ neg tr} hd h h8 => ?_⟩
  refine jag ?_
  refine jag ?_
  refine jad rfl ?_
  (repeat (first | (refine jai ?_ rfl ?_; (solve | simp only [go_sem, undef, h.r0, h.r1, h.r4, h.r5, h.r6, h.r7, jaa, ls, jae, e1, hx, d1])) | (refine jaf (v := ?_) (μ' := ?_) ?_ ?_ rfl ?_; rotate_left 2; (solve | rfl | simp only [go_sem, undef, h.r0, h.r1, h.r4, h.r5, h.r6, h.r7, jaa, ls, jae, e1, hx, d1]); (solve | simp only [go_sem, undef, h.r0, h.r1, h.r4, h.r5, h.r6, h.r7, jaa, ls, jae, e1, hx, d1]; try exact rfl))))
  simp only [go_sem]
  repeat (first | refine jab rfl ?_ | (refine jac rfl ?_; (try simp only [go_sem, undef, h.r0, h.r1, h.r4, h.r5, h.r6, h.r7, jaa, ls, jae, e1, hx, d1]); fail_if_success refine ifC ?_))
  refine jah ?_
  exact ⟨by trivial, hd, Only.refl _ _, _, rfl, (by constructor <;> simp only [go_sem, h.r0, h.r1, h.r4, h.r5, h.r6, h.r7])⟩
 have d1 : ilt (.ofNat c) 48 = false := (jbM c 48 48 rfl).trans (decide_eq_false h48)
 by_cases h57 : 57 < c
 ·have d2 : ilt 57 (.ofNat c) = true := (jcn c 57 57 rfl).trans (decide_eq_true h57)
  refine ⟨false, i, dp, hi, by omega, by omega, fun {X k bi n D tm μ neg tr} hd h h8 => ?_⟩
  refine jag ?_
  refine jag ?_
  refine jad rfl ?_
  iterate 16 (refine jaf (by first | rfl | (simp only [go_sem, undef, h.r0, h.r1, h.r4, h.r5, h.r6, h.r7, jaa, ls, jae, e1, hx, d1, d2])) (by simp only [go_sem, undef, h.r0, h.r1, h.r4, h.r5, h.r6, h.r7, jaa, ls, jae, e1, hx, d1, d2]; try exact rfl) rfl ?_)
  simp only [go_sem]
  repeat (first | refine jab rfl ?_ | (refine jac rfl ?_; (try simp only [go_sem, undef, h.r0, h.r1, h.r4, h.r5, h.r6, h.r7, jaa, ls, jae, e1, hx, d1, d2]); fail_if_success refine ifC ?_))
  refine jah ?_
  exact ⟨by trivial, hd, Only.refl _ _, _, rfl, (by constructor <;> simp only [go_sem, h.r0, h.r1, h.r4, h.r5, h.r6, h.r7])⟩
 have d2 : ilt 57 (.ofNat c) = false := (jcn c 57 57 rfl).trans (decide_eq_false h57)
 obtain ⟨i', v', b1, b2, b3, hlp⟩ := set_exp hs hl sd sg ((bys s).length - i) i 0 (by omega) (by decide)
 have q1 : jax .i64 (Int.mul (.ofNat v') es) = (v' : Int) * es := i_mul (v' : Int) es (by rcases hes with rfl | rfl <;> omega) (by rcases hes with rfl | rfl <;> omega)
 obtain ⟨pe, hpe⟩ : ∃ pe, pe = (v' : Int) * es := ⟨_, rfl⟩
 have hpe1 : -110000 < pe ∧ pe < 110000 := by rw [hpe]; rcases hes with rfl | rfl <;> omega
 rw [← hpe] at q1
 have q2 : jax .i64 (Int.add dp pe) = dp + pe := jfg dp pe (by omega) (by omega)
 refine ⟨true, i', dp + pe, b2, by omega, by omega, fun {X k bi n D tm μ neg tr} hd h h8 => ?_⟩
 have hp := hd.p
 have hst := st_p (v := dp + pe) hd.blk
 refine jag ?_
 refine jag ?_
 refine jad rfl ?_
 iterate 16 (refine jaf (by first | rfl | (simp only [go_sem, undef, h.r0, h.r1, h.r4, h.r5, h.r6, h.r7, jaa, ls, jae, e1, hx, d1, d2])) (by simp only [go_sem, undef, h.r0, h.r1, h.r4, h.r5, h.r6, h.r7, jaa, ls, jae, e1, hx, d1, d2]; try exact rfl) rfl ?_)
 simp only [go_sem]
 repeat (first | refine jab rfl ?_ | (refine jac rfl ?_; (try simp only [go_sem, undef, h.r0, h.r1, h.r4, h.r5, h.r6, h.r7, jaa, ls, jae, e1, hx, d1, d2]); fail_if_success refine ifC ?_))
 rw [show k + 1096 = (k + 1066 - ((bys s).length - i)) + ((bys s).length - i) + 30 from by omega]
 refine EndsC.mono (hlp (bi := bi) (es := .int .i64 es) (by constructor <;> simp only [go_sem, h.r0, h.r1, h.r4, h.r5, h.r6, h.r7]) (by simp only [go_sem]; try rfl) (by simp only [go_sem, h8])) ?_
 rintro x r μ' ⟨rfl, rfl, tm', rfl, h, h9, h8⟩
 simp only [jaX, reduceIte, jak]
 repeat (first | refine jab rfl ?_ | (refine jac rfl ?_; (try simp only [go_sem, h.r0, h.r1, h.r4, h.r5, h.r6, h.r7, h9, h8, q1, q2, jaP, jau, hp, hst]); fail_if_success refine ifC ?_))
 exact ⟨by trivial, hd.setP _, Only.put _ _ _ _, _, rfl, (by constructor <;> simp only [go_sem, h.r0, h.r1, h.r4, h.r5, h.r6, h.r7])⟩
attribute [local irreducible] ja0
theorem set11 {s : ByteArray} (hs : ∀ c ∈ bys s, c ∈ nums) (hl : (bys s).length ≤ 1000) (i : Nat) (dp : Int) (sd sg : Bool) (hi : i ≤ (bys s).length) (hd1 : -2000 < dp) (hd2 : dp < 2000) : ∃ ok dp', -150000 < dp' ∧ dp' < 150000 ∧ ∀ {X : XT} {k bi n : Nat} {D : Nat → Nat} {tm : T Value} {μ : Mem} {neg tr : Bool}, Dec μ bi D n dp neg tr → RegS tm s bi i sd sg →
  EndsC (jao pZ X S0 (k + 1200) (ja0 11 (jaB Tryz.f189)) ⟨224, tm, [], none⟩ μ) (FinS ok D n dp' neg tr bi μ) := by
 have ls := ja6 s
 by_cases hlt : i < (bys s).length
 rotate_left
 ·have e1 : ilt (.ofNat i) (.ofNat (bys s).length) = false := (jat _ _).trans (decide_eq_false hlt)
  obtain ⟨ok, h12⟩ := set12 s hl i sd sg
  refine ⟨ok, dp, by omega, by omega, fun {X k bi n D tm μ neg tr} hd h => ?_⟩
  rw [ss11, si11]
  refine jag ?_
  refine jag ?_
  refine jad rfl ?_
  (repeat (first | (refine jai ?_ rfl ?_; (solve | simp only [go_sem, undef, h.r0, h.r1, h.r4, h.r5, h.r6, h.r7, jaa, ls, jae, e1])) | (refine jaf (v := ?_) (μ' := ?_) ?_ ?_ rfl ?_; rotate_left 2; (solve | rfl | simp only [go_sem, undef, h.r0, h.r1, h.r4, h.r5, h.r6, h.r7, jaa, ls, jae, e1]); (solve | simp only [go_sem, undef, h.r0, h.r1, h.r4, h.r5, h.r6, h.r7, jaa, ls, jae, e1]; try exact rfl))))
  simp only [go_sem]
  repeat (first | refine jab rfl ?_ | (refine jac rfl ?_; (try simp only [go_sem, h.r0, h.r1, h.r4, h.r5, h.r6, h.r7, jaa, ls, jae, e1]); fail_if_success refine ifC ?_))
  exact h12 (k := k + 1169) hd (by constructor <;> simp only [go_sem, h.r0, h.r1, h.r4, h.r5, h.r6, h.r7])
 have e1 : ilt (.ofNat i) (.ofNat (bys s).length) = true := (jat _ _).trans (decide_eq_true hlt)
 obtain ⟨c, hc⟩ : ∃ c, c = (bys s)[i]'hlt := ⟨_, rfl⟩
 have hcn : c ∈ nums := by rw [hc]; exact hs _ (List.getElem_mem hlt)
 have hx : ∀ (r : Rg) (x y : Operand), aev pZ r x = .string s → aev pZ r y = .int .i64 (.ofNat i) → ja3 pZ (aev pZ r) 9 x y = some (.int .u8 (.ofNat c)) := fun r x y h1 h2 => by rw [hc]; exact jbU hlt h1 h2
 clear hc
 have lo : ∀ {X : XT} (g : Nat) (μ : Mem), 10 ≤ g → aFun pZ (jao pZ X S0 g) 156 [.int .u8 (.ofNat c)] μ = some (.int .u8 (.ofNat (lw c)), μ) := fun g μ h => lower_eq h hcn
 by_cases he : lw c = 101
 rotate_left
 ·have l1 : ieq (.ofNat (lw c)) 101 = false := (jaQ _ 101 101 rfl).trans (decide_eq_false he)
  obtain ⟨ok, h12⟩ := set12 s hl i sd sg
  refine ⟨ok, dp, by omega, by omega, fun {X k bi n D tm μ neg tr} hd h => ?_⟩
  rw [ss11, si11]
  refine jag ?_
  refine jag ?_
  refine jad rfl ?_
  iterate 11 (refine jaf (by first | rfl | (simp only [go_sem, undef, h.r0, h.r1, h.r4, h.r5, h.r6, h.r7, jaa, ls, jae, e1, hx, jci, lo, Nat.reduceLeDiff, l1])) (by simp only [go_sem, undef, h.r0, h.r1, h.r4, h.r5, h.r6, h.r7, jaa, ls, jae, e1, hx, jci, lo, Nat.reduceLeDiff, l1]; try exact rfl) rfl ?_)
  simp only [go_sem]
  repeat (first | refine jab rfl ?_ | (refine jac rfl ?_; (try simp only [go_sem, h.r0, h.r1, h.r4, h.r5, h.r6, h.r7, jaa, ls, jae, e1]); fail_if_success refine ifC ?_))
  exact h12 (k := k + 1169) hd (by constructor <;> simp only [go_sem, h.r0, h.r1, h.r4, h.r5, h.r6, h.r7])
 have l1 : ieq (.ofNat (lw c)) 101 = true := (jaQ _ 101 101 rfl).trans (decide_eq_true he)
 have a1 : jax .i64 (Int.add (.ofNat i) 1) = .ofNat (i + 1) := jaV i 1 (by omega)
 by_cases hlt2 : i + 1 < (bys s).length
 rotate_left
 ·have e2 : ilt (.ofNat (i + 1)) (.ofNat (bys s).length) = false := (jat _ _).trans (decide_eq_false hlt2)
  refine ⟨false, dp, by omega, by omega, fun {X k bi n D tm μ neg tr} hd h => ?_⟩
  rw [ss11, si11]
  refine jag ?_
  refine jag ?_
  refine jad rfl ?_
  iterate 11 (refine jaf (by first | rfl | (simp only [go_sem, undef, h.r0, h.r1, h.r4, h.r5, h.r6, h.r7, jaa, ls, jae, e1, hx, jci, lo, Nat.reduceLeDiff, l1])) (by simp only [go_sem, undef, h.r0, h.r1, h.r4, h.r5, h.r6, h.r7, jaa, ls, jae, e1, hx, jci, lo, Nat.reduceLeDiff, l1]; try exact rfl) rfl ?_)
  simp only [go_sem]
  repeat (first | refine jab rfl ?_ | (refine jac rfl ?_; (try simp only [go_sem, h.r0, h.r1, h.r4, h.r5, h.r6, h.r7, jaa, ls, jae, a1, e2]); fail_if_success refine ifC ?_))
  refine jah ?_
  exact ⟨by trivial, hd, Only.refl _ _, _, rfl, (by simp only [go_sem, h.r4])⟩
 have e2 : ilt (.ofNat (i + 1)) (.ofNat (bys s).length) = true := (jat _ _).trans (decide_eq_true hlt2)
 obtain ⟨c1, hc1⟩ : ∃ c, c = (bys s)[i + 1]'hlt2 := ⟨_, rfl⟩
 have hx1 : ∀ (r : Rg) (x y : Operand), aev pZ r x = .string s → aev pZ r y = .int .i64 (.ofNat (i + 1)) → ja3 pZ (aev pZ r) 9 x y = some (.int .u8 (.ofNat c1)) := fun r x y h1 h2 => by rw [hc1]; exact jbU hlt2 h1 h2
 clear hc1
 have a2 : jax .i64 (Int.add (.ofNat (i + 1)) 1) = .ofNat (i + 2) := jaV (i + 1) 1 (by omega)
 have go : ∀ (i2 : Nat) (es : Int), i2 ≤ (bys s).length → (es = 1 ∨ es = -1) → ∃ ok dp', -150000 < dp' ∧ dp' < 150000 ∧ ∀ {X : XT} {k q bi n : Nat} {D : Nat → Nat} {tm : T Value} {μ : Mem} {neg tr : Bool}, Dec μ bi D n dp neg tr → RegS tm s bi i2 sd sg → jam tm 8 = .int .i64 es →
   EndsC (jao pZ X S0 (k + 1100) (ja0 4 (thenS (jaY 11 (jaB Tryz.f189)))) ⟨224, tm, [], none⟩ μ) (jgN (q + 30) pZ X S0 (ja0 12 (jaB Tryz.f189)) (FinS ok D n dp' neg tr bi μ)) := fun i2 es hi2 hes => by
  obtain ⟨done, i', dp', c1, c2, c3, hE⟩ := setE hs hl i2 dp sd sg es hes hi2 hd1 hd2
  obtain ⟨ok, h12⟩ := set12 s hl i' sd sg
  cases done with
  | true =>
    refine ⟨ok, dp', c2, c3, fun {X k q bi n D tm μ neg tr} hd h h8 => ?_⟩
    refine EndsC.mono (hE hd h h8) ?_
    rintro x r μ' ⟨rfl, hd, g, tm', rfl, h⟩
    refine EndsC.mono (h12 (k := q) hd h) ?_
    rintro x r μ2 ⟨hx, hd, g2, hh⟩
    exact ⟨hx, hd, g.trans g2, hh⟩
  | false =>
    refine ⟨false, dp', c2, c3, fun {X k q bi n D tm μ neg tr} hd h h8 => ?_⟩
    refine EndsC.mono (hE hd h h8) ?_
    rintro x r μ' ⟨rfl, hd, g, tm', rfl, h⟩
    exact ⟨by trivial, hd, g, _, rfl, h.r4⟩
 by_cases p1 : c1 = 43
 ·have s1 : ieq (.ofNat c1) 43 = true := (jaQ _ 43 43 rfl).trans (decide_eq_true p1)
  obtain ⟨ok, dp', b2, b3, hgo⟩ := go (i + 2) 1 (by omega) (.inl rfl)
  refine ⟨ok, dp', b2, b3, fun {X k bi n D tm μ neg tr} hd h => ?_⟩
  rw [ss11, si11]
  refine jag ?_
  refine jag ?_
  refine jad rfl ?_
  iterate 11 (refine jaf (by first | rfl | (simp only [go_sem, undef, h.r0, h.r1, h.r4, h.r5, h.r6, h.r7, jaa, ls, jae, e1, hx, jci, lo, Nat.reduceLeDiff, l1])) (by simp only [go_sem, undef, h.r0, h.r1, h.r4, h.r5, h.r6, h.r7, jaa, ls, jae, e1, hx, jci, lo, Nat.reduceLeDiff, l1]; try exact rfl) rfl ?_)
  simp only [go_sem]
  repeat (first | refine jab rfl ?_ | (refine jac rfl ?_; (try simp only [go_sem, h.r0, h.r1, h.r4, h.r5, h.r6, h.r7, jaa, ls, jae, a1, e2, hx1, s1, a2]); fail_if_success refine ifC ?_))
  try simp only [jaX, jak]
  exact hgo (k := k + 93) (q := k + 1169) hd (by constructor <;> simp only [go_sem, h.r0, h.r1, h.r4, h.r5, h.r6, h.r7]) (by simp only [go_sem])
 ·have s1 : ieq (.ofNat c1) 43 = false := (jaQ _ 43 43 rfl).trans (decide_eq_false p1)
  by_cases p2 : c1 = 45
  ·have s2 : ieq (.ofNat c1) 45 = true := (jaQ _ 45 45 rfl).trans (decide_eq_true p2)
   obtain ⟨ok, dp', b2, b3, hgo⟩ := go (i + 2) (-1) (by omega) (.inr rfl)
   refine ⟨ok, dp', b2, b3, fun {X k bi n D tm μ neg tr} hd h => ?_⟩
   rw [ss11, si11]
   refine jag ?_
   refine jag ?_
   refine jad rfl ?_
   iterate 11 (refine jaf (by first | rfl | (simp only [go_sem, undef, h.r0, h.r1, h.r4, h.r5, h.r6, h.r7, jaa, ls, jae, e1, hx, jci, lo, Nat.reduceLeDiff, l1])) (by simp only [go_sem, undef, h.r0, h.r1, h.r4, h.r5, h.r6, h.r7, jaa, ls, jae, e1, hx, jci, lo, Nat.reduceLeDiff, l1]; try exact rfl) rfl ?_)
   simp only [go_sem]
   repeat (first | refine jab rfl ?_ | (refine jac rfl ?_; (try simp only [go_sem, h.r0, h.r1, h.r4, h.r5, h.r6, h.r7, jaa, ls, jae, a1, e2, hx1, s1, s2, a2]); fail_if_success refine ifC ?_))
   try simp only [jaX, jak]
   exact hgo (k := k + 93) (q := k + 1169) hd (by constructor <;> simp only [go_sem, h.r0, h.r1, h.r4, h.r5, h.r6, h.r7]) (by simp only [go_sem])
  ·have s2 : ieq (.ofNat c1) 45 = false := (jaQ _ 45 45 rfl).trans (decide_eq_false p2)
   obtain ⟨ok, dp', b2, b3, hgo⟩ := go (i + 1) 1 (by omega) (.inl rfl)
   refine ⟨ok, dp', b2, b3, fun {X k bi n D tm μ neg tr} hd h => ?_⟩
   rw [ss11, si11]
   refine jag ?_
   refine jag ?_
   refine jad rfl ?_
   iterate 11 (refine jaf (by first | rfl | (simp only [go_sem, undef, h.r0, h.r1, h.r4, h.r5, h.r6, h.r7, jaa, ls, jae, e1, hx, jci, lo, Nat.reduceLeDiff, l1])) (by simp only [go_sem, undef, h.r0, h.r1, h.r4, h.r5, h.r6, h.r7, jaa, ls, jae, e1, hx, jci, lo, Nat.reduceLeDiff, l1]; try exact rfl) rfl ?_)
   simp only [go_sem]
   repeat (first | refine jab rfl ?_ | (refine jac rfl ?_; (try simp only [go_sem, h.r0, h.r1, h.r4, h.r5, h.r6, h.r7, jaa, ls, jae, a1, e2, hx1, s1, s2]); fail_if_success refine ifC ?_))
   try simp only [jaX, jak]
   exact hgo (k := k + 93) (q := k + 1169) hd (by constructor <;> simp only [go_sem, h.r0, h.r1, h.r4, h.r5, h.r6, h.r7]) (by simp only [go_sem])
theorem set6 {s : ByteArray} (hs : ∀ c ∈ bys s, c ∈ nums) (hl : (bys s).length ≤ 1000) (i : Nat) (neg : Bool) (hi : i ≤ (bys s).length) : ∃ (ok : Bool) (D' : Nat → Nat) (n' : Nat) (dp' : Int) (tr' : Bool), Fit D' n' ∧ -150000 < dp' ∧ dp' < 150000 ∧ ∀ {X : XT} {k bi : Nat} {tm : T Value} {μ : Mem}, Dec μ bi (fun _ => 0) 0 0 neg false → jam tm 0 = .pointer (some ⟨bi, 0, none⟩) → jam tm 1 = .string s → jam tm 4 = .bool false → jam tm 5 = .int .i64 (.ofNat i) →
  EndsC (jao pZ X S0 (k + 2400) (ja0 6 (jaB Tryz.f189)) ⟨224, tm, [], none⟩ μ) (FinS ok D' n' dp' neg tr' bi μ) := by
 obtain ⟨ret, i', n', D', dp', tr', sd', sg', b1, b2, b3, b4, b5, b6, hlp⟩ := set_loop hs hl ((bys s).length - i) i 0 (fun _ => 0) 0 false false false (by omega) (.inl rfl) (Nat.zero_le _) (by omega) (by decide)
 have c1 : ∃ (ok : Bool) (dq : Int), -150000 < dq ∧ dq < 150000 ∧ ∀ {X : XT} {k bi : Nat} {tm : T Value} {μ : Mem}, ret = false → Dec μ bi D' n' dp' neg tr' → RegS tm s bi i' sd' sg' →
   EndsC (jao pZ X S0 (k + 1300) (ja0 9 (jaB Tryz.f189)) ⟨224, tm, [], none⟩ μ) (FinS ok D' n' dq neg tr' bi μ) := by
  cases sg' with
  | false =>
    refine ⟨false, dp', by omega, by omega, fun {X k bi tm μ} _ hd h => ?_⟩
    rw [ss9]
    repeat (first | refine jab rfl ?_ | (refine jac rfl ?_; (try simp only [go_sem, h.r0, h.r1, h.r4, h.r5, h.r6, h.r7]); fail_if_success refine ifC ?_))
    refine jah ?_
    exact ⟨by trivial, hd, Only.refl _ _, _, rfl, (by simp only [go_sem, h.r4])⟩
  | true =>
    cases sd' with
    | true =>
      obtain ⟨ok, dq, e1, e2, h11⟩ := set11 hs hl i' dp' true true b2 (by omega) (by omega)
      refine ⟨ok, dq, e1, e2, fun {X k bi tm μ} _ hd h => ?_⟩
      rw [ss9]
      repeat (first | refine jab rfl ?_ | (refine jac rfl ?_; (try simp only [go_sem, h.r0, h.r1, h.r4, h.r5, h.r6, h.r7]); fail_if_success refine ifC ?_))
      exact h11 (k := k + 98) hd (by constructor <;> simp only [go_sem, h.r0, h.r1, h.r4, h.r5, h.r6, h.r7])
    | false =>
      have hn8 := b3.le
      obtain ⟨ok, dq, e1, e2, h11⟩ := set11 hs hl i' (.ofNat n') false true b2 (by show _ < (n' : Int); omega) (by show (n' : Int) < _; omega)
      refine ⟨ok, dq, e1, e2, fun {X k bi tm μ} _ hd h => ?_⟩
      have hcn := hd.n
      have hst := st_p (v := .ofNat n') hd.blk
      rw [ss9]
      repeat (first | refine jab rfl ?_ | (refine jac rfl ?_; (try simp only [go_sem, h.r0, h.r1, h.r4, h.r5, h.r6, h.r7, jaz, jaP, jau, hcn, hst]); fail_if_success refine ifC ?_))
      refine EndsC.mono (h11 (k := k + 98) (hd.setP (.ofNat n')) (by constructor <;> simp only [go_sem, h.r0, h.r1, h.r4, h.r5, h.r6, h.r7])) ?_
      rintro x r μ2 ⟨hx, hd, g2, hh⟩
      exact ⟨hx, hd, (Only.put _ _ _ _).trans g2, hh⟩
 obtain ⟨ok, dq, e1, e2, h9⟩ := c1
 cases ret with
 | true =>
   refine ⟨false, D', n', dp', tr', b3, by omega, by omega, fun {X k bi tm μ} hd h0 h1 h4 h5 => ?_⟩
   rw [ss6]
   repeat (first | refine jab rfl ?_ | (refine jac rfl ?_; (try simp only [go_sem]); fail_if_success refine ifC ?_))
   rw [show k + 2396 = (k + 2336 - ((bys s).length - i)) + ((bys s).length - i) + 60 from by omega]
   refine EndsC.mono (hlp hd (by constructor <;> simp only [go_sem, h0, h1, h4, h5])) ?_
   rintro x r μ' ⟨rfl, hd, g, tm', rfl, h⟩
   exact ⟨by trivial, hd, g, _, rfl, h.r4⟩
 | false =>
   refine ⟨ok, D', n', dq, tr', b3, e1, e2, fun {X k bi tm μ} hd h0 h1 h4 h5 => ?_⟩
   rw [ss6]
   repeat (first | refine jab rfl ?_ | (refine jac rfl ?_; (try simp only [go_sem]); fail_if_success refine ifC ?_))
   rw [show k + 2396 = (k + 2336 - ((bys s).length - i)) + ((bys s).length - i) + 60 from by omega]
   refine EndsC.mono (hlp hd (by constructor <;> simp only [go_sem, h0, h1, h4, h5])) ?_
   rintro x r μ' ⟨rfl, hd, g, tm', rfl, h⟩
   show EndsC _ _
   refine EndsC.mono (h9 (k := k + 1097) rfl hd h) ?_
   rintro x r μ2 ⟨hx, hd, g2, hh⟩
   exact ⟨hx, hd, g.trans g2, hh⟩
theorem set_ex {s : ByteArray} (hs : ∀ c ∈ bys s, c ∈ nums) (hl : (bys s).length ≤ 1000) : ∃ (ok : Bool) (D' : Nat → Nat) (n' : Nat) (dp' : Int) (neg' tr' : Bool), Fit D' n' ∧ -150000 < dp' ∧ dp' < 150000 ∧ ∀ {X : XT} {g bi : Nat} {μ : Mem}, 3000 ≤ g → Dec μ bi (fun _ => 0) 0 0 false false →
  ∃ μ', aFun pZ (jao pZ X S0 g) 189 [.pointer (some ⟨bi, 0, none⟩), .string s] μ = some (.bool ok, μ') ∧ Dec μ' bi D' n' dp' neg' tr' ∧ Only μ μ' bi := by
 have ls := ja6 s
 by_cases h0 : 0 < (bys s).length
 rotate_left
 ·have e0 : ilt 0 (.ofNat (bys s).length) = false := (jat 0 _).trans (decide_eq_false h0)
  refine ⟨false, fun _ => 0, 0, 0, false, false, .inl rfl, by decide, by decide, fun {X g bi μ} hg hd => ?_⟩
  obtain ⟨f, rfl⟩ := gle hg
  have s1 := st_g (v := false) hd.blk
  have hd1 := hd.setG false
  have s2 := st_t (v := false) hd1.blk
  have key : EndsF (aFun pZ (jao pZ X S0 (f + 3000)) 189 [.pointer (some ⟨bi, 0, none⟩), .string s] μ) fun v μ' => v = .bool false ∧ Dec μ' bi (fun _ => 0) 0 0 false false ∧ Only μ μ' bi := by
   refine jaj Tryz.func189 rfl rfl (nbl rfl) ?_
   simp only [go_sem, Tryz.ntmps189]
   change EndsC (jao pZ X S0 _ (jaB Tryz.f189) _ _) _
   rw [ss0]
   repeat (first | refine jab rfl ?_ | (refine jac rfl ?_; (try simp only [go_sem, jer, jaZ, s1, s2, jaa, ls, jae, e0]); fail_if_success refine ifC ?_))
   refine jah ?_
   refine ⟨rfl, _, ?_, rfl, hd1.setT false, (Only.put _ _ _ _).trans (Only.put _ _ _ _)⟩
   simp only [go_sem, Tryz.results189]
  obtain ⟨v, μ', h1, rfl, h2, h3⟩ := key
  exact ⟨μ', h1, h2, h3⟩
 obtain ⟨c, hc⟩ : ∃ c, c = (bys s)[0]'h0 := ⟨_, rfl⟩
 have hx : ∀ (r : Rg) (x y : Operand), aev pZ r x = .string s → aev pZ r y = .int .i64 0 → ja3 pZ (aev pZ r) 9 x y = some (.int .u8 (.ofNat c)) := fun r x y h1 h2 => by rw [hc]; exact jbU (i := 0) h0 h1 h2
 clear hc
 have e0 : ilt 0 (.ofNat (bys s).length) = true := (jat 0 _).trans (decide_eq_true h0)
 have r1 : jax .i64 (Int.add 0 1) = 1 := rfl
 by_cases p1 : c = 43
 ·have s1 : ieq (.ofNat c) 43 = true := (jaQ _ 43 43 rfl).trans (decide_eq_true p1)
  obtain ⟨ok, D', n', dp', tr', b1, b2, b3, h6⟩ := set6 hs hl 1 false (by omega)
  refine ⟨ok, D', n', dp', false, tr', b1, b2, b3, fun {X g bi μ} hg hd => ?_⟩
  obtain ⟨f, rfl⟩ := gle hg
  have t1 := st_g (v := false) hd.blk
  have hd1 := hd.setG false
  have t2 := st_t (v := false) hd1.blk
  have hd2 := hd1.setT false
  have key : EndsF (aFun pZ (jao pZ X S0 (f + 3000)) 189 [.pointer (some ⟨bi, 0, none⟩), .string s] μ) fun v μ' => v = .bool ok ∧ Dec μ' bi D' n' dp' false tr' ∧ Only μ μ' bi := by
   refine jaj Tryz.func189 rfl rfl (nbl rfl) ?_
   simp only [go_sem, Tryz.ntmps189]
   change EndsC (jao pZ X S0 _ (jaB Tryz.f189) _ _) _
   rw [ss0]
   repeat (first | refine jab rfl ?_ | (refine jac rfl ?_; (try simp only [go_sem, jer, jaZ, t1, t2, jaa, ls, jae, e0, hx, r1, s1]); fail_if_success refine ifC ?_))
   try simp only [jaX, jak]
   refine EndsC.mono (h6 (k := f + 594) hd2 (by simp only [go_sem]) (by simp only [go_sem]) (by simp only [go_sem]) (by simp only [go_sem]; try rfl)) ?_
   rintro x r μ' ⟨rfl, g1, g2, tm', rfl, g4⟩
   refine ⟨rfl, _, ?_, rfl, g1, (Only.put _ _ _ _).trans ((Only.put _ _ _ _).trans g2)⟩
   simp only [go_sem, Tryz.results189]
   rw [g4]
  obtain ⟨v, μ', h1, rfl, h2, h3⟩ := key
  exact ⟨μ', h1, h2, h3⟩
 ·have s1 : ieq (.ofNat c) 43 = false := (jaQ _ 43 43 rfl).trans (decide_eq_false p1)
  by_cases p2 : c = 45
  ·have s2 : ieq (.ofNat c) 45 = true := (jaQ _ 45 45 rfl).trans (decide_eq_true p2)
   obtain ⟨ok, D', n', dp', tr', b1, b2, b3, h6⟩ := set6 hs hl 1 true (by omega)
   refine ⟨ok, D', n', dp', true, tr', b1, b2, b3, fun {X g bi μ} hg hd => ?_⟩
   obtain ⟨f, rfl⟩ := gle hg
   have t1 := st_g (v := false) hd.blk
   have hd1 := hd.setG false
   have t2 := st_t (v := false) hd1.blk
   have hd2 := hd1.setT false
   have t3 := st_g (v := true) hd2.blk
   have hd3 := hd2.setG true
   have key : EndsF (aFun pZ (jao pZ X S0 (f + 3000)) 189 [.pointer (some ⟨bi, 0, none⟩), .string s] μ) fun v μ' => v = .bool ok ∧ Dec μ' bi D' n' dp' true tr' ∧ Only μ μ' bi := by
    refine jaj Tryz.func189 rfl rfl (nbl rfl) ?_
    simp only [go_sem, Tryz.ntmps189]
    change EndsC (jao pZ X S0 _ (jaB Tryz.f189) _ _) _
    rw [ss0]
    repeat (first | refine jab rfl ?_ | (refine jac rfl ?_; (try simp only [go_sem, jer, jaZ, t1, t2, t3, jaa, ls, jae, e0, hx, r1, s1, s2]); fail_if_success refine ifC ?_))
    try simp only [jaX, jak]
    refine EndsC.mono (h6 (k := f + 594) hd3 (by simp only [go_sem]) (by simp only [go_sem]) (by simp only [go_sem]) (by simp only [go_sem]; try rfl)) ?_
    rintro x r μ' ⟨rfl, g1, g2, tm', rfl, g4⟩
    refine ⟨rfl, _, ?_, rfl, g1, (Only.put _ _ _ _).trans ((Only.put _ _ _ _).trans ((Only.put _ _ _ _).trans g2))⟩
    simp only [go_sem, Tryz.results189]
    rw [g4]
   obtain ⟨v, μ', h1, rfl, h2, h3⟩ := key
   exact ⟨μ', h1, h2, h3⟩
  ·have s2 : ieq (.ofNat c) 45 = false := (jaQ _ 45 45 rfl).trans (decide_eq_false p2)
   obtain ⟨ok, D', n', dp', tr', b1, b2, b3, h6⟩ := set6 hs hl 0 false (by omega)
   refine ⟨ok, D', n', dp', false, tr', b1, b2, b3, fun {X g bi μ} hg hd => ?_⟩
   obtain ⟨f, rfl⟩ := gle hg
   have t1 := st_g (v := false) hd.blk
   have hd1 := hd.setG false
   have t2 := st_t (v := false) hd1.blk
   have hd2 := hd1.setT false
   have key : EndsF (aFun pZ (jao pZ X S0 (f + 3000)) 189 [.pointer (some ⟨bi, 0, none⟩), .string s] μ) fun v μ' => v = .bool ok ∧ Dec μ' bi D' n' dp' false tr' ∧ Only μ μ' bi := by
    refine jaj Tryz.func189 rfl rfl (nbl rfl) ?_
    simp only [go_sem, Tryz.ntmps189]
    change EndsC (jao pZ X S0 _ (jaB Tryz.f189) _ _) _
    rw [ss0]
    repeat (first | refine jab rfl ?_ | (refine jac rfl ?_; (try simp only [go_sem, jer, jaZ, t1, t2, jaa, ls, jae, e0, hx, r1, s1, s2]); fail_if_success refine ifC ?_))
    try simp only [jaX, jak]
    refine EndsC.mono (h6 (k := f + 594) hd2 (by simp only [go_sem]) (by simp only [go_sem]) (by simp only [go_sem]) (by simp only [go_sem]; try rfl)) ?_
    rintro x r μ' ⟨rfl, g1, g2, tm', rfl, g4⟩
    refine ⟨rfl, _, ?_, rfl, g1, (Only.put _ _ _ _).trans ((Only.put _ _ _ _).trans g2)⟩
    simp only [go_sem, Tryz.results189]
    rw [g4]
   obtain ⟨v, μ', h1, rfl, h2, h3⟩ := key
   exact ⟨μ', h1, h2, h3⟩
end
noncomputable section
open Go.Proofs.YtnafmgiaifbhgaaGreatDoor.DecM (val Dg)
def Err3 (v : Value) : Prop := v = .nilIface ∨ v = .iface 137 (.int .i64 1) ∨ v = .iface 137 (.int .i64 2)
theorem mi1 (r : Rg) : jbv pZ (aev pZ r) 137 (.const (.int .i64 1)) = some (.iface 137 (.int .i64 1)) := by
 unfold jbv
 simp only [Tryz.underlying137]
 rfl
theorem mi2 (r : Rg) : jbv pZ (aev pZ r) 137 (.const (.int .i64 2)) = some (.iface 137 (.int .i64 2)) := by
 unfold jbv
 simp only [Tryz.underlying137]
 rfl
def zD : List Value := List.replicate 800 (.int .u8 0) ++ [.int .i64 0, .int .i64 0, .bool false, .bool false]
def obD : Ob := .cells 804 167 zD.toArray .e 0 0 false false
set_option maxRecDepth 100000 in
theorem al_dec : jdJ pZ 167 = some (obD, fun id => .pointer (some ⟨id, 0, none⟩)) := by kernel_rfl
def isZ : Value → Bool
 | .int .u8 (.ofNat 0) => true
 | _ => false
theorem isZ_eq {v : Value} (h : isZ v = true) : v = .int .u8 0 := by
 unfold isZ at h
 split at h
 ·rfl
 ·cases h
set_option maxRecDepth 100000 in
theorem zD_all : ((List.range 800).all fun k => isZ (cellAt zD.toArray .e k)) = true := by kernel_rfl
theorem zD_at (k : Nat) (hk : k < 800) : cellAt zD.toArray .e k = .int .u8 0 := isZ_eq (List.all_eq_true.1 zD_all k (List.mem_range.2 hk))
theorem jh9 (μ : Mem) : Dec ⟨μ.obs.set μ.next obD, μ.next + 1⟩ μ.next (fun _ => 0) 0 0 false false := by
 have hg : (μ.obs.set μ.next obD).get μ.next = some obD := by rw [T.get_set, if_pos rfl]
 have hc : ∀ k (h : k < 804), jal ⟨μ.obs.set μ.next obD, μ.next + 1⟩ μ.next k = some (cellAt zD.toArray .e k) := fun k h => by
  unfold jal
  show (match jb5 ((μ.obs.set μ.next obD).get μ.next) with | some (n, zero, over) => if k < n then some (cellAt zero over k) else none | none => none) = _
  rw [hg]
  show (if k < 804 then some (cellAt zD.toArray .e k) else none) = _
  rw [if_pos h]
 refine ⟨⟨_, _, _, _, hg⟩, fun k hk => ?_, ?_, ?_, ?_, ?_⟩
 ·rw [hc k (by omega)]
  refine congrArg some ?_
  exact zD_at k hk
 ·rw [hc _ (by decide)]; kernel_rfl
 ·rw [hc _ (by decide)]; kernel_rfl
 ·rw [hc _ (by decide)]; kernel_rfl
 ·rw [hc _ (by decide)]; kernel_rfl
theorem sa0 : (jaB Tryz.f178) = .seq (jaY 0 (jaB Tryz.f178)) (.seq (jaY 1 (jaB Tryz.f178)) (ja0 2 (jaB Tryz.f178))) := by kernel_rfl
theorem sa2 : ja0 2 (jaB Tryz.f178) = .seq (jaY 2 (jaB Tryz.f178)) (.seq (jaY 3 (jaB Tryz.f178)) (.seq (jaY 4 (jaB Tryz.f178)) (ja0 5 (jaB Tryz.f178)))) := by kernel_rfl
theorem sa5 : ja0 5 (jaB Tryz.f178) = .seq (jaY 5 (jaB Tryz.f178)) (ja0 6 (jaB Tryz.f178)) := by kernel_rfl
theorem sa6 : ja0 6 (jaB Tryz.f178) = .seq (jaY 6 (jaB Tryz.f178)) (.seq (jaY 7 (jaB Tryz.f178)) (.seq (jaY 8 (jaB Tryz.f178)) (.seq (jaY 9 (jaB Tryz.f178)) (.seq (jaY 10 (jaB Tryz.f178)) (.seq (jaY 11 (jaB Tryz.f178)) (ja0 12 (jaB Tryz.f178))))))) := by kernel_rfl
def FinA (f n : Nat) (v : Value) (μ : Mem) : Ax → Rg → Mem → Prop := fun x r μ' => x = .ret ∧ Grow μ μ' ∧ ∃ tm, r = ⟨143, tm, [], none⟩ ∧ jam tm 2 = .float .f64 f ∧ jam tm 3 = .int .i64 (.ofNat n) ∧ jam tm 4 = v
theorem nums_head {s : ByteArray} (hs : ∀ c ∈ bys s, c ∈ nums) (n : Nat) : ∀ c ∈ bys (jjr s n), c ∈ nums := fun c hc => hs c (by rw [jiK] at hc; exact List.mem_of_mem_take hc)
theorem slow_ex {s : ByteArray} (hs : ∀ c ∈ bys s, c ∈ nums) (hl : (bys s).length ≤ 1000) (n : Nat) (hn : n ≤ (bys s).length) : ∃ (f : Nat) (v : Value), Err3 v ∧ ∀ {X : XT} {k : Nat} {tm : T Value} {μ : Mem}, jbs X → Lay μ → jam tm 0 = .string s → jam tm 3 = .int .i64 (.ofNat n) → jam tm 4 = .nilIface →
  EndsC (jao pZ X S0 (k + 12000) (ja0 6 (jaB Tryz.f178)) ⟨143, tm, [], none⟩ μ) (FinA f n v μ) := by
 have hl' : (bys (jjr s n)).length ≤ 1000 := by rw [jiK, List.length_take]; omega
 obtain ⟨ok, D, m, dp, neg, tr, b1, b2, b3, hset⟩ := set_ex (nums_head hs n) hl'
 have hsl : ∀ (r : Rg) (x y : Operand), aev pZ r x = .string s → aev pZ r y = .int .i64 (.ofNat n) → jbg pZ (aev pZ r) 9 x none (some y) none = some (.string (jjr s n)) := fun r x y h1 h2 => slice_to h1 h2 hn
 cases ok with
 | false =>
   refine ⟨0, .iface 137 (.int .i64 2), .inr (.inr rfl), fun {X k tm μ} hX hL h0 h3 h4 => ?_⟩
   have hd := jh9 μ
   obtain ⟨μ1, hr, z1, z2⟩ := hset (X := X) (g := k + 11996) (by omega) hd
   have hG : Grow μ μ1 := (jbn μ obD).only z2 (Nat.le_refl _)
   rw [sa6]
   repeat (first | refine jab rfl ?_ | (refine jac rfl ?_; (try simp only [go_sem, h0, h3, h4, al_dec, Nat.add_eq, hsl, gg189, hr, mi1, mi2]); fail_if_success refine ifC ?_))
   refine jah ?_
   exact ⟨by trivial, hG, _, rfl, (by simp only [go_sem]), (by simp only [go_sem, h3]), (by simp only [go_sem])⟩
 | true =>
   obtain ⟨b, ovf, hfb⟩ := jhc (n := m) (tr := tr) (neg := neg) (dp := dp) b1 (by omega) (by omega)
   cases ovf with
   | true =>
     refine ⟨W b, .iface 137 (.int .i64 1), .inr (.inl rfl), fun {X k tm μ} hX hL h0 h3 h4 => ?_⟩
     have hd := jh9 μ
     obtain ⟨μ1, hr, z1, z2⟩ := hset (X := X) (g := k + 11996) (by omega) hd
     have hG : Grow μ μ1 := (jbn μ obD).only z2 (Nat.le_refl _)
     obtain ⟨μ2, hr2, z3⟩ := hfb (X := X) (g := k + 11996) (by omega) hL hG (Nat.le_refl _) z1
     have x1' : ∀ a μ, X 191 [u a] μ = some (.float .f64 (W a), μ) := hX
     rw [sa6]
     repeat (first | refine jab rfl ?_ | (refine jac rfl ?_; (try simp only [go_sem, h0, h3, h4, nI, al_dec, Nat.add_eq, hsl, gg189, hr, gg190, hr2, jd9, x1', mi1, mi2]); fail_if_success refine ifC ?_))
     refine jah ?_
     exact ⟨by trivial, hG.only z3 (Nat.le_refl _), _, rfl, (by simp only [go_sem]), (by simp only [go_sem, h3]), (by simp only [go_sem])⟩
   | false =>
     refine ⟨W b, .nilIface, .inl rfl, fun {X k tm μ} hX hL h0 h3 h4 => ?_⟩
     have hd := jh9 μ
     obtain ⟨μ1, hr, z1, z2⟩ := hset (X := X) (g := k + 11996) (by omega) hd
     have hG : Grow μ μ1 := (jbn μ obD).only z2 (Nat.le_refl _)
     obtain ⟨μ2, hr2, z3⟩ := hfb (X := X) (g := k + 11996) (by omega) hL hG (Nat.le_refl _) z1
     have x1' : ∀ a μ, X 191 [u a] μ = some (.float .f64 (W a), μ) := hX
     rw [sa6]
     repeat (first | refine jab rfl ?_ | (refine jac rfl ?_; (try simp only [go_sem, h0, h3, h4, nI, al_dec, Nat.add_eq, hsl, gg189, hr, gg190, hr2, jd9, x1']); fail_if_success refine ifC ?_))
     refine jah ?_
     exact ⟨by trivial, hG.only z3 (Nat.le_refl _), _, rfl, (by simp only [go_sem]), (by simp only [go_sem, h3]), (by simp only [go_sem, h4])⟩
end
noncomputable section
open Go.Proofs.YtnafmgiaifbhgaaGreatDoor.DecM (val Dg)
def feq (a b : Nat) : Bool := Ieee.double.order a b == some .eq
theorem plain_feq {ρ : Operand → Value} {d : Option Tmp} {t yt ty : TypeId} {x y : Operand} {ps : String} {af : Array Edge} {gd : Option (Nat × Bool)} {a b : Nat} (hx : ρ x = .float .f64 a) (hy : ρ y = .float .f64 b) : jaT pZ ρ ⟨d, .binOp .eql t x y yt, ty, ps, af, gd⟩ = some (.bool (feq a b)) := by
 unfold jaT
 have e : pv pZ (execOp ρ ⟨d, .binOp .eql t x y yt, ty, ps, af, gd⟩) = some (.value (.bool (feq a b))) := by
  simp only [execOp, hx, hy]
  kernel_rfl
 simp only [opsOf, jbV, hx, hy, jaS, e]
theorem NoErr.three {v : Value} (h : NoErr v) : Err3 v := by
 rcases h with h | h
 ·exact .inl h
 ·exact .inr (.inl h)
attribute [local irreducible] ja0
theorem at5_ex {s : ByteArray} (hs : ∀ c ∈ bys s, c ∈ nums) (hl : (bys s).length ≤ 1000) (a n : Nat) (e : Int) (neg tr : Bool) (hn : n ≤ (bys s).length) (he1 : -200000 < e) (he2 : e < 200000) : ∃ (f : Nat) (v : Value), Err3 v ∧ ∀ {X : XT} {k : Nat} {tm : T Value} {μ : Mem}, jbs X → Lay μ → jam tm 0 = .string s → jam tm 3 = .int .i64 (.ofNat n) → jam tm 4 = .nilIface → jam tm 8 = u a → jam tm 9 = .int .i64 e → jam tm 10 = .bool neg → jam tm 11 = .bool tr →
  EndsC (jao pZ X S0 (k + 12100) (ja0 5 (jaB Tryz.f178)) ⟨143, tm, [], none⟩ μ) (FinA f n v μ) := by
 obtain ⟨sg, hsg⟩ : ∃ sg, sg = b2 neg * 2 ^ 63 := ⟨_, rfl⟩
 have b1 : ∀ {X : XT} (g : Nat) (μ : Mem), 10 ≤ g → aFun pZ (jao pZ X S0 g) 179 [.bool neg] μ = some (u (b2 neg), μ) := fun g μ h => jhm h
 have s63 : ja5 true .u64 (.ofNat (W (b2 neg))) 63 = some (.int .u64 (.ofNat (W sg))) := by
  have hb := b2_le neg
  rw [W_of (a := b2 neg) (by omega), hsg]
  exact w_shl (b2 neg) 63 (by decide)
 clear hsg
 by_cases ha : W a = 0
 ·have a0 : ieq (.ofNat (W a)) 0 = true := (jaQ _ 0 0 rfl).trans (decide_eq_true ha)
  refine ⟨W (W sg ||| 0), .nilIface, .inl rfl, fun {X k tm μ} hX hL h0 h3 h4 h8 h9 h10 h11 => ?_⟩
  have x1' : ∀ a μ, X 191 [u a] μ = some (.float .f64 (W a), μ) := hX
  have ho := hL.opt
  rw [sa5]
  repeat (first | refine jab rfl ?_ | (refine jac rfl ?_; (try simp only [go_sem, h0, h3, h4, h8, h9, h10, h11, nO, jaM, ho, jfH, b1, Nat.reduceLeDiff, s63, a0, wOr0, jd9, x1']); fail_if_success refine ifC ?_))
  refine jah ?_
  exact ⟨by trivial, Grow.refl _, _, rfl, (by simp only [go_sem]), (by simp only [go_sem, h3]), (by simp only [go_sem])⟩
 have a0 : ieq (.ofNat (W a)) 0 = false := (jaQ _ 0 0 rfl).trans (decide_eq_false ha)
 by_cases hb1 : 310 < e
 ·have e1 : ilt 310 e = true := (jbf _ _).trans (decide_eq_true hb1)
  refine ⟨W (W sg ||| 9218868437227405312), .iface 137 (.int .i64 1), .inr (.inl rfl), fun {X k tm μ} hX hL h0 h3 h4 h8 h9 h10 h11 => ?_⟩
  have x1' : ∀ a μ, X 191 [u a] μ = some (.float .f64 (W a), μ) := hX
  have ho := hL.opt
  rw [sa5]
  repeat (first | refine jab rfl ?_ | (refine jac rfl ?_; (try simp only [go_sem, h0, h3, h4, h8, h9, h10, h11, nO, jaM, ho, jfH, b1, Nat.reduceLeDiff, s63, a0, e1, wOrI, jd9, x1', mi1, mi2]); fail_if_success refine ifC ?_))
  refine jah ?_
  exact ⟨by trivial, Grow.refl _, _, rfl, (by simp only [go_sem]), (by simp only [go_sem, h3]), (by simp only [go_sem])⟩
 have e1 : ilt 310 e = false := (jbf _ _).trans (decide_eq_false hb1)
 by_cases hb2 : e < -345
 ·have e2 : ilt e (-345) = true := (jbf _ _).trans (decide_eq_true hb2)
  refine ⟨W (W sg ||| 0), .nilIface, .inl rfl, fun {X k tm μ} hX hL h0 h3 h4 h8 h9 h10 h11 => ?_⟩
  have x1' : ∀ a μ, X 191 [u a] μ = some (.float .f64 (W a), μ) := hX
  have ho := hL.opt
  rw [sa5]
  repeat (first | refine jab rfl ?_ | (refine jac rfl ?_; (try simp only [go_sem, h0, h3, h4, h8, h9, h10, h11, nO, jaM, ho, jfH, b1, Nat.reduceLeDiff, s63, a0, e1, e2, wOr0, jd9, x1']); fail_if_success refine ifC ?_))
  refine jah ?_
  exact ⟨by trivial, Grow.refl _, _, rfl, (by simp only [go_sem]), (by simp only [go_sem, h3]), (by simp only [go_sem])⟩
 have e2 : ilt e (-345) = false := (jbf _ _).trans (decide_eq_false hb2)
 obtain ⟨f1, v1, nv1, hp1⟩ := jfV a sg e (by omega) (by omega)
 cases tr with
 | false =>
   obtain ⟨fx, ok, hex⟩ := exact_ex a e neg (by omega) (by omega)
   cases ok with
   | true =>
     refine ⟨fx, .nilIface, .inl rfl, fun {X k tm μ} hX hL h0 h3 h4 h8 h9 h10 h11 => ?_⟩
     have hx1 : ∀ g, 60 ≤ g → aFun pZ (jao pZ X S0 g) 192 [u a, .int .i64 e, .bool neg] μ = some (.tuple #[.float .f64 fx, .bool true], μ) := fun g h => hex hL h
     have ho := hL.opt
     rw [sa5]
     repeat (first | refine jab rfl ?_ | (refine jac rfl ?_; (try simp only [go_sem, h0, h3, h4, h8, h9, h10, h11, nO, jaM, ho, jfH, b1, Nat.reduceLeDiff, s63, a0, e1, e2, gg192, hx1]); fail_if_success refine ifC ?_))
     refine jah ?_
     exact ⟨by trivial, Grow.refl _, _, rfl, (by simp only [go_sem]), (by simp only [go_sem, h3]), (by simp only [go_sem])⟩
   | false =>
     refine ⟨f1, v1, nv1.three, fun {X k tm μ} hX hL h0 h3 h4 h8 h9 h10 h11 => ?_⟩
     have hx1 : ∀ g, 60 ≤ g → aFun pZ (jao pZ X S0 g) 192 [u a, .int .i64 e, .bool neg] μ = some (.tuple #[.float .f64 fx, .bool false], μ) := fun g h => hex hL h
     obtain ⟨μ1, hr, hG⟩ := hp1 (X := X) (g := k + 12090) (μ := μ) hX hL (by omega)
     have ho := hL.opt
     rw [sa5]
     repeat (first | refine jab rfl ?_ | (refine jac rfl ?_; (try simp only [go_sem, h0, h3, h4, h8, h9, h10, h11, nO, jaM, ho, jfH, b1, Nat.reduceLeDiff, s63, a0, e1, e2, gg192, hx1, gg193, hr]); fail_if_success refine ifC ?_))
     refine jah ?_
     exact ⟨by trivial, hG, _, rfl, (by simp only [go_sem]), (by simp only [go_sem, h3]), (by simp only [go_sem])⟩
 | true =>
   obtain ⟨f2, v2, nv2, hp2⟩ := jfV (W a + 1) sg e (by omega) (by omega)
   obtain ⟨fe, hfe⟩ : ∃ fe, feq f1 f2 = fe := ⟨_, rfl⟩
   have pq : ∀ (ρ : Operand → Value) (d : Option Tmp) (t yt ty : TypeId) (x y : Operand) (ps : String) (af : Array Edge) (gd : Option (Nat × Bool)), ρ x = .float .f64 f1 → ρ y = .float .f64 f2 → jaT pZ ρ ⟨d, .binOp .eql t x y yt, ty, ps, af, gd⟩ = some (.bool fe) := fun ρ d t yt ty x y ps af gd h1 h2 => by rw [← hfe]; exact plain_feq h1 h2
   cases fe with
   | true =>
     refine ⟨f1, v1, nv1.three, fun {X k tm μ} hX hL h0 h3 h4 h8 h9 h10 h11 => ?_⟩
     obtain ⟨μ1, hr, hG⟩ := hp1 (X := X) (g := k + 12090) (μ := μ) hX hL (by omega)
     obtain ⟨μ2, hr2, hG2⟩ := hp2 (X := X) (g := k + 12088) (μ := μ1) hX (hL.grow hG) (by omega)
     have ho := hL.opt
     rw [sa5]
     repeat (first | refine jab rfl ?_ | (refine jac rfl ?_; (try simp only [go_sem, h0, h3, h4, h8, h9, h10, h11, nO, jaM, ho, jfH, b1, Nat.reduceLeDiff, s63, a0, e1, e2, gg193, hr, wAdd1, hr2, anf, pq]); fail_if_success refine ifC ?_))
     refine jah ?_
     exact ⟨by trivial, hG.trans hG2, _, rfl, (by simp only [go_sem]), (by simp only [go_sem, h3]), (by simp only [go_sem])⟩
   | false =>
     obtain ⟨f, v, hv, hslow⟩ := slow_ex hs hl n hn
     refine ⟨f, v, hv, fun {X k tm μ} hX hL h0 h3 h4 h8 h9 h10 h11 => ?_⟩
     obtain ⟨μ1, hr, hG⟩ := hp1 (X := X) (g := k + 12090) (μ := μ) hX hL (by omega)
     obtain ⟨μ2, hr2, hG2⟩ := hp2 (X := X) (g := k + 12088) (μ := μ1) hX (hL.grow hG) (by omega)
     have ho := hL.opt
     rw [sa5]
     repeat (first | refine jab rfl ?_ | (refine jac rfl ?_; (try simp only [go_sem, h0, h3, h4, h8, h9, h10, h11, nO, jaM, ho, jfH, b1, Nat.reduceLeDiff, s63, a0, e1, e2, gg193, hr, wAdd1, hr2, anf, pq]); fail_if_success refine ifC ?_))
     refine EndsC.mono (hslow (k := k + 99) hX (hL.grow (hG.trans hG2)) (by simp only [go_sem, h0]) (by simp only [go_sem, h3]) (by simp only [go_sem, h4])) ?_
     rintro x r μ3 ⟨hx, g, gg⟩
     exact ⟨hx, (hG.trans hG2).trans g, gg⟩
theorem atof64_ex {s : ByteArray} (hs : ∀ c ∈ bys s, c ∈ nums) (hl : (bys s).length ≤ 1000) (h0 : 0 < (bys s).length) : ∃ (f n : Nat) (v : Value), Err3 v ∧ ∀ {X : XT} {g : Nat} {μ : Mem}, jbs X → Lay μ → 13000 ≤ g →
  ∃ μ', aFun pZ (jao pZ X S0 g) 178 [.string s] μ = some (.tuple #[.float .f64 f, .int .i64 (.ofNat n), v], μ') ∧ Grow μ μ' := by
 obtain ⟨a, e, neg, tr, n, ok, c1, c2, c3, hrf⟩ := jgX hs hl h0
 have key : ∃ (f : Nat) (v : Value), Err3 v ∧ ∀ {X : XT} {k : Nat} {tm : T Value} {μ : Mem}, jbs X → Lay μ → jam tm 0 = .string s → jam tm 4 = .nilIface →
   EndsC (jao pZ X S0 (k + 12200) (ja0 2 (jaB Tryz.f178)) ⟨143, tm, [], none⟩ μ) (FinA f n v μ) := by
  cases ok with
  | false =>
    refine ⟨0, .iface 137 (.int .i64 2), .inr (.inr rfl), fun {X k tm μ} hX hL h0 h4 => ?_⟩
    have hr : ∀ g, 2000 ≤ g → aFun pZ (jao pZ X S0 g) 183 [.string s] μ = some (.tuple #[u a, .int .i64 e, .bool neg, .bool tr, .bool false, .int .i64 (.ofNat n), .bool false], μ) := fun g h => hrf h
    rw [sa2]
    repeat (first | refine jab rfl ?_ | (refine jac rfl ?_; (try simp only [go_sem, h0, h4, gg183, hr, Nat.reduceLeDiff, mi1, mi2]); fail_if_success refine ifC ?_))
    refine jah ?_
    exact ⟨by trivial, Grow.refl _, _, rfl, (by simp only [go_sem]), (by simp only [go_sem]), (by simp only [go_sem])⟩
  | true =>
    obtain ⟨f, v, hv, h5⟩ := at5_ex hs hl a n e neg tr c3 c1 c2
    refine ⟨f, v, hv, fun {X k tm μ} hX hL h0 h4 => ?_⟩
    have hr : ∀ g, 2000 ≤ g → aFun pZ (jao pZ X S0 g) 183 [.string s] μ = some (.tuple #[u a, .int .i64 e, .bool neg, .bool tr, .bool false, .int .i64 (.ofNat n), .bool true], μ) := fun g h => hrf h
    rw [sa2]
    repeat (first | refine jab rfl ?_ | (refine jac rfl ?_; (try simp only [go_sem, h0, h4, gg183, hr, Nat.reduceLeDiff]); fail_if_success refine ifC ?_))
    exact h5 (k := k + 97) hX hL (by simp only [go_sem, h0]) (by simp only [go_sem]) (by simp only [go_sem, h4]) (by simp only [go_sem]) (by simp only [go_sem]) (by simp only [go_sem]) (by simp only [go_sem])
 obtain ⟨f, v, hv, h2⟩ := key
 refine ⟨f, n, v, hv, fun {X g μ} hX hL hg => ?_⟩
 obtain ⟨k, rfl⟩ := gle hg
 have hsp : ∀ g μ, 100 ≤ g → aFun pZ (jao pZ X S0 g) 182 [.string s] μ = some (.tuple #[.float .f64 0, .int .i64 0, .bool false], μ) := fun g μ h => ji2 h hs h0
 have key : EndsF (aFun pZ (jao pZ X S0 (k + 13000)) 178 [.string s] μ) fun w μ' => w = .tuple #[.float .f64 f, .int .i64 (.ofNat n), v] ∧ Grow μ μ' := by
  refine jaj Tryz.func178 rfl rfl (nbl rfl) ?_
  simp only [go_sem, Tryz.ntmps178]
  change EndsC (jao pZ X S0 _ (jaB Tryz.f178) _ _) _
  rw [sa0]
  repeat (first | refine jab rfl ?_ | (refine jac rfl ?_; (try simp only [go_sem, gg182, hsp, Nat.reduceLeDiff]); fail_if_success refine ifC ?_))
  refine EndsC.mono (h2 (k := k + 798) hX hL (by simp only [go_sem]) (by simp only [go_sem])) ?_
  rintro x r μ' ⟨rfl, g, tm', rfl, g2, g3, g4⟩
  refine ⟨rfl, _, ?_, rfl, g⟩
  simp only [go_sem, Tryz.results178]
  simp only [g2, g3, g4]
 obtain ⟨w, μ', h1, rfl, h2⟩ := key
 exact ⟨μ', h1, h2⟩
end
noncomputable section
section
set_option linter.defProp false
variable {X : XT} {ev : Code → Rg → Mem → Option (Ax × Rg × Mem)}
def gg178 := go_call (P := pZ) (X := X) (ev := ev) (S := S0) Tryz.func178 rfl rfl
def gg153 := go_call (P := pZ) (X := X) (ev := ev) (S := S0) Tryz.func153 rfl rfl
def gg126 := go_call (P := pZ) (X := X) (ev := ev) (S := S0) Tryz.func126 rfl rfl
def gg90 := go_call (P := pZ) (X := X) (ev := ev) (S := S0) Tryz.func90 rfl rfl
def gg110 := go_call (P := pZ) (X := X) (ev := ev) (S := S0) Tryz.func110 rfl rfl
def gg111 := go_call (P := pZ) (X := X) (ev := ev) (S := S0) Tryz.func111 rfl rfl
def gg145 := go_call (P := pZ) (X := X) (ev := ev) (S := S0) Tryz.func145 rfl rfl
def gg104 := go_call (P := pZ) (X := X) (ev := ev) (S := S0) Tryz.func104 rfl rfl
end
theorem jhS {s : ByteArray} (hs : ∀ c ∈ bys s, c ∈ nums) (hl : (bys s).length ≤ 1000) (h0 : 0 < (bys s).length) : ∃ (f : Nat) (v : Value), Err3 v ∧ ∀ {X : XT} {g : Nat} {μ : Mem}, jbs X → Lay μ → 13100 ≤ g →
  ∃ μ', aFun pZ (jao pZ X S0 g) 126 [.string s, .int .i64 64] μ = some (.tuple #[.float .f64 f, v], μ') ∧ Grow μ μ' := by
 obtain ⟨f, n, v, hv, hat⟩ := atof64_ex hs hl h0
 have ls := ja6 s
 have e32 : ieq 64 32 = false := rfl
 have pre : ∀ {X : XT} {g : Nat} {μ : Mem}, jbs X → Lay μ → 13050 ≤ g →
   ∃ μ', aFun pZ (jao pZ X S0 g) 153 [.string s, .int .i64 64] μ = some (.tuple #[.float .f64 f, .int .i64 (.ofNat n), v], μ') ∧ Grow μ μ' := fun {X g μ} hX hL hg => by
  obtain ⟨k, rfl⟩ := gle hg
  obtain ⟨μ1, hr, hG⟩ := hat (X := X) (g := k + 13046) (μ := μ) hX hL (by omega)
  have key : EndsF (aFun pZ (jao pZ X S0 (k + 13050)) 153 [.string s, .int .i64 64] μ) fun w μ' => w = .tuple #[.float .f64 f, .int .i64 (.ofNat n), v] ∧ μ' = μ1 := by
   refine jaj Tryz.func153 rfl rfl (nbl rfl) ?_
   simp only [go_sem, Tryz.ntmps153]
   repeat (first | refine jab rfl ?_ | (refine jac rfl ?_; (try simp only [go_sem, e32, gg178, hr]); fail_if_success refine ifC ?_))
   refine jah ?_
   refine ⟨rfl, _, ?_, rfl, rfl⟩
   simp only [go_sem, Tryz.results153]
  obtain ⟨w, μ', h1, rfl, rfl⟩ := key
  exact ⟨_, h1, hG⟩
 by_cases hn : n = (bys s).length
 ·have e1 : ieq (.ofNat n) (.ofNat (bys s).length) = true := (jbu _ _).trans (decide_eq_true hn)
  refine ⟨f, v, hv, fun {X g μ} hX hL hg => ?_⟩
  obtain ⟨k, rfl⟩ := gle hg
  obtain ⟨μ1, hr, hG⟩ := pre (X := X) (g := k + 13097) (μ := μ) hX hL (by omega)
  have key : EndsF (aFun pZ (jao pZ X S0 (k + 13100)) 126 [.string s, .int .i64 64] μ) fun w μ' => w = .tuple #[.float .f64 f, v] ∧ μ' = μ1 := by
   refine jaj Tryz.func126 rfl rfl (nbl rfl) ?_
   simp only [go_sem, Tryz.ntmps126]
   repeat (first | refine jab rfl ?_ | (refine jac rfl ?_; (try simp only [go_sem, gg153, hr, jaa, ls, jae, e1]); fail_if_success refine ifC ?_))
   refine jah ?_
   refine ⟨rfl, _, ?_, rfl, rfl⟩
   simp only [go_sem, Tryz.results126]
  obtain ⟨w, μ', h1, rfl, rfl⟩ := key
  exact ⟨_, h1, hG⟩
 ·have e1 : ieq (.ofNat n) (.ofNat (bys s).length) = false := (jbu _ _).trans (decide_eq_false hn)
  refine ⟨0, .iface 137 (.int .i64 2), .inr (.inr rfl), fun {X g μ} hX hL hg => ?_⟩
  obtain ⟨k, rfl⟩ := gle hg
  obtain ⟨μ1, hr, hG⟩ := pre (X := X) (g := k + 13097) (μ := μ) hX hL (by omega)
  have key : EndsF (aFun pZ (jao pZ X S0 (k + 13100)) 126 [.string s, .int .i64 64] μ) fun w μ' => w = .tuple #[.float .f64 0, .iface 137 (.int .i64 2)] ∧ μ' = μ1 := by
   refine jaj Tryz.func126 rfl rfl (nbl rfl) ?_
   simp only [go_sem, Tryz.ntmps126]
   repeat (first | refine jab rfl ?_ | (refine jac rfl ?_; (try simp only [go_sem, gg153, hr, jaa, ls, jae, e1, mi2]); fail_if_success refine ifC ?_))
   refine jah ?_
   refine ⟨rfl, _, ?_, rfl, rfl⟩
   simp only [go_sem, Tryz.results126]
  obtain ⟨w, μ', h1, rfl, rfl⟩ := key
  exact ⟨_, h1, hG⟩
def bysV (s : ByteArray) : List Value := s.data.toList.map fun b => .int .u8 b.toNat
theorem jgv (s : ByteArray) : (bysV s).length = (bys s).length := by unfold bysV bys; simp
theorem jhk (l : List UInt8) : jc4 (l.map fun b => Value.int .u8 b.toNat) = some l := by
 induction l with
 | nil => rfl
 | cons b l ih =>
   show jc4 (.int .u8 (.ofNat b.toNat) :: l.map _) = _
   unfold jc4
   rw [show Nat.blt b.toNat 256 = true from by have := b.toNat_lt; simpa using this]
   rw [ih]
   simp
theorem z_u8 : jbh pZ 5 = some (.int .u8 0) := by unfold jbh; rw [i_u8]; rfl
def obB (m : Nat) : Ob := .cells m 5 #[.int .u8 0] .e 0 0 false false
theorem ms_bs {m : Nat} (hm : m ≤ 1000) : jcT pZ 79 (.int .i64 (.ofNat m)) (.int .i64 (.ofNat m)) = some (obB m, fun id => .slice (some ⟨id, 0, none⟩) m (2 * m)) := by
 unfold jcT
 have e1 : Nat.ble m m = true := Nat.ble_eq_true_of_le (Nat.le_refl _)
 have e2 : Nat.ble m 1073741824 = true := Nat.ble_eq_true_of_le (by omega)
 have e3 : Nat.ble (Nat.mul m Tryz.t5.bytes) 1099511627776 = true := Nat.ble_eq_true_of_le (by show m * 1 ≤ _; omega)
 simp only [Tryz.underlying79, i_u8, e1, e2, e3, z_u8]
 show some (Ob.cells (Nat.mul m 1) _ _ _ _ _ _ _, _) = _
 rw [show Nat.mul m 1 = m from Nat.mul_one m]
 rfl
theorem copy_bs {μ : Mem} {s : ByteArray} {i : Nat} (h0 : 0 < (bys s).length) (hg : μ.obs.get i = some (obB (bys s).length)) (c : Nat) : jjP pZ μ 79 (.slice (some ⟨i, 0, none⟩) (bys s).length c) (.string s) = some (.int .i64 (.ofNat (bys s).length), ⟨μ.obs.set i (.cells (bys s).length 5 #[.int .u8 0] ((T.e).lay 0 (bysV s)) 0 0 false false), μ.next⟩) := by
 unfold jjP
 have el : s.data.toList.length = (bys s).length := (jdr s).symm
 have e0 : lenV (.string s) = some (bys s).length := by
  show some s.data.toList.length = _
  rw [el]
 have e1 : Nat.min (bys s).length (bys s).length = (bys s).length := Nat.min_self _
 simp only [Tryz.underlying79, i_u8, e0, e1, ja7]
 have e2 : (s.data.toList.take (bys s).length).map (fun b => Value.int .u8 b.toNat) = bysV s := by rw [List.take_of_length_le (by rw [el]; exact Nat.le_refl _)]; rfl
 rw [e2]
 have e3 : ∃ v l, bysV s = v :: l := by
  cases h : bysV s with
  | nil => have := jgv s; rw [h] at this; simp at this; omega
  | cons v l => exact ⟨v, l, rfl⟩
 obtain ⟨v, l, e3⟩ := e3
 have e4 : jb2 (bys s).length 0 0 0 (bysV s).length = true := by
  unfold jb2
  rw [jgv, show Nat.ble (Nat.add 0 (bys s).length) (bys s).length = true from Nat.ble_eq_true_of_le (by show 0 + _ ≤ _; omega)]
  rfl
 have e5 : scalars (bysV s) = true := je1 _ (by unfold bysV; rw [List.all_map]; exact List.all_eq_true.2 fun x _ => rfl)
 rw [e3] at e4 e5 ⊢
 simp only [hg, obB, e4, e5]
 rfl
theorem us_bs {μ : Mem} {s : ByteArray} {i : Nat} (h0 : 0 < (bys s).length) (hl : (bys s).length ≤ 1000) (hg : μ.obs.get i = some (.cells (bys s).length 5 #[.int .u8 0] ((T.e).lay 0 (bysV s)) 0 0 false false)) : ∃ o, jcg pZ μ 107 (.pointer (some ⟨i, 0, none⟩)) (.int .i64 (.ofNat (bys s).length)) = some (.string ⟨s.data.toList.toArray⟩, ⟨μ.obs.set i o, μ.next⟩) := by
 unfold jcg
 obtain ⟨m, hm⟩ : ∃ m, (bys s).length = m + 1 := ⟨(bys s).length - 1, by omega⟩
 have ec : jaE #[.int .u8 0] ((T.e).lay 0 (bysV s)) 0 (bys s).length = bysV s := jbI _ _ _ (jgv s) fun k hk => by
  rw [jbO, dif_pos (by omega)]
  simp
 have e1 : Nat.ble (bys s).length (bys s).length = true := Nat.ble_eq_true_of_le (Nat.le_refl _)
 have e2 : Nat.ble (bys s).length 1073741824 = true := Nat.ble_eq_true_of_le (by omega)
 have e3 : jc4 (bysV s) = some s.data.toList := jhk _
 have e4 : Nat.beq (pZ.cellsOf 5) 1 = true := by kernel_rfl
 rw [← ec] at e3
 rw [hm] at e1 e2 e3 hg ⊢
 simp only [hg, Tryz.underlying107, Nat.beq_refl, e4, e1, e2, e3]
 exact ⟨_, rfl⟩
theorem jiJ {s : ByteArray} (h0 : 0 < (bys s).length) (hl : (bys s).length ≤ 1000) {X : XT} {g : Nat} {μ : Mem} (hg : 40 ≤ g) : ∃ (x : ByteArray) (μ' : Mem), aFun pZ (jao pZ X S0 g) 145 [.string s] μ = some (.string x, μ') ∧ Grow μ μ' := by
 obtain ⟨k, rfl⟩ := gle hg
 have ls := ja6 s
 have e0 : ieq (.ofNat (bys s).length) 0 = false := (jaQ _ 0 0 rfl).trans (decide_eq_false (by omega))
 have ms := ms_bs hl
 have g1 : (μ.obs.set μ.next (obB (bys s).length)).get μ.next = some (obB (bys s).length) := by rw [T.get_set, if_pos rfl]
 have cp := copy_bs (μ := ⟨μ.obs.set μ.next (obB (bys s).length), μ.next + 1⟩) h0 g1 (2 * (bys s).length)
 obtain ⟨μ2, hμ2⟩ : ∃ μ2 : Mem, μ2 = ⟨(μ.obs.set μ.next (obB (bys s).length)).set μ.next (.cells (bys s).length 5 #[.int .u8 0] ((T.e).lay 0 (bysV s)) 0 0 false false), μ.next + 1⟩ := ⟨_, rfl⟩
 have g2 : μ2.obs.get μ.next = some (.cells (bys s).length 5 #[.int .u8 0] ((T.e).lay 0 (bysV s)) 0 0 false false) := by rw [hμ2]; show T.get _ _ = _; rw [T.get_set, if_pos rfl]
 obtain ⟨o, us⟩ := us_bs h0 hl g2
 have cp : jjP pZ ⟨μ.obs.set μ.next (obB (bys s).length), μ.next + 1⟩ 79 (.slice (some ⟨μ.next, 0, none⟩) (bys s).length (2 * (bys s).length)) (.string s) = some (.int .i64 (.ofNat (bys s).length), μ2) := by rw [hμ2]; exact cp
 have hix : ∀ (r : Rg) (a : Operand), aev pZ r a = .slice (some ⟨μ.next, 0, none⟩) (bys s).length (2 * (bys s).length) → jas pZ (aev pZ r) 79 a (.const (.int .i64 0)) = some (.pointer (some ⟨μ.next, 0, none⟩)) := fun r a h => by
  rw [ja1 (P := pZ) (m := 0) (kd := .i64) Tryz.underlying79 i_u8 rfl h rfl h0]
 have hG : Grow μ ⟨μ2.obs.set μ.next o, μ2.next⟩ := by
  rw [hμ2]
  refine ⟨Nat.le_succ _, fun i hi => ?_⟩
  show (T.set (T.set (T.set _ _ _) _ _) _ _).get i = _
  rw [T.get_set, if_neg (by omega), T.get_set, if_neg (by omega), T.get_set, if_neg (by omega)]
 refine ⟨⟨s.data.toList.toArray⟩, _, ?_, hG⟩
 refine jaN ?_
 refine jaj Tryz.func145 rfl rfl (nbl rfl) ?_
 simp only [go_sem, Tryz.ntmps145]
 repeat (first | refine jab rfl ?_ | (refine jac rfl ?_; (try simp only [go_sem, jaa, ls, lenBs, jae, e0, ms, Nat.add_eq, cp, hix, us]); fail_if_success refine ifC ?_))
 refine jah ?_
 refine ⟨rfl, _, ?_, rfl, rfl⟩
 simp only [go_sem, Tryz.results145]
end
noncomputable section
theorem an1 (a : TypeId) (b : Value) : aNil pZ 83 (.iface a b) .nilIface = true := by
 unfold aNil
 simp only [Tryz.underlying83]
theorem an2 : aNil pZ 83 .nilIface .nilIface = false := rfl
theorem an3 (a c : TypeId) (b d : Value) : aNil pZ 83 (.iface a b) (.iface c d) = false := rfl
theorem p_nn (r : Rg) {d : Option Tmp} {yt ty : TypeId} {x : Operand} {ps : String} {af : Array Edge} {gd : Option (Nat × Bool)} (hx : aev pZ r x = .nilIface) : jaT pZ (aev pZ r) ⟨d, .binOp .neq 83 x (.const .nilIface) yt, ty, ps, af, gd⟩ = some (.bool false) := by
 have hy : aev pZ r (.const .nilIface) = .nilIface := rfl
 unfold jaT
 have e : pv pZ (execOp (aev pZ r) ⟨d, .binOp .neq 83 x (.const .nilIface) yt, ty, ps, af, gd⟩) = some (.value (.bool false)) := by
  simp only [execOp, hx, hy]
  cases x <;> kernel_rfl
 simp only [opsOf, jbV, hx, hy, jaS, e]
theorem p_ee (a b : Nat) (hab : a = 1 ∨ a = 2) (hb : b = 1 ∨ b = 2) {ρ : Operand → Value} {d : Option Tmp} {yt ty : TypeId} {x y : Operand} {ps : String} {af : Array Edge} {gd : Option (Nat × Bool)} (hx : ρ x = .iface 137 (.int .i64 (.ofNat a))) (hy : ρ y = .iface 137 (.int .i64 (.ofNat b))) : jaT pZ ρ ⟨d, .binOp .eql 83 x y yt, ty, ps, af, gd⟩ = some (.bool (decide (a = b))) := by
 unfold jaT
 have e : pv pZ (execOp ρ ⟨d, .binOp .eql 83 x y yt, ty, ps, af, gd⟩) = some (.value (.bool (decide (a = b)))) := by
  simp only [execOp, hx, hy]
  rcases hab with rfl | rfl <;> rcases hb with rfl | rfl <;> kernel_rfl
 simp only [opsOf, jbV, hx, hy, jaS, e]
theorem z_ne : jbh pZ 172 = some (.agg #[.string ⟨#[]⟩, .string ⟨#[]⟩, .nilIface]) := by kernel_rfl
theorem jiL {ρ : Operand → Value} {a b c : Operand} {p x v : Value} (ha : ρ a = p) (hb : ρ b = x) (hc : ρ c = v) (hp : one p = true) (hx : one x = true) (hv : one v = true) : jcc pZ ρ 172 #[(0, a), (1, b), (2, c)] = some (.agg #[p, x, v]) := by
 have hpl : ∃ f, pZ.underlying 172 = some (.struct f) ∧ jct pZ f.toList = some [(0, 1), (1, 1), (2, 1)] := ⟨_, Tryz.underlying172, by kernel_rfl⟩
 obtain ⟨f, h1, h2⟩ := hpl
 refine jbJ (cs := [p, x, v]) z_ne h1 h2 ?_
 simp only [List.map_cons, List.map_nil, ha, hb, hc]
 show jc7 _ [.string ⟨#[]⟩, .string ⟨#[]⟩, .nilIface] [(0, p), (1, x), (2, v)] = _
 rw [jdv (off := 0) rfl hp (by decide)]
 show jc7 _ [p, .string ⟨#[]⟩, .nilIface] [(1, x), (2, v)] = _
 rw [jdv (off := 1) rfl hx (by simp)]
 show jc7 _ [p, x, .nilIface] [(2, v)] = _
 rw [jdv (off := 2) rfl hv (by simp)]
 rfl
theorem synErr_ex {pf s : ByteArray} (h0 : 0 < (bys s).length) (hl : (bys s).length ≤ 1000) {X : XT} {g : Nat} {μ : Mem} (hL : Lay μ) (hg : 60 ≤ g) : ∃ (a : Nat) (μ' : Mem), aFun pZ (jao pZ X S0 g) 110 [.string pf, .string s] μ = some (.pointer (some ⟨a, 0, none⟩), μ') ∧ Grow μ μ' := by
 obtain ⟨k, rfl⟩ := gle hg
 obtain ⟨x, μ1, hc, hG⟩ := jiJ h0 hl (X := X) (g := k + 57) (μ := ⟨μ.obs, μ.next + 7⟩) (by omega)
 obtain ⟨v, v1, v2⟩ := hL.es
 have v3 : jal μ1 5 0 = some v := (jcb ((jb7 μ 7).trans hG) (Nat.lt_of_le_of_lt (by decide) hL.lt) 0).trans v1
 have v4 : ∀ z, jal ⟨μ.obs, z⟩ 5 0 = some v := fun z => v1
 have hb : ∀ (r : Rg) (a b c : Operand), aev pZ r a = .string pf → aev pZ r b = .string x → aev pZ r c = v → jcc pZ (aev pZ r) 172 #[(0, a), (1, b), (2, c)] = some (.agg #[.string pf, .string x, v]) := fun r a b c g1 g2 g3 => jiL g1 g2 g3 rfl rfl v2
 have key : EndsF (aFun pZ (jao pZ X S0 (k + 60)) 110 [.string pf, .string s] μ) fun w μ' => ∃ a, w = .pointer (some ⟨a, 0, none⟩) ∧ Grow μ μ' := by
  refine jaj Tryz.func110 rfl rfl (nbl rfl) ?_
  simp only [go_sem, Tryz.ntmps110]
  refine jag ?_
  refine jaw ?_ ?_
  ·rfl
  simp only [go_sem]
  refine jag ?_
  refine jaG (n := 7) (ms := [0, 0, 2, 0, 15, 31, 63]) (ord := [1, 2, 0, 3, 4, 5, 6]) (ds := ?_) ?_ ?_ ?_ ?_ ?_ ?_
  rotate_left
  ·kernel_rfl
  ·kernel_rfl
  ·kernel_rfl
  ·rfl
  ·rfl
  iterate 7 (refine jar (by first | rfl | (simp only [go_sem, nS, jeM, gg145, hc, v3, v4, hb, aBox, ja2, jdi, (show bef [0, 0, 2, 0, 15, 31, 63] 2 3 = false from by kernel_rfl)])) (by simp only [jav, heavy, jaI, jaq, go_sem, nS, jeM, gg145, hc, v3, v4, hb, aBox, ja2, jdi, (show bef [0, 0, 2, 0, 15, 31, 63] 2 3 = false from by kernel_rfl)]; try exact rfl) rfl ?_)
  simp only [dRun, jay, jak]
  refine jah ?_
  refine ⟨rfl, _, ?_, μ.next + 5, rfl, ?_⟩
  ·skip
   simp only [go_sem, Tryz.results110]
  ·refine ⟨Nat.le_trans (Nat.le_add_right _ 7) hG.1, fun j hj => ?_⟩
   show T.get (T.set _ _ _) j = _
   rw [T.get_set, if_neg (by show j ≠ μ.next + 5; omega)]
   exact hG.2 j (Nat.lt_of_lt_of_le hj (Nat.le_add_right _ 7))
 obtain ⟨w, μ', h1, a, rfl, h2⟩ := key
 exact ⟨a, μ', h1, h2⟩
theorem rngErr_ex {pf s : ByteArray} (h0 : 0 < (bys s).length) (hl : (bys s).length ≤ 1000) {X : XT} {g : Nat} {μ : Mem} (hL : Lay μ) (hg : 60 ≤ g) : ∃ (a : Nat) (μ' : Mem), aFun pZ (jao pZ X S0 g) 111 [.string pf, .string s] μ = some (.pointer (some ⟨a, 0, none⟩), μ') ∧ Grow μ μ' := by
 obtain ⟨k, rfl⟩ := gle hg
 obtain ⟨x, μ1, hc, hG⟩ := jiJ h0 hl (X := X) (g := k + 57) (μ := ⟨μ.obs, μ.next + 7⟩) (by omega)
 obtain ⟨v, v1, v2⟩ := hL.er
 have v3 : jal μ1 6 0 = some v := (jcb ((jb7 μ 7).trans hG) (Nat.lt_of_le_of_lt (by decide) hL.lt) 0).trans v1
 have v4 : ∀ z, jal ⟨μ.obs, z⟩ 6 0 = some v := fun z => v1
 have hb : ∀ (r : Rg) (a b c : Operand), aev pZ r a = .string pf → aev pZ r b = .string x → aev pZ r c = v → jcc pZ (aev pZ r) 172 #[(0, a), (1, b), (2, c)] = some (.agg #[.string pf, .string x, v]) := fun r a b c g1 g2 g3 => jiL g1 g2 g3 rfl rfl v2
 have key : EndsF (aFun pZ (jao pZ X S0 (k + 60)) 111 [.string pf, .string s] μ) fun w μ' => ∃ a, w = .pointer (some ⟨a, 0, none⟩) ∧ Grow μ μ' := by
  refine jaj Tryz.func111 rfl rfl (nbl rfl) ?_
  simp only [go_sem, Tryz.ntmps111]
  refine jag ?_
  refine jaw ?_ ?_
  ·rfl
  simp only [go_sem]
  refine jag ?_
  refine jaG (n := 7) (ms := [0, 0, 2, 0, 15, 31, 63]) (ord := [1, 2, 0, 3, 4, 5, 6]) (ds := ?_) ?_ ?_ ?_ ?_ ?_ ?_
  rotate_left
  ·kernel_rfl
  ·kernel_rfl
  ·kernel_rfl
  ·rfl
  ·rfl
  iterate 7 (refine jar (by first | rfl | (simp only [go_sem, nR, jeM, gg145, hc, v3, v4, hb, aBox, ja2, jdi, (show bef [0, 0, 2, 0, 15, 31, 63] 2 3 = false from by kernel_rfl)])) (by simp only [jav, heavy, jaI, jaq, go_sem, nR, jeM, gg145, hc, v3, v4, hb, aBox, ja2, jdi, (show bef [0, 0, 2, 0, 15, 31, 63] 2 3 = false from by kernel_rfl)]; try exact rfl) rfl ?_)
  simp only [dRun, jay, jak]
  refine jah ?_
  refine ⟨rfl, _, ?_, μ.next + 5, rfl, ?_⟩
  ·skip
   simp only [go_sem, Tryz.results111]
  ·refine ⟨Nat.le_trans (Nat.le_add_right _ 7) hG.1, fun j hj => ?_⟩
   show T.get (T.set _ _ _) j = _
   rw [T.get_set, if_neg (by show j ≠ μ.next + 5; omega)]
   exact hG.2 j (Nat.lt_of_lt_of_le hj (Nat.le_add_right _ 7))
 obtain ⟨w, μ', h1, a, rfl, h2⟩ := key
 exact ⟨a, μ', h1, h2⟩
theorem pe22 (r : Rg) {d : Option Tmp} {yt ty : TypeId} {x y : Operand} {ps : String} {af : Array Edge} {gd : Option (Nat × Bool)} (hx : aev pZ r x = .iface 137 (.int .i64 2)) (hy : aev pZ r y = .iface 137 (.int .i64 2)) : jaT pZ (aev pZ r) ⟨d, .binOp .eql 83 x y yt, ty, ps, af, gd⟩ = some (.bool true) := p_ee 2 2 (.inr rfl) (.inr rfl) hx hy
theorem pe12 (r : Rg) {d : Option Tmp} {yt ty : TypeId} {x y : Operand} {ps : String} {af : Array Edge} {gd : Option (Nat × Bool)} (hx : aev pZ r x = .iface 137 (.int .i64 1)) (hy : aev pZ r y = .iface 137 (.int .i64 2)) : jaT pZ (aev pZ r) ⟨d, .binOp .eql 83 x y yt, ty, ps, af, gd⟩ = some (.bool false) := p_ee 1 2 (.inl rfl) (.inr rfl) hx hy
theorem pe11 (r : Rg) {d : Option Tmp} {yt ty : TypeId} {x y : Operand} {ps : String} {af : Array Edge} {gd : Option (Nat × Bool)} (hx : aev pZ r x = .iface 137 (.int .i64 1)) (hy : aev pZ r y = .iface 137 (.int .i64 1)) : jaT pZ (aev pZ r) ⟨d, .binOp .eql 83 x y yt, ty, ps, af, gd⟩ = some (.bool true) := p_ee 1 1 (.inl rfl) (.inl rfl) hx hy
theorem miP (r : Rg) (x : Operand) (i : Nat) (h : aev pZ r x = .pointer (some ⟨i, 0, none⟩)) : jbv pZ (aev pZ r) 140 x = some (.iface 140 (.pointer (some ⟨i, 0, none⟩))) := by
 unfold jbv
 simp only [Tryz.underlying140, h]
theorem toErr_ex {pf s : ByteArray} {v : Value} (hv : v = .iface 137 (.int .i64 1) ∨ v = .iface 137 (.int .i64 2)) (h0 : 0 < (bys s).length) (hl : (bys s).length ≤ 1000) {X : XT} {g : Nat} {μ : Mem} (hL : Lay μ) (hg : 100 ≤ g) : ∃ (a : Nat) (μ' : Mem), aFun pZ (jao pZ X S0 g) 90 [.string pf, .string s, .int .i64 0, .int .i64 64, v] μ = some (.iface 140 (.pointer (some ⟨a, 0, none⟩)), μ') ∧ Grow μ μ' := by
 obtain ⟨k, rfl⟩ := gle hg
 rcases hv with rfl | rfl
 ·obtain ⟨a, μ1, hr, hG⟩ := rngErr_ex (pf := pf) h0 hl (X := X) (g := k + 90) hL (by omega)
  have mp := fun r x => miP r x a
  have key : EndsF (aFun pZ (jao pZ X S0 (k + 100)) 90 [.string pf, .string s, .int .i64 0, .int .i64 64, .iface 137 (.int .i64 1)] μ) fun w μ' => w = .iface 140 (.pointer (some ⟨a, 0, none⟩)) ∧ μ' = μ1 := by
   refine jaj Tryz.func90 rfl rfl (nbl rfl) ?_
   simp only [go_sem, Tryz.ntmps90]
   repeat (first | refine jab rfl ?_ | (refine jac rfl ?_; (try simp only [go_sem, mi1, mi2, an3, pe12, pe11, gg111, hr, mp]); fail_if_success refine ifC ?_))
   refine jah ?_
   refine ⟨rfl, _, ?_, rfl, rfl⟩
   simp only [go_sem, Tryz.results90]
  obtain ⟨w, μ', h1, rfl, rfl⟩ := key
  exact ⟨a, _, h1, hG⟩
 ·obtain ⟨a, μ1, hr, hG⟩ := synErr_ex (pf := pf) h0 hl (X := X) (g := k + 92) hL (by omega)
  have mp := fun r x => miP r x a
  have key : EndsF (aFun pZ (jao pZ X S0 (k + 100)) 90 [.string pf, .string s, .int .i64 0, .int .i64 64, .iface 137 (.int .i64 2)] μ) fun w μ' => w = .iface 140 (.pointer (some ⟨a, 0, none⟩)) ∧ μ' = μ1 := by
   refine jaj Tryz.func90 rfl rfl (nbl rfl) ?_
   simp only [go_sem, Tryz.ntmps90]
   repeat (first | refine jab rfl ?_ | (refine jac rfl ?_; (try simp only [go_sem, mi1, mi2, an3, pe22, gg110, hr, mp]); fail_if_success refine ifC ?_))
   refine jah ?_
   refine ⟨rfl, _, ?_, rfl, rfl⟩
   simp only [go_sem, Tryz.results90]
  obtain ⟨w, μ', h1, rfl, rfl⟩ := key
  exact ⟨a, _, h1, hG⟩
theorem parseF_ex {s : ByteArray} (hs : ∀ c ∈ bys s, c ∈ nums) (hl : (bys s).length ≤ 1000) (h0 : 0 < (bys s).length) : ∃ (f : Nat), ∀ {X : XT} {g : Nat} {μ : Mem}, jbs X → Lay μ → 14000 ≤ g →
  ∃ w μ', aFun pZ (jao pZ X S0 g) 104 [.string s, .int .i64 64] μ = some (.tuple #[.float .f64 f, w], μ') ∧ one w = true ∧ Grow μ μ' := by
 obtain ⟨f, v, hv, hp⟩ := jhS hs hl h0
 refine ⟨f, fun {X g μ} hX hL hg => ?_⟩
 obtain ⟨k, rfl⟩ := gle hg
 obtain ⟨μ1, hr, hG⟩ := hp (X := X) (g := k + 13997) (μ := μ) hX hL (by omega)
 by_cases hn : v = .nilIface
 ·subst hn
  have key : EndsF (aFun pZ (jao pZ X S0 (k + 14000)) 104 [.string s, .int .i64 64] μ) fun w μ' => w = .tuple #[.float .f64 f, .nilIface] ∧ μ' = μ1 := by
   refine jaj Tryz.func104 rfl rfl (nbl rfl) ?_
   simp only [go_sem, Tryz.ntmps104]
   repeat (first | refine jab rfl ?_ | (refine jac rfl ?_; (try simp only [go_sem, gg126, hr, an2, p_nn]); fail_if_success refine ifC ?_))
   refine jah ?_
   refine ⟨rfl, _, ?_, rfl, rfl⟩
   simp only [go_sem, Tryz.results104]
  obtain ⟨w, μ', h1, rfl, rfl⟩ := key
  exact ⟨_, _, h1, rfl, hG⟩
 ·have hv : v = .iface 137 (.int .i64 1) ∨ v = .iface 137 (.int .i64 2) := hv.resolve_left hn
  have te := fun (pf : ByteArray) => toErr_ex (pf := pf) hv h0 hl (X := X) (g := k + 13993) (hL.grow hG) (by omega)
  obtain ⟨a, μ2, hr2, hG2⟩ := te ⟨List.toArray [80, 97, 114, 115, 101, 70, 108, 111, 97, 116]⟩
  have hnil : ∀ t, aNil pZ t v .nilIface = (match pZ.underlying t with | some (.interface _) => true | _ => false) := fun t => by rcases hv with rfl | rfl <;> rfl
  have key : EndsF (aFun pZ (jao pZ X S0 (k + 14000)) 104 [.string s, .int .i64 64] μ) fun w μ' => w = .tuple #[.float .f64 f, .iface 140 (.pointer (some ⟨a, 0, none⟩))] ∧ μ' = μ2 := by
   rcases hv with rfl | rfl
   ·skip
    refine jaj Tryz.func104 rfl rfl (nbl rfl) ?_
    simp only [go_sem, Tryz.ntmps104]
    repeat (first | refine jab rfl ?_ | (refine jac rfl ?_; (try simp only [go_sem, gg126, hr, an1, gg90, hr2]); fail_if_success refine ifC ?_))
    refine jah ?_
    refine ⟨rfl, _, ?_, rfl, rfl⟩
    simp only [go_sem, Tryz.results104]
   ·skip
    refine jaj Tryz.func104 rfl rfl (nbl rfl) ?_
    simp only [go_sem, Tryz.ntmps104]
    repeat (first | refine jab rfl ?_ | (refine jac rfl ?_; (try simp only [go_sem, gg126, hr, an1, gg90, hr2]); fail_if_success refine ifC ?_))
    refine jah ?_
    refine ⟨rfl, _, ?_, rfl, rfl⟩
    simp only [go_sem, Tryz.results104]
  obtain ⟨w, μ', h1, rfl, rfl⟩ := key
  exact ⟨_, _, h1, rfl, hG.trans hG2⟩
end
noncomputable section
open Go.Proofs.YtnafmgiaifbhgaaGreatDoor.NumText (dig isE isS ndig unsg expo jbT jdD jdg je9)
section
set_option linter.defProp false
variable {X : XT} {ev : Code → Rg → Mem → Option (Ax × Rg × Mem)}
def gg124 := go_call (P := pZ) (X := X) (ev := ev) (S := S0) Tryz.func124 rfl rfl
def gg125 := go_call (P := pZ) (X := X) (ev := ev) (S := S0) Tryz.func125 rfl rfl
def gg103 := go_call (P := pZ) (X := X) (ev := ev) (S := S0) Tryz.func103 rfl rfl
end
theorem byte_lt {s : ByteArray} {c : Nat} (h : c ∈ bys s) : c < 256 := by
 obtain ⟨b, _, rfl⟩ := List.mem_map.1 h
 exact b.toNat_lt
def jcv (s : ByteArray) : ByteArray := match bys s with
 | [] => s
 | c :: _ => if isS c then jbw s 1 else s
theorem jeW (s : ByteArray) : bys (jcv s) = unsg (bys s) := by
 unfold jcv
 cases h : bys s with
 | nil => simp only [h]; rfl
 | cons c l =>
   simp only
   cases hc : isS c with
   | true => rw [if_pos rfl, jc6, h, NumText.unsg_t hc]; rfl
   | false => rw [if_neg (by decide), h, NumText.unsg_f hc]
theorem jf9 (l : List Nat) : (unsg l).length ≤ l.length := by
 cases l with
 | nil => exact Nat.le_refl _
 | cons a l =>
   cases h : isS a with
   | true => rw [NumText.unsg_t h]; exact Nat.le_succ _
   | false => rw [NumText.unsg_f h]; exact Nat.le_refl _
theorem at0 {s : ByteArray} {c : Nat} {l : List Nat} (h : bys s = c :: l) {ρ : Operand → Value} {x y : Operand} {kd : IntKind} (hx : ρ x = .string s) (hy : ρ y = .int kd 0) : ja3 pZ ρ 9 x y = some (.int .u8 (.ofNat c)) := by
 have h0 : 0 < (bys s).length := by rw [h]; exact Nat.succ_pos _
 have := jbU (kd := kd) (i := 0) h0 hx hy
 rw [this]
 congr 4
 simp only [h, List.getElem_cons_zero]
theorem jeV {X : XT} {g : Nat} {s : ByteArray} {μ : Mem} (hg : 20 ≤ g) : aFun pZ (jao pZ X S0 g) 124 [.string s] μ = some (.string (jcv s), μ) := by
 obtain ⟨k, rfl⟩ := gle hg
 have ls := ja6 s
 cases h : bys s with
 | nil =>
   have hu : jcv s = s := by unfold jcv; rw [h]
   have e1 : ilt 0 (.ofNat (bys s).length) = false := (jat 0 _).trans (decide_eq_false (by rw [h]; decide))
   rw [hu]
   refine jaN ?_
   refine jaj Tryz.func124 rfl rfl (nbl rfl) ?_
   simp only [go_sem, Tryz.ntmps124]
   refine jag ?_
   refine jaw ?_ ?_
   ·rfl
   simp only [go_sem]
   refine jag ?_
   refine jag ?_
   refine jad rfl ?_
   (repeat (first | (refine jai ?_ rfl ?_; (solve | simp only [go_sem, undef, jaa, ls, jae, e1])) | (refine jaf (v := ?_) (μ' := ?_) ?_ ?_ rfl ?_; rotate_left 2; (solve | rfl | simp only [go_sem, undef, jaa, ls, jae, e1]); (solve | simp only [go_sem, undef, jaa, ls, jae, e1]; try exact rfl))))
   simp only [go_sem]
   repeat (first | refine jab rfl ?_ | (refine jac rfl ?_; (try simp only [go_sem]); fail_if_success refine ifC ?_))
   refine jah ?_
   refine ⟨rfl, _, ?_, rfl, rfl⟩
   simp only [go_sem, Tryz.results124]
 | cons c l =>
   have e1 : ilt 0 (.ofNat (bys s).length) = true := (jat 0 _).trans (decide_eq_true (by rw [h]; exact Nat.succ_pos _))
   have hx : ∀ (r : Rg) (x : Operand), aev pZ r x = .string s → ja3 pZ (aev pZ r) 9 x (.const (.int .i64 0)) = some (.int .u8 (.ofNat c)) := fun r x h1 => at0 (kd := .i64) h h1 rfl
   have hsl : ∀ (r : Rg) (x : Operand), aev pZ r x = .string s → jbg pZ (aev pZ r) 9 x (some (.const (.int .i64 1))) none none = some (.string (jbw s 1)) := fun r x h1 => jb9 (k := 1) (kd := .i64) h1 rfl (by rw [h]; exact Nat.succ_le_succ (Nat.zero_le _))
   by_cases h43 : c = 43
   ·have s1 : ieq (.ofNat c) 43 = true := (jaQ _ 43 43 rfl).trans (decide_eq_true h43)
    have hu : jcv s = jbw s 1 := by unfold jcv; rw [h]; simp only; rw [if_pos (by rw [h43]; decide)]
    rw [hu]
    refine jaN ?_
    refine jaj Tryz.func124 rfl rfl (nbl rfl) ?_
    simp only [go_sem, Tryz.ntmps124]
    refine jag ?_
    refine jaw ?_ ?_
    ·rfl
    simp only [go_sem]
    refine jag ?_
    refine jag ?_
    refine jad rfl ?_
    (repeat (first | (refine jai ?_ rfl ?_; (solve | simp only [go_sem, undef, jaa, ls, jae, e1, hx, s1])) | (refine jaf (v := ?_) (μ' := ?_) ?_ ?_ rfl ?_; rotate_left 2; (solve | rfl | simp only [go_sem, undef, jaa, ls, jae, e1, hx, s1]); (solve | simp only [go_sem, undef, jaa, ls, jae, e1, hx, s1]; try exact rfl))))
    simp only [go_sem]
    repeat (first | refine jab rfl ?_ | (refine jac rfl ?_; (try simp only [go_sem, hsl]); fail_if_success refine ifC ?_))
    refine jah ?_
    refine ⟨rfl, _, ?_, rfl, rfl⟩
    simp only [go_sem, Tryz.results124]
   ·have s1 : ieq (.ofNat c) 43 = false := (jaQ _ 43 43 rfl).trans (decide_eq_false h43)
    by_cases h45 : c = 45
    ·have s2 : ieq (.ofNat c) 45 = true := (jaQ _ 45 45 rfl).trans (decide_eq_true h45)
     have hu : jcv s = jbw s 1 := by unfold jcv; rw [h]; simp only; rw [if_pos (by rw [h45]; decide)]
     rw [hu]
     refine jaN ?_
     refine jaj Tryz.func124 rfl rfl (nbl rfl) ?_
     simp only [go_sem, Tryz.ntmps124]
     refine jag ?_
     refine jaw ?_ ?_
     ·rfl
     simp only [go_sem]
     refine jag ?_
     refine jag ?_
     refine jad rfl ?_
     iterate 13 (refine jaf (by first | rfl | (simp only [go_sem, undef, jaa, ls, jae, e1, hx, s1, s2])) (by simp only [go_sem, undef, jaa, ls, jae, e1, hx, s1, s2]; try exact rfl) rfl ?_)
     simp only [go_sem]
     repeat (first | refine jab rfl ?_ | (refine jac rfl ?_; (try simp only [go_sem, hsl]); fail_if_success refine ifC ?_))
     refine jah ?_
     refine ⟨rfl, _, ?_, rfl, rfl⟩
     simp only [go_sem, Tryz.results124]
    ·have s2 : ieq (.ofNat c) 45 = false := (jaQ _ 45 45 rfl).trans (decide_eq_false h45)
     have hu : jcv s = s := by unfold jcv; rw [h]; simp only; rw [if_neg (by simp [isS, h43, h45])]
     rw [hu]
     refine jaN ?_
     refine jaj Tryz.func124 rfl rfl (nbl rfl) ?_
     simp only [go_sem, Tryz.ntmps124]
     refine jag ?_
     refine jaw ?_ ?_
     ·rfl
     simp only [go_sem]
     refine jag ?_
     refine jag ?_
     refine jad rfl ?_
     iterate 13 (refine jaf (by first | rfl | (simp only [go_sem, undef, jaa, ls, jae, e1, hx, s1, s2])) (by simp only [go_sem, undef, jaa, ls, jae, e1, hx, s1, s2]; try exact rfl) rfl ?_)
     simp only [go_sem]
     repeat (first | refine jab rfl ?_ | (refine jac rfl ?_; (try simp only [go_sem]); fail_if_success refine ifC ?_))
     refine jah ?_
     refine ⟨rfl, _, ?_, rfl, rfl⟩
     simp only [go_sem, Tryz.results124]
theorem jh8 {s : ByteArray} (hl : (bys s).length ≤ 1000) : ∀ (m i : Nat), i + m = (bys s).length → ∀ {X : XT} {e : Nat} {tm : T Value} {μ : Mem}, jam tm 0 = .string s → jam tm 3 = .int .i64 (.ofNat i) →
  EndsC (jao pZ X S0 (e + m + 20) (.loop (jaR Tryz.f125 0)) ⟨23, tm, [], none⟩ μ) fun x r μ' => x = .exit 0 ∧ μ' = μ ∧ ∃ tm', r = ⟨23, tm', [], none⟩ ∧ jam tm' 3 = .int .i64 (.ofNat (i + ndig ((bys s).drop i))) := by
 have ls := ja6 s
 intro m
 induction m with
 | zero =>
   intro i hi X e tm μ h0 h3
   have hi : i = (bys s).length := hi
   have e1 : ilt (.ofNat i) (.ofNat (bys s).length) = false := (jat _ _).trans (decide_eq_false (by omega))
   refine jan ?_
   refine jag ?_
   refine jag ?_
   refine jad rfl ?_
   (repeat (first | (refine jai ?_ rfl ?_; (solve | simp only [go_sem, undef, h0, h3, jaa, ls, jae, e1])) | (refine jaf (v := ?_) (μ' := ?_) ?_ ?_ rfl ?_; rotate_left 2; (solve | rfl | simp only [go_sem, undef, h0, h3, jaa, ls, jae, e1]); (solve | simp only [go_sem, undef, h0, h3, jaa, ls, jae, e1]; try exact rfl))))
   simp only [go_sem]
   refine jaC ?_ ?_
   ·simp only [go_sem]
   refine jbA ?_
   simp only [jbC]
   refine ⟨by trivial, by trivial, _, rfl, ?_⟩
   rw [hi, List.drop_length]
   simp only [go_sem, h3, hi]
   rfl
 | succ m ih =>
   intro i hi X e tm μ h0 h3
   have hlt : i < (bys s).length := by omega
   have hdr : (bys s).drop i = (bys s)[i]'hlt :: (bys s).drop (i + 1) := List.drop_eq_getElem_cons hlt
   obtain ⟨c, hc⟩ : ∃ c, c = (bys s)[i]'hlt := ⟨_, rfl⟩
   rw [← hc] at hdr
   have hx : ∀ (r : Rg) (x y : Operand), aev pZ r x = .string s → aev pZ r y = .int .i64 (.ofNat i) → ja3 pZ (aev pZ r) 9 x y = some (.int .u8 (.ofNat c)) := fun r x y h1 h2 => by rw [hc]; exact jbU hlt h1 h2
   have e1 : ilt (.ofNat i) (.ofNat (bys s).length) = true := (jat _ _).trans (decide_eq_true hlt)
   have a1 : jax .i64 (Int.add (.ofNat i) 1) = .ofNat (i + 1) := jaV i 1 (by omega)
   clear hc
   by_cases h48 : c < 48
   ·have d1 : ilt (.ofNat c) 48 = true := (jbM c 48 48 rfl).trans (decide_eq_true h48)
    have hz : ndig ((bys s).drop i) = 0 := by rw [hdr, ndig, if_neg (by simp [dig]; omega)]
    refine jan ?_
    refine jag ?_
    refine jag ?_
    refine jad rfl ?_
    (repeat (first | (refine jai ?_ rfl ?_; (solve | simp only [go_sem, undef, h0, h3, jaa, ls, jae, e1, hx, d1])) | (refine jaf (v := ?_) (μ' := ?_) ?_ ?_ rfl ?_; rotate_left 2; (solve | rfl | simp only [go_sem, undef, h0, h3, jaa, ls, jae, e1, hx, d1]); (solve | simp only [go_sem, undef, h0, h3, jaa, ls, jae, e1, hx, d1]; try exact rfl))))
    simp only [go_sem]
    refine jaC ?_ ?_
    ·simp only [go_sem]
    refine jbA ?_
    simp only [jbC]
    refine ⟨by trivial, by trivial, _, rfl, ?_⟩
    rw [hz]
    simp only [go_sem, h3]
    rfl
   ·have d1 : ilt (.ofNat c) 48 = false := (jbM c 48 48 rfl).trans (decide_eq_false h48)
    by_cases h57 : 57 < c
    ·have d2 : ilt 57 (.ofNat c) = true := (jcn c 57 57 rfl).trans (decide_eq_true h57)
     have hz : ndig ((bys s).drop i) = 0 := by rw [hdr, ndig, if_neg (by simp [dig]; omega)]
     refine jan ?_
     refine jag ?_
     refine jag ?_
     refine jad rfl ?_
     iterate 16 (refine jaf (by first | rfl | (simp only [go_sem, undef, h0, h3, jaa, ls, jae, e1, hx, d1, d2])) (by simp only [go_sem, undef, h0, h3, jaa, ls, jae, e1, hx, d1, d2]; try exact rfl) rfl ?_)
     simp only [go_sem]
     refine jaC ?_ ?_
     ·simp only [go_sem]
     refine jbA ?_
     simp only [jbC]
     refine ⟨by trivial, by trivial, _, rfl, ?_⟩
     rw [hz]
     simp only [go_sem, h3]
     rfl
    ·have d2 : ilt 57 (.ofNat c) = false := (jcn c 57 57 rfl).trans (decide_eq_false h57)
     have hz : ndig ((bys s).drop i) = ndig ((bys s).drop (i + 1)) + 1 := by rw [hdr, ndig, if_pos (by simp [dig]; omega)]
     refine jan ?_
     refine jag ?_
     refine jag ?_
     refine jad rfl ?_
     iterate 16 (refine jaf (by first | rfl | (simp only [go_sem, undef, h0, h3, jaa, ls, jae, e1, hx, d1, d2])) (by simp only [go_sem, undef, h0, h3, jaa, ls, jae, e1, hx, d1, d2]; try exact rfl) rfl ?_)
     simp only [go_sem]
     repeat (first | refine jab rfl ?_ | (refine jac rfl ?_; (try simp only [go_sem, h0, h3, a1]); fail_if_success refine ifC ?_))
     rw [show e + (m + 1) + 19 = e + m + 20 from by omega]
     refine EndsC.mono (ih (i + 1) (by omega) (by simp only [go_sem, h0]) (by simp only [go_sem])) ?_
     rintro x r μ' ⟨g1, g2, tm', g3, g4⟩
     exact ⟨g1, g2, tm', g3, g4.trans (by rw [hz, show i + 1 + ndig ((bys s).drop (i + 1)) = i + (ndig ((bys s).drop (i + 1)) + 1) from by omega])⟩
theorem jfm {X : XT} {g : Nat} {s : ByteArray} {μ : Mem} (hl : (bys s).length ≤ 1000) (hg : 1100 ≤ g) : aFun pZ (jao pZ X S0 g) 125 [.string s] μ = some (.int .i64 (.ofNat (ndig (bys s))), μ) := by
 obtain ⟨k, rfl⟩ := gle hg
 refine jaN ?_
 refine jaj Tryz.func125 rfl rfl (nbl rfl) ?_
 simp only [go_sem, Tryz.ntmps125]
 repeat (first | refine jab rfl ?_ | (refine jac rfl ?_; (try simp only [go_sem]); fail_if_success refine ifC ?_))
 rw [show k + 1096 = (k + 1076 - (bys s).length) + (bys s).length + 20 from by omega]
 refine EndsC.mono (jh8 hl (bys s).length 0 (Nat.zero_add _) (by simp only [go_sem]) (by simp only [go_sem]; try rfl)) ?_
 rintro x r μ' ⟨rfl, rfl, tm', rfl, h3⟩
 rw [Nat.zero_add, List.drop_zero] at h3
 simp only [jaX, reduceIte, jak]
 repeat (first | refine jab rfl ?_ | (refine jac rfl ?_; (try simp only [go_sem, h3]); fail_if_success refine ifC ?_))
 refine jah ?_
 refine ⟨rfl, _, ?_, rfl, rfl⟩
 simp only [go_sem, Tryz.results125]
end
noncomputable section
open Go.Proofs.YtnafmgiaifbhgaaGreatDoor.NumText (dig isE isS ndig unsg expo jbT jdD jdg je9)
theorem sr0 : (jaB Tryz.f103) = .seq (jaY 0 (jaB Tryz.f103)) (.seq (jaY 1 (jaB Tryz.f103)) (.seq (jaY 2 (jaB Tryz.f103)) (.seq (jaY 3 (jaB Tryz.f103)) (ja0 4 (jaB Tryz.f103))))) := by kernel_rfl
theorem sr4 : ja0 4 (jaB Tryz.f103) = .seq (jaY 4 (jaB Tryz.f103)) (.seq (jaY 5 (jaB Tryz.f103)) (.seq (jaY 6 (jaB Tryz.f103)) (ja0 7 (jaB Tryz.f103)))) := by kernel_rfl
theorem sr7 : ja0 7 (jaB Tryz.f103) = .seq (jaY 7 (jaB Tryz.f103)) (.seq (jaY 8 (jaB Tryz.f103)) (ja0 9 (jaB Tryz.f103))) := by kernel_rfl
theorem sr9 : ja0 9 (jaB Tryz.f103) = .seq (jaY 9 (jaB Tryz.f103)) (.seq (jaY 10 (jaB Tryz.f103)) (ja0 11 (jaB Tryz.f103))) := by kernel_rfl
theorem sr11 : ja0 11 (jaB Tryz.f103) = .seq (jaY 11 (jaB Tryz.f103)) (ja0 12 (jaB Tryz.f103)) := by kernel_rfl
theorem sr12 : ja0 12 (jaB Tryz.f103) = .ret := by kernel_rfl
attribute [local irreducible] ja0
def FinR2 (b : Bool) (μ : Mem) : Ax → Rg → Mem → Prop := fun x r μ' => x = .ret ∧ (∃ c, μ' = ⟨μ.obs, μ.next + c⟩) ∧ ∃ tm, r = ⟨63, tm, [], none⟩ ∧ jam tm 2 = .bool b
theorem rt7 {s : ByteArray} (hl : (bys s).length ≤ 1000) (dot : Bool) {X : XT} {k : Nat} {tm : T Value} {μ : Mem} (h0 : jam tm 0 = .string s) (h5 : jam tm 5 = .bool dot) :
  EndsC (jao pZ X S0 (k + 1200) (ja0 7 (jaB Tryz.f103)) ⟨63, tm, [], none⟩ μ) (FinR2 (jbT dot (bys s)) μ) := by
 have ls := ja6 s
 cases h : bys s with
 | nil =>
   have e1 : ieq (.ofNat (bys s).length) 0 = true := (jaQ _ 0 0 rfl).trans (decide_eq_true (by rw [h]; rfl))
   rw [sr7]
   repeat (first | refine jab rfl ?_ | (refine jac rfl ?_; (try simp only [go_sem, h0, h5, jaa, ls, jae, e1]); fail_if_success refine ifC ?_))
   refine jah ?_
   exact ⟨by trivial, ⟨0, rfl⟩, _, rfl, by simp only [go_sem, h5]; rfl⟩
 | cons c l =>
   have e1 : ieq (.ofNat (bys s).length) 0 = false := (jaQ _ 0 0 rfl).trans (decide_eq_false (by rw [h]; simp))
   have hx : ∀ (r : Rg) (x : Operand), aev pZ r x = .string s → ja3 pZ (aev pZ r) 9 x (.const (.int .i64 0)) = some (.int .u8 (.ofNat c)) := fun r x h1 => at0 (kd := .i64) h h1 rfl
   by_cases hE : isE c = true
   rotate_left
   ·have hE := Bool.eq_false_iff.2 hE
    have hne : c ≠ 101 ∧ c ≠ 69 := by simp only [isE, Bool.or_eq_false_iff, decide_eq_false_iff_not] at hE; omega
    have s1 : ieq (.ofNat c) 101 = false := (jaQ _ 101 101 rfl).trans (decide_eq_false hne.1)
    have s2 : ieq (.ofNat c) 69 = false := (jaQ _ 69 69 rfl).trans (decide_eq_false hne.2)
    have hb : jbT dot (c :: l) = false := by simp [jbT, hE]
    rw [hb, sr7]
    refine jag ?_
    refine jag ?_
    refine jaw ?_ ?_
    ·rfl
    simp only [go_sem, h0, h5, jaa, ls, jae, e1]
    refine jaC ?_ ?_
    ·simp only [go_sem]
    refine jbz ?_
    simp only [jak]
    refine jag ?_
    refine jag ?_
    refine jad rfl ?_
    iterate 8 (refine jaf (by first | rfl | (simp only [go_sem, undef, h0, h5, hx, s1, s2])) (by simp only [go_sem, undef, h0, h5, hx, s1, s2]; try exact rfl) rfl ?_)
    simp only [go_sem]
    repeat (first | refine jab rfl ?_ | (refine jac rfl ?_; (try simp only [go_sem]); fail_if_success refine ifC ?_))
    refine jah ?_
    exact ⟨by trivial, ⟨0, rfl⟩, _, rfl, (by simp only [go_sem])⟩
   have hsl : ∀ (r : Rg) (x : Operand), aev pZ r x = .string s → jbg pZ (aev pZ r) 9 x (some (.const (.int .i64 1))) none none = some (.string (jbw s 1)) := fun r x h1 => jb9 (k := 1) (kd := .i64) h1 rfl (by rw [h]; exact Nat.succ_le_succ (Nat.zero_le _))
   have ht : bys (jbw s 1) = l := by rw [jc6, h]; rfl
   obtain ⟨s4, hs4⟩ : ∃ s4, s4 = jcv (jbw s 1) := ⟨_, rfl⟩
   have hb4 : bys s4 = unsg l := by rw [hs4, jeW, ht]
   have hll : l.length ≤ 999 := by have := hl; rw [h] at this; simp at this; omega
   have hul := jf9 l
   have u1 : ∀ g (μ : Mem), 20 ≤ g → aFun pZ (jao pZ X S0 g) 124 [.string (jbw s 1)] μ = some (.string s4, μ) := fun g μ hg => by rw [hs4]; exact jeV hg
   have dd : ∀ g (μ : Mem), 1100 ≤ g → aFun pZ (jao pZ X S0 g) 125 [.string s4] μ = some (.int .i64 (.ofNat (ndig (unsg l))), μ) := fun g μ hg => by rw [← hb4]; exact jfm (by rw [hb4]; omega) hg
   have ls4 := ja6 s4
   rw [hb4] at ls4
   obtain ⟨n, hn⟩ : ∃ n, n = ndig (unsg l) := ⟨_, rfl⟩
   rw [← hn] at dd
   have hb : jbT dot (c :: l) = (decide (1 ≤ n) && decide (n ≤ 4) && decide (n = (unsg l).length)) := by
    show (isE c && expo l) = _
    rw [hE, Bool.true_and, hn]; rfl
   rw [hb]
   have go : ∀ (s1 : Bool), ieq (.ofNat c) 101 = s1 → (s1 = false → ieq (.ofNat c) 69 = true) → EndsC (jao pZ X S0 (k + 1200) (ja0 7 (jaB Tryz.f103)) ⟨63, tm, [], none⟩ μ) (FinR2 (decide (1 ≤ n) && decide (n ≤ 4) && decide (n = (unsg l).length)) μ) := by
    intro s1 hs1 hs2
    have fin : ∀ {k : Nat} {tm : T Value}, jam tm 0 = .string s → EndsC (jao pZ X S0 (k + 1150) (ja0 9 (jaB Tryz.f103)) ⟨63, tm, [], none⟩ μ) (FinR2 (decide (1 ≤ n) && decide (n ≤ 4) && decide (n = (unsg l).length)) μ) := by
     intro k tm h0
     rw [sr9]
     repeat (first | refine jab rfl ?_ | (refine jac rfl ?_; (try simp only [go_sem, h0, hsl, gg124, u1, gg125, dd, Nat.reduceLeDiff]); fail_if_success refine ifC ?_))
     rw [sr11, sr12]
     by_cases n1 : 1 ≤ n
     rotate_left
     ·have c1 : ilt (.ofNat n) 1 = true := (jbM n 1 1 rfl).trans (decide_eq_true (by omega))
      rw [decide_eq_false n1, Bool.false_and, Bool.false_and]
      refine jag ?_
      refine jad rfl ?_
      (repeat (first | (refine jai ?_ rfl ?_; (solve | simp only [go_sem, undef, jaa, ls4, jae, c1])) | (refine jaf (v := ?_) (μ' := ?_) ?_ ?_ rfl ?_; rotate_left 2; (solve | rfl | simp only [go_sem, undef, jaa, ls4, jae, c1]); (solve | simp only [go_sem, undef, jaa, ls4, jae, c1]; try exact rfl))))
      simp only [go_sem]
      refine jah ?_
      exact ⟨by trivial, ⟨0, rfl⟩, _, rfl, (by simp only [go_sem])⟩
     have c1 : ilt (.ofNat n) 1 = false := (jbM n 1 1 rfl).trans (decide_eq_false (by omega))
     rw [decide_eq_true n1, Bool.true_and]
     by_cases n4 : n ≤ 4
     rotate_left
     ·have c2 : ilt 4 (.ofNat n) = true := (jat 4 n).trans (decide_eq_true (by omega))
      rw [decide_eq_false n4, Bool.false_and]
      refine jag ?_
      refine jad rfl ?_
      (repeat (first | (refine jai ?_ rfl ?_; (solve | simp only [go_sem, undef, jaa, ls4, jae, c1, c2])) | (refine jaf (v := ?_) (μ' := ?_) ?_ ?_ rfl ?_; rotate_left 2; (solve | rfl | simp only [go_sem, undef, jaa, ls4, jae, c1, c2]); (solve | simp only [go_sem, undef, jaa, ls4, jae, c1, c2]; try exact rfl))))
      simp only [go_sem]
      refine jah ?_
      exact ⟨by trivial, ⟨0, rfl⟩, _, rfl, (by simp only [go_sem])⟩
     have c2 : ilt 4 (.ofNat n) = false := (jat 4 n).trans (decide_eq_false (by omega))
     rw [decide_eq_true n4, Bool.true_and]
     have c3 : ieq (.ofNat n) (.ofNat (unsg l).length) = decide (n = (unsg l).length) := jbu _ _
     refine jag ?_
     refine jad rfl ?_
     iterate 13 (refine jaf (by first | rfl | (simp only [go_sem, undef, jaa, ls4, jae, c1, c2, c3])) (by simp only [go_sem, undef, jaa, ls4, jae, c1, c2, c3]; try exact rfl) rfl ?_)
     simp only [go_sem]
     refine jah ?_
     exact ⟨by trivial, ⟨0, rfl⟩, _, rfl, (by simp only [go_sem])⟩
    cases s1 with
    | true =>
      rw [sr7]
      refine jag ?_
      refine jag ?_
      refine jaw ?_ ?_
      ·rfl
      simp only [go_sem, h0, h5, jaa, ls, jae, e1]
      refine jaC ?_ ?_
      ·simp only [go_sem]
      refine jbz ?_
      simp only [jak]
      refine jag ?_
      refine jag ?_
      refine jad rfl ?_
      (repeat (first | (refine jai ?_ rfl ?_; (solve | simp only [go_sem, undef, h0, h5, hx, hs1])) | (refine jaf (v := ?_) (μ' := ?_) ?_ ?_ rfl ?_; rotate_left 2; (solve | rfl | simp only [go_sem, undef, h0, h5, hx, hs1]); (solve | simp only [go_sem, undef, h0, h5, hx, hs1]; try exact rfl))))
      simp only [go_sem]
      repeat (first | refine jab rfl ?_ | (refine jac rfl ?_; (try simp only [go_sem]); fail_if_success refine ifC ?_))
      exact fin (k := k + 48) (by simp only [go_sem, h0])
    | false =>
      have hs2 := hs2 rfl
      rw [sr7]
      refine jag ?_
      refine jag ?_
      refine jaw ?_ ?_
      ·rfl
      simp only [go_sem, h0, h5, jaa, ls, jae, e1]
      refine jaC ?_ ?_
      ·simp only [go_sem]
      refine jbz ?_
      simp only [jak]
      refine jag ?_
      refine jag ?_
      refine jad rfl ?_
      iterate 8 (refine jaf (by first | rfl | (simp only [go_sem, undef, h0, h5, hx, hs1, hs2])) (by simp only [go_sem, undef, h0, h5, hx, hs1, hs2]; try exact rfl) rfl ?_)
      simp only [go_sem]
      repeat (first | refine jab rfl ?_ | (refine jac rfl ?_; (try simp only [go_sem]); fail_if_success refine ifC ?_))
      exact fin (k := k + 48) (by simp only [go_sem, h0])
   refine go _ rfl fun hs1 => ?_
   have hs1 : decide (c = 101) = false := (jaQ _ 101 101 rfl).symm.trans hs1
   simp only [isE, Bool.or_eq_true, decide_eq_true_eq, decide_eq_false_iff_not] at hE hs1
   exact (jaQ _ 69 69 rfl).trans (decide_eq_true (by omega))
theorem jh4 {X : XT} {g : Nat} {s : ByteArray} {μ : Mem} (hl : (bys s).length ≤ 1000) (hg : 1300 ≤ g) : ∃ c, aFun pZ (jao pZ X S0 g) 103 [.string s] μ = some (.bool (jdg (bys s)), ⟨μ.obs, μ.next + c⟩) := by
 obtain ⟨k, rfl⟩ := gle hg
 obtain ⟨s1, hs1⟩ : ∃ s1, s1 = jcv s := ⟨_, rfl⟩
 have hb1 : bys s1 = unsg (bys s) := by rw [hs1, jeW]
 have hul := jf9 (bys s)
 have hl1 : (bys s1).length ≤ 1000 := by rw [hb1]; omega
 obtain ⟨f, hf⟩ : ∃ f, f = ndig (bys s1) := ⟨_, rfl⟩
 have hfl : f ≤ (bys s1).length := by rw [hf]; exact je9 _
 obtain ⟨s2, hs2⟩ : ∃ s2, s2 = jbw s1 f := ⟨_, rfl⟩
 have hb2 : bys s2 = (bys s1).drop f := by rw [hs2, jc6]
 have hl2 : (bys s2).length ≤ 1000 := by rw [hb2, List.length_drop]; omega
 have hr : jdg (bys s) = (let dot := jdD (bys s2); let b := bif dot then ndig (bys s2).tail else 0; let l := bif dot then (bys s2).tail.drop b else bys s2; if f + b = 0 then false else jbT dot l) := by
  unfold jdg
  rw [hb2, hf, hb1]
 rw [hr]
 have u1 : ∀ g (μ : Mem), 20 ≤ g → aFun pZ (jao pZ X S0 g) 124 [.string s] μ = some (.string s1, μ) := fun g μ hg => by rw [hs1]; exact jeV hg
 have d1 : ∀ g (μ : Mem), 1100 ≤ g → aFun pZ (jao pZ X S0 g) 125 [.string s1] μ = some (.int .i64 (.ofNat f), μ) := fun g μ hg => by rw [hf]; exact jfm hl1 hg
 have sl1 : ∀ (r : Rg) (x y : Operand), aev pZ r x = .string s1 → aev pZ r y = .int .i64 (.ofNat f) → jbg pZ (aev pZ r) 9 x (some y) none none = some (.string s2) := fun r x y h1 h2 => by rw [hs2]; exact jb9 h1 h2 hfl
 have ls2 := ja6 s2
 have key : EndsF (aFun pZ (jao pZ X S0 (k + 1300)) 103 [.string s] μ) fun v μ' => v = .bool (let dot := jdD (bys s2); let b := bif dot then ndig (bys s2).tail else 0; let l := bif dot then (bys s2).tail.drop b else bys s2; if f + b = 0 then false else jbT dot l) ∧ ∃ c, μ' = ⟨μ.obs, μ.next + c⟩ := by
  refine jaj Tryz.func103 rfl rfl (nbl rfl) ?_
  simp only [go_sem, Tryz.ntmps103]
  change EndsC (jao pZ X S0 _ (jaB Tryz.f103) _ _) _
  rw [sr0]
  repeat (first | refine jab rfl ?_ | (refine jac rfl ?_; (try simp only [go_sem, gg124, u1, gg125, d1, Nat.reduceLeDiff, sl1]); fail_if_success refine ifC ?_))
  have fin : ∀ (dot b : Bool) {x : Ax} {r : Rg} {μ1 μ' : Mem} (c : Nat), μ1 = ⟨μ.obs, μ.next + c⟩ → FinR2 b μ1 x r μ' → retQ pZ Tryz.f103 (fun v μ' => v = .bool b ∧ ∃ c, μ' = ⟨μ.obs, μ.next + c⟩) x r μ' := by
   rintro dot b x r μ1 μ' c rfl ⟨rfl, ⟨c2, rfl⟩, tm, rfl, h2⟩
   refine ⟨rfl, _, ?_, rfl, c + c2, by rw [← Nat.add_assoc]⟩
   simp only [go_sem, Tryz.results103]
   rw [h2]
  have fz : ∀ (dot : Bool) (s3 : ByteArray) (q : Nat), (bys s3).length ≤ 1000 → ∀ {k : Nat} {tm : T Value}, jam tm 0 = .string s3 → jam tm 5 = .bool dot → EndsC (jao pZ X S0 (k + 1200) (ja0 7 (jaB Tryz.f103)) ⟨63, tm, [], none⟩ ⟨μ.obs, μ.next + q⟩) (retQ pZ Tryz.f103 (fun v μ' => v = .bool (jbT dot (bys s3)) ∧ ∃ c, μ' = ⟨μ.obs, μ.next + c⟩)) := fun dot s3 q h3 k tm h0 h5 => by
   refine EndsC.mono (rt7 h3 dot h0 h5) ?_
   intro x r μ' hx
   exact fin dot _ q rfl hx
  have a0 : jax .i64 (Int.add (.ofNat f) 0) = .ofNat f := jaV f 0 (by omega)
  cases h2 : bys s2 with
  | nil =>
    have e1 : ilt 0 (.ofNat (bys s2).length) = false := (jat 0 _).trans (decide_eq_false (by rw [h2]; decide))
    have e : (let dot := jdD ([] : List Nat); let b := bif dot then ndig ([] : List Nat).tail else 0; let l := bif dot then ([] : List Nat).tail.drop b else []; if f + b = 0 then false else jbT dot l) = (if f = 0 then false else jbT false (bys s2)) := by rw [h2]; rfl
    rw [e, sr4]
    refine jag ?_
    refine jaG (n := 10) (ms := [0, 1, 3, 7, 15, 31, 63, 127, 15, 511]) (ord := [0, 1, 2, 3, 4, 5, 6, 7, 8, 9]) (ds := ?_) ?_ ?_ ?_ ?_ ?_ ?_
    rotate_left
    ·kernel_rfl
    ·kernel_rfl
    ·kernel_rfl
    ·rfl
    ·rfl
    iterate 4 (refine jar (by first | rfl | (simp only [go_sem, undef, jaa, ls2, jae, e1])) (by simp only [jav, heavy, jaI, jaq, go_sem, undef, jaa, ls2, jae, e1]; try exact rfl) rfl ?_)
    iterate 3 (refine jaA (by simp only [go_sem, undef, jaa, ls2, jae, e1]) rfl ?_)
    iterate 3 (refine jar (by first | rfl | (simp only [go_sem, undef, jaa, ls2, jae, e1])) (by simp only [jav, heavy, jaI, jaq, go_sem, undef, jaa, ls2, jae, e1]; try exact rfl) rfl ?_)
    simp only [dRun, jay, jak]
    by_cases f0 : f = 0
    ·have z1 : ieq (.ofNat f) 0 = true := (jaQ _ 0 0 rfl).trans (decide_eq_true f0)
     rw [if_pos f0]
     repeat (first | refine jab rfl ?_ | (refine jac rfl ?_; (try simp only [go_sem, a0, z1]); fail_if_success refine ifC ?_))
     refine jah ?_
     refine ⟨rfl, _, ?_, rfl, 10, rfl⟩
     simp only [go_sem, Tryz.results103]
    ·have z1 : ieq (.ofNat f) 0 = false := (jaQ _ 0 0 rfl).trans (decide_eq_false f0)
     rw [if_neg f0]
     repeat (first | refine jab rfl ?_ | (refine jac rfl ?_; (try simp only [go_sem, a0, z1]); fail_if_success refine ifC ?_))
     exact fz false s2 10 hl2 (k := k + 93) (by simp only [go_sem]) (by simp only [go_sem])
  | cons c l =>
    have e1 : ilt 0 (.ofNat (bys s2).length) = true := (jat 0 _).trans (decide_eq_true (by rw [h2]; exact Nat.succ_pos _))
    have hx : ∀ (r : Rg) (x : Operand), aev pZ r x = .string s2 → ja3 pZ (aev pZ r) 9 x (.const (.int .i64 0)) = some (.int .u8 (.ofNat c)) := fun r x h1 => at0 (kd := .i64) h2 h1 rfl
    by_cases hc : c = 46
    rotate_left
    ·have e2 : ieq (.ofNat c) 46 = false := (jaQ _ 46 46 rfl).trans (decide_eq_false hc)
     have hd : jdD (c :: l) = false := decide_eq_false hc
     have e : (let dot := jdD (c :: l); let b := bif dot then ndig (c :: l).tail else 0; let l := bif dot then (c :: l).tail.drop b else c :: l; if f + b = 0 then false else jbT dot l) = (if f = 0 then false else jbT false (bys s2)) := by rw [h2, hd]; rfl
     rw [e, sr4]
     refine jag ?_
     refine jaG (n := 10) (ms := [0, 1, 3, 7, 15, 31, 63, 127, 15, 511]) (ord := [0, 1, 2, 3, 4, 5, 6, 7, 8, 9]) (ds := ?_) ?_ ?_ ?_ ?_ ?_ ?_
     rotate_left
     ·kernel_rfl
     ·kernel_rfl
     ·kernel_rfl
     ·rfl
     ·rfl
     iterate 10 (refine jar (by first | rfl | (simp only [go_sem, undef, jaa, ls2, jae, e1, hx, e2])) (by simp only [jav, heavy, jaI, jaq, go_sem, undef, jaa, ls2, jae, e1, hx, e2]; try exact rfl) rfl ?_)
     simp only [dRun, jay, jak]
     by_cases f0 : f = 0
     ·have z1 : ieq (.ofNat f) 0 = true := (jaQ _ 0 0 rfl).trans (decide_eq_true f0)
      rw [if_pos f0]
      repeat (first | refine jab rfl ?_ | (refine jac rfl ?_; (try simp only [go_sem, a0, z1]); fail_if_success refine ifC ?_))
      refine jah ?_
      refine ⟨rfl, _, ?_, rfl, 10, rfl⟩
      simp only [go_sem, Tryz.results103]
     ·have z1 : ieq (.ofNat f) 0 = false := (jaQ _ 0 0 rfl).trans (decide_eq_false f0)
      rw [if_neg f0]
      repeat (first | refine jab rfl ?_ | (refine jac rfl ?_; (try simp only [go_sem, a0, z1]); fail_if_success refine ifC ?_))
      exact fz false s2 10 hl2 (k := k + 93) (by simp only [go_sem]) (by simp only [go_sem])
    ·have e2 : ieq (.ofNat c) 46 = true := (jaQ _ 46 46 rfl).trans (decide_eq_true hc)
     have hd : jdD (c :: l) = true := decide_eq_true hc
     have hll : l.length ≤ 999 := by have := hl2; rw [h2] at this; simp at this; omega
     obtain ⟨b, hb⟩ : ∃ b, b = ndig l := ⟨_, rfl⟩
     have hbl : b ≤ l.length := by rw [hb]; exact je9 l
     have ht : bys (jbw s2 1) = l := by rw [jc6, h2]; rfl
     obtain ⟨s3, hs3⟩ : ∃ s3, s3 = jbw s2 (b + 1) := ⟨_, rfl⟩
     have hb3 : bys s3 = l.drop b := by rw [hs3, jc6, h2]; rfl
     have e : (let dot := jdD (c :: l); let b := bif dot then ndig (c :: l).tail else 0; let l := bif dot then (c :: l).tail.drop b else c :: l; if f + b = 0 then false else jbT dot l) = (if f + b = 0 then false else jbT true (bys s3)) := by rw [hb3, hd, hb]; rfl
     have d2 : ∀ g (μ : Mem), 1100 ≤ g → aFun pZ (jao pZ X S0 g) 125 [.string (jbw s2 1)] μ = some (.int .i64 (.ofNat b), μ) := fun g μ hg => by rw [hb, ← ht]; exact jfm (by rw [ht]; omega) hg
     have sl2 : ∀ (r : Rg) (x : Operand), aev pZ r x = .string s2 → jbg pZ (aev pZ r) 9 x (some (.const (.int .i64 1))) none none = some (.string (jbw s2 1)) := fun r x h1 => jb9 (k := 1) (kd := .i64) h1 rfl (by rw [h2]; exact Nat.succ_le_succ (Nat.zero_le _))
     have sl3 : ∀ (r : Rg) (x y : Operand), aev pZ r x = .string s2 → aev pZ r y = .int .i64 (.ofNat (b + 1)) → jbg pZ (aev pZ r) 9 x (some y) none none = some (.string s3) := fun r x y h1 g2 => by rw [hs3]; exact jb9 h1 g2 (by rw [h2]; simp; omega)
     have q1 : jax .i64 (Int.add (.ofNat b) 1) = .ofNat (b + 1) := jaV b 1 (by omega)
     have q2 : jax .i64 (Int.add (.ofNat f) (.ofNat b)) = .ofNat (f + b) := jaV f b (by omega)
     rw [e, sr4]
     refine jag ?_
     refine jaG (n := 10) (ms := [0, 1, 3, 7, 15, 31, 63, 127, 15, 511]) (ord := [0, 1, 2, 3, 4, 5, 6, 7, 8, 9]) (ds := ?_) ?_ ?_ ?_ ?_ ?_ ?_
     rotate_left
     ·kernel_rfl
     ·kernel_rfl
     ·kernel_rfl
     ·rfl
     ·rfl
     iterate 10 (refine jar (by first | rfl | (simp only [go_sem, undef, jaa, ls2, jae, e1, hx, e2])) (by simp only [jav, heavy, jaI, jaq, go_sem, undef, jaa, ls2, jae, e1, hx, e2]; try exact rfl) rfl ?_)
     simp only [dRun, jay, jak]
     by_cases f0 : f + b = 0
     ·have z1 : ieq (.ofNat (f + b)) 0 = true := (jaQ _ 0 0 rfl).trans (decide_eq_true f0)
      rw [if_pos f0]
      repeat (first | refine jab rfl ?_ | (refine jac rfl ?_; (try simp only [go_sem, sl2, gg125, d2, Nat.reduceLeDiff, sl3, q1, q2, z1]); fail_if_success refine ifC ?_))
      refine jah ?_
      refine ⟨rfl, _, ?_, rfl, 10, rfl⟩
      simp only [go_sem, Tryz.results103]
     ·have z1 : ieq (.ofNat (f + b)) 0 = false := (jaQ _ 0 0 rfl).trans (decide_eq_false f0)
      rw [if_neg f0]
      repeat (first | refine jab rfl ?_ | (refine jac rfl ?_; (try simp only [go_sem, sl2, gg125, d2, Nat.reduceLeDiff, sl3, q1, q2, z1]); fail_if_success refine ifC ?_))
      exact fz true s3 10 (by rw [hb3, List.length_drop]; omega) (k := k + 93) (by simp only [go_sem]) (by simp only [go_sem])
 obtain ⟨v, μ', h1, rfl, c, rfl⟩ := key
 exact ⟨c, h1⟩
end
noncomputable section
open Go.Proofs.YtnafmgiaifbhgaaGreatDoor.NumText (form next more run jfT)
end
noncomputable section
open Go.Proofs.YtnafmgiaifbhgaaGreatDoor.NumText (form next more run jfT)
end
noncomputable section
section
set_option linter.defProp false
variable {X : XT} {ev : Code → Rg → Mem → Option (Ax × Rg × Mem)}
def gg45 := go_call (P := pZ) (X := X) (ev := ev) (S := S0) Tryz.func45 rfl rfl
def gg66 := go_call (P := pZ) (X := X) (ev := ev) (S := S0) Tryz.func66 rfl rfl
end
theorem g_plain {c : Nat} (hc : c < 256) {X : XT} {ev : Code → Rg → Mem → Option (Ax × Rg × Mem)} (μ : Mem) : aGo pZ X (jbL pZ ev S0) 65 [.int .u8 (.ofNat c)] μ = some (.bool (plainL.contains c), μ) :=
 (jcf Tryz.func65 rfl).trans (jjH (f := fP) rfl (by show (if c < 256 then _ else _) = _; rw [if_pos hc]) rfl rfl)
def dotS : ByteArray := ⟨List.toArray [46]⟩
def Head (s : ByteArray) : Prop := 1 ≤ (bys s).length ∧ (bys s).length ≤ 40 ∧ s ≠ dotS
def jeS (s : ByteArray) : Prop := ∀ c ∈ bys s, plainL.contains c = true
theorem str_eq (a b : ByteArray) : aStr .eql a b = some (.bool (decide (a = b))) := by
 unfold aStr
 simp only [jgu]
theorem pn_loop {s : ByteArray} (hl : (bys s).length ≤ 1000) : ∀ (m i : Nat), i + m = (bys s).length → ∀ {X : XT} {e : Nat} {tm : T Value} {μ : Mem}, jam tm 0 = .string s → jam tm 2 = .bool false → jam tm 20 = .int .i64 (.ofNat i) → jam tm 19 = .int .i64 (.ofNat (bys s).length) →
  EndsC (jao pZ X S0 (e + m + 30) (.loop (jaR Tryz.f45 0)) ⟨36, tm, [], none⟩ μ) fun x r μ' => μ' = μ ∧ ∃ tm', r = ⟨36, tm', [], none⟩ ∧ jam tm' 0 = .string s ∧ jam tm' 2 = .bool false ∧ (((∀ c ∈ (bys s).drop i, plainL.contains c = true) ∧ x = .exit 0) ∨ ((∃ c ∈ (bys s).drop i, plainL.contains c = false) ∧ x = .ret)) := by
 have ls := ja6 s
 intro m
 induction m with
 | zero =>
   intro i hi X e tm μ h0 h2 h3 h19
   have hi : i = (bys s).length := hi
   have e1 : ilt (.ofNat i) (.ofNat (bys s).length) = false := (jat _ _).trans (decide_eq_false (by omega))
   refine jan ?_
   repeat (first | refine jab rfl ?_ | (refine jac rfl ?_; (try simp only [go_sem, h0, h2, h3, h19, jaa, ls, jae, e1]); fail_if_success refine ifC ?_))
   exact ⟨by trivial, _, rfl, by simp only [go_sem, h0], by simp only [go_sem, h2],   .inl ⟨(by rw [hi, List.drop_length]; intro c hc; cases hc), by trivial⟩⟩
 | succ m ih =>
   intro i hi X e tm μ h0 h2 h3 h19
   have hlt : i < (bys s).length := by omega
   have hdr : (bys s).drop i = (bys s)[i]'hlt :: (bys s).drop (i + 1) := List.drop_eq_getElem_cons hlt
   obtain ⟨c, hc⟩ : ∃ c, c = (bys s)[i]'hlt := ⟨_, rfl⟩
   have hc256 : c < 256 := by rw [hc]; exact byte_lt (List.getElem_mem hlt)
   rw [← hc] at hdr
   have hx : ∀ (r : Rg) (x y : Operand), aev pZ r x = .string s → aev pZ r y = .int .i64 (.ofNat i) → ja3 pZ (aev pZ r) 9 x y = some (.int .u8 (.ofNat c)) := fun r x y h1 h2 => by rw [hc]; exact jbU hlt h1 h2
   have e1 : ilt (.ofNat i) (.ofNat (bys s).length) = true := (jat _ _).trans (decide_eq_true hlt)
   have a1 : jax .i64 (Int.add (.ofNat i) 1) = .ofNat (i + 1) := jaV i 1 (by omega)
   have gp := fun (X : XT) (ev : Code → Rg → Mem → Option (Ax × Rg × Mem)) (μ : Mem) => g_plain hc256 (X := X) (ev := ev) μ
   clear hc
   rw [hdr]
   cases hp : plainL.contains c with
   | false =>
     rw [hp] at gp
     refine jan ?_
     repeat (first | refine jab rfl ?_ | (refine jac rfl ?_; (try simp only [go_sem, h0, h2, h3, h19, jaa, ls, jae, e1, hx, gp]); fail_if_success refine ifC ?_))
     refine jah ?_
     exact ⟨by trivial, _, rfl, by simp only [go_sem, h0], by simp only [go_sem, h2], .inr ⟨⟨c, List.mem_cons_self, hp⟩, by trivial⟩⟩
   | true =>
     rw [hp] at gp
     refine jan ?_
     repeat (first | refine jab rfl ?_ | (refine jac rfl ?_; (try simp only [go_sem, h0, h2, h3, h19, jaa, ls, jae, e1, hx, gp, a1]); fail_if_success refine ifC ?_))
     rw [show e + (m + 1) + 29 = e + m + 30 from by omega]
     refine EndsC.mono (ih (i + 1) (by omega) (by simp only [go_sem, h0]) (by simp only [go_sem, h2]) (by simp only [go_sem]) (by simp only [go_sem, h19])) ?_
     rintro x r μ' ⟨g1, tm', g2, g3, g4, g5⟩
     refine ⟨g1, tm', g2, g3, g4, ?_⟩
     rcases g5 with ⟨g5, g6⟩ | ⟨⟨d, g5, g6⟩, g7⟩
     ·exact .inl ⟨fun d hd => by
       rcases List.mem_cons.1 hd with rfl | hd
       ·exact hp
       ·exact g5 d hd, g6⟩
     ·exact .inr ⟨⟨d, List.mem_cons_of_mem _ g5, g6⟩, g7⟩
theorem pn_no {s : ByteArray} (h : ¬ (Head s ∧ jeS s)) {X : XT} {g : Nat} {μ : Mem} (hg : 200 ≤ g) : aFun pZ (jao pZ X S0 g) 45 [.string s] μ = some (.bool false, μ) := by
 obtain ⟨k, rfl⟩ := gle hg
 have ls := ja6 s
 refine jaN ?_
 by_cases z : (bys s).length = 0
 ·have e1 : ieq (.ofNat (bys s).length) 0 = true := (jaQ _ 0 0 rfl).trans (decide_eq_true z)
  refine jaj Tryz.func45 rfl rfl (nbl rfl) ?_
  simp only [go_sem, Tryz.ntmps45]
  refine jag ?_
  refine jaw ?_ ?_
  ·rfl
  simp only [go_sem]
  refine jag ?_
  refine jag ?_
  refine jad rfl ?_
  (repeat (first | (refine jai ?_ rfl ?_; (solve | simp only [go_sem, undef, jaa, ls, jae, e1])) | (refine jaf (v := ?_) (μ' := ?_) ?_ ?_ rfl ?_; rotate_left 2; (solve | rfl | simp only [go_sem, undef, jaa, ls, jae, e1]); (solve | simp only [go_sem, undef, jaa, ls, jae, e1]; try exact rfl))))
  simp only [go_sem]
  repeat (first | refine jab rfl ?_ | (refine jac rfl ?_; (try simp only [go_sem]); fail_if_success refine ifC ?_))
  refine jah ?_
  refine ⟨rfl, _, ?_, rfl, rfl⟩
  simp only [go_sem, Tryz.results45]
 have e1 : ieq (.ofNat (bys s).length) 0 = false := (jaQ _ 0 0 rfl).trans (decide_eq_false z)
 by_cases z2 : 40 < (bys s).length
 ·have e2 : ilt 40 (.ofNat (bys s).length) = true := (jat 40 _).trans (decide_eq_true z2)
  refine jaj Tryz.func45 rfl rfl (nbl rfl) ?_
  simp only [go_sem, Tryz.ntmps45]
  refine jag ?_
  refine jaw ?_ ?_
  ·rfl
  simp only [go_sem]
  refine jag ?_
  refine jag ?_
  refine jad rfl ?_
  (repeat (first | (refine jai ?_ rfl ?_; (solve | simp only [go_sem, undef, jaa, ls, jae, e1, e2])) | (refine jaf (v := ?_) (μ' := ?_) ?_ ?_ rfl ?_; rotate_left 2; (solve | rfl | simp only [go_sem, undef, jaa, ls, jae, e1, e2]); (solve | simp only [go_sem, undef, jaa, ls, jae, e1, e2]; try exact rfl))))
  simp only [go_sem]
  repeat (first | refine jab rfl ?_ | (refine jac rfl ?_; (try simp only [go_sem]); fail_if_success refine ifC ?_))
  refine jah ?_
  refine ⟨rfl, _, ?_, rfl, rfl⟩
  simp only [go_sem, Tryz.results45]
 have e2 : ilt 40 (.ofNat (bys s).length) = false := (jat 40 _).trans (decide_eq_false z2)
 by_cases z3 : s = dotS
 ·have e3 : aStr .eql s ⟨List.toArray [46]⟩ = some (.bool true) := (str_eq s dotS).trans (by rw [decide_eq_true z3])
  refine jaj Tryz.func45 rfl rfl (nbl rfl) ?_
  simp only [go_sem, Tryz.ntmps45]
  refine jag ?_
  refine jaw ?_ ?_
  ·rfl
  simp only [go_sem]
  refine jag ?_
  refine jag ?_
  refine jad rfl ?_
  iterate 12 (refine jaf (by first | rfl | (simp only [go_sem, undef, jaa, ls, jae, e1, e2, e3])) (by simp only [go_sem, undef, jaa, ls, jae, e1, e2, e3]; try exact rfl) rfl ?_)
  simp only [go_sem]
  repeat (first | refine jab rfl ?_ | (refine jac rfl ?_; (try simp only [go_sem]); fail_if_success refine ifC ?_))
  refine jah ?_
  refine ⟨rfl, _, ?_, rfl, rfl⟩
  simp only [go_sem, Tryz.results45]
 have e3 : aStr .eql s ⟨List.toArray [46]⟩ = some (.bool false) := (str_eq s dotS).trans (by rw [decide_eq_false z3])
 have hp : ¬ jeS s := fun hp => h ⟨⟨by omega, by omega, z3⟩, hp⟩
 refine jaj Tryz.func45 rfl rfl (nbl rfl) ?_
 simp only [go_sem, Tryz.ntmps45]
 refine jag ?_
 refine jaw ?_ ?_
 ·rfl
 simp only [go_sem]
 refine jag ?_
 refine jag ?_
 refine jad rfl ?_
 iterate 12 (refine jaf (by first | rfl | (simp only [go_sem, undef, jaa, ls, jae, e1, e2, e3])) (by simp only [go_sem, undef, jaa, ls, jae, e1, e2, e3]; try exact rfl) rfl ?_)
 simp only [go_sem]
 repeat (first | refine jab rfl ?_ | (refine jac rfl ?_; (try simp only [go_sem, jaa, ls, jae]); fail_if_success refine ifC ?_))
 rw [show k + 195 = (k + 165 - (bys s).length) + (bys s).length + 30 from by omega]
 refine EndsC.mono (pn_loop (by omega) (bys s).length 0 (Nat.zero_add _) (by simp only [go_sem]) (by simp only [go_sem]) (by simp only [go_sem]; try rfl) (by simp only [go_sem])) ?_
 rintro x r μ' ⟨rfl, tm', rfl, h0, h2, h5⟩
 rcases h5 with ⟨h5, -⟩ | ⟨-, rfl⟩
 ·exact absurd h5 hp
 ·simp only [jaX]
  refine ⟨rfl, _, ?_, rfl, rfl⟩
  simp only [go_sem, Tryz.results45]
  rw [h2]
end
noncomputable section
open Go.Proofs.YtnafmgiaifbhgaaGreatDoor.NumText (dig isE isS form next run jdg jfT)
section
set_option linter.defProp false
variable {X : XT} {ev : Code → Rg → Mem → Option (Ax × Rg × Mem)}
def gg102 := go_call (P := pZ) (X := X) (ev := ev) (S := S0) Tryz.func102 rfl rfl
def gg82 := go_call (P := pZ) (X := X) (ev := ev) (S := S0) Tryz.func82 rfl rfl
end
theorem next_x (st : Nat) : next st 120 = 9 := by
 unfold NumText.next
 repeat (first | rfl | split)
 all_goals (first | rfl | omega)
theorem run_forms : ∀ (l : List Nat) (st p : Nat), run st p l = true → ∀ c ∈ l, form c ≠ 120 := by
 intro l
 induction l with
 | nil => intro st p _ c hc; cases hc
 | cons d l ih =>
   intro st p h c hc
   rw [NumText.run] at h
   by_cases hd : form d = 120
   ·rw [hd, next_x, NumText.run9] at h; cases h
   ·rcases List.mem_cons.1 hc with rfl | hc
    ·exact hd
    ·exact ih _ _ h c hc
theorem form_nums {c : Nat} (h : form c ≠ 120) : c ∈ nums := by
 have hc : c = 43 ∨ c = 45 ∨ c = 46 ∨ (48 ≤ c ∧ c ≤ 57) ∨ c = 69 ∨ c = 101 := by
  refine Decidable.by_contra fun hn => h ?_
  refine NumText.form_x ?_ ?_ ?_ ?_
  ·simp only [dig, Bool.and_eq_false_iff, decide_eq_false_iff_not]; omega
  ·simp only [isS, Bool.or_eq_false_iff, decide_eq_false_iff_not]; omega
  ·omega
  ·simp only [isE, Bool.or_eq_false_iff, decide_eq_false_iff_not]; omega
 have h2 : ∀ c, c < 128 → c = 43 ∨ c = 45 ∨ c = 46 ∨ (48 ≤ c ∧ c ≤ 57) ∨ c = 69 ∨ c = 101 → c ∈ nums := by decide
 exact h2 c (by omega) hc
theorem ji9 {s : ByteArray} (h : jdg (bys s) = true) : (∀ c ∈ bys s, c ∈ nums) ∧ 0 < (bys s).length := by
 have h2 : jfT (bys s) = true := by rw [← NumText.right_eq]; exact h
 refine ⟨fun c hc => form_nums (run_forms _ _ _ h2 c hc), ?_⟩
 cases hb : bys s with
 | nil => rw [hb] at h2; cases h2
 | cons c l => exact Nat.succ_pos _
def jb1 (X : XT) : Prop := ∀ (n : Nat) μ, n < 18446744073709551616 → X 85 [.int .u64 (.ofNat n)] μ = some (.float .f64 n, μ)
theorem jh1 {X : XT} {ev : Code → Rg → Mem → Option (Ax × Rg × Mem)} (args : List Value) (μ : Mem) : aGo pZ X (jbL pZ ev S0) 85 args μ = X 85 args μ := by
 unfold aGo
 simp only [Tryz.func85]
 rfl
def nanS : ByteArray := ⟨List.toArray [43, 110, 97, 110, 46, 48]⟩
def infS : ByteArray := ⟨List.toArray [43, 105, 110, 102, 46, 48]⟩
def ninS : ByteArray := ⟨List.toArray [45, 105, 110, 102, 46, 48]⟩
def named (s : ByteArray) : Bool := decide (s = nanS) || decide (s = infS) || decide (s = ninS)
def jgl (s : ByteArray) : Bool := named s || jdg (bys s)
theorem jhJ (a b : ByteArray) : aStr .eql a b = some (.bool (decide (a = b))) := by
 unfold aStr
 simp only [jgu]
theorem inf_ex {X : XT} {g : Nat} {μ : Mem} (hX : jb1 X) (hg : 20 ≤ g) : aFun pZ (jao pZ X S0 g) 102 [.int .i64 1] μ = some (.float .f64 9218868437227405312, μ) ∧ aFun pZ (jao pZ X S0 g) 102 [.int .i64 (-1)] μ = some (.float .f64 18442240474082181120, μ) := by
 obtain ⟨k, rfl⟩ := gle hg
 have e1 : ilt 1 0 = false := rfl
 have e2 : ilt (-1) 0 = true := rfl
 have x1 : ∀ μ, X 85 [.int .u64 9218868437227405312] μ = some (.float .f64 9218868437227405312, μ) := fun μ => hX 9218868437227405312 μ (by decide)
 have x2 : ∀ μ, X 85 [.int .u64 18442240474082181120] μ = some (.float .f64 18442240474082181120, μ) := fun μ => hX 18442240474082181120 μ (by decide)
 constructor
 ·refine jaN ?_
  refine jaj Tryz.func102 rfl rfl (nbl rfl) ?_
  simp only [go_sem, Tryz.ntmps102]
  repeat (first | refine jab rfl ?_ | (refine jac rfl ?_; (try simp only [go_sem, e1, jh1, x1]); fail_if_success refine ifC ?_))
  refine jah ?_
  refine ⟨rfl, _, ?_, rfl, rfl⟩
  simp only [go_sem, Tryz.results102]
 ·refine jaN ?_
  refine jaj Tryz.func102 rfl rfl (nbl rfl) ?_
  simp only [go_sem, Tryz.ntmps102]
  repeat (first | refine jab rfl ?_ | (refine jac rfl ?_; (try simp only [go_sem, e2, jh1, x2]); fail_if_success refine ifC ?_))
  refine jah ?_
  refine ⟨rfl, _, ?_, rfl, rfl⟩
  simp only [go_sem, Tryz.results102]
theorem flo_ex {s : ByteArray} (hl : (bys s).length ≤ 700) {X : XT} {g : Nat} {μ : Mem} (hX : jbs X) (hX2 : jb1 X) (hL : Lay μ) (hg : 14100 ≤ g) : ∃ f μ', aFun pZ (jao pZ X S0 g) 82 [.string s] μ = some (.tuple #[.float .f64 f, .int .i64 (if jgl s then 0 else 31)], μ') ∧ Grow μ μ' := by
 obtain ⟨k, rfl⟩ := gle hg
 have ls := ja6 s
 have s1 : aStr .eql s ⟨List.toArray [43, 110, 97, 110, 46, 48]⟩ = some (.bool (decide (s = nanS))) := jhJ s nanS
 have s2 : aStr .eql s ⟨List.toArray [43, 105, 110, 102, 46, 48]⟩ = some (.bool (decide (s = infS))) := jhJ s infS
 have s3 : aStr .eql s ⟨List.toArray [45, 105, 110, 102, 46, 48]⟩ = some (.bool (decide (s = ninS))) := jhJ s ninS
 have x0 : ∀ μ, X 85 [.int .u64 9221120237041090561] μ = some (.float .f64 9221120237041090561, μ) := fun μ => hX2 9221120237041090561 μ (by decide)
 have i1 : ∀ g (μ : Mem), 20 ≤ g → aFun pZ (jao pZ X S0 g) 102 [.int .i64 1] μ = some (.float .f64 9218868437227405312, μ) := fun g μ h => (inf_ex hX2 h).1
 have i2 : ∀ g (μ : Mem), 20 ≤ g → aFun pZ (jao pZ X S0 g) 102 [.int .i64 (-1)] μ = some (.float .f64 18442240474082181120, μ) := fun g μ h => (inf_ex hX2 h).2
 have e7 : ilt 700 (.ofNat (bys s).length) = false := (jat 700 _).trans (decide_eq_false (by omega))
 have key : EndsF (aFun pZ (jao pZ X S0 (k + 14100)) 82 [.string s] μ) fun v μ' => ∃ f, v = .tuple #[.float .f64 f, .int .i64 (if jgl s then 0 else 31)] ∧ Grow μ μ' := by
  unfold jgl named
  by_cases h1 : s = nanS
  ·rw [decide_eq_true h1] at s1 ⊢
   refine jaj Tryz.func82 rfl rfl (nbl rfl) ?_
   simp only [go_sem, Tryz.ntmps82]
   repeat (first | refine jab rfl ?_ | (refine jac rfl ?_; (try simp only [go_sem, s1, jh1, x0]); fail_if_success refine ifC ?_))
   refine jah ?_
   refine ⟨rfl, .tuple #[.float .f64 9221120237041090561, .int .i64 0], ?_, 9221120237041090561, rfl, Grow.refl _⟩
   simp only [go_sem, Tryz.results82]
  rw [decide_eq_false h1] at s1 ⊢
  by_cases h2 : s = infS
  ·rw [decide_eq_true h2] at s2 ⊢
   refine jaj Tryz.func82 rfl rfl (nbl rfl) ?_
   simp only [go_sem, Tryz.ntmps82]
   repeat (first | refine jab rfl ?_ | (refine jac rfl ?_; (try simp only [go_sem, s1, s2, gg102, i1, Nat.reduceLeDiff]); fail_if_success refine ifC ?_))
   refine jah ?_
   refine ⟨rfl, .tuple #[.float .f64 9218868437227405312, .int .i64 0], ?_, 9218868437227405312, rfl, Grow.refl _⟩
   simp only [go_sem, Tryz.results82]
  rw [decide_eq_false h2] at s2 ⊢
  by_cases h3 : s = ninS
  ·rw [decide_eq_true h3] at s3 ⊢
   refine jaj Tryz.func82 rfl rfl (nbl rfl) ?_
   simp only [go_sem, Tryz.ntmps82]
   repeat (first | refine jab rfl ?_ | (refine jac rfl ?_; (try simp only [go_sem, s1, s2, s3, gg102, i2, Nat.reduceLeDiff]); fail_if_success refine ifC ?_))
   refine jah ?_
   refine ⟨rfl, .tuple #[.float .f64 18442240474082181120, .int .i64 0], ?_, 18442240474082181120, rfl, Grow.refl _⟩
   simp only [go_sem, Tryz.results82]
  rw [decide_eq_false h3] at s3 ⊢
  obtain ⟨c, hr⟩ := jh4 (s := s) (X := X) (g := k + 14095) (μ := μ) (by omega) (by omega)
  cases hb : jdg (bys s) with
  | false =>
    rw [hb] at hr
    refine jaj Tryz.func82 rfl rfl (nbl rfl) ?_
    simp only [go_sem, Tryz.ntmps82]
    repeat (first | refine jab rfl ?_ | (refine jac rfl ?_; (try simp only [go_sem, s1, s2, s3, jaa, ls, jae, e7, gg103, hr]); fail_if_success refine ifC ?_))
    refine jah ?_
    refine ⟨rfl, .tuple #[.float .f64 0, .int .i64 31], ?_, 0, rfl, jb7 _ _⟩
    simp only [go_sem, Tryz.results82]
  | true =>
    rw [hb] at hr
    obtain ⟨n1, n2⟩ := ji9 hb
    obtain ⟨f, hpf⟩ := parseF_ex n1 (by omega) n2
    obtain ⟨w, μ2, hr2, hw, hG⟩ := hpf (X := X) (g := k + 14095) (μ := ⟨μ.obs, μ.next + c⟩) hX (hL.grow (jb7 _ _)) (by omega)
    refine jaj Tryz.func82 rfl rfl (nbl rfl) ?_
    simp only [go_sem, Tryz.ntmps82]
    repeat (first | refine jab rfl ?_ | (refine jac rfl ?_; (try simp only [go_sem, s1, s2, s3, jaa, ls, jae, e7, gg103, hr, gg104, hr2]); fail_if_success refine ifC ?_))
    refine jah ?_
    refine ⟨rfl, .tuple #[.float .f64 f, .int .i64 0], ?_, f, rfl, (jb7 _ _).trans hG⟩
    simp only [go_sem, Tryz.results82]
 obtain ⟨v, μ', h1, f, rfl, h2⟩ := key
 exact ⟨f, μ', h1, h2⟩
end
end Go.Proofs.YtnafmgiaifbhgaaGreatDoor.dc
