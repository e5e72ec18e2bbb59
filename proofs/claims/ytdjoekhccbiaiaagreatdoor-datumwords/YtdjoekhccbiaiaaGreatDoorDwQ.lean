/-
  distafflaw05.DatumWords, part Q: its walk and its law. No conditions.
-/
import Derived.Test.YtdjoekhccbiaiaaGreatDoorDwP
set_option maxRecDepth 20000
set_option maxHeartbeats 8000000
set_option linter.unusedSimpArgs false
set_option linter.unusedVariables false
set_option linter.unusedSectionVars false
namespace Go.Proofs.YtdjoekhccbiaiaaGreatDoor.dw
open Go Go.Proofs Go.Proofs.YtdjoekhccbiaiaaGreatDoor Go.Proofs.YtdjoekhccbiaiaaGreatDoor.Ev
noncomputable section
open Go.Proofs.YtdjoekhccbiaiaaGreatDoor.DecM (val Dg low carry less Cheat sumL jh6 jgu shifted jgE jfe jfs)
section
set_option linter.defProp false
variable {X : XT} {ev : Code → Rg → Mem → Option (Ax × Rg × Mem)}
def jgH := go_call (P := Tryz.prog) (X := X) (ev := ev) (S := S0) Tryz.func196 rfl rfl
def gg206 := go_call (P := Tryz.prog) (X := X) (ev := ev) (S := S0) Tryz.func206 rfl rfl
def gg197 := go_call (P := Tryz.prog) (X := X) (ev := ev) (S := S0) Tryz.func197 rfl rfl
def jjM := go_call (P := Tryz.prog) (X := X) (ev := ev) (S := S0) Tryz.func198 rfl rfl
def jjL := go_call (P := Tryz.prog) (X := X) (ev := ev) (S := S0) Tryz.func199 rfl rfl
def jcQ := go_call (P := Tryz.prog) (X := X) (ev := ev) (S := S0) Tryz.func163 rfl rfl
def gg187 := go_call (P := Tryz.prog) (X := X) (ev := ev) (S := S0) Tryz.func187 rfl rfl
def jgJ := go_call (P := Tryz.prog) (X := X) (ev := ev) (S := S0) Tryz.func146 rfl rfl
def jjT := go_call (P := Tryz.prog) (X := X) (ev := ev) (S := S0) Tryz.func147 rfl rfl
end
def jaB (fn : Func) : Code := match fn.body with
 | some c => c
 | _ => .skip
def jaW : Nat → Code → Code
 | n + 1, .seq _ b => jaW n b
 | 0, .seq a _ => a
 | _, c => c
def ja1 : Nat → Code → Code
 | n + 1, .seq _ b => ja1 n b
 | _, c => c
theorem sl2 : jaB Tryz.f197 = .seq (jaW 0 (jaB Tryz.f197)) (.seq (jaW 1 (jaB Tryz.f197)) (ja1 2 (jaB Tryz.f197))) := by kernel_rfl
theorem ls_tail {D : Nat → Nat} {n k δ : Nat} {tr : Bool} (hD : Dg D n) (hn0 : 0 < n) (hn : n ≤ 800) (hk1 : 1 ≤ k) (hk : k ≤ 60) (h0 : 49 ≤ D 0) (hδ : δ ≤ 19) (hv1 : 10 ^ (n + δ - 1) ≤ val D n * 2 ^ k) (hv2 : val D n * 2 ^ k < 10 ^ (n + δ)) :
  ∃ (D' : Nat → Nat) (n' : Nat) (tr' : Bool), Dg D' n' ∧ 49 ≤ D' 0 ∧ 0 < n' ∧ n' ≤ 800 ∧ (δ = 0 → D 0 < D' 0) ∧ ∀ {X : XT} {e i : Nat} {tm : T Value} {μ : Mem} {dp : Int} {neg : Bool}, -1000000 < dp → dp < 1000000 → Dec μ i D n dp neg tr → jaq tm 0 = .pointer (some ⟨i, 0, none⟩) → jaq tm 1 = .int .u64 (.ofNat k) → jaq tm 4 = .int .i64 (.ofNat δ) →
  EndsC (jat Tryz.prog X S0 (e + 2000) (ja1 2 (jaB Tryz.f197)) ⟨137, tm, [], none⟩ μ) fun x r μ' => x = .normal ∧ Dec μ' i D' n' (dp + (δ : Int)) neg tr' ∧ Only μ μ' i ∧ ∃ tm', r = ⟨137, tm', [], none⟩ := by
 obtain ⟨c1, c2, c3⟩ := jgE hn0 hk1 hD h0 hv1 hv2
 obtain ⟨E1, tr1, b1, -, hlp1⟩ := ls1 (k := k) hD hn hk hδ n (Nat.le_refl _) D tr (fun _ _ => rfl)
 obtain ⟨E2, d1, d2, d3, hlp2⟩ := ls2 δ hδ (carry D k 0 n) c1 c2 E1
 have hdg : ∀ p, p < n + δ → p < 800 → 48 ≤ E2 p ∧ E2 p ≤ 57 := fun p hp hp8 => by
  by_cases hpd : p < δ
  ·exact d1 p hpd
  ·rw [d3 p (by omega)]
   have := b1 (p - δ) (by omega) (by omega)
   rw [show p - δ + δ = p from by omega] at this
   rw [this]; omega
 have hlead : 49 ≤ E2 0 ∧ (δ = 0 → D 0 < E2 0) := by
  by_cases hz : δ = 0
  ·subst hz
   have := b1 0 hn0 (by omega)
   rw [Nat.add_zero] at this
   have h3 := c3 rfl
   have hE : E2 0 = E1 0 := d3 0 (Nat.le_refl _)
   rw [hE, this]
   exact ⟨by omega, fun _ => h3⟩
  ·exact ⟨d2 (by omega), fun e => absurd e hz⟩
 obtain ⟨N, hN⟩ : ∃ N, N = (if n + δ < 800 then n + δ else 800) := ⟨_, rfl⟩
 have hN1 : N ≤ 800 ∧ N ≤ n + δ ∧ 0 < N := by rw [hN]; split <;> omega
 obtain ⟨n', t1, t2, htr⟩ := trim_ex E2 N hN1.1
 have hn' : 0 < n' := by
  refine Nat.pos_of_ne_zero fun e => ?_
  have := t2 0 (by omega) hN1.2.2
  omega
 refine ⟨E2, n', tr1, fun p hp => hdg p (by omega) (by omega), hlead.1, hn', by omega, hlead.2, fun {X e i tm μ dp neg} hp1 hp2 h h0 h1 h4 => ?_⟩
 have hc := h.n
 have a1 : jay .i64 (Int.add (.ofNat n) (.ofNat δ)) = .ofNat (n + δ) := ja2 n δ (by omega)
 have a2 : jay .i64 (Int.sub (.ofNat n) 1) = rdx n := jic (by omega)
 have hcz : (.int .u64 0 : Value) = .int .u64 (.ofNat (carry D k n (n - n))) := by rw [Nat.sub_self, DecM.carry_zero]; rfl
 repeat (first | refine jaf ?_ | ((first | (refine jad ?_ ?_; (focus rfl)) | (refine jac (gs := ?_) ?_ ?_; rotate_left; (focus rfl))); simp only [run1, go_sem, h0, h1, h4, jar, jap, hc, a1, a2]) | (refine jab ?_ ?_; (focus (simp only [go_sem, h0, h1, h4, jar, jap, hc, a1, a2]; done))) | (refine jaa ?_ ?_; (focus (simp only [go_sem, h0, h1, h4, jar, jap, hc, a1, a2]; done))) | ((first | refine jaj ?_ | refine jai ?_ | refine jak ?_); try simp only [go_sem]) | refine jah ?_)
 rw [show e + 1994 = (e + 1954 - n) + n + 40 from by omega]
 refine EndsC.mono (hlp1 h (by simp only [go_sem, h0]) (by simp only [go_sem, h1]) (by simp only [go_sem, h4]) (by simp only [go_sem]) (by simp only [go_sem]) (by simp only [go_sem]; exact hcz)) ?_
 rintro x r μ' ⟨rfl, g1, g2, tm', rfl, h0, h4, h6, h7⟩
 simp only [ja4, reduceIte, jao]
 repeat (first | refine jaf ?_ | ((first | (refine jad ?_ ?_; (focus rfl)) | (refine jac (gs := ?_) ?_ ?_; rotate_left; (focus rfl))); simp only [run1, go_sem]) | (refine jab ?_ ?_; (focus (simp only [go_sem]; done))) | (refine jaa ?_ ?_; (focus (simp only [go_sem]; done))) | ((first | refine jaj ?_ | refine jai ?_ | refine jak ?_); try simp only [go_sem]) | refine jah ?_)
 rw [show e + 1994 = (e + 1954 - δ) + δ + 40 from by omega]
 refine EndsC.mono (hlp2 (v4 := .int .i64 (.ofNat δ)) g1 (by simp only [go_sem, h0]) (by simp only [go_sem, h4]) (by simp only [go_sem, h6]) (by simp only [go_sem, h7])) ?_
 rintro x r μ2 ⟨rfl, k1, k2, tm2, rfl, h0, h4⟩
 simp only [ja4, reduceIte, jao]
 have hc := k1.n
 have hs1 := st_n (v := .ofNat (n + δ)) k1.blk
 by_cases h8 : n + δ < 800
 ·have e1 : ilt (.ofNat (n + δ)) 800 = true := (jav _ 800).trans (decide_eq_true h8)
  rw [if_pos h8] at hN
  subst hN
  have w1 := k1.setN (n + δ)
  have hc1 := w1.n
  have hp := w1.p
  have a3 : jay .i64 (Int.add dp (.ofNat δ)) = dp + (δ : Int) := jfD dp (δ : Int) (by omega) (by omega)
  have hs2 := st_p (v := dp + (δ : Int)) w1.blk
  obtain ⟨μ3, hr, z1, z2⟩ := htr (X := X) (g := e + 1991) (by omega) (w1.setP (dp + (δ : Int)))
  rw [if_neg (by omega)] at z1
  repeat (first | refine jaf ?_ | ((first | (refine jad ?_ ?_; (focus rfl)) | (refine jac (gs := ?_) ?_ ?_; rotate_left; (focus rfl))); simp only [run1, go_sem, h0, h4, jar, jaw, jap, hc, hc1, hp, a1, a3, e1, hs1, hs2, jgH, hr]) | (refine jab ?_ ?_; (focus (simp only [go_sem, h0, h4, jar, jaw, jap, hc, hc1, hp, a1, a3, e1, hs1, hs2, jgH, hr]; done))) | (refine jaa ?_ ?_; (focus (simp only [go_sem, h0, h4, jar, jaw, jap, hc, hc1, hp, a1, a3, e1, hs1, hs2, jgH, hr]; done))) | ((first | refine jaj ?_ | refine jai ?_ | refine jak ?_); try simp only [go_sem]) | refine jah ?_)
  exact ⟨by trivial, z1, (g2.trans k2).trans (((Only.put _ _ _ _).trans (Only.put _ _ _ _)).trans z2), _, rfl⟩
 ·have e1 : ilt (.ofNat (n + δ)) 800 = false := (jav _ 800).trans (decide_eq_false h8)
  rw [if_neg h8] at hN
  subst hN
  have w1 := k1.setN (n + δ)
  have hc1 := w1.n
  have hs3 := st_n (v := 800) w1.blk
  have w2 : Dec (putL (putL μ2 i 800 [.int .i64 (.ofNat (n + δ))]) i 800 [.int .i64 800]) i E2 800 dp neg tr1 := w1.setN 800
  have hp := w2.p
  have a3 : jay .i64 (Int.add dp (.ofNat δ)) = dp + (δ : Int) := jfD dp (δ : Int) (by omega) (by omega)
  have hs2 := st_p (v := dp + (δ : Int)) w2.blk
  obtain ⟨μ3, hr, z1, z2⟩ := htr (X := X) (g := e + 1991) (by omega) (w2.setP (dp + (δ : Int)))
  rw [if_neg (by omega)] at z1
  repeat (first | refine jaf ?_ | ((first | (refine jad ?_ ?_; (focus rfl)) | (refine jac (gs := ?_) ?_ ?_; rotate_left; (focus rfl))); simp only [run1, go_sem, h0, h4, jar, jaw, jap, hc, hc1, hp, a1, a3, e1, hs1, hs2, hs3, jgH, hr]) | (refine jab ?_ ?_; (focus (simp only [go_sem, h0, h4, jar, jaw, jap, hc, hc1, hp, a1, a3, e1, hs1, hs2, hs3, jgH, hr]; done))) | (refine jaa ?_ ?_; (focus (simp only [go_sem, h0, h4, jar, jaw, jap, hc, hc1, hp, a1, a3, e1, hs1, hs2, hs3, jgH, hr]; done))) | ((first | refine jaj ?_ | refine jai ?_ | refine jak ?_); try simp only [go_sem]) | refine jah ?_)
  exact ⟨by trivial, z1, (g2.trans k2).trans ((((Only.put _ _ _ _).trans (Only.put _ _ _ _)).trans (Only.put _ _ _ _)).trans z2), _, rfl⟩
attribute [local irreducible] ja1
theorem jhA {D : Nat → Nat} {n k : Nat} {tr : Bool} (hD : Dg D n) (hn0 : 0 < n) (hn : n ≤ 800) (hk1 : 1 ≤ k) (hk : k ≤ 60) (h0 : 49 ≤ D 0) :
  ∃ (D' : Nat → Nat) (n' δ : Nat) (tr' : Bool), δ ≤ 19 ∧ Dg D' n' ∧ 49 ≤ D' 0 ∧ 0 < n' ∧ n' ≤ 800 ∧ (δ = 0 → D 0 < D' 0) ∧ ∀ {X : XT} {g i : Nat} {μ : Mem} {dp : Int} {neg : Bool}, 2100 ≤ g → Lay μ → -1000000 < dp → dp < 1000000 → Dec μ i D n dp neg tr →
  ∃ μ', aFun Tryz.prog (jat Tryz.prog X S0 g) 197 [.pointer (some ⟨i, 0, none⟩), .int .u64 (.ofNat k)] μ = some (.tuple #[], μ') ∧ Dec μ' i D' n' (dp + (δ : Int)) neg tr' ∧ Only μ μ' i := by
 obtain ⟨ch, hd19, hl100⟩ := cheats hk1 hk
 obtain ⟨sh1, sh2⟩ := shifted ch hD hn0 h0
 obtain ⟨b, hb⟩ : ∃ b, b = less D n (chr (cut k)) 0 (bys (cut k)).length := ⟨_, rfl⟩
 rw [← hb] at sh1 sh2
 have hdp := ch.pos
 obtain ⟨D', n', tr', t1, t2, t3, t4, t5, hT⟩ := ls_tail (δ := if b then dlt k - 1 else dlt k) (tr := tr) hD hn0 hn hk1 hk h0 (by split <;> omega) (by cases b with
  | true => exact (sh1 rfl).1
  | false => exact (sh2 rfl).1) (by cases b with
  | true => exact (sh1 rfl).2
  | false => exact (sh2 rfl).2)
 refine ⟨D', n', (if b then dlt k - 1 else dlt k), tr', by split <;> omega, t1, t2, t3, t4, t5, fun {X g i μ dp neg} hg hL hp1 hp2 h => ?_⟩
 obtain ⟨f, rfl⟩ := gle hg
 obtain ⟨lb, lo, lc, l1, l2, l3⟩ := hL.lc
 obtain ⟨l4, l5⟩ := l3 k (by omega)
 have hix : ∀ (rg : Rg) (x y : Operand), aev Tryz.prog rg x = .slice (some ⟨lb, lo, none⟩) 61 lc → aev Tryz.prog rg y = .int .u64 (.ofNat k) → jaE Tryz.prog (aev Tryz.prog rg) 248 x y = some (.pointer (some ⟨lb, lo + 2 * k, none⟩)) := fun rg x y g1 g2 => by
  unfold jaE
  simp only [g1, g2, Tryz.underlying248, aIdx, i_lc]
  rw [show Nat.blt k 61 = true from by simpa using (by omega : k < 61)]
  simp only [Addr.add]
  rw [show Nat.mul k Tryz.t247.size = 2 * k from Nat.mul_comm k 2]
  split
  ·rename_i h; rw [h]; rfl
  ·rfl
 have ad : ∀ q, Addr.add ⟨lb, lo + 2 * k, none⟩ q = ⟨lb, lo + 2 * k + q, none⟩ := fun q => by
  unfold Addr.add
  by_cases h : q = 0
  ·subst h; rfl
  ·rw [if_neg h]
 have hpre : ∃ fm : Nat → Nat → Nat, ∀ q m, 1100 ≤ q → aFun Tryz.prog (jat Tryz.prog X S0 q) 206 [.slice (some ⟨i, 0, none⟩) n 1600, .string (cut k)] ⟨μ.obs, m⟩ = some (.bool b, ⟨μ.obs, m + fm q m⟩) := by
  have : ∀ q m, ∃ z, 1100 ≤ q → aFun Tryz.prog (jat Tryz.prog X S0 q) 206 [.slice (some ⟨i, 0, none⟩) n 1600, .string (cut k)] ⟨μ.obs, m⟩ = some (.bool b, ⟨μ.obs, m + z⟩) := fun q m => by
   by_cases hq : 1100 ≤ q
   ·obtain ⟨z, hz⟩ := jif (s := cut k) (by omega) D n hn (X := X) (g := q) (bi := i) (c := 1600) (μ := ⟨μ.obs, m⟩) hq (fun j hj => h.d j (by omega))
    rw [← hb] at hz
    exact ⟨z, fun _ => hz⟩
   ·exact ⟨0, fun h => absurd h hq⟩
  exact ⟨fun q m => Classical.choose (this q m), fun q m hq => Classical.choose_spec (this q m) hq⟩
 obtain ⟨fm, hpre⟩ := hpre
 have hsl : ∀ (rg : Rg) (x y : Operand), aev Tryz.prog rg x = .pointer (some ⟨i, 0, none⟩) → aev Tryz.prog rg y = .int .i64 (.ofNat n) → jbG Tryz.prog (aev Tryz.prog rg) 185 x (some (.const (.int .i64 0))) (some y) none = some (.slice (some ⟨i, 0, none⟩) n 1600) := fun rg x y g1 g2 => by
  unfold jbG
  have b1 : Nat.ble n 800 = true := Nat.ble_eq_true_of_le hn
  have hz : aev Tryz.prog rg (.const (.int .i64 0)) = .int .i64 0 := rfl
  simp only [g1, Tryz.underlying185, i_u8, jbv, jcb, g2, b1, hz]
  rfl
 have hcn := fun m => (h.up m).n
 have m1 : ∀ z, jau ⟨μ.obs, z⟩ 14 0 = some (.slice (some ⟨lb, lo, none⟩) 61 lc) := fun z => l1
 have m5 : ∀ z, jau ⟨μ.obs, z⟩ lb (lo + 2 * k + 1) = some (.string (cut k)) := fun z => l5
 have q1 : jay .i64 (Int.sub (.ofNat (dlt k)) 1) = .ofNat (dlt k - 1) := jco (dlt k) 1 hdp (by omega)
 have key : EndsF (aFun Tryz.prog (jat Tryz.prog X S0 (f + 2100)) 197 [.pointer (some ⟨i, 0, none⟩), .int .u64 (.ofNat k)] μ) fun v μ' => v = .tuple #[] ∧ Dec μ' i D' n' (dp + ((if b then dlt k - 1 else dlt k : Nat) : Int)) neg tr' ∧ Only μ μ' i := by
  refine jan Tryz.func197 rfl rfl (nbl rfl) ?_
  simp only [go_sem, Tryz.ntmps197]
  change EndsC (jat Tryz.prog X S0 _ (jaB Tryz.f197) _ _) _
  rw [sl2]
  refine jaf ?_
  refine jad ?_ ?_
  ·rfl
  simp only [go_sem, nL, ad, Nat.add_zero, fa_lc0, fa_lc1, ld_Cs, jap, ld_str, l1, l4, l5, hix]
  refine jaf ?_
  refine jaf ?_
  refine jaU (n := 14) (ms := [0, 1, 3, 0, 8, 24, 56, 127, 0, 0, 768, 1792, 3840, 8191]) (ord := [0, 1, 2, 3, 4, 5, 6, 7, 8, 9, 10, 11, 12, 13]) (ds := ?_) ?_ ?_ ?_ ?_ ?_ ?_
  rotate_left
  ·kernel_rfl
  ·kernel_rfl
  ·kernel_rfl
  ·rfl
  ·rfl
  iterate 14 (refine jaS (by first | rfl | (simp only [go_sem, nL, ad, Nat.add_zero, jax, jar, fa_lc0, fa_lc1, ld_Cs, jap, ld_str, m1, m5, hcn, hix, hsl, gg206, hpre, Nat.reduceLeDiff])) (by simp only [jaT, heavy, jba, jaJ, go_sem, nL, ad, Nat.add_zero, jax, jar, fa_lc0, fa_lc1, ld_Cs, jap, ld_str, m1, m5, hcn, hix, hsl, gg206, hpre, Nat.reduceLeDiff]; try exact rfl) rfl ?_)
  simp only [dRun, jaM, jao]
  cases b with
  | true =>
    repeat (first | refine jaf ?_ | ((first | (refine jad ?_ ?_; (focus rfl)) | (refine jac (gs := ?_) ?_ ?_; rotate_left; (focus rfl))); simp only [run1, go_sem, q1]) | (refine jab ?_ ?_; (focus (simp only [go_sem, q1]; done))) | (refine jaa ?_ ?_; (focus (simp only [go_sem, q1]; done))) | ((first | refine jaj ?_ | refine jai ?_ | refine jak ?_); try simp only [go_sem]) | refine jah ?_)
    refine EndsC.mono (hT (e := f + 98) hp1 hp2 (h.up _) (by simp only [go_sem]) (by simp only [go_sem]) (by simp only [go_sem])) ?_
    rintro x r μ' ⟨rfl, g1, g2, tm', rfl⟩
    exact ⟨rfl, _, rfl, rfl, g1, (Only.refl μ i).trans ⟨Nat.le_trans (by show μ.next ≤ _; simp only []; omega) g2.1, fun j hj hn => g2.2 j (Nat.lt_of_lt_of_le hj (by show μ.next ≤ _; simp only []; omega)) hn⟩⟩
  | false =>
    repeat (first | refine jaf ?_ | ((first | (refine jad ?_ ?_; (focus rfl)) | (refine jac (gs := ?_) ?_ ?_; rotate_left; (focus rfl))); simp only [run1, go_sem]) | (refine jab ?_ ?_; (focus (simp only [go_sem]; done))) | (refine jaa ?_ ?_; (focus (simp only [go_sem]; done))) | ((first | refine jaj ?_ | refine jai ?_ | refine jak ?_); try simp only [go_sem]) | refine jah ?_)
    refine EndsC.mono (hT (e := f + 98) hp1 hp2 (h.up _) (by simp only [go_sem]) (by simp only [go_sem]) (by simp only [go_sem]; try rfl)) ?_
    rintro x r μ' ⟨rfl, g1, g2, tm', rfl⟩
    exact ⟨rfl, _, rfl, rfl, g1, (Only.refl μ i).trans ⟨Nat.le_trans (by show μ.next ≤ _; simp only []; omega) g2.1, fun j hj hn => g2.2 j (Nat.lt_of_lt_of_le hj (by show μ.next ≤ _; simp only []; omega)) hn⟩⟩
 obtain ⟨v, μ', h1, rfl, h2, h3⟩ := key
 exact ⟨μ', h1, h2, h3⟩
end
noncomputable section
open Go.Proofs.YtdjoekhccbiaiaaGreatDoor.DecM (val Dg pad jhu pad_off pad_dg jfq jfw dig_lt jgO jiV jiU jfs)
theorem n_mask {a k : Nat} (hk : k ≤ 60) (ha : a < 18446744073709551616) : jb3 Nat.land .u64 .u64 (.ofNat a) (.ofNat (2 ^ k - 1)) = some (.int .u64 (.ofNat (a % 2 ^ k))) := by
 have := jfs hk
 rw [jh1 _ _ ha (by omega), Nat.and_two_pow_sub_one_eq_mod, W_of (Nat.lt_of_le_of_lt (Nat.mod_le _ _) ha)]
theorem n_one {k : Nat} (hk : k ≤ 60) : jbg true .u64 1 (.ofNat k) = some (.int .u64 (.ofNat (2 ^ k))) := by
 have := jfs hk
 have h := n_shl (a := 1) (y := k) (by omega) (by omega)
 rw [Nat.one_mul] at h
 exact h
section
variable {D : Nat → Nat} {n k r0 : Nat}
theorem rs_in (hk : k ≤ 60) (h10 : val (pad D n) r0 < 10 * 2 ^ k) (h2 : 2 ^ k ≤ val (pad D n) r0) (hlt : ∀ t, t < r0 → val (pad D n) t < 2 ^ k) (hr20 : r0 ≤ 20) : ∀ m r, r + m = r0 → n ≤ r → ∀ {X : XT} {e : Nat} {tm : T Value} {v0 v5 : Value} {μ : Mem}, jaq tm 0 = v0 → jaq tm 1 = .int .u64 (.ofNat k) → jaq tm 4 = .int .i64 (.ofNat r) → jaq tm 5 = v5 → jaq tm 6 = .int .u64 (.ofNat (val (pad D n) r)) →
  EndsC (jat Tryz.prog X S0 (e + m + 40) (.loop (jaL Tryz.f198 1)) ⟨130, tm, [], none⟩ μ) fun x r μ' => x = .exit 2 ∧ μ' = μ ∧ ∃ tm', r = ⟨130, tm', [], none⟩ ∧ jaq tm' 0 = v0 ∧ jaq tm' 1 = .int .u64 (.ofNat k) ∧ jaq tm' 4 = .int .i64 (.ofNat r0) ∧ jaq tm' 5 = v5 ∧ jaq tm' 6 = .int .u64 (.ofNat (val (pad D n) r0)) := by
 have p60 := jfs hk
 intro m
 induction m with
 | zero =>
   intro r hr hnr X e tm v0 v5 μ h0 h1 h4 h5 h6
   obtain rfl : r = r0 := hr
   have q1 : jbg false .u64 (.ofNat (val (pad D n) r)) (.ofNat k) = some (.int .u64 (.ofNat (val (pad D n) r / 2 ^ k))) := jjE (by omega) (by omega)
   have e1 : ieq (.ofNat (val (pad D n) r / 2 ^ k)) 0 = false := (jaO _ 0 0 rfl).trans (decide_eq_false (by have := jgO h2; omega))
   refine jas ?_
   repeat (first | refine jaf ?_ | ((first | (refine jad ?_ ?_; (focus rfl)) | (refine jac (gs := ?_) ?_ ?_; rotate_left; (focus rfl))); simp only [run1, go_sem, h0, h1, h4, h5, h6, q1, e1]) | (refine jab ?_ ?_; (focus (simp only [go_sem, h0, h1, h4, h5, h6, q1, e1]; done))) | (refine jaa ?_ ?_; (focus (simp only [go_sem, h0, h1, h4, h5, h6, q1, e1]; done))) | ((first | refine jaj ?_ | refine jai ?_ | refine jak ?_); try simp only [go_sem]) | refine jah ?_)
   exact ⟨by trivial, by trivial, _, rfl, by simp only [go_sem, h0], by simp only [go_sem, h1], by simp only [go_sem, h4], by simp only [go_sem, h5], by simp only [go_sem, h6]⟩
 | succ m ih =>
   intro r hr hnr X e tm v0 v5 μ h0 h1 h4 h5 h6
   have hv := hlt r (by omega)
   have hs : val (pad D n) (r + 1) = val (pad D n) r * 10 := by show val (pad D n) r * 10 + (pad D n r - 48) = _; rw [pad_off hnr]; omega
   have q1 : jbg false .u64 (.ofNat (val (pad D n) r)) (.ofNat k) = some (.int .u64 (.ofNat (val (pad D n) r / 2 ^ k))) := jjE (by omega) (by omega)
   have e1 : ieq (.ofNat (val (pad D n) r / 2 ^ k)) 0 = true := (jaO _ 0 0 rfl).trans (decide_eq_true (Nat.div_eq_of_lt hv))
   have q2 : jay .u64 (Int.mul (.ofNat (val (pad D n) r)) 10) = .ofNat (val (pad D n) (r + 1)) := by rw [hs]; exact jjF (b := 10) (by omega)
   have q3 : jay .i64 (Int.add (.ofNat r) 1) = .ofNat (r + 1) := ja2 r 1 (by omega)
   refine jas ?_
   repeat (first | refine jaf ?_ | ((first | (refine jad ?_ ?_; (focus rfl)) | (refine jac (gs := ?_) ?_ ?_; rotate_left; (focus rfl))); simp only [run1, go_sem, h0, h1, h4, h5, h6, q1, q2, q3, e1]) | (refine jab ?_ ?_; (focus (simp only [go_sem, h0, h1, h4, h5, h6, q1, q2, q3, e1]; done))) | (refine jaa ?_ ?_; (focus (simp only [go_sem, h0, h1, h4, h5, h6, q1, q2, q3, e1]; done))) | ((first | refine jaj ?_ | refine jai ?_ | refine jak ?_); try simp only [go_sem]) | refine jah ?_)
   rw [show e + (m + 1) + 39 = e + m + 40 from by omega]
   exact ih (r + 1) (by omega) (by omega) (v0 := v0) (v5 := v5) (by simp only [go_sem, h0]) (by simp only [go_sem, h1]) (by simp only [go_sem]) (by simp only [go_sem, h5]) (by simp only [go_sem])
theorem rs1 (hD : Dg D n) (hn0 : 0 < n) (hn : n ≤ 800) (hd0 : 49 ≤ D 0) (hk : k ≤ 60) (h10 : val (pad D n) r0 < 10 * 2 ^ k) (h2 : 2 ^ k ≤ val (pad D n) r0) (hlt : ∀ t, t < r0 → val (pad D n) t < 2 ^ k) (hr20 : r0 ≤ 20) : ∀ m r, r + m = r0 → ∀ {X : XT} {e i : Nat} {tm : T Value} {v5 : Value} {μ : Mem} {dp : Int} {neg tr : Bool}, Dec μ i D n dp neg tr → jaq tm 0 = .pointer (some ⟨i, 0, none⟩) → jaq tm 1 = .int .u64 (.ofNat k) → jaq tm 4 = .int .i64 (.ofNat r) → jaq tm 5 = v5 → jaq tm 6 = .int .u64 (.ofNat (val (pad D n) r)) →
  EndsC (jat Tryz.prog X S0 (e + m + 90) (.loop (jaL Tryz.f198 0)) ⟨130, tm, [], none⟩ μ) fun x r μ' => x = .exit 0 ∧ μ' = μ ∧ ∃ tm', r = ⟨130, tm', [], none⟩ ∧ jaq tm' 0 = .pointer (some ⟨i, 0, none⟩) ∧ jaq tm' 1 = .int .u64 (.ofNat k) ∧ jaq tm' 4 = .int .i64 (.ofNat r0) ∧ jaq tm' 5 = v5 ∧ jaq tm' 6 = .int .u64 (.ofNat (val (pad D n) r0)) := by
 have p60 := jfs hk
 intro m
 induction m with
 | zero =>
   intro r hr X e i tm v5 μ dp neg tr h h0 h1 h4 h5 h6
   obtain rfl : r = r0 := hr
   have q1 : jbg false .u64 (.ofNat (val (pad D n) r)) (.ofNat k) = some (.int .u64 (.ofNat (val (pad D n) r / 2 ^ k))) := jjE (by omega) (by omega)
   have e1 : ieq (.ofNat (val (pad D n) r / 2 ^ k)) 0 = false := (jaO _ 0 0 rfl).trans (decide_eq_false (by have := jgO h2; omega))
   refine jas ?_
   repeat (first | refine jaf ?_ | ((first | (refine jad ?_ ?_; (focus rfl)) | (refine jac (gs := ?_) ?_ ?_; rotate_left; (focus rfl))); simp only [run1, go_sem, h0, h1, h4, h5, h6, q1, e1]) | (refine jab ?_ ?_; (focus (simp only [go_sem, h0, h1, h4, h5, h6, q1, e1]; done))) | (refine jaa ?_ ?_; (focus (simp only [go_sem, h0, h1, h4, h5, h6, q1, e1]; done))) | ((first | refine jaj ?_ | refine jai ?_ | refine jak ?_); try simp only [go_sem]) | refine jah ?_)
   exact ⟨by trivial, by trivial, _, rfl, by simp only [go_sem, h0], by simp only [go_sem, h1], by simp only [go_sem, h4], by simp only [go_sem, h5], by simp only [go_sem, h6]⟩
 | succ m ih =>
   intro r hr X e i tm v5 μ dp neg tr h h0 h1 h4 h5 h6
   have hv := hlt r (by omega)
   have q1 : jbg false .u64 (.ofNat (val (pad D n) r)) (.ofNat k) = some (.int .u64 (.ofNat (val (pad D n) r / 2 ^ k))) := jjE (by omega) (by omega)
   have e1 : ieq (.ofNat (val (pad D n) r / 2 ^ k)) 0 = true := (jaO _ 0 0 rfl).trans (decide_eq_true (Nat.div_eq_of_lt hv))
   have hc := h.n
   by_cases hrn : r < n
   ·have e2 : ilt (.ofNat r) (.ofNat n) = true := (jav _ _).trans (decide_eq_true hrn)
    obtain ⟨dr1, dr2⟩ := hD r hrn
    have hs : val (pad D n) (r + 1) = val (pad D n) r * 10 + D r - 48 := by show val (pad D n) r * 10 + (pad D n r - 48) = _; rw [jhu hrn]; omega
    have q2 : jay .u64 (Int.mul (.ofNat (val (pad D n) r)) 10) = .ofNat (val (pad D n) r * 10) := jjF (b := 10) (by omega)
    have q4 : jay .u64 (Int.add (.ofNat (val (pad D n) r * 10)) (.ofNat (D r))) = .ofNat (val (pad D n) r * 10 + D r) := jgD (by omega)
    have q5 : jay .u64 (Int.sub (.ofNat (val (pad D n) r * 10 + D r)) 48) = .ofNat (val (pad D n) (r + 1)) := by rw [hs]; exact jjD (b := 48) (by omega) (by omega)
    have q3 : jay .i64 (Int.add (.ofNat r) 1) = .ofNat (r + 1) := ja2 r 1 (by omega)
    have q6 : jay .u64 (.ofNat (D r)) = .ofNat (D r) := nw (by omega)
    have hix : ∀ (rg : Rg) (a b : Operand), aev Tryz.prog rg a = .pointer (some ⟨i, 0, none⟩) → aev Tryz.prog rg b = .int .i64 (.ofNat r) → jaE Tryz.prog (aev Tryz.prog rg) 185 a b = some (.pointer (some ⟨i, r, none⟩)) := fun rg a b g1 g2 => jc7 (by omega) g1 g2
    have hd := h.d r (by omega)
    refine jas ?_
    repeat (first | refine jaf ?_ | ((first | (refine jad ?_ ?_; (focus rfl)) | (refine jac (gs := ?_) ?_ ?_; rotate_left; (focus rfl))); simp only [run1, go_sem, h0, h1, h4, h5, h6, jax, jar, jap, jaP, hc, hd, jbU, q1, q2, q3, q4, q5, q6, hix, e1, e2]) | (refine jab ?_ ?_; (focus (simp only [go_sem, h0, h1, h4, h5, h6, jax, jar, jap, jaP, hc, hd, jbU, q1, q2, q3, q4, q5, q6, hix, e1, e2]; done))) | (refine jaa ?_ ?_; (focus (simp only [go_sem, h0, h1, h4, h5, h6, jax, jar, jap, jaP, hc, hd, jbU, q1, q2, q3, q4, q5, q6, hix, e1, e2]; done))) | ((first | refine jaj ?_ | refine jai ?_ | refine jak ?_); try simp only [go_sem]) | refine jah ?_)
    rw [show e + (m + 1) + 89 = e + m + 90 from by omega]
    exact ih (r + 1) (by omega) (v5 := v5) h (by simp only [go_sem, h0]) (by simp only [go_sem, h1]) (by simp only [go_sem]) (by simp only [go_sem, h5]) (by simp only [go_sem])
   ·have e2 : ilt (.ofNat r) (.ofNat n) = false := (jav _ _).trans (decide_eq_false hrn)
    have hpos : 1 ≤ val (pad D n) r := by
     have := DecM.val_ge (D := pad D n) (n := r) (by omega) (by rw [jhu hn0]; exact hd0)
     have := Nat.pow_pos (n := r - 1) (show 0 < 10 by decide)
     omega
    have e3 : ieq (.ofNat (val (pad D n) r)) 0 = false := (jaO _ 0 0 rfl).trans (decide_eq_false (by omega))
    refine jas ?_
    repeat (first | refine jaf ?_ | ((first | (refine jad ?_ ?_; (focus rfl)) | (refine jac (gs := ?_) ?_ ?_; rotate_left; (focus rfl))); simp only [run1, go_sem, h0, h1, h4, h5, h6, jar, jap, hc, q1, e1, e2, e3]) | (refine jab ?_ ?_; (focus (simp only [go_sem, h0, h1, h4, h5, h6, jar, jap, hc, q1, e1, e2, e3]; done))) | (refine jaa ?_ ?_; (focus (simp only [go_sem, h0, h1, h4, h5, h6, jar, jap, hc, q1, e1, e2, e3]; done))) | ((first | refine jaj ?_ | refine jai ?_ | refine jak ?_); try simp only [go_sem]) | refine jah ?_)
    rw [show e + (m + 1) + 80 = e + 40 + (m + 1) + 40 from by omega]
    refine EndsC.mono (rs_in hk h10 h2 hlt hr20 (m + 1) r hr (by omega) (v0 := .pointer (some ⟨i, 0, none⟩)) (v5 := v5) (by simp only [go_sem, h0]) (by simp only [go_sem, h1]) (by simp only [go_sem, h4]) (by simp only [go_sem, h5]) (by simp only [go_sem, h6])) ?_
    rintro x r' μ' ⟨rfl, rfl, tm', rfl, g0, g1, g4, g5, g6⟩
    simp only [ja4, reduceIte, jao]
    refine jak ?_
    exact ⟨by trivial, by trivial, _, rfl, g0, g1, g4, g5, g6⟩
theorem rs2 (hD : Dg D n) (hn : n ≤ 800) (hk : k ≤ 60) : ∀ j r w N, n - r = j → w < r → N < 10 * 2 ^ k → ∀ E : Nat → Nat, (∀ t, r ≤ t → t < n → E t = D t) →
  ∃ (E' : Nat → Nat) (N' : Nat), N' < 10 * 2 ^ k ∧ (∀ t, w ≤ t → t < w + j → 48 ≤ E' t ∧ E' t ≤ 57) ∧ (∀ t, t < w → E' t = E t) ∧ (0 < j → E' w = N / 2 ^ k + 48) ∧ (j = 0 → N' = N) ∧ ∀ {X : XT} {e i : Nat} {tm : T Value} {μ : Mem} {dp : Int} {neg tr : Bool}, Dec μ i E n dp neg tr → jaq tm 0 = .pointer (some ⟨i, 0, none⟩) → jaq tm 1 = .int .u64 (.ofNat k) → jaq tm 4 = .int .i64 (.ofNat r) → jaq tm 5 = .int .i64 (.ofNat w) → jaq tm 6 = .int .u64 (.ofNat N) → jaq tm 8 = .int .u64 (.ofNat (2 ^ k - 1)) →
  EndsC (jat Tryz.prog X S0 (e + j + 50) (.loop (jaL Tryz.f198 2)) ⟨130, tm, [], none⟩ μ) fun x r μ' => x = .exit 4 ∧ Dec μ' i E' n dp neg tr ∧ Only μ μ' i ∧ ∃ tm', r = ⟨130, tm', [], none⟩ ∧ jaq tm' 0 = .pointer (some ⟨i, 0, none⟩) ∧ jaq tm' 1 = .int .u64 (.ofNat k) ∧ jaq tm' 5 = .int .i64 (.ofNat (w + j)) ∧ jaq tm' 6 = .int .u64 (.ofNat N') ∧ jaq tm' 8 = .int .u64 (.ofNat (2 ^ k - 1)) := by
 have p60 := jfs hk
 intro j
 induction j with
 | zero =>
   intro r w N hj hw hN E hE
   refine ⟨E, N, hN, fun t h1 h2 => by omega, fun t _ => rfl, fun h => by omega, fun _ => rfl, fun {X e i tm μ dp neg tr} h h0 h1 h4 h5 h6 h8 => ?_⟩
   have hc := h.n
   have e1 : ilt (.ofNat r) (.ofNat n) = false := (jav _ _).trans (decide_eq_false (by omega))
   refine jas ?_
   repeat (first | refine jaf ?_ | ((first | (refine jad ?_ ?_; (focus rfl)) | (refine jac (gs := ?_) ?_ ?_; rotate_left; (focus rfl))); simp only [run1, go_sem, h0, h1, h4, h5, h6, h8, jar, jap, hc, e1]) | (refine jab ?_ ?_; (focus (simp only [go_sem, h0, h1, h4, h5, h6, h8, jar, jap, hc, e1]; done))) | (refine jaa ?_ ?_; (focus (simp only [go_sem, h0, h1, h4, h5, h6, h8, jar, jap, hc, e1]; done))) | ((first | refine jaj ?_ | refine jai ?_ | refine jak ?_); try simp only [go_sem]) | refine jah ?_)
   exact ⟨by trivial, h, Only.refl _ _, _, rfl, by simp only [go_sem, h0], by simp only [go_sem, h1], by simp only [go_sem, h5]; rfl, by simp only [go_sem, h6], by simp only [go_sem, h8]⟩
 | succ j ih =>
   intro r w N hj hw hN E hE
   have hrn : r < n := by omega
   obtain ⟨dr1, dr2⟩ := hD r hrn
   have hdg := dig_lt hN
   have hst := jfw (N := N) (k := k) (c := D r - 48) (by omega)
   have e1 : ilt (.ofNat r) (.ofNat n) = true := (jav _ _).trans (decide_eq_true hrn)
   have q1 : jbg false .u64 (.ofNat N) (.ofNat k) = some (.int .u64 (.ofNat (N / 2 ^ k))) := jjE (by omega) (by omega)
   have q2 : jb3 Nat.land .u64 .u64 (.ofNat N) (.ofNat (2 ^ k - 1)) = some (.int .u64 (.ofNat (N % 2 ^ k))) := n_mask hk (by omega)
   have q3 : jay .u64 (Int.add (.ofNat (N / 2 ^ k)) 48) = .ofNat (N / 2 ^ k + 48) := jgD (b := 48) (by omega)
   have q4 : jay .u8 (.ofNat (N / 2 ^ k + 48)) = .ofNat (N / 2 ^ k + 48) := qu8 _ (by omega)
   have q5 : jay .i64 (Int.add (.ofNat w) 1) = .ofNat (w + 1) := ja2 w 1 (by omega)
   have q6 : jay .u64 (Int.mul (.ofNat (N % 2 ^ k)) 10) = .ofNat (N % 2 ^ k * 10) := jjF (b := 10) (by omega)
   have q7 : jay .u64 (Int.add (.ofNat (N % 2 ^ k * 10)) (.ofNat (D r))) = .ofNat (N % 2 ^ k * 10 + D r) := jgD (by omega)
   have q8 : jay .u64 (Int.sub (.ofNat (N % 2 ^ k * 10 + D r)) 48) = .ofNat (N % 2 ^ k * 10 + (D r - 48)) := (jjD (b := 48) (by omega) (by omega)).trans (congrArg Int.ofNat (by omega))
   have q9 : jay .i64 (Int.add (.ofNat r) 1) = .ofNat (r + 1) := ja2 r 1 (by omega)
   have q10 : jay .u64 (.ofNat (D r)) = .ofNat (D r) := nw (by omega)
   obtain ⟨K, hK⟩ : ∃ K, K = 2 ^ k - 1 := ⟨_, rfl⟩
   obtain ⟨G, hG⟩ : ∃ G, G = N / 2 ^ k := ⟨_, rfl⟩
   obtain ⟨R, hR⟩ : ∃ R, R = N % 2 ^ k := ⟨_, rfl⟩
   obtain ⟨M, hM⟩ : ∃ M, M = N % 2 ^ k * 10 + (D r - 48) := ⟨_, rfl⟩
   rw [← hM] at q8 hst
   rw [← hG] at q1 q3 q4 hdg
   rw [← hR] at q2 q6 q7 q8
   rw [← hK] at q2 ih ⊢
   obtain ⟨E', N', b1, b2, b3, b4, b5, hih⟩ := ih (r + 1) (w + 1) M (by omega) (by omega) hst (put1 E w (G + 48)) fun t ht1 ht2 => by unfold put1; rw [if_neg (by omega)]; exact hE t (by omega) ht2
   have hEw : E' w = G + 48 := (b3 w (by omega)).trans (if_pos rfl)
   refine ⟨E', N', b1, fun t h1 h2 => ?_, fun t ht => ?_, fun _ => by rw [hEw, hG], fun h => by omega, fun {X e i tm μ dp neg tr} h h0 h1 h4 h5 h6 h8 => ?_⟩
   ·by_cases e : t = w
    ·rw [e, hEw]; omega
    ·exact b2 t (by omega) (by omega)
   ·rw [b3 t (by omega)]; exact if_neg (by omega)
   have hc := h.n
   have hd := h.d r (by omega)
   rw [hE r (Nat.le_refl _) hrn] at hd
   have hix : ∀ (rg : Rg) (a b : Operand), aev Tryz.prog rg a = .pointer (some ⟨i, 0, none⟩) → aev Tryz.prog rg b = .int .i64 (.ofNat r) → jaE Tryz.prog (aev Tryz.prog rg) 185 a b = some (.pointer (some ⟨i, r, none⟩)) := fun rg a b g1 g2 => jc7 (by omega) g1 g2
   have hix2 : ∀ (rg : Rg) (a b : Operand), aev Tryz.prog rg a = .pointer (some ⟨i, 0, none⟩) → aev Tryz.prog rg b = .int .i64 (.ofNat w) → jaE Tryz.prog (aev Tryz.prog rg) 185 a b = some (.pointer (some ⟨i, w, none⟩)) := fun rg a b g1 g2 => jc7 (by omega) g1 g2
   have hs := st_d (v := G + 48) h.blk (show w < 800 by omega)
   refine jas ?_
   repeat (first | refine jaf ?_ | ((first | (refine jad ?_ ?_; (focus rfl)) | (refine jac (gs := ?_) ?_ ?_; rotate_left; (focus rfl))); simp only [run1, go_sem, h0, h1, h4, h5, h6, h8, jax, jar, jap, jaP, hc, hd, jbU, jbF, e1, q1, q2, q3, q4, q5, q6, q7, q8, q9, q10, hix, hix2, hs]) | (refine jab ?_ ?_; (focus (simp only [go_sem, h0, h1, h4, h5, h6, h8, jax, jar, jap, jaP, hc, hd, jbU, jbF, e1, q1, q2, q3, q4, q5, q6, q7, q8, q9, q10, hix, hix2, hs]; done))) | (refine jaa ?_ ?_; (focus (simp only [go_sem, h0, h1, h4, h5, h6, h8, jax, jar, jap, jaP, hc, hd, jbU, jbF, e1, q1, q2, q3, q4, q5, q6, q7, q8, q9, q10, hix, hix2, hs]; done))) | ((first | refine jaj ?_ | refine jai ?_ | refine jak ?_); try simp only [go_sem]) | refine jah ?_)
   rw [show e + (j + 1) + 49 = e + j + 50 from by omega]
   refine EndsC.mono (hih (h.setD (by omega)) (by simp only [go_sem, h0]) (by simp only [go_sem, h1]) (by simp only [go_sem]) (by simp only [go_sem]) (by simp only [go_sem]) (by simp only [go_sem, h8])) ?_
   rintro x r' μ' ⟨hx, g1, g2, tm', g3, g4, g5, g6, g7⟩
   exact ⟨hx, g1, (Only.put μ i _ _).trans g2, tm', g3, g4, g5, g6.trans (by rw [show w + 1 + j = w + (j + 1) from by omega]), g7⟩
theorem rs3z {E : Nat → Nat} {w : Nat} {X : XT} {e i : Nat} {tm : T Value} {μ : Mem} {dp : Int} {neg tr : Bool} (h : Dec μ i E n dp neg tr) (h0 : jaq tm 0 = .pointer (some ⟨i, 0, none⟩)) (h5 : jaq tm 5 = .int .i64 (.ofNat w)) (h6 : jaq tm 6 = .int .u64 (.ofNat 0)) :
  EndsC (jat Tryz.prog X S0 (e + 50) (.loop (jaL Tryz.f198 3)) ⟨130, tm, [], none⟩ μ) fun x r μ' => x = .exit 6 ∧ Dec μ' i E n dp neg tr ∧ Only μ μ' i ∧ ∃ tm', r = ⟨130, tm', [], none⟩ ∧ jaq tm' 0 = .pointer (some ⟨i, 0, none⟩) ∧ jaq tm' 5 = .int .i64 (.ofNat w) := by
 have e1 : ilt 0 (.ofNat 0) = false := rfl
 refine jas ?_
 repeat (first | refine jaf ?_ | ((first | (refine jad ?_ ?_; (focus rfl)) | (refine jac (gs := ?_) ?_ ?_; rotate_left; (focus rfl))); simp only [run1, go_sem, h0, h5, h6, e1]) | (refine jab ?_ ?_; (focus (simp only [go_sem, h0, h5, h6, e1]; done))) | (refine jaa ?_ ?_; (focus (simp only [go_sem, h0, h5, h6, e1]; done))) | ((first | refine jaj ?_ | refine jai ?_ | refine jak ?_); try simp only [go_sem]) | refine jah ?_)
 exact ⟨by trivial, h, Only.refl _ _, _, rfl, by simp only [go_sem, h0], by simp only [go_sem, h5]⟩
theorem rs3 (hk : k ≤ 60) : ∀ m N w, N < 10 * 2 ^ k → (N = 0 ∨ (1 ≤ m ∧ m ≤ k + 1 ∧ 2 ^ (k + 1 - m) ∣ N)) → w ≤ 800 → ∀ (E : Nat → Nat) (tr : Bool),
  ∃ (E' : Nat → Nat) (w' : Nat) (tr' : Bool), w ≤ w' ∧ w' ≤ 800 ∧ (∀ t, w ≤ t → t < w' → 48 ≤ E' t ∧ E' t ≤ 57) ∧ (∀ t, t < w → E' t = E t) ∧ (0 < N → w < 800 → w < w' ∧ E' w = N / 2 ^ k + 48) ∧ ∀ {X : XT} {e i : Nat} {tm : T Value} {μ : Mem} {dp : Int} {neg : Bool}, Dec μ i E n dp neg tr → jaq tm 0 = .pointer (some ⟨i, 0, none⟩) → jaq tm 1 = .int .u64 (.ofNat k) → jaq tm 5 = .int .i64 (.ofNat w) → jaq tm 6 = .int .u64 (.ofNat N) → jaq tm 8 = .int .u64 (.ofNat (2 ^ k - 1)) →
  EndsC (jat Tryz.prog X S0 (e + m + 50) (.loop (jaL Tryz.f198 3)) ⟨130, tm, [], none⟩ μ) fun x r μ' => x = .exit 6 ∧ Dec μ' i E' n dp neg tr' ∧ Only μ μ' i ∧ ∃ tm', r = ⟨130, tm', [], none⟩ ∧ jaq tm' 0 = .pointer (some ⟨i, 0, none⟩) ∧ jaq tm' 5 = .int .i64 (.ofNat w') := by
 have p60 := jfs hk
 intro m
 induction m with
 | zero =>
   intro N w hN hm hw E tr
   have hz : N = 0 := by omega
   subst hz
   exact ⟨E, w, tr, Nat.le_refl _, hw, fun t h1 h2 => by omega, fun t _ => rfl, fun h => by omega, fun {X e i tm μ dp neg} h h0 h1 h5 h6 h8 => rs3z h h0 h5 h6⟩
 | succ m ih =>
   intro N w hN hm hw E tr
   by_cases hz : N = 0
   ·subst hz
    exact ⟨E, w, tr, Nat.le_refl _, hw, fun t h1 h2 => by omega, fun t _ => rfl, fun h => by omega, fun {X e i tm μ dp neg} h h0 h1 h5 h6 h8 => rs3z (e := e + (m + 1)) h h0 h5 h6⟩
   have hm := hm.resolve_left hz
   have hdg := dig_lt hN
   have hst : N % 2 ^ k * 10 < 10 * 2 ^ k := jfw (N := N) (k := k) (c := 0) (by omega)
   have hnext : N % 2 ^ k * 10 = 0 ∨ (1 ≤ m ∧ m ≤ k + 1 ∧ 2 ^ (k + 1 - m) ∣ N % 2 ^ k * 10) := by
    by_cases hm0 : m = 0
    ·subst hm0
     exact .inl (jiU hm.2.2)
    ·refine .inr ⟨by omega, by omega, ?_⟩
     have := jiV hm.2.2 (show k + 1 - (m + 1) < k by omega)
     rw [show k + 1 - (m + 1) + 1 = k + 1 - m from by omega] at this
     exact this
   have e1 : ilt 0 (.ofNat N) = true := (jav 0 N).trans (decide_eq_true (by omega))
   have q1 : jbg false .u64 (.ofNat N) (.ofNat k) = some (.int .u64 (.ofNat (N / 2 ^ k))) := jjE (by omega) (by omega)
   have q2 : jb3 Nat.land .u64 .u64 (.ofNat N) (.ofNat (2 ^ k - 1)) = some (.int .u64 (.ofNat (N % 2 ^ k))) := n_mask hk (by omega)
   have q3 : jay .u64 (Int.add (.ofNat (N / 2 ^ k)) 48) = .ofNat (N / 2 ^ k + 48) := jgD (b := 48) (by omega)
   have q4 : jay .u8 (.ofNat (N / 2 ^ k + 48)) = .ofNat (N / 2 ^ k + 48) := qu8 _ (by omega)
   have q5 : jay .i64 (Int.add (.ofNat w) 1) = .ofNat (w + 1) := ja2 w 1 (by omega)
   have q6 : jay .u64 (Int.mul (.ofNat (N % 2 ^ k)) 10) = .ofNat (N % 2 ^ k * 10) := jjF (b := 10) (by omega)
   obtain ⟨K, hK⟩ : ∃ K, K = 2 ^ k - 1 := ⟨_, rfl⟩
   obtain ⟨G, hG⟩ : ∃ G, G = N / 2 ^ k := ⟨_, rfl⟩
   obtain ⟨R, hR⟩ : ∃ R, R = N % 2 ^ k := ⟨_, rfl⟩
   obtain ⟨M, hM⟩ : ∃ M, M = N % 2 ^ k * 10 := ⟨_, rfl⟩
   rw [← hM] at q6 hst hnext
   rw [← hG] at q1 q3 q4 hdg
   rw [← hR] at q2 q6
   rw [← hK] at q2 ih ⊢
   by_cases hw8 : w < 800
   ·have e2 : ilt (.ofNat w) 800 = true := (jav _ 800).trans (decide_eq_true hw8)
    obtain ⟨E', w', tr', b1, b2, b3, b4, b5, hih⟩ := ih M (w + 1) hst hnext (by omega) (put1 E w (G + 48)) tr
    have hEw : E' w = G + 48 := (b4 w (by omega)).trans (if_pos rfl)
    refine ⟨E', w', tr', by omega, b2, fun t h1 h2 => ?_, fun t ht => ?_, fun _ _ => ⟨by omega, by rw [hEw, hG]⟩, fun {X e i tm μ dp neg} h h0 h1 h5 h6 h8 => ?_⟩
    ·by_cases e : t = w
     ·rw [e, hEw]; omega
     ·exact b3 t (by omega) h2
    ·rw [b4 t (by omega)]; exact if_neg (by omega)
    have hix2 : ∀ (rg : Rg) (a b : Operand), aev Tryz.prog rg a = .pointer (some ⟨i, 0, none⟩) → aev Tryz.prog rg b = .int .i64 (.ofNat w) → jaE Tryz.prog (aev Tryz.prog rg) 185 a b = some (.pointer (some ⟨i, w, none⟩)) := fun rg a b g1 g2 => jc7 (by omega) g1 g2
    have hs := st_d (v := G + 48) h.blk hw8
    refine jas ?_
    repeat (first | refine jaf ?_ | ((first | (refine jad ?_ ?_; (focus rfl)) | (refine jac (gs := ?_) ?_ ?_; rotate_left; (focus rfl))); simp only [run1, go_sem, h0, h1, h5, h6, h8, jax, jbF, e1, e2, q1, q2, q3, q4, q5, q6, hix2, hs]) | (refine jab ?_ ?_; (focus (simp only [go_sem, h0, h1, h5, h6, h8, jax, jbF, e1, e2, q1, q2, q3, q4, q5, q6, hix2, hs]; done))) | (refine jaa ?_ ?_; (focus (simp only [go_sem, h0, h1, h5, h6, h8, jax, jbF, e1, e2, q1, q2, q3, q4, q5, q6, hix2, hs]; done))) | ((first | refine jaj ?_ | refine jai ?_ | refine jak ?_); try simp only [go_sem]) | refine jah ?_)
    rw [show e + (m + 1) + 49 = e + m + 50 from by omega]
    refine EndsC.mono (hih (h.setD hw8) (by simp only [go_sem, h0]) (by simp only [go_sem, h1]) (by simp only [go_sem]) (by simp only [go_sem]) (by simp only [go_sem, h8])) ?_
    rintro x r' μ' ⟨hx, g1, g2, g3⟩
    exact ⟨hx, g1, (Only.put μ i _ _).trans g2, g3⟩
   ·have e2 : ilt (.ofNat w) 800 = false := (jav _ 800).trans (decide_eq_false hw8)
    by_cases hg0 : G = 0
    ·have e3 : ilt 0 (.ofNat G) = false := (jav 0 G).trans (decide_eq_false (by omega))
     obtain ⟨E', w', tr', b1, b2, b3, b4, b5, hih⟩ := ih M w hst hnext hw E tr
     refine ⟨E', w', tr', b1, b2, b3, b4, fun _ h => absurd h hw8, fun {X e i tm μ dp neg} h h0 h1 h5 h6 h8 => ?_⟩
     refine jas ?_
     repeat (first | refine jaf ?_ | ((first | (refine jad ?_ ?_; (focus rfl)) | (refine jac (gs := ?_) ?_ ?_; rotate_left; (focus rfl))); simp only [run1, go_sem, h0, h1, h5, h6, h8, e1, e2, e3, q1, q2, q6]) | (refine jab ?_ ?_; (focus (simp only [go_sem, h0, h1, h5, h6, h8, e1, e2, e3, q1, q2, q6]; done))) | (refine jaa ?_ ?_; (focus (simp only [go_sem, h0, h1, h5, h6, h8, e1, e2, e3, q1, q2, q6]; done))) | ((first | refine jaj ?_ | refine jai ?_ | refine jak ?_); try simp only [go_sem]) | refine jah ?_)
     rw [show e + (m + 1) + 49 = e + m + 50 from by omega]
     exact hih h (by simp only [go_sem, h0]) (by simp only [go_sem, h1]) (by simp only [go_sem, h5]) (by simp only [go_sem]) (by simp only [go_sem, h8])
    ·have e3 : ilt 0 (.ofNat G) = true := (jav 0 G).trans (decide_eq_true (by omega))
     obtain ⟨E', w', tr', b1, b2, b3, b4, b5, hih⟩ := ih M w hst hnext hw E true
     refine ⟨E', w', tr', b1, b2, b3, b4, fun _ h => absurd h hw8, fun {X e i tm μ dp neg} h h0 h1 h5 h6 h8 => ?_⟩
     have hs := st_t (v := true) h.blk
     refine jas ?_
     repeat (first | refine jaf ?_ | ((first | (refine jad ?_ ?_; (focus rfl)) | (refine jac (gs := ?_) ?_ ?_; rotate_left; (focus rfl))); simp only [run1, go_sem, h0, h1, h5, h6, h8, jaH, e1, e2, e3, q1, q2, q6, hs]) | (refine jab ?_ ?_; (focus (simp only [go_sem, h0, h1, h5, h6, h8, jaH, e1, e2, e3, q1, q2, q6, hs]; done))) | (refine jaa ?_ ?_; (focus (simp only [go_sem, h0, h1, h5, h6, h8, jaH, e1, e2, e3, q1, q2, q6, hs]; done))) | ((first | refine jaj ?_ | refine jai ?_ | refine jak ?_); try simp only [go_sem]) | refine jah ?_)
     rw [show e + (m + 1) + 49 = e + m + 50 from by omega]
     refine EndsC.mono (hih (h.setT true) (by simp only [go_sem, h0]) (by simp only [go_sem, h1]) (by simp only [go_sem, h5]) (by simp only [go_sem]) (by simp only [go_sem, h8])) ?_
     rintro x r' μ' ⟨hx, g1, g2, g3⟩
     exact ⟨hx, g1, (Only.put μ i _ _).trans g2, g3⟩
end
theorem jd9 {D : Nat → Nat} {n k : Nat} {tr : Bool} (hD : Dg D n) (hn0 : 0 < n) (hn : n ≤ 800) (hk1 : 1 ≤ k) (hk : k ≤ 60) (h0 : 49 ≤ D 0) :
  ∃ (D' : Nat → Nat) (n' q : Nat) (tr' : Bool), q ≤ 19 ∧ Dg D' n' ∧ 49 ≤ D' 0 ∧ 0 < n' ∧ n' ≤ 800 ∧ (q = 0 → D' 0 < D 0) ∧ ∀ {X : XT} {g i : Nat} {μ : Mem} {dp : Int} {neg : Bool}, 2100 ≤ g → -1000000 < dp → dp < 1000000 → Dec μ i D n dp neg tr →
  ∃ μ', aFun Tryz.prog (jat Tryz.prog X S0 g) 198 [.pointer (some ⟨i, 0, none⟩), .int .u64 (.ofNat k)] μ = some (.tuple #[], μ') ∧ Dec μ' i D' n' (dp - (q : Int)) neg tr' ∧ Only μ μ' i := by
 have p60 := jfs hk
 have hpos := Nat.pow_pos (n := k) (show 0 < 2 by decide)
 obtain ⟨r0, a1, a2, a3, a4, a5⟩ := jfq hn0 hD h0 hk
 obtain ⟨E1, N1, b1, b2, b3, b4, b5, hl2⟩ := rs2 hD hn hk (n - r0) r0 0 (val (pad D n) r0) rfl (by omega) a4 D (fun _ _ _ => rfl)
 obtain ⟨E2, w', tr', c1, c2, c3, c4, c5, hl3⟩ := rs3 (n := n) hk (k + 1) N1 (n - r0) b1 (.inr ⟨by omega, Nat.le_refl _, by rw [Nat.sub_self]; exact Nat.one_dvd _⟩) (by omega) E1 tr
 have hlead : 0 < w' ∧ E2 0 = val (pad D n) r0 / 2 ^ k + 48 := by
  by_cases hj : n - r0 = 0
  ·have := b5 hj
   rw [hj] at c5
   have := c5 (by omega) (by omega)
   rw [‹N1 = _›] at this
   exact this
  ·refine ⟨by omega, ?_⟩
   rw [c4 0 (by omega)]
   exact b4 (by omega)
 obtain ⟨hw0, hl⟩ := hlead
 have hd1 := jgO a3
 have hdg : Dg E2 w' := fun t ht => by
  by_cases htj : t < n - r0
  ·rw [c4 t htj]; exact b2 t (Nat.zero_le _) (by omega)
  ·exact c3 t (by omega) ht
 obtain ⟨n', t1, t2, htr⟩ := trim_ex E2 w' c2
 have hn' : 0 < n' := by
  refine Nat.pos_of_ne_zero fun e => ?_
  have := t2 0 (by omega) hw0
  omega
 refine ⟨E2, n', r0 - 1, tr', by omega, hdg.le t1, by omega, hn', by omega, fun hq => ?_, fun {X g i μ dp neg} hg hp1 hp2 h => ?_⟩
 ·obtain rfl : r0 = 1 := by omega
  have e : val (pad D n) 1 = D 0 - 48 := by show 0 * 10 + (pad D n 0 - 48) = _; rw [jhu hn0]; omega
  rw [hl, e]
  have k2 : 2 ≤ 2 ^ k := by
   obtain ⟨j, rfl⟩ : ∃ j, k = j + 1 := ⟨k - 1, by omega⟩
   have := Nat.pow_pos (n := j) (show 0 < 2 by decide)
   rw [Nat.pow_succ]; omega
  have := Nat.div_lt_self (n := D 0 - 48) (by omega) k2
  omega
 obtain ⟨f, rfl⟩ := gle hg
 have key : EndsF (aFun Tryz.prog (jat Tryz.prog X S0 (f + 2100)) 198 [.pointer (some ⟨i, 0, none⟩), .int .u64 (.ofNat k)] μ) fun v μ' => v = .tuple #[] ∧ Dec μ' i E2 n' (dp - ((r0 - 1 : Nat) : Int)) neg tr' ∧ Only μ μ' i := by
  refine jan Tryz.func198 rfl rfl (nbl rfl) ?_
  simp only [go_sem, Tryz.ntmps198]
  repeat (first | refine jaf ?_ | ((first | (refine jad ?_ ?_; (focus rfl)) | (refine jac (gs := ?_) ?_ ?_; rotate_left; (focus rfl))); simp only [run1, go_sem]) | (refine jab ?_ ?_; (focus (simp only [go_sem]; done))) | (refine jaa ?_ ?_; (focus (simp only [go_sem]; done))) | ((first | refine jaj ?_ | refine jai ?_ | refine jak ?_); try simp only [go_sem]) | refine jah ?_)
  rw [show f + 2095 = (f + 2005 - r0) + r0 + 90 from by omega]
  refine EndsC.mono (rs1 hD hn0 hn h0 hk a4 a3 a5 a2 r0 0 (Nat.zero_add _) (v5 := .int .i64 0) h (by simp only [go_sem]) (by simp only [go_sem]) (by simp only [go_sem]; try rfl) (by simp only [go_sem]) (by simp only [go_sem]; try rfl)) ?_
  rintro x r μ1 ⟨rfl, rfl, tm1, rfl, g0, g1, g4, g5, g6⟩
  simp only [ja4, reduceIte, jao]
  have hp := h.p
  have q1 : jay .i64 (Int.sub (.ofNat r0) 1) = .ofNat (r0 - 1) := jco r0 1 a1 (by omega)
  have q2 : jay .i64 (Int.sub dp (.ofNat (r0 - 1))) = dp - ((r0 - 1 : Nat) : Int) := jdK dp ((r0 - 1 : Nat) : Int) (by omega) (by omega)
  have q3 : jbg true .u64 1 (.ofNat k) = some (.int .u64 (.ofNat (2 ^ k))) := n_one hk
  have q4 : jay .u64 (Int.sub (.ofNat (2 ^ k)) 1) = .ofNat (2 ^ k - 1) := jjD (b := 1) hpos (by omega)
  have hs := st_p (v := dp - ((r0 - 1 : Nat) : Int)) h.blk
  have w1 := h.setP (dp - ((r0 - 1 : Nat) : Int))
  obtain ⟨K, hK⟩ : ∃ K, K = 2 ^ k - 1 := ⟨_, rfl⟩
  rw [← hK] at q4 hl2 hl3
  repeat (first | refine jaf ?_ | ((first | (refine jad ?_ ?_; (focus rfl)) | (refine jac (gs := ?_) ?_ ?_; rotate_left; (focus rfl))); simp only [run1, go_sem, g0, g1, g4, g5, g6, jaw, jap, hp, q1, q2, q3, q4, hs]) | (refine jab ?_ ?_; (focus (simp only [go_sem, g0, g1, g4, g5, g6, jaw, jap, hp, q1, q2, q3, q4, hs]; done))) | (refine jaa ?_ ?_; (focus (simp only [go_sem, g0, g1, g4, g5, g6, jaw, jap, hp, q1, q2, q3, q4, hs]; done))) | ((first | refine jaj ?_ | refine jai ?_ | refine jak ?_); try simp only [go_sem]) | refine jah ?_)
  rw [show f + 2092 = (f + 2042 - (n - r0)) + (n - r0) + 50 from by omega]
  refine EndsC.mono (hl2 w1 (by simp only [go_sem, g0]) (by simp only [go_sem, g1]) (by simp only [go_sem, g4]) (by simp only [go_sem, g5]; try rfl) (by simp only [go_sem, g6]) (by simp only [go_sem])) ?_
  rintro x r μ2 ⟨rfl, k1, k2, tm2, rfl, g0, g1, g5, g6, g8⟩
  rw [Nat.zero_add] at g5
  simp only [ja4, reduceIte, jao]
  repeat (first | refine jaf ?_ | ((first | (refine jad ?_ ?_; (focus rfl)) | (refine jac (gs := ?_) ?_ ?_; rotate_left; (focus rfl))); simp only [run1, go_sem]) | (refine jab ?_ ?_; (focus (simp only [go_sem]; done))) | (refine jaa ?_ ?_; (focus (simp only [go_sem]; done))) | ((first | refine jaj ?_ | refine jai ?_ | refine jak ?_); try simp only [go_sem]) | refine jah ?_)
  rw [show f + 2091 = (f + 2041 - (k + 1)) + (k + 1) + 50 from by omega]
  refine EndsC.mono (hl3 k1 (by simp only [go_sem, g0]) (by simp only [go_sem, g1]) (by simp only [go_sem, g5]) (by simp only [go_sem, g6]) (by simp only [go_sem, g8])) ?_
  rintro x r μ3 ⟨rfl, m1, m2, tm3, rfl, g0, g5⟩
  simp only [ja4, reduceIte, jao]
  have hs2 := st_n (v := .ofNat w') m1.blk
  obtain ⟨μ4, hr, z1, z2⟩ := htr (X := X) (g := f + 2090) (by omega) (m1.setN w')
  rw [if_neg (by omega)] at z1
  repeat (first | refine jaf ?_ | ((first | (refine jad ?_ ?_; (focus rfl)) | (refine jac (gs := ?_) ?_ ?_; rotate_left; (focus rfl))); simp only [run1, go_sem, g0, g5, jar, hs2, jgH, hr]) | (refine jab ?_ ?_; (focus (simp only [go_sem, g0, g5, jar, hs2, jgH, hr]; done))) | (refine jaa ?_ ?_; (focus (simp only [go_sem, g0, g5, jar, hs2, jgH, hr]; done))) | ((first | refine jaj ?_ | refine jai ?_ | refine jak ?_); try simp only [go_sem]) | refine jah ?_)
  exact ⟨rfl, _, rfl, rfl, z1, (Only.put _ _ _ _).trans (k2.trans (m2.trans ((Only.put _ _ _ _).trans z2)))⟩
 obtain ⟨v, μ', h1, rfl, h2, h3⟩ := key
 exact ⟨μ', h1, h2, h3⟩
end
noncomputable section
open Go.Proofs.YtdjoekhccbiaiaaGreatDoor.DecM (val Dg)
structure Good (D : Nat → Nat) (n : Nat) : Prop where
 dg : Dg D n
 pos : 0 < n
 le : n ≤ 800
 lead : 49 ≤ D 0
theorem _root_.Go.Proofs.YtdjoekhccbiaiaaGreatDoor.Ev.Grow.only {a b c : Mem} {i : Nat} (g : Grow a b) (h : Only b c i) (hi : a.next ≤ i) : Grow a c := ⟨Nat.le_trans g.1 h.1, fun j hj => (h.2 j (Nat.lt_of_lt_of_le hj g.1) (by omega)).trans (g.2 j hj)⟩
theorem jeK (n : Int) : jbb Tryz.prog 3 112 (.int .i64 n) = some (.int .u64 (jay .u64 n)) := by
 simp only [jbb, Tryz.underlying3, Tryz.underlying112]
theorem sr_loop : ∀ j, ∀ (D : Nat → Nat) (n : Nat) (tr : Bool), Good D n → ∃ (D' : Nat → Nat) (n' q : Nat) (tr' : Bool), Good D' n' ∧ q ≤ 19 * j ∧ (j = 0 → q = 0 ∧ D' = D) ∧ ∀ {X : XT} {e i r : Nat} {tm : T Value} {μ : Mem} {dp : Int} {neg : Bool}, 1 ≤ r → r ≤ 60 → j ≤ 10000 → -1000000 + 19 * (j : Int) < dp → dp < 1000000 → Dec μ i D n dp neg tr → jaq tm 0 = .pointer (some ⟨i, 0, none⟩) → jaq tm 1 = .int .i64 (-((r : Int) + 60 * (j : Int))) →
  EndsC (jat Tryz.prog X S0 (e + j + 2200) (.loop (jaL Tryz.f163 1)) ⟨37, tm, [], none⟩ μ) fun x rg μ' => x = .exit 3 ∧ Dec μ' i D' n' (dp - (q : Int)) neg tr' ∧ Only μ μ' i ∧ ∃ tm', rg = ⟨37, tm', [], none⟩ ∧ jaq tm' 0 = .pointer (some ⟨i, 0, none⟩) ∧ jaq tm' 1 = .int .i64 (-(r : Int)) := by
 intro j
 induction j with
 | zero =>
   intro D n tr G
   refine ⟨D, n, 0, tr, G, Nat.le_refl _, fun _ => ⟨rfl, rfl⟩, fun {X e i r tm μ dp neg} hr1 hr2 hj hp1 hp2 h h0 h1 => ?_⟩
   have ex : -((r : Int) + 60 * ((0 : Nat) : Int)) = -(r : Int) := by omega
   rw [ex] at h1
   obtain ⟨x, hx⟩ : ∃ x : Int, x = -(r : Int) := ⟨_, rfl⟩
   rw [← hx] at h1 ⊢
   have e1 : ilt x (-60) = false := (jbq _ _).trans (decide_eq_false (by omega))
   refine jas ?_
   repeat (first | refine jaf ?_ | ((first | (refine jad ?_ ?_; (focus rfl)) | (refine jac (gs := ?_) ?_ ?_; rotate_left; (focus rfl))); simp only [run1, go_sem, h0, h1, e1]) | (refine jab ?_ ?_; (focus (simp only [go_sem, h0, h1, e1]; done))) | (refine jaa ?_ ?_; (focus (simp only [go_sem, h0, h1, e1]; done))) | ((first | refine jaj ?_ | refine jai ?_ | refine jak ?_); try simp only [go_sem]) | refine jah ?_)
   exact ⟨by trivial, (by rw [show dp - ((0 : Nat) : Int) = dp from by omega]; exact h), Only.refl _ _, _, rfl, by simp only [go_sem, h0], by simp only [go_sem, h1]⟩
 | succ j ih =>
   intro D n tr G
   obtain ⟨D1, n1, q1, tr1, a1, a2, a3, a4, a5, a6, hrs⟩ := jd9 (k := 60) (tr := tr) G.dg G.pos G.le (by decide) (Nat.le_refl _) G.lead
   obtain ⟨D', n', q, tr', b1, b2, b3, hih⟩ := ih D1 n1 tr1 ⟨a2, a4, a5, a3⟩
   refine ⟨D', n', q1 + q, tr', b1, by omega, fun h => by omega, fun {X e i r tm μ dp neg} hr1 hr2 hj hp1 hp2 h h0 h1 => ?_⟩
   obtain ⟨x, hx⟩ : ∃ x : Int, x = -((r : Int) + 60 * ((j + 1 : Nat) : Int)) := ⟨_, rfl⟩
   rw [← hx] at h1
   have e1 : ilt x (-60) = true := (jbq _ _).trans (decide_eq_true (by omega))
   have w1 : jay .i64 (Int.add x 60) = -((r : Int) + 60 * (j : Int)) := by
    have := jfD x 60 (by omega) (by omega)
    rw [this]; omega
   obtain ⟨μ1, hr, z1, z2⟩ := hrs (X := X) (g := e + (j + 1) + 2195) (by omega) (by omega) hp2 h
   have hr : aFun Tryz.prog (jat Tryz.prog X S0 (e + (j + 1) + 2195)) 198 [.pointer (some ⟨i, 0, none⟩), .int .u64 60] μ = some (.tuple #[], μ1) := hr
   refine jas ?_
   repeat (first | refine jaf ?_ | ((first | (refine jad ?_ ?_; (focus rfl)) | (refine jac (gs := ?_) ?_ ?_; rotate_left; (focus rfl))); simp only [run1, go_sem, h0, h1, e1, w1, jjM, hr]) | (refine jab ?_ ?_; (focus (simp only [go_sem, h0, h1, e1, w1, jjM, hr]; done))) | (refine jaa ?_ ?_; (focus (simp only [go_sem, h0, h1, e1, w1, jjM, hr]; done))) | ((first | refine jaj ?_ | refine jai ?_ | refine jak ?_); try simp only [go_sem]) | refine jah ?_)
   rw [show e + (j + 1) + 2199 = e + j + 2200 from by omega]
   refine EndsC.mono (hih (r := r) hr1 hr2 (by omega) (by omega) (by omega) z1 (by simp only [go_sem, h0]) (by simp only [go_sem])) ?_
   rintro x r' μ' ⟨hx, g1, g2, g3⟩
   exact ⟨hx, (by rw [show dp - ((q1 + q : Nat) : Int) = dp - (q1 : Int) - (q : Int) from by omega]; exact g1), z2.trans g2, g3⟩
theorem jhf {D : Nat → Nat} {n k : Nat} {tr : Bool} (G : Good D n) (hk1 : 1 ≤ k) (hk : k ≤ 100000) : ∃ (D' : Nat → Nat) (n' q : Nat) (tr' : Bool), Good D' n' ∧ q ≤ 19 * ((k - 1) / 60 + 1) ∧ (k ≤ 60 → q = 0 → D' 0 < D 0) ∧ ∀ {X : XT} {g i : Nat} {x : Int} {μ : Mem} {dp : Int} {neg : Bool}, 5000 ≤ g → x = -(k : Int) → -500000 < dp → dp < 500000 → Dec μ i D n dp neg tr →
  ∃ μ', aFun Tryz.prog (jat Tryz.prog X S0 g) 163 [.pointer (some ⟨i, 0, none⟩), .int .i64 x] μ = some (.tuple #[], μ') ∧ Dec μ' i D' n' (dp - (q : Int)) neg tr' ∧ Only μ μ' i := by
 obtain ⟨j, hj⟩ : ∃ j, j = (k - 1) / 60 := ⟨_, rfl⟩
 obtain ⟨r, hr⟩ : ∃ r, r = (k - 1) % 60 + 1 := ⟨_, rfl⟩
 have hkr : k = r + 60 * j := by omega
 obtain ⟨D1, n1, q1, tr1, b1, b2, b3, hlp⟩ := sr_loop j D n tr G
 obtain ⟨D2, n2, q2, tr2, a1, a2, a3, a4, a5, a6, hrs⟩ := jd9 (k := r) (tr := tr1) b1.dg b1.pos b1.le (by omega) (by omega) b1.lead
 refine ⟨D2, n2, q1 + q2, tr2, ⟨a2, a4, a5, a3⟩, by omega, fun h60 hq => ?_, fun {X g i x μ dp neg} hg hx hp1 hp2 h => ?_⟩
 ·have := b3 (by omega)
  rw [← this.2]
  exact a6 (by omega)
 obtain ⟨f, rfl⟩ := gle hg
 have hc := h.n
 have e1 : ieq (.ofNat n) 0 = false := (jaO _ 0 0 rfl).trans (decide_eq_false (by have := G.pos; omega))
 have e2 : ilt 0 x = false := (jbq _ _).trans (decide_eq_false (by omega))
 have e3 : ilt x 0 = true := (jbq _ _).trans (decide_eq_true (by omega))
 have key : EndsF (aFun Tryz.prog (jat Tryz.prog X S0 (f + 5000)) 163 [.pointer (some ⟨i, 0, none⟩), .int .i64 x] μ) fun v μ' => v = .tuple #[] ∧ Dec μ' i D2 n2 (dp - ((q1 + q2 : Nat) : Int)) neg tr2 ∧ Only μ μ' i := by
  refine jan Tryz.func163 rfl rfl (nbl rfl) ?_
  simp only [go_sem, Tryz.ntmps163]
  repeat (first | refine jaf ?_ | ((first | (refine jad ?_ ?_; (focus rfl)) | (refine jac (gs := ?_) ?_ ?_; rotate_left; (focus rfl))); simp only [run1, go_sem, jar, jap, hc, e1, e2, e3]) | (refine jab ?_ ?_; (focus (simp only [go_sem, jar, jap, hc, e1, e2, e3]; done))) | (refine jaa ?_ ?_; (focus (simp only [go_sem, jar, jap, hc, e1, e2, e3]; done))) | ((first | refine jaj ?_ | refine jai ?_ | refine jak ?_); try simp only [go_sem]) | refine jah ?_)
  rw [show f + 4991 = (f + 2791 - j) + j + 2200 from by omega]
  refine EndsC.mono (hlp (r := r) (by omega) (by omega) (by omega) (by omega) (by omega) h (by simp only [go_sem]) (by simp only [go_sem]; rw [hx, hkr]; exact congrArg (Value.int .i64) (by omega))) ?_
  rintro x' r' μ1 ⟨rfl, g1, g2, tm', rfl, h0, h1⟩
  simp only [ja4, reduceIte, jao]
  have np : ∀ (ρ : Operand → Value) (d : Option Tmp) (t ty : TypeId) (a : Operand) (ps : String) (af : Array Edge) (gd : Option (Nat × Bool)), ρ a = .int .i64 (-(r : Int)) → ja0 Tryz.prog ρ ⟨d, .unOp .neg t a, ty, ps, af, gd⟩ = some (.int .i64 (.ofNat r)) := fun ρ d t ty a ps af gd h => by
   have := jcZ (d := d) (t := t) (ty := ty) (ps := ps) (af := af) (gd := gd) h (by omega) (by omega)
   rw [this, Int.neg_neg]; rfl
  have w1 : jay .u64 (.ofNat r) = .ofNat r := nw (by omega)
  obtain ⟨μ2, hrr, z1, z2⟩ := hrs (X := X) (g := f + 4991) (by omega) (by omega) (by omega) g1
  repeat (first | refine jaf ?_ | ((first | (refine jad ?_ ?_; (focus rfl)) | (refine jac (gs := ?_) ?_ ?_; rotate_left; (focus rfl))); simp only [run1, go_sem, h0, h1, np, jeK, w1, jjM, hrr]) | (refine jab ?_ ?_; (focus (simp only [go_sem, h0, h1, np, jeK, w1, jjM, hrr]; done))) | (refine jaa ?_ ?_; (focus (simp only [go_sem, h0, h1, np, jeK, w1, jjM, hrr]; done))) | ((first | refine jaj ?_ | refine jai ?_ | refine jak ?_); try simp only [go_sem]) | refine jah ?_)
  exact ⟨rfl, _, rfl, rfl, (by rw [show dp - ((q1 + q2 : Nat) : Int) = dp - (q1 : Int) - (q2 : Int) from by omega]; exact z1), g2.trans z2⟩
 obtain ⟨v, μ', h1, rfl, h2, h3⟩ := key
 exact ⟨μ', h1, h2, h3⟩
theorem jhg {D : Nat → Nat} {n k : Nat} {tr : Bool} (G : Good D n) (hk1 : 1 ≤ k) (hk : k ≤ 60) : ∃ (D' : Nat → Nat) (n' δ : Nat) (tr' : Bool), Good D' n' ∧ δ ≤ 19 ∧ (δ = 0 → D 0 < D' 0) ∧ ∀ {X : XT} {g i : Nat} {μ : Mem} {dp : Int} {neg : Bool}, 5000 ≤ g → Lay μ → -500000 < dp → dp < 500000 → Dec μ i D n dp neg tr →
  ∃ μ', aFun Tryz.prog (jat Tryz.prog X S0 g) 163 [.pointer (some ⟨i, 0, none⟩), .int .i64 (.ofNat k)] μ = some (.tuple #[], μ') ∧ Dec μ' i D' n' (dp + (δ : Int)) neg tr' ∧ Only μ μ' i := by
 obtain ⟨D', n', δ, tr', a1, a2, a3, a4, a5, a6, hls⟩ := jhA (k := k) (tr := tr) G.dg G.pos G.le hk1 hk G.lead
 refine ⟨D', n', δ, tr', ⟨a2, a4, a5, a3⟩, a1, a6, fun {X g i μ dp neg} hg hL hp1 hp2 h => ?_⟩
 obtain ⟨f, rfl⟩ := gle hg
 have hc := h.n
 have e1 : ieq (.ofNat n) 0 = false := (jaO _ 0 0 rfl).trans (decide_eq_false (by have := G.pos; omega))
 have e2 : ilt 0 (.ofNat k) = true := (jav 0 k).trans (decide_eq_true (by omega))
 have e3 : ilt 60 (.ofNat k) = false := (jav 60 k).trans (decide_eq_false (by omega))
 have w1 : jay .u64 (.ofNat k) = .ofNat k := nw (by omega)
 obtain ⟨μ', hr, z1, z2⟩ := hls (X := X) (g := f + 4993) (by omega) hL (by omega) (by omega) h
 have key : EndsF (aFun Tryz.prog (jat Tryz.prog X S0 (f + 5000)) 163 [.pointer (some ⟨i, 0, none⟩), .int .i64 (.ofNat k)] μ) fun v μ'' => v = .tuple #[] ∧ μ'' = μ' := by
  refine jan Tryz.func163 rfl rfl (nbl rfl) ?_
  simp only [go_sem, Tryz.ntmps163]
  repeat (first | refine jaf ?_ | ((first | (refine jad ?_ ?_; (focus rfl)) | (refine jac (gs := ?_) ?_ ?_; rotate_left; (focus rfl))); simp only [run1, go_sem, jar, jap, hc, e1, e2, e3, jeK, w1, gg197, hr]) | (refine jab ?_ ?_; (focus (simp only [go_sem, jar, jap, hc, e1, e2, e3, jeK, w1, gg197, hr]; done))) | (refine jaa ?_ ?_; (focus (simp only [go_sem, jar, jap, hc, e1, e2, e3, jeK, w1, gg197, hr]; done))) | ((first | refine jaj ?_ | refine jai ?_ | refine jak ?_); try simp only [go_sem]) | refine jah ?_ | refine jas ?_)
  exact ⟨rfl, _, rfl, rfl, rfl⟩
 obtain ⟨v, μ'', h1, rfl, rfl⟩ := key
 exact ⟨_, h1, z1, z2⟩
end
noncomputable section
open Go.Proofs.YtdjoekhccbiaiaaGreatDoor.DecM (val Dg)
theorem n8_sub {a b : Nat} (h : b ≤ a) (h2 : a < 256) : jay .u8 (Int.sub (.ofNat a) (.ofNat b)) = .ofNat (a - b) := by
 have e : Int.sub (.ofNat a) (.ofNat b) = .ofNat (a - b) := by show (a : Int) - (b : Int) = ((a - b : Nat) : Int); omega
 rw [e]; exact qu8 _ (by omega)
theorem n8_rem2 (a : Nat) : aDiv true .u8 .u8 (.ofNat a) 2 = some (.int .u8 (.ofNat (a % 2))) := rfl
theorem sru_ex {D : Nat → Nat} {n : Nat} {tr : Bool} (hD : Dg D n) (hn : n ≤ 800) (d : Int) (hd : d < 1000000) : ∃ b, ∀ {X : XT} {g i : Nat} {μ : Mem} {dp : Int} {neg : Bool}, 60 ≤ g → Dec μ i D n dp neg tr →
  aFun Tryz.prog (jat Tryz.prog X S0 g) 199 [.pointer (some ⟨i, 0, none⟩), .int .i64 d] μ = some (.bool b, μ) := by
 by_cases h0 : d < 0
 ·have e1 : ilt d 0 = true := (jbq _ _).trans (decide_eq_true h0)
  refine ⟨false, fun {X g i μ dp neg} hg h => ?_⟩
  obtain ⟨f, rfl⟩ := gle hg
  have hc := h.n
  have ht := h.t
  refine jaQ ?_
  refine jan Tryz.func199 rfl rfl (nbl rfl) ?_
  simp only [go_sem, Tryz.ntmps199]
  refine jaf ?_
  refine jad ?_ ?_
  ·rfl
  simp only [go_sem]
  refine jaf ?_
  refine jaf ?_
  refine jac (gs := ?_) ?_ ?_
  rotate_left
  ·rfl
  iterate 3 (refine jal (by first | rfl | (simp only [go_sem, undef, jax, jar, jaH, jap, jaP, jaD, hc, ht, e1])) (by simp only [go_sem, undef, jax, jar, jaH, jap, jaP, jaD, hc, ht, e1]; try exact rfl) rfl ?_)
  iterate 6 (refine jaA (by simp only [go_sem, undef, jax, jar, jaH, jap, jaP, jaD, hc, ht, e1]) rfl ?_)
  refine jal (by first | rfl | (simp only [go_sem, undef, jax, jar, jaH, jap, jaP, jaD, hc, ht, e1])) (by simp only [go_sem, undef, jax, jar, jaH, jap, jaP, jaD, hc, ht, e1]; try exact rfl) rfl ?_
  simp only [go_sem]
  repeat (first | refine jaf ?_ | ((first | (refine jad ?_ ?_; (focus rfl)) | (refine jac (gs := ?_) ?_ ?_; rotate_left; (focus rfl))); simp only [run1, go_sem, undef, jax, jar, jaH, jap, jaP, jaD, hc, ht, e1]) | (refine jab ?_ ?_; (focus (simp only [go_sem, undef, jax, jar, jaH, jap, jaP, jaD, hc, ht, e1]; done))) | (refine jaa ?_ ?_; (focus (simp only [go_sem, undef, jax, jar, jaH, jap, jaP, jaD, hc, ht, e1]; done))) | ((first | refine jaj ?_ | refine jai ?_ | refine jak ?_); try simp only [go_sem]) | refine jah ?_)
  refine jam ?_
  refine ⟨rfl, _, ?_, rfl, rfl⟩
  simp only [go_sem, Tryz.results199]
 have e1 : ilt d 0 = false := (jbq _ _).trans (decide_eq_false h0)
 obtain ⟨m, hm⟩ : ∃ m : Nat, d = .ofNat m := ⟨d.toNat, by show d = ((d.toNat : Nat) : Int); omega⟩
 subst hm
 have hm6 : m < 1000000 := by have : (m : Int) < 1000000 := hd; omega
 by_cases hmn : m < n
 rotate_left
 ·have e2 : ilt (.ofNat m) (.ofNat n) = false := (jav _ _).trans (decide_eq_false hmn)
  refine ⟨false, fun {X g i μ dp neg} hg h => ?_⟩
  obtain ⟨f, rfl⟩ := gle hg
  have hc := h.n
  have ht := h.t
  refine jaQ ?_
  refine jan Tryz.func199 rfl rfl (nbl rfl) ?_
  simp only [go_sem, Tryz.ntmps199]
  refine jaf ?_
  refine jad ?_ ?_
  ·rfl
  simp only [go_sem]
  refine jaf ?_
  refine jaf ?_
  refine jac (gs := ?_) ?_ ?_
  rotate_left
  ·rfl
  iterate 10 (refine jal (by first | rfl | (simp only [go_sem, undef, jax, jar, jaH, jap, jaP, jaD, hc, ht, e1, e2])) (by simp only [go_sem, undef, jax, jar, jaH, jap, jaP, jaD, hc, ht, e1, e2]; try exact rfl) rfl ?_)
  simp only [go_sem]
  repeat (first | refine jaf ?_ | ((first | (refine jad ?_ ?_; (focus rfl)) | (refine jac (gs := ?_) ?_ ?_; rotate_left; (focus rfl))); simp only [run1, go_sem, undef, jax, jar, jaH, jap, jaP, jaD, hc, ht, e1, e2]) | (refine jab ?_ ?_; (focus (simp only [go_sem, undef, jax, jar, jaH, jap, jaP, jaD, hc, ht, e1, e2]; done))) | (refine jaa ?_ ?_; (focus (simp only [go_sem, undef, jax, jar, jaH, jap, jaP, jaD, hc, ht, e1, e2]; done))) | ((first | refine jaj ?_ | refine jai ?_ | refine jak ?_); try simp only [go_sem]) | refine jah ?_)
  refine jam ?_
  refine ⟨rfl, _, ?_, rfl, rfl⟩
  simp only [go_sem, Tryz.results199]
 have e2 : ilt (.ofNat m) (.ofNat n) = true := (jav _ _).trans (decide_eq_true hmn)
 by_cases h53 : D m = 53
 rotate_left
 ·have e3 : ieq (.ofNat (D m)) 53 = false := (jaO _ 53 53 rfl).trans (decide_eq_false h53)
  obtain ⟨b, hb⟩ : ∃ b, ilt (.ofNat (D m)) 53 = b := ⟨_, rfl⟩
  refine ⟨!b, fun {X g i μ dp neg} hg h => ?_⟩
  obtain ⟨f, rfl⟩ := gle hg
  have hc := h.n
  have ht := h.t
  refine jaQ ?_
  refine jan Tryz.func199 rfl rfl (nbl rfl) ?_
  simp only [go_sem, Tryz.ntmps199]
  refine jaf ?_
  refine jad ?_ ?_
  ·rfl
  simp only [go_sem]
  have hix : ∀ (rg : Rg) (a b : Operand), aev Tryz.prog rg a = .pointer (some ⟨i, 0, none⟩) → aev Tryz.prog rg b = .int .i64 (.ofNat m) → jaE Tryz.prog (aev Tryz.prog rg) 185 a b = some (.pointer (some ⟨i, m, none⟩)) := fun rg a b g1 g2 => jc7 (by omega) g1 g2
  have hd := h.d m (by omega)
  refine jaf ?_
  refine jaf ?_
  refine jac (gs := ?_) ?_ ?_
  rotate_left
  ·rfl
  iterate 10 (refine jal (by first | rfl | (simp only [go_sem, undef, jax, jar, jaH, jap, jaP, jaD, hc, ht, e1, e2, e3, hix, hd, hb])) (by simp only [go_sem, undef, jax, jar, jaH, jap, jaP, jaD, hc, ht, e1, e2, e3, hix, hd, hb]; try exact rfl) rfl ?_)
  simp only [go_sem]
  refine jaa ?_ ?_
  ·simp only [go_sem]
  refine jaj ?_
  simp only [jao]
  refine jaf ?_
  refine jaf ?_
  refine jac (gs := ?_) ?_ ?_
  rotate_left
  ·rfl
  iterate 8 (refine jal (by first | rfl | (simp only [go_sem, undef, jax, jar, jaH, jap, jaP, jaD, hc, ht, e1, e2, e3, hix, hd, hb])) (by simp only [go_sem, undef, jax, jar, jaH, jap, jaP, jaD, hc, ht, e1, e2, e3, hix, hd, hb]; try exact rfl) rfl ?_)
  iterate 7 (refine jaA (by simp only [go_sem, undef, jax, jar, jaH, jap, jaP, jaD, hc, ht, e1, e2, e3, hix, hd, hb]) rfl ?_)
  refine jal (by first | rfl | (simp only [go_sem, undef, jax, jar, jaH, jap, jaP, jaD, hc, ht, e1, e2, e3, hix, hd, hb])) (by simp only [go_sem, undef, jax, jar, jaH, jap, jaP, jaD, hc, ht, e1, e2, e3, hix, hd, hb]; try exact rfl) rfl ?_
  simp only [go_sem]
  repeat (first | refine jaf ?_ | ((first | (refine jad ?_ ?_; (focus rfl)) | (refine jac (gs := ?_) ?_ ?_; rotate_left; (focus rfl))); simp only [run1, go_sem, undef, jax, jar, jaH, jap, jaP, jaD, hc, ht, e1, e2, e3, hix, hd, hb]) | (refine jab ?_ ?_; (focus (simp only [go_sem, undef, jax, jar, jaH, jap, jaP, jaD, hc, ht, e1, e2, e3, hix, hd, hb]; done))) | (refine jaa ?_ ?_; (focus (simp only [go_sem, undef, jax, jar, jaH, jap, jaP, jaD, hc, ht, e1, e2, e3, hix, hd, hb]; done))) | ((first | refine jaj ?_ | refine jai ?_ | refine jak ?_); try simp only [go_sem]) | refine jah ?_)
  refine jam ?_
  refine ⟨rfl, _, ?_, rfl, rfl⟩
  simp only [go_sem, Tryz.results199]
 have e3 : ieq (.ofNat (D m)) 53 = true := (jaO _ 53 53 rfl).trans (decide_eq_true h53)
 have a1 : jay .i64 (Int.add (.ofNat m) 1) = .ofNat (m + 1) := ja2 m 1 (by omega)
 by_cases hl : m + 1 = n
 rotate_left
 ·have e4 : ieq (.ofNat (m + 1)) (.ofNat n) = false := (jb7 _ _).trans (decide_eq_false hl)
  obtain ⟨b, hb⟩ : ∃ b, ilt (.ofNat (D m)) 53 = b := ⟨_, rfl⟩
  refine ⟨!b, fun {X g i μ dp neg} hg h => ?_⟩
  obtain ⟨f, rfl⟩ := gle hg
  have hc := h.n
  have ht := h.t
  refine jaQ ?_
  refine jan Tryz.func199 rfl rfl (nbl rfl) ?_
  simp only [go_sem, Tryz.ntmps199]
  refine jaf ?_
  refine jad ?_ ?_
  ·rfl
  simp only [go_sem]
  have hix : ∀ (rg : Rg) (a b : Operand), aev Tryz.prog rg a = .pointer (some ⟨i, 0, none⟩) → aev Tryz.prog rg b = .int .i64 (.ofNat m) → jaE Tryz.prog (aev Tryz.prog rg) 185 a b = some (.pointer (some ⟨i, m, none⟩)) := fun rg a b g1 g2 => jc7 (by omega) g1 g2
  have hd := h.d m (by omega)
  refine jaf ?_
  refine jaf ?_
  refine jac (gs := ?_) ?_ ?_
  rotate_left
  ·rfl
  iterate 10 (refine jal (by first | rfl | (simp only [go_sem, undef, jax, jar, jaH, jap, jaP, jaD, hc, ht, e1, e2, e3, e4, a1, hix, hd, hb])) (by simp only [go_sem, undef, jax, jar, jaH, jap, jaP, jaD, hc, ht, e1, e2, e3, e4, a1, hix, hd, hb]; try exact rfl) rfl ?_)
  simp only [go_sem]
  refine jaa ?_ ?_
  ·simp only [go_sem]
  refine jaj ?_
  simp only [jao]
  refine jaf ?_
  refine jaf ?_
  refine jac (gs := ?_) ?_ ?_
  rotate_left
  ·rfl
  iterate 16 (refine jal (by first | rfl | (simp only [go_sem, undef, jax, jar, jaH, jap, jaP, jaD, hc, ht, e1, e2, e3, e4, a1, hix, hd, hb])) (by simp only [go_sem, undef, jax, jar, jaH, jap, jaP, jaD, hc, ht, e1, e2, e3, e4, a1, hix, hd, hb]; try exact rfl) rfl ?_)
  simp only [go_sem]
  repeat (first | refine jaf ?_ | ((first | (refine jad ?_ ?_; (focus rfl)) | (refine jac (gs := ?_) ?_ ?_; rotate_left; (focus rfl))); simp only [run1, go_sem, undef, jax, jar, jaH, jap, jaP, jaD, hc, ht, e1, e2, e3, e4, a1, hix, hd, hb]) | (refine jab ?_ ?_; (focus (simp only [go_sem, undef, jax, jar, jaH, jap, jaP, jaD, hc, ht, e1, e2, e3, e4, a1, hix, hd, hb]; done))) | (refine jaa ?_ ?_; (focus (simp only [go_sem, undef, jax, jar, jaH, jap, jaP, jaD, hc, ht, e1, e2, e3, e4, a1, hix, hd, hb]; done))) | ((first | refine jaj ?_ | refine jai ?_ | refine jak ?_); try simp only [go_sem]) | refine jah ?_)
  refine jam ?_
  refine ⟨rfl, _, ?_, rfl, rfl⟩
  simp only [go_sem, Tryz.results199]
 have e4 : ieq (.ofNat (m + 1)) (.ofNat n) = true := (jb7 _ _).trans (decide_eq_true hl)
 cases tr with
 | true =>
   refine ⟨true, fun {X g i μ dp neg} hg h => ?_⟩
   obtain ⟨f, rfl⟩ := gle hg
   have hc := h.n
   have ht := h.t
   refine jaQ ?_
   refine jan Tryz.func199 rfl rfl (nbl rfl) ?_
   simp only [go_sem, Tryz.ntmps199]
   refine jaf ?_
   refine jad ?_ ?_
   ·rfl
   simp only [go_sem]
   have hix : ∀ (rg : Rg) (a b : Operand), aev Tryz.prog rg a = .pointer (some ⟨i, 0, none⟩) → aev Tryz.prog rg b = .int .i64 (.ofNat m) → jaE Tryz.prog (aev Tryz.prog rg) 185 a b = some (.pointer (some ⟨i, m, none⟩)) := fun rg a b g1 g2 => jc7 (by omega) g1 g2
   have hd := h.d m (by omega)
   refine jaf ?_
   refine jaf ?_
   refine jac (gs := ?_) ?_ ?_
   rotate_left
   ·rfl
   iterate 10 (refine jal (by first | rfl | (simp only [go_sem, undef, jax, jar, jaH, jap, jaP, jaD, hc, ht, e1, e2, e3, e4, a1, hix, hd])) (by simp only [go_sem, undef, jax, jar, jaH, jap, jaP, jaD, hc, ht, e1, e2, e3, e4, a1, hix, hd]; try exact rfl) rfl ?_)
   simp only [go_sem]
   refine jaa ?_ ?_
   ·simp only [go_sem]
   refine jaj ?_
   simp only [jao]
   refine jaf ?_
   refine jaf ?_
   refine jac (gs := ?_) ?_ ?_
   rotate_left
   ·rfl
   iterate 16 (refine jal (by first | rfl | (simp only [go_sem, undef, jax, jar, jaH, jap, jaP, jaD, hc, ht, e1, e2, e3, e4, a1, hix, hd])) (by simp only [go_sem, undef, jax, jar, jaH, jap, jaP, jaD, hc, ht, e1, e2, e3, e4, a1, hix, hd]; try exact rfl) rfl ?_)
   simp only [go_sem]
   repeat (first | refine jaf ?_ | ((first | (refine jad ?_ ?_; (focus rfl)) | (refine jac (gs := ?_) ?_ ?_; rotate_left; (focus rfl))); simp only [run1, go_sem, undef, jax, jar, jaH, jap, jaP, jaD, hc, ht, e1, e2, e3, e4, a1, hix, hd]) | (refine jab ?_ ?_; (focus (simp only [go_sem, undef, jax, jar, jaH, jap, jaP, jaD, hc, ht, e1, e2, e3, e4, a1, hix, hd]; done))) | (refine jaa ?_ ?_; (focus (simp only [go_sem, undef, jax, jar, jaH, jap, jaP, jaD, hc, ht, e1, e2, e3, e4, a1, hix, hd]; done))) | ((first | refine jaj ?_ | refine jai ?_ | refine jak ?_); try simp only [go_sem]) | refine jah ?_)
   refine jam ?_
   refine ⟨rfl, _, ?_, rfl, rfl⟩
   simp only [go_sem, Tryz.results199]
 | false =>
   by_cases hm0 : m = 0
   ·have e5 : ilt 0 (.ofNat m) = false := (jav 0 m).trans (decide_eq_false (by omega))
    refine ⟨false, fun {X g i μ dp neg} hg h => ?_⟩
    obtain ⟨f, rfl⟩ := gle hg
    have hc := h.n
    have ht := h.t
    have hix : ∀ (rg : Rg) (a b : Operand), aev Tryz.prog rg a = .pointer (some ⟨i, 0, none⟩) → aev Tryz.prog rg b = .int .i64 (.ofNat m) → jaE Tryz.prog (aev Tryz.prog rg) 185 a b = some (.pointer (some ⟨i, m, none⟩)) := fun rg a b g1 g2 => jc7 (by omega) g1 g2
    have hd := h.d m (by omega)
    refine jaQ ?_
    refine jan Tryz.func199 rfl rfl (nbl rfl) ?_
    simp only [go_sem, Tryz.ntmps199]
    refine jaf ?_
    refine jad ?_ ?_
    ·rfl
    simp only [go_sem]
    refine jaf ?_
    refine jaf ?_
    refine jac (gs := ?_) ?_ ?_
    rotate_left
    ·rfl
    iterate 10 (refine jal (by first | rfl | (simp only [go_sem, undef, jax, jar, jaH, jap, jaP, jaD, hc, ht, e1, e2, e3, e4, e5, a1, hix, hd])) (by simp only [go_sem, undef, jax, jar, jaH, jap, jaP, jaD, hc, ht, e1, e2, e3, e4, e5, a1, hix, hd]; try exact rfl) rfl ?_)
    simp only [go_sem]
    refine jaa ?_ ?_
    ·simp only [go_sem]
    refine jaj ?_
    simp only [jao]
    refine jaf ?_
    refine jaf ?_
    refine jac (gs := ?_) ?_ ?_
    rotate_left
    ·rfl
    iterate 16 (refine jal (by first | rfl | (simp only [go_sem, undef, jax, jar, jaH, jap, jaP, jaD, hc, ht, e1, e2, e3, e4, e5, a1, hix, hd])) (by simp only [go_sem, undef, jax, jar, jaH, jap, jaP, jaD, hc, ht, e1, e2, e3, e4, e5, a1, hix, hd]; try exact rfl) rfl ?_)
    simp only [go_sem]
    refine jab ?_ ?_
    ·simp only [go_sem]
    refine jaf ?_
    refine jaf ?_
    refine jad ?_ ?_
    ·rfl
    simp only [go_sem, undef, jax, jar, jaH, jap, jaP, jaD, hc, ht, e1, e2, e3, e4, e5, a1, hix, hd]
    refine jaa ?_ ?_
    ·simp only [go_sem]
    refine jaj ?_
    simp only [jao]
    refine jaf ?_
    refine jac (gs := ?_) ?_ ?_
    rotate_left
    ·rfl
    iterate 3 (refine jal (by first | rfl | (simp only [go_sem, undef, jax, jar, jaH, jap, jaP, jaD, hc, ht, e1, e2, e3, e4, e5, a1, hix, hd])) (by simp only [go_sem, undef, jax, jar, jaH, jap, jaP, jaD, hc, ht, e1, e2, e3, e4, e5, a1, hix, hd]; try exact rfl) rfl ?_)
    iterate 10 (refine jaA (by simp only [go_sem, undef, jax, jar, jaH, jap, jaP, jaD, hc, ht, e1, e2, e3, e4, e5, a1, hix, hd]) rfl ?_)
    iterate 2 (refine jal (by first | rfl | (simp only [go_sem, undef, jax, jar, jaH, jap, jaP, jaD, hc, ht, e1, e2, e3, e4, e5, a1, hix, hd])) (by simp only [go_sem, undef, jax, jar, jaH, jap, jaP, jaD, hc, ht, e1, e2, e3, e4, e5, a1, hix, hd]; try exact rfl) rfl ?_)
    simp only [go_sem]
    refine jam ?_
    refine ⟨rfl, _, ?_, rfl, rfl⟩
    simp only [go_sem, Tryz.results199]
   ·have e5 : ilt 0 (.ofNat m) = true := (jav 0 m).trans (decide_eq_true (by omega))
    have a2 : jay .i64 (Int.sub (.ofNat m) 1) = .ofNat (m - 1) := jco m 1 (by omega) (by omega)
    have hdm := hD (m - 1) (by omega)
    have a3 : jay .u8 (Int.sub (.ofNat (D (m - 1))) 48) = .ofNat (D (m - 1) - 48) := n8_sub (b := 48) hdm.1 (by omega)
    have a4 : aDiv true .u8 .u8 (.ofNat (D (m - 1) - 48)) 2 = some (.int .u8 (.ofNat ((D (m - 1) - 48) % 2))) := n8_rem2 _
    obtain ⟨b, hb⟩ : ∃ b, ieq (.ofNat ((D (m - 1) - 48) % 2)) 0 = b := ⟨_, rfl⟩
    refine ⟨!b, fun {X g i μ dp neg} hg h => ?_⟩
    obtain ⟨f, rfl⟩ := gle hg
    have hc := h.n
    have ht := h.t
    have hix : ∀ (rg : Rg) (a b : Operand), aev Tryz.prog rg a = .pointer (some ⟨i, 0, none⟩) → aev Tryz.prog rg b = .int .i64 (.ofNat m) → jaE Tryz.prog (aev Tryz.prog rg) 185 a b = some (.pointer (some ⟨i, m, none⟩)) := fun rg a b g1 g2 => jc7 (by omega) g1 g2
    have hd := h.d m (by omega)
    have hix' : ∀ (rg : Rg) (a b : Operand), aev Tryz.prog rg a = .pointer (some ⟨i, 0, none⟩) → aev Tryz.prog rg b = .int .i64 (.ofNat (m - 1)) → jaE Tryz.prog (aev Tryz.prog rg) 185 a b = some (.pointer (some ⟨i, m - 1, none⟩)) := fun rg a b g1 g2 => jc7 (by omega) g1 g2
    have hd' := h.d (m - 1) (by omega)
    refine jaQ ?_
    refine jan Tryz.func199 rfl rfl (nbl rfl) ?_
    simp only [go_sem, Tryz.ntmps199]
    refine jaf ?_
    refine jad ?_ ?_
    ·rfl
    simp only [go_sem]
    refine jaf ?_
    refine jaf ?_
    refine jac (gs := ?_) ?_ ?_
    rotate_left
    ·rfl
    iterate 10 (refine jal (by first | rfl | (simp only [go_sem, undef, jax, jar, jaH, jap, jaP, jaD, hc, ht, e1, e2, e3, e4, e5, a1, a2, a3, a4, hix, hd, hix', hd', hb])) (by simp only [go_sem, undef, jax, jar, jaH, jap, jaP, jaD, hc, ht, e1, e2, e3, e4, e5, a1, a2, a3, a4, hix, hd, hix', hd', hb]; try exact rfl) rfl ?_)
    simp only [go_sem]
    refine jaa ?_ ?_
    ·simp only [go_sem]
    refine jaj ?_
    simp only [jao]
    refine jaf ?_
    refine jaf ?_
    refine jac (gs := ?_) ?_ ?_
    rotate_left
    ·rfl
    iterate 16 (refine jal (by first | rfl | (simp only [go_sem, undef, jax, jar, jaH, jap, jaP, jaD, hc, ht, e1, e2, e3, e4, e5, a1, a2, a3, a4, hix, hd, hix', hd', hb])) (by simp only [go_sem, undef, jax, jar, jaH, jap, jaP, jaD, hc, ht, e1, e2, e3, e4, e5, a1, a2, a3, a4, hix, hd, hix', hd', hb]; try exact rfl) rfl ?_)
    simp only [go_sem]
    refine jab ?_ ?_
    ·simp only [go_sem]
    refine jaf ?_
    refine jaf ?_
    refine jad ?_ ?_
    ·rfl
    simp only [go_sem, undef, jax, jar, jaH, jap, jaP, jaD, hc, ht, e1, e2, e3, e4, e5, a1, a2, a3, a4, hix, hd, hix', hd', hb]
    refine jaa ?_ ?_
    ·simp only [go_sem]
    refine jaj ?_
    simp only [jao]
    refine jaf ?_
    refine jac (gs := ?_) ?_ ?_
    rotate_left
    ·rfl
    iterate 15 (refine jal (by first | rfl | (simp only [go_sem, undef, jax, jar, jaH, jap, jaP, jaD, hc, ht, e1, e2, e3, e4, e5, a1, a2, a3, a4, hix, hd, hix', hd', hb])) (by simp only [go_sem, undef, jax, jar, jaH, jap, jaP, jaD, hc, ht, e1, e2, e3, e4, e5, a1, a2, a3, a4, hix, hd, hix', hd', hb]; try exact rfl) rfl ?_)
    simp only [go_sem]
    refine jam ?_
    refine ⟨rfl, _, ?_, rfl, rfl⟩
    simp only [go_sem, Tryz.results199]
section
variable {D : Nat → Nat} {n : Nat} {dp : Int}
def lim (n : Nat) (dp : Int) : Nat := if dp.toNat < n then dp.toNat else n
theorem ri_1 (hD : Dg D n) (hn : n ≤ 800) (hp : dp ≤ 20) : ∀ m j a, j + m = lim n dp → ∃ a', ∀ {X : XT} {e i : Nat} {tm : T Value} {μ : Mem} {neg tr : Bool}, Dec μ i D n dp neg tr → jaq tm 0 = .pointer (some ⟨i, 0, none⟩) → jaq tm 3 = .int .i64 (.ofNat j) → jaq tm 4 = u a →
  EndsC (jat Tryz.prog X S0 (e + m + 40) (.loop (jaL Tryz.f187 0)) ⟨56, tm, [], none⟩ μ) fun x r μ' => x = .exit 0 ∧ μ' = μ ∧ ∃ tm', r = ⟨56, tm', [], none⟩ ∧ jaq tm' 0 = .pointer (some ⟨i, 0, none⟩) ∧ jaq tm' 3 = .int .i64 (.ofNat (lim n dp)) ∧ jaq tm' 4 = u a' := by
 have hlim : lim n dp = (if dp.toNat < n then dp.toNat else n) := rfl
 intro m
 induction m with
 | zero =>
   intro j a hj
   obtain rfl : j = lim n dp := hj
   refine ⟨a, fun {X e i tm μ neg tr} h h0 h3 h4 => ?_⟩
   have hc := h.n
   have hc2 := h.p
   by_cases hdn : dp.toNat < n
   ·rw [if_pos hdn] at hlim
    have e1 : ilt (.ofNat (lim n dp)) dp = false := (jbq _ _).trans (decide_eq_false (by show ¬ ((lim n dp : Nat) : Int) < dp; omega))
    refine jas ?_
    refine jaf ?_
    refine jaf ?_
    refine jac (gs := ?_) ?_ ?_
    rotate_left
    ·rfl
    iterate 7 (refine jal (by first | rfl | (simp only [go_sem, undef, h0, h3, h4, jar, jaw, jap, hc, hc2, e1])) (by simp only [go_sem, undef, h0, h3, h4, jar, jaw, jap, hc, hc2, e1]; try exact rfl) rfl ?_)
    iterate 6 (refine jaA (by simp only [go_sem, undef, h0, h3, h4, jar, jaw, jap, hc, hc2, e1]) rfl ?_)
    refine jal (by first | rfl | (simp only [go_sem, undef, h0, h3, h4, jar, jaw, jap, hc, hc2, e1])) (by simp only [go_sem, undef, h0, h3, h4, jar, jaw, jap, hc, hc2, e1]; try exact rfl) rfl ?_
    simp only [go_sem]
    refine jaa ?_ ?_
    ·simp only [go_sem]
    refine jak ?_
    simp only [jbm]
    exact ⟨by trivial, by trivial, _, rfl, by simp only [go_sem, h0], by simp only [go_sem, h3], by simp only [go_sem, h4]⟩
   ·rw [if_neg hdn] at hlim
    have e2 : ilt (.ofNat (lim n dp)) (.ofNat n) = false := (jav _ _).trans (decide_eq_false (by omega))
    by_cases hz : ((lim n dp : Nat) : Int) < dp
    ·have e1 : ilt (.ofNat (lim n dp)) dp = true := (jbq _ _).trans (decide_eq_true hz)
     refine jas ?_
     refine jaf ?_
     refine jaf ?_
     refine jac (gs := ?_) ?_ ?_
     rotate_left
     ·rfl
     iterate 14 (refine jal (by first | rfl | (simp only [go_sem, undef, h0, h3, h4, jar, jaw, jap, hc, hc2, e1, e2])) (by simp only [go_sem, undef, h0, h3, h4, jar, jaw, jap, hc, hc2, e1, e2]; try exact rfl) rfl ?_)
     simp only [go_sem]
     refine jaa ?_ ?_
     ·simp only [go_sem]
     refine jak ?_
     simp only [jbm]
     exact ⟨by trivial, by trivial, _, rfl, by simp only [go_sem, h0], by simp only [go_sem, h3], by simp only [go_sem, h4]⟩
    ·have e1 : ilt (.ofNat (lim n dp)) dp = false := (jbq _ _).trans (decide_eq_false hz)
     refine jas ?_
     refine jaf ?_
     refine jaf ?_
     refine jac (gs := ?_) ?_ ?_
     rotate_left
     ·rfl
     iterate 7 (refine jal (by first | rfl | (simp only [go_sem, undef, h0, h3, h4, jar, jaw, jap, hc, hc2, e1])) (by simp only [go_sem, undef, h0, h3, h4, jar, jaw, jap, hc, hc2, e1]; try exact rfl) rfl ?_)
     iterate 6 (refine jaA (by simp only [go_sem, undef, h0, h3, h4, jar, jaw, jap, hc, hc2, e1]) rfl ?_)
     refine jal (by first | rfl | (simp only [go_sem, undef, h0, h3, h4, jar, jaw, jap, hc, hc2, e1])) (by simp only [go_sem, undef, h0, h3, h4, jar, jaw, jap, hc, hc2, e1]; try exact rfl) rfl ?_
     simp only [go_sem]
     refine jaa ?_ ?_
     ·simp only [go_sem]
     refine jak ?_
     simp only [jbm]
     exact ⟨by trivial, by trivial, _, rfl, by simp only [go_sem, h0], by simp only [go_sem, h3], by simp only [go_sem, h4]⟩
 | succ m ih =>
   intro j a hj
   have hjn : j < n ∧ (j : Int) < dp := by
    by_cases hdn : dp.toNat < n
    ·rw [if_pos hdn] at hlim; omega
    ·rw [if_neg hdn] at hlim; omega
   obtain ⟨a', hih⟩ := ih (j + 1) (W (W a * 10) + W (D j - 48)) (by omega)
   refine ⟨a', fun {X e i tm μ neg tr} h h0 h3 h4 => ?_⟩
   have hc := h.n
   have hc2 := h.p
   have hd := h.d j (by omega)
   have dj := hD j hjn.1
   have e1 : ilt (.ofNat j) dp = true := (jbq _ _).trans (decide_eq_true hjn.2)
   have e2 : ilt (.ofNat j) (.ofNat n) = true := (jav _ _).trans (decide_eq_true hjn.1)
   have q1 : jay .u8 (Int.sub (.ofNat (D j)) 48) = .ofNat (D j - 48) := n8_sub (b := 48) dj.1 (by omega)
   have q2 : jay .u64 (.ofNat (D j - 48)) = .ofNat (W (D j - 48)) := jbP _
   have q3 : jay .i64 (Int.add (.ofNat j) 1) = .ofNat (j + 1) := ja2 j 1 (by omega)
   have hix : ∀ (rg : Rg) (a b : Operand), aev Tryz.prog rg a = .pointer (some ⟨i, 0, none⟩) → aev Tryz.prog rg b = .int .i64 (.ofNat j) → jaE Tryz.prog (aev Tryz.prog rg) 185 a b = some (.pointer (some ⟨i, j, none⟩)) := fun rg a b g1 g2 => jc7 (by omega) g1 g2
   refine jas ?_
   refine jaf ?_
   refine jaf ?_
   refine jac (gs := ?_) ?_ ?_
   rotate_left
   ·rfl
   iterate 14 (refine jal (by first | rfl | (simp only [go_sem, undef, h0, h3, h4, jar, jaw, jap, hc, hc2, e1, e2])) (by simp only [go_sem, undef, h0, h3, h4, jar, jaw, jap, hc, hc2, e1, e2]; try exact rfl) rfl ?_)
   simp only [go_sem]
   repeat (first | refine jaf ?_ | ((first | (refine jad ?_ ?_; (focus rfl)) | (refine jac (gs := ?_) ?_ ?_; rotate_left; (focus rfl))); simp only [run1, go_sem, h0, h3, h4, jax, jaP, hd, hix, jcx, wAdd, jcs, q1, q2, q3]) | (refine jab ?_ ?_; (focus (simp only [go_sem, h0, h3, h4, jax, jaP, hd, hix, jcx, wAdd, jcs, q1, q2, q3]; done))) | (refine jaa ?_ ?_; (focus (simp only [go_sem, h0, h3, h4, jax, jaP, hd, hix, jcx, wAdd, jcs, q1, q2, q3]; done))) | ((first | refine jaj ?_ | refine jai ?_ | refine jak ?_); try simp only [go_sem]) | refine jah ?_)
   rw [show e + (m + 1) + 39 = e + m + 40 from by omega]
   exact hih h (by simp only [go_sem, h0]) (by simp only [go_sem]) (by simp only [go_sem])
theorem ri_2 (hp : dp ≤ 20) : ∀ m j a, j + m = dp.toNat → ∃ a', ∀ {X : XT} {e i : Nat} {tm : T Value} {μ : Mem} {neg tr : Bool}, Dec μ i D n dp neg tr → jaq tm 0 = .pointer (some ⟨i, 0, none⟩) → jaq tm 3 = .int .i64 (.ofNat j) → jaq tm 4 = u a →
  EndsC (jat Tryz.prog X S0 (e + m + 40) (.loop (jaL Tryz.f187 1)) ⟨56, tm, [], none⟩ μ) fun x r μ' => x = .exit 2 ∧ μ' = μ ∧ ∃ tm', r = ⟨56, tm', [], none⟩ ∧ jaq tm' 0 = .pointer (some ⟨i, 0, none⟩) ∧ jaq tm' 4 = u a' := by
 intro m
 induction m with
 | zero =>
   intro j a hj
   refine ⟨a, fun {X e i tm μ neg tr} h h0 h3 h4 => ?_⟩
   have hc2 := h.p
   have e1 : ilt (.ofNat j) dp = false := (jbq _ _).trans (decide_eq_false (by show ¬ (j : Int) < dp; omega))
   refine jas ?_
   repeat (first | refine jaf ?_ | ((first | (refine jad ?_ ?_; (focus rfl)) | (refine jac (gs := ?_) ?_ ?_; rotate_left; (focus rfl))); simp only [run1, go_sem, h0, h3, h4, jaw, jap, hc2, e1]) | (refine jab ?_ ?_; (focus (simp only [go_sem, h0, h3, h4, jaw, jap, hc2, e1]; done))) | (refine jaa ?_ ?_; (focus (simp only [go_sem, h0, h3, h4, jaw, jap, hc2, e1]; done))) | ((first | refine jaj ?_ | refine jai ?_ | refine jak ?_); try simp only [go_sem]) | refine jah ?_)
   exact ⟨by trivial, by trivial, _, rfl, by simp only [go_sem, h0], by simp only [go_sem, h4]⟩
 | succ m ih =>
   intro j a hj
   obtain ⟨a', hih⟩ := ih (j + 1) (W a * 10) (by omega)
   refine ⟨a', fun {X e i tm μ neg tr} h h0 h3 h4 => ?_⟩
   have hc2 := h.p
   have e1 : ilt (.ofNat j) dp = true := (jbq _ _).trans (decide_eq_true (by show (j : Int) < dp; omega))
   have q3 : jay .i64 (Int.add (.ofNat j) 1) = .ofNat (j + 1) := ja2 j 1 (by omega)
   refine jas ?_
   repeat (first | refine jaf ?_ | ((first | (refine jad ?_ ?_; (focus rfl)) | (refine jac (gs := ?_) ?_ ?_; rotate_left; (focus rfl))); simp only [run1, go_sem, h0, h3, h4, jaw, jap, hc2, e1, jcx, q3]) | (refine jab ?_ ?_; (focus (simp only [go_sem, h0, h3, h4, jaw, jap, hc2, e1, jcx, q3]; done))) | (refine jaa ?_ ?_; (focus (simp only [go_sem, h0, h3, h4, jaw, jap, hc2, e1, jcx, q3]; done))) | ((first | refine jaj ?_ | refine jai ?_ | refine jak ?_); try simp only [go_sem]) | refine jah ?_)
   rw [show e + (m + 1) + 39 = e + m + 40 from by omega]
   exact hih h (by simp only [go_sem, h0]) (by simp only [go_sem]) (by simp only [go_sem])
theorem ri_ex {tr : Bool} (hD : Dg D n) (hn : n ≤ 800) (hp : dp < 1000000) : ∃ m, ∀ {X : XT} {g i : Nat} {μ : Mem} {neg : Bool}, 300 ≤ g → Dec μ i D n dp neg tr →
  aFun Tryz.prog (jat Tryz.prog X S0 g) 187 [.pointer (some ⟨i, 0, none⟩)] μ = some (u m, μ) := by
 by_cases h20 : 20 < dp
 ·have e1 : ilt 20 dp = true := (jbq _ _).trans (decide_eq_true h20)
  have um : u 18446744073709551615 = .int .u64 18446744073709551615 := (u_of (n := 18446744073709551615) (by decide)).symm
  refine ⟨18446744073709551615, fun {X g i μ neg} hg h => ?_⟩
  obtain ⟨f, rfl⟩ := gle hg
  have hc2 := h.p
  rw [um]
  refine jaQ ?_
  refine jan Tryz.func187 rfl rfl (nbl rfl) ?_
  simp only [go_sem, Tryz.ntmps187]
  repeat (first | refine jaf ?_ | ((first | (refine jad ?_ ?_; (focus rfl)) | (refine jac (gs := ?_) ?_ ?_; rotate_left; (focus rfl))); simp only [run1, go_sem, jaw, jap, hc2, e1]) | (refine jab ?_ ?_; (focus (simp only [go_sem, jaw, jap, hc2, e1]; done))) | (refine jaa ?_ ?_; (focus (simp only [go_sem, jaw, jap, hc2, e1]; done))) | ((first | refine jaj ?_ | refine jai ?_ | refine jak ?_); try simp only [go_sem]) | refine jah ?_)
  refine jam ?_
  refine ⟨rfl, _, ?_, rfl, rfl⟩
  simp only [go_sem, Tryz.results187]
 have e1 : ilt 20 dp = false := (jbq _ _).trans (decide_eq_false h20)
 have hl2 : lim n dp ≤ dp.toNat := by unfold lim; split <;> omega
 obtain ⟨a1, hlp1⟩ := ri_1 (dp := dp) hD hn (by omega) (lim n dp) 0 0 (Nat.zero_add _)
 obtain ⟨a2, hlp2⟩ := ri_2 (D := D) (n := n) (dp := dp) (by omega) (dp.toNat - lim n dp) (lim n dp) a1 (by omega)
 obtain ⟨b, hsr⟩ := sru_ex (tr := tr) hD hn dp hp
 refine ⟨if b then W a2 + 1 else a2, fun {X g i μ neg} hg h => ?_⟩
 obtain ⟨f, rfl⟩ := gle hg
 have hc2 := h.p
 have hsr : ∀ q, 60 ≤ q → aFun Tryz.prog (jat Tryz.prog X S0 q) 199 [.pointer (some ⟨i, 0, none⟩), .int .i64 dp] μ = some (.bool b, μ) := fun q hq => hsr hq h
 refine jaQ ?_
 refine jan Tryz.func187 rfl rfl (nbl rfl) ?_
 simp only [go_sem, Tryz.ntmps187]
 repeat (first | refine jaf ?_ | ((first | (refine jad ?_ ?_; (focus rfl)) | (refine jac (gs := ?_) ?_ ?_; rotate_left; (focus rfl))); simp only [run1, go_sem, jaw, jap, hc2, e1]) | (refine jab ?_ ?_; (focus (simp only [go_sem, jaw, jap, hc2, e1]; done))) | (refine jaa ?_ ?_; (focus (simp only [go_sem, jaw, jap, hc2, e1]; done))) | ((first | refine jaj ?_ | refine jai ?_ | refine jak ?_); try simp only [go_sem]) | refine jah ?_)
 rw [show f + 293 = (f + 253 - lim n dp) + lim n dp + 40 from by have : lim n dp ≤ 20 := by omega
                                                                 omega]
 refine EndsC.mono (hlp1 h (by simp only [go_sem]) (by simp only [go_sem]; try rfl) (by simp only [go_sem]; exact u_of (n := 0) (by decide))) ?_
 rintro x r μ' ⟨rfl, rfl, tm', rfl, h0, h3, h4⟩
 simp only [ja4, reduceIte, jao]
 repeat (first | refine jaf ?_ | ((first | (refine jad ?_ ?_; (focus rfl)) | (refine jac (gs := ?_) ?_ ?_; rotate_left; (focus rfl))); simp only [run1, go_sem]) | (refine jab ?_ ?_; (focus (simp only [go_sem]; done))) | (refine jaa ?_ ?_; (focus (simp only [go_sem]; done))) | ((first | refine jaj ?_ | refine jai ?_ | refine jak ?_); try simp only [go_sem]) | refine jah ?_)
 rw [show f + 293 = (f + 253 - (dp.toNat - lim n dp)) + (dp.toNat - lim n dp) + 40 from by omega]
 refine EndsC.mono (hlp2 h h0 h3 h4) ?_
 rintro x r μ' ⟨rfl, rfl, tm', rfl, h0, h4⟩
 simp only [ja4, reduceIte, jao]
 cases b with
 | true =>
   repeat (first | refine jaf ?_ | ((first | (refine jad ?_ ?_; (focus rfl)) | (refine jac (gs := ?_) ?_ ?_; rotate_left; (focus rfl))); simp only [run1, go_sem, h0, h4, jaw, jap, hc2, jjL, hsr, Nat.reduceLeDiff, je3]) | (refine jab ?_ ?_; (focus (simp only [go_sem, h0, h4, jaw, jap, hc2, jjL, hsr, Nat.reduceLeDiff, je3]; done))) | (refine jaa ?_ ?_; (focus (simp only [go_sem, h0, h4, jaw, jap, hc2, jjL, hsr, Nat.reduceLeDiff, je3]; done))) | ((first | refine jaj ?_ | refine jai ?_ | refine jak ?_); try simp only [go_sem]) | refine jah ?_)
   refine jam ?_
   refine ⟨rfl, _, ?_, rfl, rfl⟩
   simp only [go_sem, Tryz.results187]
 | false =>
   repeat (first | refine jaf ?_ | ((first | (refine jad ?_ ?_; (focus rfl)) | (refine jac (gs := ?_) ?_ ?_; rotate_left; (focus rfl))); simp only [run1, go_sem, h0, h4, jaw, jap, hc2, jjL, hsr, Nat.reduceLeDiff]) | (refine jab ?_ ?_; (focus (simp only [go_sem, h0, h4, jaw, jap, hc2, jjL, hsr, Nat.reduceLeDiff]; done))) | (refine jaa ?_ ?_; (focus (simp only [go_sem, h0, h4, jaw, jap, hc2, jjL, hsr, Nat.reduceLeDiff]; done))) | ((first | refine jaj ?_ | refine jai ?_ | refine jak ?_); try simp only [go_sem]) | refine jah ?_)
   refine jam ?_
   refine ⟨rfl, _, ?_, rfl, rfl⟩
   simp only [go_sem, Tryz.results187]
end
end
noncomputable section
open Go.Proofs.YtdjoekhccbiaiaaGreatDoor.DecM (val Dg)
def jaX (fn : Func) : Code := match fn.body with
 | some (.seq _ (.scope c)) => c
 | _ => .skip
theorem fs17 : ja1 17 (jaX Tryz.f147) = .seq (jaW 17 (jaX Tryz.f147)) (.seq (jaW 18 (jaX Tryz.f147)) (.seq (jaW 19 (jaX Tryz.f147)) (.seq (jaW 20 (jaX Tryz.f147)) (ja1 21 (jaX Tryz.f147))))) := by kernel_rfl
theorem fs14 : ja1 14 (jaX Tryz.f147) = .seq (jaW 14 (jaX Tryz.f147)) (.seq (jaW 15 (jaX Tryz.f147)) (ja1 16 (jaX Tryz.f147))) := by kernel_rfl
theorem fs13 : ja1 13 (jaX Tryz.f147) = .seq (jaW 13 (jaX Tryz.f147)) (ja1 14 (jaX Tryz.f147)) := by kernel_rfl
theorem fs10 : ja1 10 (jaX Tryz.f147) = .seq (jaW 10 (jaX Tryz.f147)) (.seq (jaW 11 (jaX Tryz.f147)) (.seq (jaW 12 (jaX Tryz.f147)) (ja1 13 (jaX Tryz.f147)))) := by kernel_rfl
theorem fs8 : ja1 8 (jaX Tryz.f147) = .seq (jaW 8 (jaX Tryz.f147)) (.seq (jaW 9 (jaX Tryz.f147)) (ja1 10 (jaX Tryz.f147))) := by kernel_rfl
theorem fs7 : ja1 7 (jaX Tryz.f147) = .seq (jaW 7 (jaX Tryz.f147)) (ja1 8 (jaX Tryz.f147)) := by kernel_rfl
theorem fs6 : ja1 6 (jaX Tryz.f147) = .seq (jaW 6 (jaX Tryz.f147)) (ja1 7 (jaX Tryz.f147)) := by kernel_rfl
theorem fs0 : (jaX Tryz.f147) = .seq (jaW 0 (jaX Tryz.f147)) (.seq (jaW 1 (jaX Tryz.f147)) (.seq (jaW 2 (jaX Tryz.f147)) (.seq (jaW 3 (jaX Tryz.f147)) (.seq (jaW 4 (jaX Tryz.f147)) (.seq (jaW 5 (jaX Tryz.f147)) (ja1 6 (jaX Tryz.f147))))))) := by kernel_rfl
theorem lab0 : findLabel (jaX Tryz.f147) 0 = some (.seq .skip (ja1 21 (jaX Tryz.f147))) := by kernel_rfl
theorem lab1 : findLabel (jaX Tryz.f147) 1 = some (.seq .skip (ja1 17 (jaX Tryz.f147))) := by kernel_rfl
theorem jcK : jbg true .u64 1 52 = some (.int .u64 4503599627370496) := by kernel_rfl
theorem jd5 : jbg true .u64 2 52 = some (.int .u64 9007199254740992) := by kernel_rfl
theorem jcL : jbg true .i64 1 11 = some (.int .i64 2048) := by kernel_rfl
theorem sh11_b : jbg true .u64 4503599627370496 11 = some (.int .u64 9223372036854775808) := by kernel_rfl
theorem qs1 : jay .i64 (Int.sub 2048 1) = 2047 := by kernel_rfl
theorem qs2 : jay .u64 (Int.sub 4503599627370496 1) = 4503599627370495 := by kernel_rfl
theorem qs3 : jay .i64 (Int.add (-1023) 1) = -1022 := by kernel_rfl
theorem qs4 : jay .u64 (Int.add 1 52) = 53 := by kernel_rfl
theorem qs5 : jay .i64 53 = 53 := by kernel_rfl
theorem qs6 : jay .i64 (Int.add 2047 (-1023)) = 1024 := by kernel_rfl
theorem jjg (a : Nat) : jb3 Nat.land .u64 .u64 (.ofNat (W a)) 4503599627370495 = some (.int .u64 (.ofNat (W (W a &&& 4503599627370495)))) := jh1 _ 4503599627370495 (W_lt a) (by decide)
theorem wOrS (a : Nat) : jb3 Nat.lor .u64 .u64 (.ofNat (W a)) 9223372036854775808 = some (.int .u64 (.ofNat (W (W a ||| 9223372036854775808)))) := w_or _ 9223372036854775808 (W_lt a) (by decide)
theorem jjf (a : Nat) : jbg false .u64 (.ofNat (W a)) 1 = some (.int .u64 (.ofNat (W (W a / 2 ^ 1)))) := wShr a 1 (by decide)
theorem i_and (y : Nat) (hy : y < 18446744073709551616) : jb3 Nat.land .i64 .i64 (.ofNat y) 2047 = some (.int .i64 (.ofNat (y &&& 2047))) := by
 have h : jb3 Nat.land .i64 .i64 (.ofNat y) 2047 = some (.int .i64 (jay .i64 (.ofNat (y &&& 2047)))) := by
  unfold jb3
  simp only [decide_true, jdN]
  rw [show Nat.blt y 18446744073709551616 = true from by simpa using hy]
  rfl
 rw [h]
 have : y &&& 2047 ≤ 2047 := Nat.and_le_right
 exact congrArg (fun z => some (Value.int .i64 z)) (wrap_i64 _ (by show (-9223372036854775808 : Int) ≤ ((y &&& 2047 : Nat) : Int); omega) (by show ((y &&& 2047 : Nat) : Int) < 9223372036854775808; omega))
theorem jiv (n : Int) : jbb Tryz.prog 112 3 (.int .u64 n) = some (.int .i64 (jay .i64 n)) := by
 simp only [jbb, Tryz.underlying3, Tryz.underlying112]
theorem fb_out (m : Nat) (e : Int) (he : -1023 ≤ e) (he2 : e < 100000) (ovf neg : Bool) : ∃ b, ∀ {X : XT} {k i n : Nat} {tm : T Value} {μ : Mem} {D : Nat → Nat} {dp : Int} {tr : Bool}, Lay μ → Dec μ i D n dp neg tr → jaq tm 0 = .pointer (some ⟨i, 0, none⟩) → jaq tm 1 = .pointer (some ⟨8, 0, none⟩) → jaq tm 5 = .bool ovf → jaq tm 6 = .int .i64 e → jaq tm 7 = u m →
  EndsC (jat Tryz.prog X S0 (k + 60) (ja1 21 (jaX Tryz.f147)) ⟨243, tm, [], none⟩ μ) fun x r μ' => x = .ret ∧ (∃ c, μ' = ⟨μ.obs, μ.next + c⟩) ∧ ∃ tm', r = ⟨243, tm', [], none⟩ ∧ jaq tm' 4 = u b ∧ jaq tm' 5 = .bool ovf := by
 obtain ⟨y, hy⟩ : ∃ y : Nat, e - (-1023) = .ofNat y := ⟨(e + 1023).toNat, by show e - (-1023) = (((e + 1023).toNat : Nat) : Int); omega⟩
 have hyb : y < 18446744073709551616 := by have : e - (-1023) = (y : Int) := hy; omega
 have q1 : jay .i64 (Int.sub e (-1023)) = .ofNat y := by rw [← hy]; exact jdK e (-1023) (by omega) (by omega)
 have q2 := i_and y hyb
 have q3 : jay .u64 (.ofNat (y &&& 2047)) = .ofNat (W (y &&& 2047)) := jbP _
 cases neg with
 | false =>
   refine ⟨W (W m &&& 4503599627370495) ||| W (Sh (W (y &&& 2047)) 52), fun {X k i n tm μ D dp tr} hL h h0 h1 h5 h6 h7 => ?_⟩
   have f0 : ∀ z, jau ⟨μ.obs, z⟩ 8 0 = some (.int .u64 52) := fun z => hL.fi0
   have f1 : ∀ z, jau ⟨μ.obs, z⟩ 8 1 = some (.int .u64 11) := fun z => hL.fi1
   have f2 : ∀ z, jau ⟨μ.obs, z⟩ 8 2 = some (.int .i64 (-1023)) := fun z => hL.fi2
   have hg := fun z => (h.up z).g
   repeat (first | refine jaf ?_ | ((first | (refine jad ?_ ?_; (focus rfl)) | (refine jac (gs := ?_) ?_ ?_; rotate_left; (focus rfl))); simp only [run1, go_sem, h0, h1, h5, h6, h7, jaG, jbK, ja8, jaz, jap, hL.fi0, hL.fi1, hL.fi2, jcK, qs2, jjg]) | (refine jab ?_ ?_; (focus (simp only [go_sem, h0, h1, h5, h6, h7, jaG, jbK, ja8, jaz, jap, hL.fi0, hL.fi1, hL.fi2, jcK, qs2, jjg]; done))) | (refine jaa ?_ ?_; (focus (simp only [go_sem, h0, h1, h5, h6, h7, jaG, jbK, ja8, jaz, jap, hL.fi0, hL.fi1, hL.fi2, jcK, qs2, jjg]; done))) | ((first | refine jaj ?_ | refine jai ?_ | refine jak ?_); try simp only [go_sem]) | refine jah ?_)
   refine jaU (n := 22) (ms := [0, 0, 0, 4, 12, 28, 62, 0, 128, 384, 896, 1920, 3968, 8190, 16382, 0, 32768, 98304, 229376, 524286, 1048575, 2097151]) (ord := [0, 1, 2, 3, 4, 5, 6, 7, 8, 9, 10, 11, 12, 13, 14, 15, 16, 17, 18, 19, 20, 21]) (ds := ?_) ?_ ?_ ?_ ?_ ?_ ?_
   rotate_left
   ·kernel_rfl
   ·kernel_rfl
   ·kernel_rfl
   ·rfl
   ·rfl
   iterate 22 (refine jaS (by first | rfl | (simp only [go_sem, h0, h1, h5, h6, h7, jaG, jbK, ja8, jaz, jap, f0, f1, f2, q1, jcL, qs1, q2, jcE, q3, jdi, wOr])) (by simp only [jaT, heavy, jba, jaJ, go_sem, h0, h1, h5, h6, h7, jaG, jbK, ja8, jaz, jap, f0, f1, f2, q1, jcL, qs1, q2, jcE, q3, jdi, wOr]; try exact rfl) rfl ?_)
   simp only [dRun, jaM, jao]
   repeat (first | refine jaf ?_ | ((first | (refine jad ?_ ?_; (focus rfl)) | (refine jac (gs := ?_) ?_ ?_; rotate_left; (focus rfl))); simp only [run1, go_sem, h0, h1, h5, h6, h7, jbE, jaD, hg]) | (refine jab ?_ ?_; (focus (simp only [go_sem, h0, h1, h5, h6, h7, jbE, jaD, hg]; done))) | (refine jaa ?_ ?_; (focus (simp only [go_sem, h0, h1, h5, h6, h7, jbE, jaD, hg]; done))) | ((first | refine jaj ?_ | refine jai ?_ | refine jak ?_); try simp only [go_sem]) | refine jah ?_)
   refine jam ?_
   exact ⟨by trivial, ⟨_, rfl⟩, _, rfl, by simp only [go_sem], by simp only [go_sem, h5]⟩
 | true =>
   refine ⟨W (W (W m &&& 4503599627370495) ||| W (Sh (W (y &&& 2047)) 52)) ||| 9223372036854775808, fun {X k i n tm μ D dp tr} hL h h0 h1 h5 h6 h7 => ?_⟩
   have f0 : ∀ z, jau ⟨μ.obs, z⟩ 8 0 = some (.int .u64 52) := fun z => hL.fi0
   have f1 : ∀ z, jau ⟨μ.obs, z⟩ 8 1 = some (.int .u64 11) := fun z => hL.fi1
   have f2 : ∀ z, jau ⟨μ.obs, z⟩ 8 2 = some (.int .i64 (-1023)) := fun z => hL.fi2
   have hg := fun z => (h.up z).g
   repeat (first | refine jaf ?_ | ((first | (refine jad ?_ ?_; (focus rfl)) | (refine jac (gs := ?_) ?_ ?_; rotate_left; (focus rfl))); simp only [run1, go_sem, h0, h1, h5, h6, h7, jaG, jbK, ja8, jaz, jap, hL.fi0, hL.fi1, hL.fi2, jcK, qs2, jjg]) | (refine jab ?_ ?_; (focus (simp only [go_sem, h0, h1, h5, h6, h7, jaG, jbK, ja8, jaz, jap, hL.fi0, hL.fi1, hL.fi2, jcK, qs2, jjg]; done))) | (refine jaa ?_ ?_; (focus (simp only [go_sem, h0, h1, h5, h6, h7, jaG, jbK, ja8, jaz, jap, hL.fi0, hL.fi1, hL.fi2, jcK, qs2, jjg]; done))) | ((first | refine jaj ?_ | refine jai ?_ | refine jak ?_); try simp only [go_sem]) | refine jah ?_)
   refine jaU (n := 22) (ms := [0, 0, 0, 4, 12, 28, 62, 0, 128, 384, 896, 1920, 3968, 8190, 16382, 0, 32768, 98304, 229376, 524286, 1048575, 2097151]) (ord := [0, 1, 2, 3, 4, 5, 6, 7, 8, 9, 10, 11, 12, 13, 14, 15, 16, 17, 18, 19, 20, 21]) (ds := ?_) ?_ ?_ ?_ ?_ ?_ ?_
   rotate_left
   ·kernel_rfl
   ·kernel_rfl
   ·kernel_rfl
   ·rfl
   ·rfl
   iterate 22 (refine jaS (by first | rfl | (simp only [go_sem, h0, h1, h5, h6, h7, jaG, jbK, ja8, jaz, jap, f0, f1, f2, q1, jcL, qs1, q2, jcE, q3, jdi, wOr])) (by simp only [jaT, heavy, jba, jaJ, go_sem, h0, h1, h5, h6, h7, jaG, jbK, ja8, jaz, jap, f0, f1, f2, q1, jcL, qs1, q2, jcE, q3, jdi, wOr]; try exact rfl) rfl ?_)
   simp only [dRun, jaM, jao]
   repeat (first | refine jaf ?_ | ((first | (refine jad ?_ ?_; (focus rfl)) | (refine jac (gs := ?_) ?_ ?_; rotate_left; (focus rfl))); simp only [run1, go_sem, h0, h1, h5, h6, h7, jbE, jaD, hg]) | (refine jab ?_ ?_; (focus (simp only [go_sem, h0, h1, h5, h6, h7, jbE, jaD, hg]; done))) | (refine jaa ?_ ?_; (focus (simp only [go_sem, h0, h1, h5, h6, h7, jbE, jaD, hg]; done))) | ((first | refine jaj ?_ | refine jai ?_ | refine jak ?_); try simp only [go_sem]) | refine jah ?_)
   refine jaU (n := 13) (ms := [0, 0, 2, 6, 14, 30, 0, 64, 192, 448, 1022, 2047, 4095]) (ord := [0, 1, 2, 3, 4, 5, 6, 7, 8, 9, 10, 11, 12]) (ds := ?_) ?_ ?_ ?_ ?_ ?_ ?_
   rotate_left
   ·kernel_rfl
   ·kernel_rfl
   ·kernel_rfl
   ·rfl
   ·rfl
   iterate 13 (refine jaS (by first | rfl | (simp only [go_sem, h0, h1, h5, h6, h7, jaG, jbK, ja8, jaz, jap, f0, f1, f2, jcK, sh11_b, wOrS])) (by simp only [jaT, heavy, jba, jaJ, go_sem, h0, h1, h5, h6, h7, jaG, jbK, ja8, jaz, jap, f0, f1, f2, jcK, sh11_b, wOrS]; try exact rfl) rfl ?_)
   simp only [dRun, jaM, jao]
   repeat (first | refine jaf ?_ | ((first | (refine jad ?_ ?_; (focus rfl)) | (refine jac (gs := ?_) ?_ ?_; rotate_left; (focus rfl))); simp only [run1, go_sem, h0, h1, h5, h6, h7]) | (refine jab ?_ ?_; (focus (simp only [go_sem, h0, h1, h5, h6, h7]; done))) | (refine jaa ?_ ?_; (focus (simp only [go_sem, h0, h1, h5, h6, h7]; done))) | ((first | refine jaj ?_ | refine jai ?_ | refine jak ?_); try simp only [go_sem]) | refine jah ?_)
   refine jam ?_
   exact ⟨by trivial, ⟨22 + 13, by rw [← Nat.add_assoc]⟩, _, rfl, by simp only [go_sem], by simp only [go_sem, h5]⟩
def Mid (o : Option (Nat × Int)) (neg : Bool) (i : Nat) (μ : Mem) : Ax → Rg → Mem → Prop := fun x r μ' => Only μ μ' i ∧ (∃ D n dp tr, Dec μ' i D n dp neg tr) ∧ ∃ tm', r = ⟨243, tm', [], none⟩ ∧ jaq tm' 0 = .pointer (some ⟨i, 0, none⟩) ∧ jaq tm' 1 = .pointer (some ⟨8, 0, none⟩) ∧
 (match o with
 | none => x = .goto 1
 | some (m, e) => x = .goto 0 ∧ jaq tm' 5 = .bool false ∧ jaq tm' 6 = .int .i64 e ∧ jaq tm' 7 = u m)
def FinB (b : Nat) (ovf : Bool) (i : Nat) (μ : Mem) : Ax → Rg → Mem → Prop := fun x r μ' => x = .ret ∧ Only μ μ' i ∧ ∃ tm', r = ⟨243, tm', [], none⟩ ∧ jaq tm' 4 = u b ∧ jaq tm' 5 = .bool ovf
attribute [local irreducible] ja1
theorem fb_fin (o : Option (Nat × Int)) (neg : Bool) (ho : ∀ m e, o = some (m, e) → -1023 ≤ e ∧ e < 100000) : ∃ b ovf, ∀ {X : XT} {k i : Nat} {μ0 μ : Mem} {y : Option (Ax × Rg × Mem)}, Lay μ0 → Grow μ0 μ → μ0.next ≤ i → EndsC y (Mid o neg i μ) → EndsC y (scopeC (k + 100) Tryz.prog X S0 (jaX Tryz.f147) (FinB b ovf i μ)) := by
 cases o with
 | none =>
   obtain ⟨b, hb⟩ := fb_out 0 1024 (by decide) (by decide) true neg
   refine ⟨b, true, fun {X k i μ0 μ y} hL hG hi h => ?_⟩
   refine EndsC.mono h ?_
   rintro x r μ1 ⟨ho, ⟨D, n, dp, tr, hd⟩, tm, rfl, h0, h1, rfl⟩
   have hL1 := hL.grow (hG.only ho hi)
   have f1 : ∀ z, jau ⟨μ1.obs, z⟩ 8 1 = some (.int .u64 11) := fun z => hL1.fi1
   have f2 : ∀ z, jau ⟨μ1.obs, z⟩ 8 2 = some (.int .i64 (-1023)) := fun z => hL1.fi2
   refine ⟨_, lab1, ?_⟩
   rw [fs17]
   repeat (first | refine jaf ?_ | ((first | (refine jad ?_ ?_; (focus rfl)) | (refine jac (gs := ?_) ?_ ?_; rotate_left; (focus rfl))); simp only [run1, go_sem]) | (refine jab ?_ ?_; (focus (simp only [go_sem]; done))) | (refine jaa ?_ ?_; (focus (simp only [go_sem]; done))) | ((first | refine jaj ?_ | refine jai ?_ | refine jak ?_); try simp only [go_sem]) | refine jah ?_)
   refine jaU (n := 12) (ms := [0, 1, 3, 7, 15, 31, 0, 64, 192, 448, 1023, 2047]) (ord := [0, 1, 2, 3, 4, 5, 6, 7, 8, 9, 10, 11]) (ds := ?_) ?_ ?_ ?_ ?_ ?_ ?_
   rotate_left
   ·kernel_rfl
   ·kernel_rfl
   ·kernel_rfl
   ·rfl
   ·rfl
   iterate 12 (refine jaS (by first | rfl | (simp only [go_sem, h0, h1, jaG, jbK, ja8, jaz, jap, f1, f2, jcL, qs1, qs6])) (by simp only [jaT, heavy, jba, jaJ, go_sem, h0, h1, jaG, jbK, ja8, jaz, jap, f1, f2, jcL, qs1, qs6]; try exact rfl) rfl ?_)
   simp only [dRun, jaM, jao]
   repeat (first | refine jaf ?_ | ((first | (refine jad ?_ ?_; (focus rfl)) | (refine jac (gs := ?_) ?_ ?_; rotate_left; (focus rfl))); simp only [run1, go_sem]) | (refine jab ?_ ?_; (focus (simp only [go_sem]; done))) | (refine jaa ?_ ?_; (focus (simp only [go_sem]; done))) | ((first | refine jaj ?_ | refine jai ?_ | refine jak ?_); try simp only [go_sem]) | refine jah ?_)
   refine EndsC.mono (hb (k := k + 35) (hL1.grow ⟨Nat.le_add_right _ _, fun _ _ => rfl⟩) (hd.up _) (by simp only [go_sem, h0]) (by simp only [go_sem, h1]) (by simp only [go_sem]) (by simp only [go_sem]) (by simp only [go_sem]; exact u_of (n := 0) (by decide))) ?_
   rintro x r μ2 ⟨rfl, ⟨c, rfl⟩, tm', rfl, h4, h5⟩
   exact ⟨rfl, ho.trans ((Only.up μ1 i 12).trans (Only.up _ _ _)), _, rfl, h4, h5⟩
 | some p =>
   obtain ⟨m, e⟩ := p
   obtain ⟨h1, h2⟩ := ho m e rfl
   obtain ⟨b, hb⟩ := fb_out m e h1 h2 false neg
   refine ⟨b, false, fun {X k i μ0 μ y} hL hG hi h => ?_⟩
   refine EndsC.mono h ?_
   rintro x r μ1 ⟨ho, ⟨D, n, dp, tr, hd⟩, tm, rfl, h0, h1, rfl, h5, h6, h7⟩
   have hL1 := hL.grow (hG.only ho hi)
   refine ⟨_, lab0, ?_⟩
   repeat (first | refine jaf ?_ | ((first | (refine jad ?_ ?_; (focus rfl)) | (refine jac (gs := ?_) ?_ ?_; rotate_left; (focus rfl))); simp only [run1, go_sem]) | (refine jab ?_ ?_; (focus (simp only [go_sem]; done))) | (refine jaa ?_ ?_; (focus (simp only [go_sem]; done))) | ((first | refine jaj ?_ | refine jai ?_ | refine jak ?_); try simp only [go_sem]) | refine jah ?_)
   refine EndsC.mono (hb (k := k + 39) hL1 hd h0 h1 h5 h6 h7) ?_
   rintro x r μ2 ⟨rfl, ⟨c, rfl⟩, tm', rfl, h4, h5⟩
   exact ⟨rfl, ho.trans (Only.up _ _ _), _, rfl, h4, h5⟩
end
noncomputable section
open Go.Proofs.YtdjoekhccbiaiaaGreatDoor.DecM (val Dg)
theorem Only.obs {μ : Mem} {i m : Nat} (h : μ.next ≤ m) : Only μ ⟨μ.obs, m⟩ i := ⟨h, fun _ _ _ => rfl⟩
theorem jdG {a : Option Addr} {n c : Nat} : aLen Tryz.prog 231 (.slice a n c) = some n := by
 unfold aLen
 simp only [Tryz.underlying231]
theorem jiP : ∀ q, q < 9 → 1 ≤ powts.getD q 0 ∧ powts.getD q 0 ≤ 26 := by decide
theorem neg_lit {n : Nat} (hn : n < 1000000) (ρ : Operand → Value) (d : Option Tmp) (t ty : TypeId) (a : Operand) (ps : String) (af : Array Edge) (gd : Option (Nat × Bool)) (h : ρ a = .int .i64 (.ofNat n)) : ja0 Tryz.prog ρ ⟨d, .unOp .neg t a, ty, ps, af, gd⟩ = some (.int .i64 (-(n : Int))) :=
 jcZ (n := (n : Int)) h (by omega) (by omega)
theorem fr_exit {D : Nat → Nat} {n : Nat} {tr : Bool} {dp e : Int} (hz : dp ≤ 0) {X : XT} {k i : Nat} {tm : T Value} {μ : Mem} {neg : Bool} (h : Dec μ i D n dp neg tr) (h0 : jaq tm 0 = .pointer (some ⟨i, 0, none⟩)) (h1 : jaq tm 1 = .pointer (some ⟨8, 0, none⟩)) (h5 : jaq tm 5 = .bool false) (h6 : jaq tm 6 = .int .i64 e) :
  EndsC (jat Tryz.prog X S0 (k + 6000) (.loop (jaL Tryz.f147 0)) ⟨243, tm, [], none⟩ μ) fun x r μ' => x = .exit 0 ∧ Dec μ' i D n dp neg tr ∧ Only μ μ' i ∧ ∃ tm', r = ⟨243, tm', [], none⟩ ∧ jaq tm' 0 = .pointer (some ⟨i, 0, none⟩) ∧ jaq tm' 1 = .pointer (some ⟨8, 0, none⟩) ∧ jaq tm' 5 = .bool false ∧ jaq tm' 6 = .int .i64 e := by
 have hp := h.p
 have e1 : ilt 0 dp = false := (jbq _ _).trans (decide_eq_false (by omega))
 refine jas ?_
 repeat (first | refine jaf ?_ | ((first | (refine jad ?_ ?_; (focus rfl)) | (refine jac (gs := ?_) ?_ ?_; rotate_left; (focus rfl))); simp only [run1, go_sem, h0, h1, h5, h6, jaw, jap, hp, e1]) | (refine jab ?_ ?_; (focus (simp only [go_sem, h0, h1, h5, h6, jaw, jap, hp, e1]; done))) | (refine jaa ?_ ?_; (focus (simp only [go_sem, h0, h1, h5, h6, jaw, jap, hp, e1]; done))) | ((first | refine jaj ?_ | refine jai ?_ | refine jak ?_); try simp only [go_sem]) | refine jah ?_)
 exact ⟨by trivial, h, Only.refl _ _, _, rfl, (by simp only [go_sem, h0]), (by simp only [go_sem, h1]), (by simp only [go_sem, h5]), (by simp only [go_sem, h6])⟩
theorem fr_loop : ∀ (m : Nat) (D : Nat → Nat) (n : Nat) (tr : Bool) (dp e : Int), Good D n → (dp ≤ 0 ∨ 10 * dp + ((D 0 - 48 : Nat) : Int) ≤ m) → dp ≤ 310 → -330 ≤ dp → -200000 < e → e + 27 * m < 200000 →
  ∃ (D' : Nat → Nat) (n' : Nat) (tr' : Bool) (dp' e' : Int), Good D' n' ∧ dp' ≤ 0 ∧ -330 ≤ dp' ∧ e ≤ e' ∧ e' ≤ e + 27 * m ∧ ∀ {X : XT} {k i : Nat} {tm : T Value} {μ0 μ : Mem} {neg : Bool}, Lay μ0 → Grow μ0 μ → μ0.next ≤ i → Dec μ i D n dp neg tr → jaq tm 0 = .pointer (some ⟨i, 0, none⟩) → jaq tm 1 = .pointer (some ⟨8, 0, none⟩) → jaq tm 5 = .bool false → jaq tm 6 = .int .i64 e →
  EndsC (jat Tryz.prog X S0 (k + m + 6000) (.loop (jaL Tryz.f147 0)) ⟨243, tm, [], none⟩ μ) fun x r μ' => x = .exit 0 ∧ Dec μ' i D' n' dp' neg tr' ∧ Only μ μ' i ∧ ∃ tm', r = ⟨243, tm', [], none⟩ ∧ jaq tm' 0 = .pointer (some ⟨i, 0, none⟩) ∧ jaq tm' 1 = .pointer (some ⟨8, 0, none⟩) ∧ jaq tm' 5 = .bool false ∧ jaq tm' 6 = .int .i64 e' := by
 intro m
 induction m with
 | zero =>
   intro D n tr dp e G hm hdp hdp2 he he2
   have hz : dp ≤ 0 := by have := G.lead; omega
   exact ⟨D, n, tr, dp, e, G, hz, hdp2, Int.le_refl _, by omega, fun {X k i tm μ0 μ neg} hL hG hi h h0 h1 h5 h6 => fr_exit (k := k) hz h h0 h1 h5 h6⟩
 | succ m ih =>
   intro D n tr dp e G hm hdp hdp2 he he2
   by_cases hz : dp ≤ 0
   ·exact ⟨D, n, tr, dp, e, G, hz, hdp2, Int.le_refl _, by omega, fun {X k i tm μ0 μ neg} hL hG hi h h0 h1 h5 h6 => fr_exit (k := k + (m + 1)) hz h h0 h1 h5 h6⟩
   have hm := hm.resolve_left hz
   have hlead := G.lead
   have hdg0 := G.dg 0 G.pos
   obtain ⟨q, hq⟩ : ∃ q : Nat, dp = .ofNat q := ⟨dp.toNat, by show dp = ((dp.toNat : Nat) : Int); omega⟩
   have hqd : dp = (q : Int) := hq
   obtain ⟨K, hK⟩ : ∃ K, K = (if 9 ≤ q then 27 else powts.getD q 0) := ⟨_, rfl⟩
   have hKb : 1 ≤ K ∧ K ≤ 27 := by
    rw [hK]; split
    ·omega
    ·have := jiP q (by omega); omega
   obtain ⟨D1, n1, s, tr1, G1, b1, b2, hsh⟩ := jhf (k := K) (tr := tr) G hKb.1 (by omega)
   have hs : s ≤ 19 := by omega
   have hlead1 := G1.dg 0 G1.pos
   obtain ⟨D', n', tr', dp', e', c1, c2, c3, c4, c5, hih⟩ := ih D1 n1 tr1 (dp - (s : Int)) (e + (K : Int)) G1 (by
    by_cases hd' : dp - (s : Int) ≤ 0
    ·exact .inl hd'
    ·refine .inr ?_
     by_cases hs0 : s = 0
     ·have := b2 (by omega) hs0; omega
     ·omega) (by omega) (by omega) (by omega) (by omega)
   refine ⟨D', n', tr', dp', e', c1, c2, c3, by omega, by omega, fun {X k i tm μ0 μ neg} hL hG hi h h0 h1 h5 h6 => ?_⟩
   have e1 : ilt 0 dp = true := (jbq _ _).trans (decide_eq_true (by omega))
   have np := fun ρ d t ty a ps af gd => neg_lit (n := K) (by omega) ρ d t ty a ps af gd
   have q2 : jay .i64 (Int.add e (.ofNat K)) = e + (K : Int) := jfD e (K : Int) (by omega) (by omega)
   have hpd := h.p
   have hp := fun z => (h.up z).p
   have hd0 := fun z => (h.up z).d 0 (by omega)
   obtain ⟨pb, po, pc, p1, p2, p3⟩ := (hL.grow hG).pw
   have p1 : ∀ z, jau ⟨μ.obs, z⟩ 11 0 = some (.slice (some ⟨pb, po, none⟩) 9 pc) := fun z => p1
   by_cases h9 : 9 ≤ q
   ·have e2 : ilt dp (.ofNat 9) = false := (jbq _ _).trans (decide_eq_false (by show ¬ dp < 9; omega))
    rw [if_pos h9] at hK
    subst hK
    have np27 : ∀ (ρ : Operand → Value) (d : Option Tmp) (t ty : TypeId) (a : Operand) (ps : String) (af : Array Edge) (gd : Option (Nat × Bool)), ρ a = .int .i64 27 → ja0 Tryz.prog ρ ⟨d, .unOp .neg t a, ty, ps, af, gd⟩ = some (.int .i64 (-((27 : Nat) : Int))) := np
    have q27 : jay .i64 (Int.add e 27) = e + ((27 : Nat) : Int) := q2
    obtain ⟨μ1, hr, z1, z2⟩ := hsh (X := X) (g := k + (m + 1) + 5993) (i := i) (x := -((27 : Nat) : Int)) (μ := ⟨μ.obs, μ.next + 7⟩) (dp := dp) (neg := neg) (by omega) rfl (by omega) (by omega) (h.up _)
    have hG1 : Grow μ0 μ1 := (hG.only (Only.obs (by omega)) hi).only z2 hi
    refine jas ?_
    repeat (first | refine jaf ?_ | ((first | (refine jad ?_ ?_; (focus rfl)) | (refine jac (gs := ?_) ?_ ?_; rotate_left; (focus rfl))); simp only [run1, go_sem, h0, h1, h5, h6, jaw, jap, hpd, e1]) | (refine jab ?_ ?_; (focus (simp only [go_sem, h0, h1, h5, h6, jaw, jap, hpd, e1]; done))) | (refine jaa ?_ ?_; (focus (simp only [go_sem, h0, h1, h5, h6, jaw, jap, hpd, e1]; done))) | ((first | refine jaj ?_ | refine jai ?_ | refine jak ?_); try simp only [go_sem]) | refine jah ?_)
    refine jaU (n := 7) (ms := [0, 1, 3, 7, 0, 16, 63]) (ord := [0, 1, 2, 3, 4, 5, 6]) (ds := ?_) ?_ ?_ ?_ ?_ ?_ ?_
    rotate_left
    ·kernel_rfl
    ·kernel_rfl
    ·kernel_rfl
    ·rfl
    ·rfl
    iterate 7 (refine jaS (by first | rfl | (simp only [go_sem, h0, h1, h5, h6, nW, jax, jar, jaw, jap, jaP, jdH, jdG, jag, jae, hp, p1, e2])) (by simp only [jaT, heavy, jba, jaJ, go_sem, h0, h1, h5, h6, nW, jax, jar, jaw, jap, jaP, jdH, jdG, jag, jae, hp, p1, e2]; try exact rfl) rfl ?_)
    simp only [dRun, jaM, jao]
    repeat (first | refine jaf ?_ | ((first | (refine jad ?_ ?_; (focus rfl)) | (refine jac (gs := ?_) ?_ ?_; rotate_left; (focus rfl))); simp only [run1, go_sem, h0, h1, h5, h6, np27, jcQ, hr, q27]) | (refine jab ?_ ?_; (focus (simp only [go_sem, h0, h1, h5, h6, np27, jcQ, hr, q27]; done))) | (refine jaa ?_ ?_; (focus (simp only [go_sem, h0, h1, h5, h6, np27, jcQ, hr, q27]; done))) | ((first | refine jaj ?_ | refine jai ?_ | refine jak ?_); try simp only [go_sem]) | refine jah ?_)
    rw [show k + (m + 1) + 5999 = k + m + 6000 from by omega]
    refine EndsC.mono (hih hL hG1 hi z1 (by simp only [go_sem, h0]) (by simp only [go_sem, h1]) (by simp only [go_sem, h5]) (by simp only [go_sem])) ?_
    rintro x r μ' ⟨hx, g1, g2, g3⟩
    exact ⟨hx, g1, (Only.obs (by omega)).trans (z2.trans g2), g3⟩
   ·have e2 : ilt dp (.ofNat 9) = true := (jbq _ _).trans (decide_eq_true (by show dp < 9; omega))
    rw [if_neg h9] at hK
    have p4 : ∀ z, jau ⟨μ.obs, z⟩ pb (po + q) = some (.int .i64 (.ofNat (powts.getD q 0))) := fun z => p3 q (by omega)
    have hix : ∀ (rg : Rg) (a b : Operand), aev Tryz.prog rg a = .slice (some ⟨pb, po, none⟩) 9 pc → aev Tryz.prog rg b = .int .i64 (.ofNat q) → jaE Tryz.prog (aev Tryz.prog rg) 231 a b = some (.pointer (some ⟨pb, po + q, none⟩)) := fun rg a b g1 g2 => jaZ (P := Tryz.prog) Tryz.underlying231 jfC rfl g1 g2 (by omega)
    have p4 : ∀ z, jau ⟨μ.obs, z⟩ pb (po + q) = some (.int .i64 (.ofNat K)) := fun z => by rw [hK]; exact p4 z
    rw [hq] at hp e2
    obtain ⟨μ1, hr, z1, z2⟩ := hsh (X := X) (g := k + (m + 1) + 5993) (i := i) (x := -(K : Int)) (μ := ⟨μ.obs, μ.next + 7 + 8⟩) (dp := dp) (neg := neg) (by omega) rfl (by omega) (by omega) (h.up _)
    have hG1 : Grow μ0 μ1 := (hG.only (Only.obs (by omega)) hi).only z2 hi
    refine jas ?_
    repeat (first | refine jaf ?_ | ((first | (refine jad ?_ ?_; (focus rfl)) | (refine jac (gs := ?_) ?_ ?_; rotate_left; (focus rfl))); simp only [run1, go_sem, h0, h1, h5, h6, jaw, jap, hpd, e1]) | (refine jab ?_ ?_; (focus (simp only [go_sem, h0, h1, h5, h6, jaw, jap, hpd, e1]; done))) | (refine jaa ?_ ?_; (focus (simp only [go_sem, h0, h1, h5, h6, jaw, jap, hpd, e1]; done))) | ((first | refine jaj ?_ | refine jai ?_ | refine jak ?_); try simp only [go_sem]) | refine jah ?_)
    refine jaU (n := 7) (ms := [0, 1, 3, 7, 0, 16, 63]) (ord := [0, 1, 2, 3, 4, 5, 6]) (ds := ?_) ?_ ?_ ?_ ?_ ?_ ?_
    rotate_left
    ·kernel_rfl
    ·kernel_rfl
    ·kernel_rfl
    ·rfl
    ·rfl
    iterate 7 (refine jaS (by first | rfl | (simp only [go_sem, h0, h1, h5, h6, nW, jax, jar, jaw, jap, jaP, jdH, jdG, jag, jae, hp, p1, e2])) (by simp only [jaT, heavy, jba, jaJ, go_sem, h0, h1, h5, h6, nW, jax, jar, jaw, jap, jaP, jdH, jdG, jag, jae, hp, p1, e2]; try exact rfl) rfl ?_)
    simp only [dRun, jaM, jao]
    repeat (first | refine jaf ?_ | ((first | (refine jad ?_ ?_; (focus rfl)) | (refine jac (gs := ?_) ?_ ?_; rotate_left; (focus rfl))); simp only [run1, go_sem, h0, h1, h5, h6]) | (refine jab ?_ ?_; (focus (simp only [go_sem, h0, h1, h5, h6]; done))) | (refine jaa ?_ ?_; (focus (simp only [go_sem, h0, h1, h5, h6]; done))) | ((first | refine jaj ?_ | refine jai ?_ | refine jak ?_); try simp only [go_sem]) | refine jah ?_)
    refine jaU (n := 8) (ms := [0, 0, 2, 6, 14, 31, 63, 127]) (ord := [0, 1, 2, 3, 4, 5, 6, 7]) (ds := ?_) ?_ ?_ ?_ ?_ ?_ ?_
    rotate_left
    ·kernel_rfl
    ·kernel_rfl
    ·kernel_rfl
    ·rfl
    ·rfl
    iterate 8 (refine jaS (by first | rfl | (simp only [go_sem, h0, h1, h5, h6, nW, jax, jar, jaw, jap, jaP, jdH, jdG, jag, jae, hp, p1, hix, p4])) (by simp only [jaT, heavy, jba, jaJ, go_sem, h0, h1, h5, h6, nW, jax, jar, jaw, jap, jaP, jdH, jdG, jag, jae, hp, p1, hix, p4]; try exact rfl) rfl ?_)
    simp only [dRun, jaM, jao]
    repeat (first | refine jaf ?_ | ((first | (refine jad ?_ ?_; (focus rfl)) | (refine jac (gs := ?_) ?_ ?_; rotate_left; (focus rfl))); simp only [run1, go_sem, h0, h1, h5, h6, np, jcQ, hr, q2]) | (refine jab ?_ ?_; (focus (simp only [go_sem, h0, h1, h5, h6, np, jcQ, hr, q2]; done))) | (refine jaa ?_ ?_; (focus (simp only [go_sem, h0, h1, h5, h6, np, jcQ, hr, q2]; done))) | ((first | refine jaj ?_ | refine jai ?_ | refine jak ?_); try simp only [go_sem]) | refine jah ?_)
    rw [show k + (m + 1) + 5999 = k + m + 6000 from by omega]
    refine EndsC.mono (hih hL hG1 hi z1 (by simp only [go_sem, h0]) (by simp only [go_sem, h1]) (by simp only [go_sem, h5]) (by simp only [go_sem])) ?_
    rintro x r μ' ⟨hx, g1, g2, g3⟩
    exact ⟨hx, g1, (Only.obs (by omega)).trans (z2.trans g2), g3⟩
theorem fl_exit {D : Nat → Nat} {n : Nat} {tr : Bool} {dp e : Int} (G : Good D n) (hz : 0 < dp ∨ (dp = 0 ∧ 53 ≤ D 0)) {X : XT} {k i : Nat} {tm : T Value} {μ : Mem} {neg : Bool} (h : Dec μ i D n dp neg tr) (h0 : jaq tm 0 = .pointer (some ⟨i, 0, none⟩)) (h1 : jaq tm 1 = .pointer (some ⟨8, 0, none⟩)) (h5 : jaq tm 5 = .bool false) (h6 : jaq tm 6 = .int .i64 e) :
  EndsC (jat Tryz.prog X S0 (k + 6000) (.loop (jaL Tryz.f147 1)) ⟨243, tm, [], none⟩ μ) fun x r μ' => x = .exit 2 ∧ Dec μ' i D n dp neg tr ∧ Only μ μ' i ∧ ∃ tm', r = ⟨243, tm', [], none⟩ ∧ jaq tm' 0 = .pointer (some ⟨i, 0, none⟩) ∧ jaq tm' 1 = .pointer (some ⟨8, 0, none⟩) ∧ jaq tm' 5 = .bool false ∧ jaq tm' 6 = .int .i64 e := by
 have hp := h.p
 have hd0 := h.d 0 (by omega)
 have hix0 : ∀ (rg : Rg) (a : Operand), aev Tryz.prog rg a = .pointer (some ⟨i, 0, none⟩) → jaE Tryz.prog (aev Tryz.prog rg) 185 a (.const (.int .i64 0)) = some (.pointer (some ⟨i, 0, none⟩)) := fun rg a g1 => jc7 (m := 0) (by omega) g1 rfl
 have e1 : ilt dp 0 = false := (jbq _ _).trans (decide_eq_false (by omega))
 rcases hz with hz | ⟨hz, hz2⟩
 ·have e2 : ieq dp 0 = false := by rw [jeZ]; exact decide_eq_false (by omega)
  refine jas ?_
  refine jaf ?_
  refine jaf ?_
  refine jac (gs := ?_) ?_ ?_
  rotate_left
  ·rfl
  iterate 12 (refine jal (by first | rfl | (simp only [go_sem, undef, h0, h1, h5, h6, jax, jaw, jap, jaP, hp, hd0, hix0, e1, e2])) (by simp only [go_sem, undef, h0, h1, h5, h6, jax, jaw, jap, jaP, hp, hd0, hix0, e1, e2]; try exact rfl) rfl ?_)
  iterate 6 (refine jaA (by simp only [go_sem, undef, h0, h1, h5, h6, jax, jaw, jap, jaP, hp, hd0, hix0, e1, e2]) rfl ?_)
  iterate 2 (refine jal (by first | rfl | (simp only [go_sem, undef, h0, h1, h5, h6, jax, jaw, jap, jaP, hp, hd0, hix0, e1, e2])) (by simp only [go_sem, undef, h0, h1, h5, h6, jax, jaw, jap, jaP, hp, hd0, hix0, e1, e2]; try exact rfl) rfl ?_)
  simp only [go_sem]
  refine jaa ?_ ?_
  ·simp only [go_sem]
  refine jak ?_
  simp only [jbm]
  exact ⟨by trivial, h, Only.refl _ _, _, rfl, (by simp only [go_sem, h0]), (by simp only [go_sem, h1]), (by simp only [go_sem, h5]), (by simp only [go_sem, h6])⟩
 ·have e2 : ieq dp 0 = true := by rw [jeZ]; exact decide_eq_true hz
  have e3 : ilt (.ofNat (D 0)) 53 = false := (jbx _ 53 53 rfl).trans (decide_eq_false (by omega))
  refine jas ?_
  refine jaf ?_
  refine jaf ?_
  refine jac (gs := ?_) ?_ ?_
  rotate_left
  ·rfl
  iterate 20 (refine jal (by first | rfl | (simp only [go_sem, undef, h0, h1, h5, h6, jax, jaw, jap, jaP, hp, hd0, hix0, e1, e2, e3])) (by simp only [go_sem, undef, h0, h1, h5, h6, jax, jaw, jap, jaP, hp, hd0, hix0, e1, e2, e3]; try exact rfl) rfl ?_)
  simp only [go_sem]
  refine jaa ?_ ?_
  ·simp only [go_sem]
  refine jak ?_
  simp only [jbm]
  exact ⟨by trivial, h, Only.refl _ _, _, rfl, (by simp only [go_sem, h0]), (by simp only [go_sem, h1]), (by simp only [go_sem, h5]), (by simp only [go_sem, h6])⟩
theorem fl_loop : ∀ (m : Nat) (D : Nat → Nat) (n : Nat) (tr : Bool) (dp e : Int), Good D n → ((0 < dp ∨ (dp = 0 ∧ 53 ≤ D 0)) ∨ 10 * (-dp) + ((57 - D 0 : Nat) : Int) ≤ m) → dp ≤ 20 → -330 ≤ dp → -200000 < e - 27 * m → e < 200000 →
  ∃ (D' : Nat → Nat) (n' : Nat) (tr' : Bool) (dp' e' : Int), Good D' n' ∧ 0 ≤ dp' ∧ dp' ≤ 20 ∧ e' ≤ e ∧ e - 27 * m ≤ e' ∧ ∀ {X : XT} {k i : Nat} {tm : T Value} {μ0 μ : Mem} {neg : Bool}, Lay μ0 → Grow μ0 μ → μ0.next ≤ i → Dec μ i D n dp neg tr → jaq tm 0 = .pointer (some ⟨i, 0, none⟩) → jaq tm 1 = .pointer (some ⟨8, 0, none⟩) → jaq tm 5 = .bool false → jaq tm 6 = .int .i64 e →
  EndsC (jat Tryz.prog X S0 (k + m + 6000) (.loop (jaL Tryz.f147 1)) ⟨243, tm, [], none⟩ μ) fun x r μ' => x = .exit 2 ∧ Dec μ' i D' n' dp' neg tr' ∧ Only μ μ' i ∧ ∃ tm', r = ⟨243, tm', [], none⟩ ∧ jaq tm' 0 = .pointer (some ⟨i, 0, none⟩) ∧ jaq tm' 1 = .pointer (some ⟨8, 0, none⟩) ∧ jaq tm' 5 = .bool false ∧ jaq tm' 6 = .int .i64 e' := by
 intro m
 induction m with
 | zero =>
   intro D n tr dp e G hm hdp hdp2 he he2
   have hz : 0 < dp ∨ (dp = 0 ∧ 53 ≤ D 0) := by have := G.dg 0 G.pos; omega
   exact ⟨D, n, tr, dp, e, G, by omega, hdp, Int.le_refl _, by omega, fun {X k i tm μ0 μ neg} hL hG hi h h0 h1 h5 h6 => fl_exit (k := k) G hz h h0 h1 h5 h6⟩
 | succ m ih =>
   intro D n tr dp e G hm hdp hdp2 he he2
   by_cases hz : 0 < dp ∨ (dp = 0 ∧ 53 ≤ D 0)
   ·exact ⟨D, n, tr, dp, e, G, by omega, hdp, Int.le_refl _, by omega, fun {X k i tm μ0 μ neg} hL hG hi h h0 h1 h5 h6 => fl_exit (k := k + (m + 1)) G hz h h0 h1 h5 h6⟩
   have hm := hm.resolve_left hz
   have hlead := G.lead
   have hdg0 := G.dg 0 G.pos
   obtain ⟨q, hqd⟩ : ∃ q : Nat, dp = -(q : Int) := ⟨(-dp).toNat, by omega⟩
   obtain ⟨K, hK⟩ : ∃ K, K = (if 9 ≤ q then 27 else powts.getD q 0) := ⟨_, rfl⟩
   have hKb : 1 ≤ K ∧ K ≤ 27 := by
    rw [hK]; split
    ·omega
    ·have := jiP q (by omega); omega
   obtain ⟨D1, n1, s, tr1, G1, b1, b2, hsh⟩ := jhg (k := K) (tr := tr) G hKb.1 (by omega)
   have hlead1 := G1.dg 0 G1.pos
   obtain ⟨D', n', tr', dp', e', c1, c2, c3, c4, c5, hih⟩ := ih D1 n1 tr1 (dp + (s : Int)) (e - (K : Int)) G1 (by
    by_cases hd' : 0 < dp + (s : Int) ∨ (dp + (s : Int) = 0 ∧ 53 ≤ D1 0)
    ·exact .inl hd'
    ·refine .inr ?_
     by_cases hs0 : s = 0
     ·have := b2 hs0
      have := G1.lead
      omega
     ·have := G1.lead
      omega) (by omega) (by omega) (by omega) (by omega)
   refine ⟨D', n', tr', dp', e', c1, c2, c3, by omega, by omega, fun {X k i tm μ0 μ neg} hL hG hi h h0 h1 h5 h6 => ?_⟩
   have np : ∀ (ρ : Operand → Value) (d : Option Tmp) (t ty : TypeId) (a : Operand) (ps : String) (af : Array Edge) (gd : Option (Nat × Bool)), ρ a = .int .i64 dp → ja0 Tryz.prog ρ ⟨d, .unOp .neg t a, ty, ps, af, gd⟩ = some (.int .i64 (.ofNat q)) := fun ρ d t ty a ps af gd g => by
    have := jcZ (d := d) (t := t) (ty := ty) (ps := ps) (af := af) (gd := gd) g (by omega) (by omega)
    rw [this, hqd, Int.neg_neg]; rfl
   have q2 : jay .i64 (Int.sub e (.ofNat K)) = e - (K : Int) := jdK e (K : Int) (by omega) (by omega)
   have hpd := h.p
   have hdd := h.d 0 (by omega)
   have hix0 : ∀ (rg : Rg) (a : Operand), aev Tryz.prog rg a = .pointer (some ⟨i, 0, none⟩) → jaE Tryz.prog (aev Tryz.prog rg) 185 a (.const (.int .i64 0)) = some (.pointer (some ⟨i, 0, none⟩)) := fun rg a g1 => jc7 (m := 0) (by omega) g1 rfl
   have hp := fun z => (h.up z).p
   have hd0 := fun z => (h.up z).d 0 (by omega)
   obtain ⟨pb, po, pc, p1, p2, p3⟩ := (hL.grow hG).pw
   have p1 : ∀ z, jau ⟨μ.obs, z⟩ 11 0 = some (.slice (some ⟨pb, po, none⟩) 9 pc) := fun z => p1
   by_cases hneg : dp < 0
   ·have e1 : ilt dp 0 = true := (jbq _ _).trans (decide_eq_true hneg)
    by_cases h9 : 9 ≤ q
    ·have e2 : ilt (.ofNat q) (.ofNat 9) = false := (jav _ _).trans (decide_eq_false (by omega))
     rw [if_pos h9] at hK
     subst hK
     have q27 : jay .i64 (Int.sub e 27) = e - ((27 : Nat) : Int) := q2
     obtain ⟨μ1, hr, z1, z2⟩ := hsh (X := X) (g := k + (m + 1) + 5993) (i := i) (μ := ⟨μ.obs, μ.next + 8⟩) (dp := dp) (neg := neg) (by omega) (hL.grow (hG.only (Only.obs (by omega)) hi)) (by omega) (by omega) (h.up _)
     have hG1 : Grow μ0 μ1 := (hG.only (Only.obs (by omega)) hi).only z2 hi
     have hr27 : aFun Tryz.prog (jat Tryz.prog X S0 (k + (m + 1) + 5993)) 163 [.pointer (some ⟨i, 0, none⟩), .int .i64 27] ⟨μ.obs, μ.next + 8⟩ = some (.tuple #[], μ1) := hr
     refine jas ?_
     refine jaf ?_
     refine jaf ?_
     refine jac (gs := ?_) ?_ ?_
     rotate_left
     ·rfl
     iterate 6 (refine jal (by first | rfl | (simp only [go_sem, undef, h0, h1, h5, h6, jax, jaw, jap, jaP, hpd, hdd, hix0, e1])) (by simp only [go_sem, undef, h0, h1, h5, h6, jax, jaw, jap, jaP, hpd, hdd, hix0, e1]; try exact rfl) rfl ?_)
     iterate 13 (refine jaA (by simp only [go_sem, undef, h0, h1, h5, h6, jax, jaw, jap, jaP, hpd, hdd, hix0, e1]) rfl ?_)
     refine jal (by first | rfl | (simp only [go_sem, undef, h0, h1, h5, h6, jax, jaw, jap, jaP, hpd, hdd, hix0, e1])) (by simp only [go_sem, undef, h0, h1, h5, h6, jax, jaw, jap, jaP, hpd, hdd, hix0, e1]; try exact rfl) rfl ?_
     simp only [go_sem]
     repeat (first | refine jaf ?_ | ((first | (refine jad ?_ ?_; (focus rfl)) | (refine jac (gs := ?_) ?_ ?_; rotate_left; (focus rfl))); simp only [run1, go_sem, h0, h1, h5, h6]) | (refine jab ?_ ?_; (focus (simp only [go_sem, h0, h1, h5, h6]; done))) | (refine jaa ?_ ?_; (focus (simp only [go_sem, h0, h1, h5, h6]; done))) | ((first | refine jaj ?_ | refine jai ?_ | refine jak ?_); try simp only [go_sem]) | refine jah ?_)
     refine jaU (n := 8) (ms := [0, 1, 3, 7, 15, 0, 32, 127]) (ord := [0, 1, 2, 3, 4, 5, 6, 7]) (ds := ?_) ?_ ?_ ?_ ?_ ?_ ?_
     rotate_left
     ·kernel_rfl
     ·kernel_rfl
     ·kernel_rfl
     ·rfl
     ·rfl
     iterate 8 (refine jaS (by first | rfl | (simp only [go_sem, h0, h1, h5, h6, nW, jax, jar, jaw, jap, jaP, jdH, jdG, jag, jae, hp, p1, np, e2])) (by simp only [jaT, heavy, jba, jaJ, go_sem, h0, h1, h5, h6, nW, jax, jar, jaw, jap, jaP, jdH, jdG, jag, jae, hp, p1, np, e2]; try exact rfl) rfl ?_)
     simp only [dRun, jaM, jao]
     repeat (first | refine jaf ?_ | ((first | (refine jad ?_ ?_; (focus rfl)) | (refine jac (gs := ?_) ?_ ?_; rotate_left; (focus rfl))); simp only [run1, go_sem, h0, h1, h5, h6, hr27, q27, jcQ, hr, q2]) | (refine jab ?_ ?_; (focus (simp only [go_sem, h0, h1, h5, h6, hr27, q27, jcQ, hr, q2]; done))) | (refine jaa ?_ ?_; (focus (simp only [go_sem, h0, h1, h5, h6, hr27, q27, jcQ, hr, q2]; done))) | ((first | refine jaj ?_ | refine jai ?_ | refine jak ?_); try simp only [go_sem]) | refine jah ?_)
     rw [show k + (m + 1) + 5999 = k + m + 6000 from by omega]
     refine EndsC.mono (hih hL hG1 hi z1 (by simp only [go_sem, h0]) (by simp only [go_sem, h1]) (by simp only [go_sem, h5]) (by simp only [go_sem])) ?_
     rintro x r μ' ⟨hx, g1, g2, g3⟩
     exact ⟨hx, g1, (Only.obs (by omega)).trans (z2.trans g2), g3⟩
    ·have e2 : ilt (.ofNat q) (.ofNat 9) = true := (jav _ _).trans (decide_eq_true (by omega))
     rw [if_neg h9] at hK
     have p4 : ∀ z, jau ⟨μ.obs, z⟩ pb (po + q) = some (.int .i64 (.ofNat (powts.getD q 0))) := fun z => p3 q (by omega)
     have hix : ∀ (rg : Rg) (a b : Operand), aev Tryz.prog rg a = .slice (some ⟨pb, po, none⟩) 9 pc → aev Tryz.prog rg b = .int .i64 (.ofNat q) → jaE Tryz.prog (aev Tryz.prog rg) 231 a b = some (.pointer (some ⟨pb, po + q, none⟩)) := fun rg a b g1 g2 => jaZ (P := Tryz.prog) Tryz.underlying231 jfC rfl g1 g2 (by omega)
     have p4 : ∀ z, jau ⟨μ.obs, z⟩ pb (po + q) = some (.int .i64 (.ofNat K)) := fun z => by rw [hK]; exact p4 z
     obtain ⟨μ1, hr, z1, z2⟩ := hsh (X := X) (g := k + (m + 1) + 5993) (i := i) (μ := ⟨μ.obs, μ.next + 8 + 9⟩) (dp := dp) (neg := neg) (by omega) (hL.grow (hG.only (Only.obs (by omega)) hi)) (by omega) (by omega) (h.up _)
     have hG1 : Grow μ0 μ1 := (hG.only (Only.obs (by omega)) hi).only z2 hi
     refine jas ?_
     refine jaf ?_
     refine jaf ?_
     refine jac (gs := ?_) ?_ ?_
     rotate_left
     ·rfl
     iterate 6 (refine jal (by first | rfl | (simp only [go_sem, undef, h0, h1, h5, h6, jax, jaw, jap, jaP, hpd, hdd, hix0, e1])) (by simp only [go_sem, undef, h0, h1, h5, h6, jax, jaw, jap, jaP, hpd, hdd, hix0, e1]; try exact rfl) rfl ?_)
     iterate 13 (refine jaA (by simp only [go_sem, undef, h0, h1, h5, h6, jax, jaw, jap, jaP, hpd, hdd, hix0, e1]) rfl ?_)
     refine jal (by first | rfl | (simp only [go_sem, undef, h0, h1, h5, h6, jax, jaw, jap, jaP, hpd, hdd, hix0, e1])) (by simp only [go_sem, undef, h0, h1, h5, h6, jax, jaw, jap, jaP, hpd, hdd, hix0, e1]; try exact rfl) rfl ?_
     simp only [go_sem]
     repeat (first | refine jaf ?_ | ((first | (refine jad ?_ ?_; (focus rfl)) | (refine jac (gs := ?_) ?_ ?_; rotate_left; (focus rfl))); simp only [run1, go_sem, h0, h1, h5, h6]) | (refine jab ?_ ?_; (focus (simp only [go_sem, h0, h1, h5, h6]; done))) | (refine jaa ?_ ?_; (focus (simp only [go_sem, h0, h1, h5, h6]; done))) | ((first | refine jaj ?_ | refine jai ?_ | refine jak ?_); try simp only [go_sem]) | refine jah ?_)
     refine jaU (n := 8) (ms := [0, 1, 3, 7, 15, 0, 32, 127]) (ord := [0, 1, 2, 3, 4, 5, 6, 7]) (ds := ?_) ?_ ?_ ?_ ?_ ?_ ?_
     rotate_left
     ·kernel_rfl
     ·kernel_rfl
     ·kernel_rfl
     ·rfl
     ·rfl
     iterate 8 (refine jaS (by first | rfl | (simp only [go_sem, h0, h1, h5, h6, nW, jax, jar, jaw, jap, jaP, jdH, jdG, jag, jae, hp, p1, np, e2])) (by simp only [jaT, heavy, jba, jaJ, go_sem, h0, h1, h5, h6, nW, jax, jar, jaw, jap, jaP, jdH, jdG, jag, jae, hp, p1, np, e2]; try exact rfl) rfl ?_)
     simp only [dRun, jaM, jao]
     repeat (first | refine jaf ?_ | ((first | (refine jad ?_ ?_; (focus rfl)) | (refine jac (gs := ?_) ?_ ?_; rotate_left; (focus rfl))); simp only [run1, go_sem, h0, h1, h5, h6]) | (refine jab ?_ ?_; (focus (simp only [go_sem, h0, h1, h5, h6]; done))) | (refine jaa ?_ ?_; (focus (simp only [go_sem, h0, h1, h5, h6]; done))) | ((first | refine jaj ?_ | refine jai ?_ | refine jak ?_); try simp only [go_sem]) | refine jah ?_)
     refine jaU (n := 9) (ms := [0, 0, 2, 6, 14, 30, 63, 127, 255]) (ord := [0, 1, 2, 3, 4, 5, 6, 7, 8]) (ds := ?_) ?_ ?_ ?_ ?_ ?_ ?_
     rotate_left
     ·kernel_rfl
     ·kernel_rfl
     ·kernel_rfl
     ·rfl
     ·rfl
     iterate 9 (refine jaS (by first | rfl | (simp only [go_sem, h0, h1, h5, h6, nW, jax, jar, jaw, jap, jaP, jdH, jdG, jag, jae, hp, p1, np, hix, p4])) (by simp only [jaT, heavy, jba, jaJ, go_sem, h0, h1, h5, h6, nW, jax, jar, jaw, jap, jaP, jdH, jdG, jag, jae, hp, p1, np, hix, p4]; try exact rfl) rfl ?_)
     simp only [dRun, jaM, jao]
     repeat (first | refine jaf ?_ | ((first | (refine jad ?_ ?_; (focus rfl)) | (refine jac (gs := ?_) ?_ ?_; rotate_left; (focus rfl))); simp only [run1, go_sem, h0, h1, h5, h6, jcQ, hr, q2]) | (refine jab ?_ ?_; (focus (simp only [go_sem, h0, h1, h5, h6, jcQ, hr, q2]; done))) | (refine jaa ?_ ?_; (focus (simp only [go_sem, h0, h1, h5, h6, jcQ, hr, q2]; done))) | ((first | refine jaj ?_ | refine jai ?_ | refine jak ?_); try simp only [go_sem]) | refine jah ?_)
     rw [show k + (m + 1) + 5999 = k + m + 6000 from by omega]
     refine EndsC.mono (hih hL hG1 hi z1 (by simp only [go_sem, h0]) (by simp only [go_sem, h1]) (by simp only [go_sem, h5]) (by simp only [go_sem])) ?_
     rintro x r μ' ⟨hx, g1, g2, g3⟩
     exact ⟨hx, g1, (Only.obs (by omega)).trans (z2.trans g2), g3⟩
   ·have e1 : ilt dp 0 = false := (jbq _ _).trans (decide_eq_false hneg)
    have e0 : ieq dp 0 = true := by rw [jeZ]; exact decide_eq_true (by omega)
    have e3 : ilt (.ofNat (D 0)) 53 = true := (jbx _ 53 53 rfl).trans (decide_eq_true (by omega))
    have h9 : ¬ 9 ≤ q := by omega
    have e2 : ilt (.ofNat q) (.ofNat 9) = true := (jav _ _).trans (decide_eq_true (by omega))
    rw [if_neg h9] at hK
    have p4 : ∀ z, jau ⟨μ.obs, z⟩ pb (po + q) = some (.int .i64 (.ofNat (powts.getD q 0))) := fun z => p3 q (by omega)
    have hix : ∀ (rg : Rg) (a b : Operand), aev Tryz.prog rg a = .slice (some ⟨pb, po, none⟩) 9 pc → aev Tryz.prog rg b = .int .i64 (.ofNat q) → jaE Tryz.prog (aev Tryz.prog rg) 231 a b = some (.pointer (some ⟨pb, po + q, none⟩)) := fun rg a b g1 g2 => jaZ (P := Tryz.prog) Tryz.underlying231 jfC rfl g1 g2 (by omega)
    have p4 : ∀ z, jau ⟨μ.obs, z⟩ pb (po + q) = some (.int .i64 (.ofNat K)) := fun z => by rw [hK]; exact p4 z
    obtain ⟨μ1, hr, z1, z2⟩ := hsh (X := X) (g := k + (m + 1) + 5993) (i := i) (μ := ⟨μ.obs, μ.next + 8 + 9⟩) (dp := dp) (neg := neg) (by omega) (hL.grow (hG.only (Only.obs (by omega)) hi)) (by omega) (by omega) (h.up _)
    have hG1 : Grow μ0 μ1 := (hG.only (Only.obs (by omega)) hi).only z2 hi
    refine jas ?_
    refine jaf ?_
    refine jaf ?_
    refine jac (gs := ?_) ?_ ?_
    rotate_left
    ·rfl
    iterate 20 (refine jal (by first | rfl | (simp only [go_sem, undef, h0, h1, h5, h6, jax, jaw, jap, jaP, hpd, hdd, hix0, e1, e0, e3])) (by simp only [go_sem, undef, h0, h1, h5, h6, jax, jaw, jap, jaP, hpd, hdd, hix0, e1, e0, e3]; try exact rfl) rfl ?_)
    simp only [go_sem]
    repeat (first | refine jaf ?_ | ((first | (refine jad ?_ ?_; (focus rfl)) | (refine jac (gs := ?_) ?_ ?_; rotate_left; (focus rfl))); simp only [run1, go_sem, h0, h1, h5, h6]) | (refine jab ?_ ?_; (focus (simp only [go_sem, h0, h1, h5, h6]; done))) | (refine jaa ?_ ?_; (focus (simp only [go_sem, h0, h1, h5, h6]; done))) | ((first | refine jaj ?_ | refine jai ?_ | refine jak ?_); try simp only [go_sem]) | refine jah ?_)
    refine jaU (n := 8) (ms := [0, 1, 3, 7, 15, 0, 32, 127]) (ord := [0, 1, 2, 3, 4, 5, 6, 7]) (ds := ?_) ?_ ?_ ?_ ?_ ?_ ?_
    rotate_left
    ·kernel_rfl
    ·kernel_rfl
    ·kernel_rfl
    ·rfl
    ·rfl
    iterate 8 (refine jaS (by first | rfl | (simp only [go_sem, h0, h1, h5, h6, nW, jax, jar, jaw, jap, jaP, jdH, jdG, jag, jae, hp, p1, np, e2])) (by simp only [jaT, heavy, jba, jaJ, go_sem, h0, h1, h5, h6, nW, jax, jar, jaw, jap, jaP, jdH, jdG, jag, jae, hp, p1, np, e2]; try exact rfl) rfl ?_)
    simp only [dRun, jaM, jao]
    repeat (first | refine jaf ?_ | ((first | (refine jad ?_ ?_; (focus rfl)) | (refine jac (gs := ?_) ?_ ?_; rotate_left; (focus rfl))); simp only [run1, go_sem, h0, h1, h5, h6]) | (refine jab ?_ ?_; (focus (simp only [go_sem, h0, h1, h5, h6]; done))) | (refine jaa ?_ ?_; (focus (simp only [go_sem, h0, h1, h5, h6]; done))) | ((first | refine jaj ?_ | refine jai ?_ | refine jak ?_); try simp only [go_sem]) | refine jah ?_)
    refine jaU (n := 9) (ms := [0, 0, 2, 6, 14, 30, 63, 127, 255]) (ord := [0, 1, 2, 3, 4, 5, 6, 7, 8]) (ds := ?_) ?_ ?_ ?_ ?_ ?_ ?_
    rotate_left
    ·kernel_rfl
    ·kernel_rfl
    ·kernel_rfl
    ·rfl
    ·rfl
    iterate 9 (refine jaS (by first | rfl | (simp only [go_sem, h0, h1, h5, h6, nW, jax, jar, jaw, jap, jaP, jdH, jdG, jag, jae, hp, p1, np, hix, p4])) (by simp only [jaT, heavy, jba, jaJ, go_sem, h0, h1, h5, h6, nW, jax, jar, jaw, jap, jaP, jdH, jdG, jag, jae, hp, p1, np, hix, p4]; try exact rfl) rfl ?_)
    simp only [dRun, jaM, jao]
    repeat (first | refine jaf ?_ | ((first | (refine jad ?_ ?_; (focus rfl)) | (refine jac (gs := ?_) ?_ ?_; rotate_left; (focus rfl))); simp only [run1, go_sem, h0, h1, h5, h6, jcQ, hr, q2]) | (refine jab ?_ ?_; (focus (simp only [go_sem, h0, h1, h5, h6, jcQ, hr, q2]; done))) | (refine jaa ?_ ?_; (focus (simp only [go_sem, h0, h1, h5, h6, jcQ, hr, q2]; done))) | ((first | refine jaj ?_ | refine jai ?_ | refine jak ?_); try simp only [go_sem]) | refine jah ?_)
    rw [show k + (m + 1) + 5999 = k + m + 6000 from by omega]
    refine EndsC.mono (hih hL hG1 hi z1 (by simp only [go_sem, h0]) (by simp only [go_sem, h1]) (by simp only [go_sem, h5]) (by simp only [go_sem])) ?_
    rintro x r μ' ⟨hx, g1, g2, g3⟩
    exact ⟨hx, g1, (Only.obs (by omega)).trans (z2.trans g2), g3⟩
end
noncomputable section
open Go.Proofs.YtdjoekhccbiaiaaGreatDoor.DecM (val Dg)
attribute [local irreducible] ja1
theorem fb14 (m : Nat) (e : Int) (he : -1023 ≤ e) : ∃ e', -1023 ≤ e' ∧ (e' = e ∨ e' = -1023) ∧ ∀ {X : XT} {k i n : Nat} {tm : T Value} {μ0 μ : Mem} {D : Nat → Nat} {dp : Int} {tr neg : Bool}, Lay μ0 → Grow μ0 μ → μ0.next ≤ i → Dec μ i D n dp neg tr → jaq tm 0 = .pointer (some ⟨i, 0, none⟩) → jaq tm 1 = .pointer (some ⟨8, 0, none⟩) → jaq tm 5 = .bool false → jaq tm 6 = .int .i64 e → jaq tm 7 = u m →
  EndsC (jat Tryz.prog X S0 (k + 40) (ja1 14 (jaX Tryz.f147)) ⟨243, tm, [], none⟩ μ) (Mid (some (m, e')) neg i μ) := by
 by_cases hz : W (W m &&& 4503599627370496) = 0
 ·have e1 : ieq (.ofNat (W (W m &&& 4503599627370496))) 0 = true := (jaO _ 0 0 rfl).trans (decide_eq_true hz)
  refine ⟨-1023, Int.le_refl _, .inr rfl, fun {X k i n tm μ0 μ D dp tr neg} hL hG hi h h0 h1 h5 h6 h7 => ?_⟩
  have hLm := hL.grow hG
  have f0 : ∀ z, jau ⟨μ.obs, z⟩ 8 0 = some (.int .u64 52) := fun z => hLm.fi0
  have f1 : ∀ z, jau ⟨μ.obs, z⟩ 8 1 = some (.int .u64 11) := fun z => hLm.fi1
  have f2 : ∀ z, jau ⟨μ.obs, z⟩ 8 2 = some (.int .i64 (-1023)) := fun z => hLm.fi2
  have g0 := hLm.fi0
  have g1 := hLm.fi1
  have g2 := hLm.fi2
  rw [fs14]
  repeat (first | refine jaf ?_ | ((first | (refine jad ?_ ?_; (focus rfl)) | (refine jac (gs := ?_) ?_ ?_; rotate_left; (focus rfl))); simp only [run1, go_sem, h0, h1, h5, h6, h7, jaG, ja8, jaz, jap, g0, g2, jcK, jh3, e1]) | (refine jab ?_ ?_; (focus (simp only [go_sem, h0, h1, h5, h6, h7, jaG, ja8, jaz, jap, g0, g2, jcK, jh3, e1]; done))) | (refine jaa ?_ ?_; (focus (simp only [go_sem, h0, h1, h5, h6, h7, jaG, ja8, jaz, jap, g0, g2, jcK, jh3, e1]; done))) | ((first | refine jaj ?_ | refine jai ?_ | refine jak ?_); try simp only [go_sem]) | refine jah ?_)
  refine jcF ?_
  simp only [jcy]
  exact ⟨Only.refl _ _, ⟨D, n, dp, tr, h⟩, _, rfl, (by simp only [go_sem, h0]), (by simp only [go_sem, h1]), by trivial, (by simp only [go_sem, h5]), (by simp only [go_sem]), (by simp only [go_sem, h7])⟩
 ·have e1 : ieq (.ofNat (W (W m &&& 4503599627370496))) 0 = false := (jaO _ 0 0 rfl).trans (decide_eq_false hz)
  refine ⟨e, he, .inl rfl, fun {X k i n tm μ0 μ D dp tr neg} hL hG hi h h0 h1 h5 h6 h7 => ?_⟩
  have hLm := hL.grow hG
  have f0 : ∀ z, jau ⟨μ.obs, z⟩ 8 0 = some (.int .u64 52) := fun z => hLm.fi0
  have f1 : ∀ z, jau ⟨μ.obs, z⟩ 8 1 = some (.int .u64 11) := fun z => hLm.fi1
  have f2 : ∀ z, jau ⟨μ.obs, z⟩ 8 2 = some (.int .i64 (-1023)) := fun z => hLm.fi2
  have g0 := hLm.fi0
  have g1 := hLm.fi1
  have g2 := hLm.fi2
  rw [fs14]
  repeat (first | refine jaf ?_ | ((first | (refine jad ?_ ?_; (focus rfl)) | (refine jac (gs := ?_) ?_ ?_; rotate_left; (focus rfl))); simp only [run1, go_sem, h0, h1, h5, h6, h7, jaG, ja8, jaz, jap, g0, g2, jcK, jh3, e1]) | (refine jab ?_ ?_; (focus (simp only [go_sem, h0, h1, h5, h6, h7, jaG, ja8, jaz, jap, g0, g2, jcK, jh3, e1]; done))) | (refine jaa ?_ ?_; (focus (simp only [go_sem, h0, h1, h5, h6, h7, jaG, ja8, jaz, jap, g0, g2, jcK, jh3, e1]; done))) | ((first | refine jaj ?_ | refine jai ?_ | refine jak ?_); try simp only [go_sem]) | refine jah ?_)
  refine jcF ?_
  simp only [jcy]
  exact ⟨Only.refl _ _, ⟨D, n, dp, tr, h⟩, _, rfl, (by simp only [go_sem, h0]), (by simp only [go_sem, h1]), by trivial, (by simp only [go_sem, h5]), (by simp only [go_sem, h6]), (by simp only [go_sem, h7])⟩
theorem Mid.up {o : Option (Nat × Int)} {neg : Bool} {i : Nat} {μ μ1 : Mem} {y : Option (Ax × Rg × Mem)} (g : Only μ μ1 i) (h : EndsC y (Mid o neg i μ1)) : EndsC y (Mid o neg i μ) :=
 EndsC.mono h fun x r μ' ⟨h1, h2⟩ => ⟨g.trans h1, h2⟩
theorem Dec.any {μ : Mem} {i n : Nat} {D : Nat → Nat} {dp : Int} {neg tr : Bool} (h : Dec μ i D n dp neg tr) : ∃ D n dp tr, Dec μ i D n dp neg tr := ⟨_, _, _, _, h⟩
theorem fb13 (m : Nat) (e : Int) (he : -1022 ≤ e) (he2 : e < 2000) : ∃ o, (∀ m' e', o = some (m', e') → -1023 ≤ e' ∧ e' < 100000) ∧ ∀ {X : XT} {k i n : Nat} {tm : T Value} {μ0 μ : Mem} {D : Nat → Nat} {dp : Int} {tr neg : Bool}, Lay μ0 → Grow μ0 μ → μ0.next ≤ i → Dec μ i D n dp neg tr → jaq tm 0 = .pointer (some ⟨i, 0, none⟩) → jaq tm 1 = .pointer (some ⟨8, 0, none⟩) → jaq tm 5 = .bool false → jaq tm 6 = .int .i64 e → jaq tm 7 = u m →
  EndsC (jat Tryz.prog X S0 (k + 80) (ja1 13 (jaX Tryz.f147)) ⟨243, tm, [], none⟩ μ) (Mid o neg i μ) := by
 have qe : jay .i64 (Int.add e 1) = e + 1 := jfD e 1 (by omega) (by omega)
 have qe2 : jay .i64 (Int.sub (e + 1) (-1023)) = e + 1 - (-1023) := jdK (e + 1) (-1023) (by omega) (by omega)
 by_cases hm : W m = 9007199254740992
 rotate_left
 ·have e1 : ieq (.ofNat (W m)) 9007199254740992 = false := (jaO _ 9007199254740992 9007199254740992 rfl).trans (decide_eq_false hm)
  obtain ⟨e', b1, b2, h14⟩ := fb14 m e (by omega)
  refine ⟨some (m, e'), fun m' e'' h => by cases h; omega, fun {X k i n tm μ0 μ D dp tr neg} hL hG hi h h0 h1 h5 h6 h7 => ?_⟩
  have hLm := hL.grow hG
  have f0 : ∀ z, jau ⟨μ.obs, z⟩ 8 0 = some (.int .u64 52) := fun z => hLm.fi0
  have f1 : ∀ z, jau ⟨μ.obs, z⟩ 8 1 = some (.int .u64 11) := fun z => hLm.fi1
  have f2 : ∀ z, jau ⟨μ.obs, z⟩ 8 2 = some (.int .i64 (-1023)) := fun z => hLm.fi2
  have g0 := hLm.fi0
  have g1 := hLm.fi1
  have g2 := hLm.fi2
  rw [fs13]
  repeat (first | refine jaf ?_ | ((first | (refine jad ?_ ?_; (focus rfl)) | (refine jac (gs := ?_) ?_ ?_; rotate_left; (focus rfl))); simp only [run1, go_sem, h0, h1, h5, h6, h7, jaG, ja8, jaz, jap, g0, g2, jd5, e1]) | (refine jab ?_ ?_; (focus (simp only [go_sem, h0, h1, h5, h6, h7, jaG, ja8, jaz, jap, g0, g2, jd5, e1]; done))) | (refine jaa ?_ ?_; (focus (simp only [go_sem, h0, h1, h5, h6, h7, jaG, ja8, jaz, jap, g0, g2, jd5, e1]; done))) | ((first | refine jaj ?_ | refine jai ?_ | refine jak ?_); try simp only [go_sem]) | refine jah ?_)
  exact h14 (k := k + 39) hL hG hi h (by simp only [go_sem, h0]) (by simp only [go_sem, h1]) (by simp only [go_sem, h5]) (by simp only [go_sem, h6]) (by simp only [go_sem, h7])
 have e1 : ieq (.ofNat (W m)) 9007199254740992 = true := (jaO _ 9007199254740992 9007199254740992 rfl).trans (decide_eq_true hm)
 by_cases ho : 2047 ≤ e + 1 - (-1023)
 ·have e2 : ilt (e + 1 - (-1023)) 2047 = false := (jbq _ _).trans (decide_eq_false (by omega))
  refine ⟨none, fun m' e'' h => (by cases h), fun {X k i n tm μ0 μ D dp tr neg} hL hG hi h h0 h1 h5 h6 h7 => ?_⟩
  have hLm := hL.grow hG
  have f0 : ∀ z, jau ⟨μ.obs, z⟩ 8 0 = some (.int .u64 52) := fun z => hLm.fi0
  have f1 : ∀ z, jau ⟨μ.obs, z⟩ 8 1 = some (.int .u64 11) := fun z => hLm.fi1
  have f2 : ∀ z, jau ⟨μ.obs, z⟩ 8 2 = some (.int .i64 (-1023)) := fun z => hLm.fi2
  have g0 := hLm.fi0
  have g1 := hLm.fi1
  have g2 := hLm.fi2
  rw [fs13]
  repeat (first | refine jaf ?_ | ((first | (refine jad ?_ ?_; (focus rfl)) | (refine jac (gs := ?_) ?_ ?_; rotate_left; (focus rfl))); simp only [run1, go_sem, h0, h1, h5, h6, h7, jaG, ja8, jaz, jap, g0, g2, jd5, e1, jjf, qe]) | (refine jab ?_ ?_; (focus (simp only [go_sem, h0, h1, h5, h6, h7, jaG, ja8, jaz, jap, g0, g2, jd5, e1, jjf, qe]; done))) | (refine jaa ?_ ?_; (focus (simp only [go_sem, h0, h1, h5, h6, h7, jaG, ja8, jaz, jap, g0, g2, jd5, e1, jjf, qe]; done))) | ((first | refine jaj ?_ | refine jai ?_ | refine jak ?_); try simp only [go_sem]) | refine jah ?_)
  refine jaU (n := 13) (ms := [0, 0, 2, 6, 14, 31, 0, 64, 192, 448, 960, 1984, 4095]) (ord := [0, 1, 2, 3, 4, 5, 6, 7, 8, 9, 10, 11, 12]) (ds := ?_) ?_ ?_ ?_ ?_ ?_ ?_
  rotate_left
  ·kernel_rfl
  ·kernel_rfl
  ·kernel_rfl
  ·rfl
  ·rfl
  iterate 13 (refine jaS (by first | rfl | (simp only [go_sem, h0, h1, h5, h6, h7, jaG, jbK, ja8, jaz, jap, f0, f1, f2, qe2, jcL, qs1, e2])) (by simp only [jaT, heavy, jba, jaJ, go_sem, h0, h1, h5, h6, h7, jaG, jbK, ja8, jaz, jap, f0, f1, f2, qe2, jcL, qs1, e2]; try exact rfl) rfl ?_)
  simp only [dRun, jaM, jao]
  repeat (first | refine jaf ?_ | ((first | (refine jad ?_ ?_; (focus rfl)) | (refine jac (gs := ?_) ?_ ?_; rotate_left; (focus rfl))); simp only [run1, go_sem, h0, h1]) | (refine jab ?_ ?_; (focus (simp only [go_sem, h0, h1]; done))) | (refine jaa ?_ ?_; (focus (simp only [go_sem, h0, h1]; done))) | ((first | refine jaj ?_ | refine jai ?_ | refine jak ?_); try simp only [go_sem]) | refine jah ?_)
  refine jcF ?_
  simp only [jcy]
  exact ⟨Only.up _ _ _, (h.up _).any, _, rfl, (by simp only [go_sem, h0]), (by simp only [go_sem, h1]), by trivial⟩
 ·have e2 : ilt (e + 1 - (-1023)) 2047 = true := (jbq _ _).trans (decide_eq_true (by omega))
  obtain ⟨e', b1, b2, h14⟩ := fb14 (W m / 2 ^ 1) (e + 1) (by omega)
  refine ⟨some (W m / 2 ^ 1, e'), fun m' e'' h => by cases h; omega, fun {X k i n tm μ0 μ D dp tr neg} hL hG hi h h0 h1 h5 h6 h7 => ?_⟩
  have hLm := hL.grow hG
  have f0 : ∀ z, jau ⟨μ.obs, z⟩ 8 0 = some (.int .u64 52) := fun z => hLm.fi0
  have f1 : ∀ z, jau ⟨μ.obs, z⟩ 8 1 = some (.int .u64 11) := fun z => hLm.fi1
  have f2 : ∀ z, jau ⟨μ.obs, z⟩ 8 2 = some (.int .i64 (-1023)) := fun z => hLm.fi2
  have g0 := hLm.fi0
  have g1 := hLm.fi1
  have g2 := hLm.fi2
  rw [fs13]
  repeat (first | refine jaf ?_ | ((first | (refine jad ?_ ?_; (focus rfl)) | (refine jac (gs := ?_) ?_ ?_; rotate_left; (focus rfl))); simp only [run1, go_sem, h0, h1, h5, h6, h7, jaG, ja8, jaz, jap, g0, g2, jd5, e1, jjf, qe]) | (refine jab ?_ ?_; (focus (simp only [go_sem, h0, h1, h5, h6, h7, jaG, ja8, jaz, jap, g0, g2, jd5, e1, jjf, qe]; done))) | (refine jaa ?_ ?_; (focus (simp only [go_sem, h0, h1, h5, h6, h7, jaG, ja8, jaz, jap, g0, g2, jd5, e1, jjf, qe]; done))) | ((first | refine jaj ?_ | refine jai ?_ | refine jak ?_); try simp only [go_sem]) | refine jah ?_)
  refine jaU (n := 13) (ms := [0, 0, 2, 6, 14, 31, 0, 64, 192, 448, 960, 1984, 4095]) (ord := [0, 1, 2, 3, 4, 5, 6, 7, 8, 9, 10, 11, 12]) (ds := ?_) ?_ ?_ ?_ ?_ ?_ ?_
  rotate_left
  ·kernel_rfl
  ·kernel_rfl
  ·kernel_rfl
  ·rfl
  ·rfl
  iterate 13 (refine jaS (by first | rfl | (simp only [go_sem, h0, h1, h5, h6, h7, jaG, jbK, ja8, jaz, jap, f0, f1, f2, qe2, jcL, qs1, e2])) (by simp only [jaT, heavy, jba, jaJ, go_sem, h0, h1, h5, h6, h7, jaG, jbK, ja8, jaz, jap, f0, f1, f2, qe2, jcL, qs1, e2]; try exact rfl) rfl ?_)
  simp only [dRun, jaM, jao]
  repeat (first | refine jaf ?_ | ((first | (refine jad ?_ ?_; (focus rfl)) | (refine jac (gs := ?_) ?_ ?_; rotate_left; (focus rfl))); simp only [run1, go_sem, h0, h1]) | (refine jab ?_ ?_; (focus (simp only [go_sem, h0, h1]; done))) | (refine jaa ?_ ?_; (focus (simp only [go_sem, h0, h1]; done))) | ((first | refine jaj ?_ | refine jai ?_ | refine jak ?_); try simp only [go_sem]) | refine jah ?_)
  exact Mid.up (Only.up _ _ _) (h14 (k := k + 39) hL (hG.only (Only.up _ _ _) hi) hi (h.up _) (by simp only [go_sem, h0]) (by simp only [go_sem, h1]) (by simp only [go_sem, h5]) (by simp only [go_sem]) (by simp only [go_sem]))
theorem fb10 {D : Nat → Nat} {n : Nat} {tr : Bool} {dp e : Int} (G : Good D n) (hp1 : -490000 < dp) (hp2 : dp < 490000) (he : -1022 ≤ e) (he2 : e < 100000) : ∃ o, (∀ m' e', o = some (m', e') → -1023 ≤ e' ∧ e' < 100000) ∧ ∀ {X : XT} {k i : Nat} {tm : T Value} {μ0 μ : Mem} {neg : Bool}, Lay μ0 → Grow μ0 μ → μ0.next ≤ i → Dec μ i D n dp neg tr → jaq tm 0 = .pointer (some ⟨i, 0, none⟩) → jaq tm 1 = .pointer (some ⟨8, 0, none⟩) → jaq tm 5 = .bool false → jaq tm 6 = .int .i64 e →
  EndsC (jat Tryz.prog X S0 (k + 6000) (ja1 10 (jaX Tryz.f147)) ⟨243, tm, [], none⟩ μ) (Mid o neg i μ) := by
 have qe2 : jay .i64 (Int.sub e (-1023)) = e - (-1023) := jdK e (-1023) (by omega) (by omega)
 by_cases ho : 2047 ≤ e - (-1023)
 ·have e2 : ilt (e - (-1023)) 2047 = false := (jbq _ _).trans (decide_eq_false (by omega))
  refine ⟨none, fun m' e'' h => (by cases h), fun {X k i tm μ0 μ neg} hL hG hi h h0 h1 h5 h6 => ?_⟩
  have hLm := hL.grow hG
  have f0 : ∀ z, jau ⟨μ.obs, z⟩ 8 0 = some (.int .u64 52) := fun z => hLm.fi0
  have f1 : ∀ z, jau ⟨μ.obs, z⟩ 8 1 = some (.int .u64 11) := fun z => hLm.fi1
  have f2 : ∀ z, jau ⟨μ.obs, z⟩ 8 2 = some (.int .i64 (-1023)) := fun z => hLm.fi2
  have g0 := hLm.fi0
  have g1 := hLm.fi1
  have g2 := hLm.fi2
  rw [fs10]
  refine jaf ?_
  refine jaf ?_
  refine jaU (n := 13) (ms := [0, 0, 2, 6, 14, 31, 0, 64, 192, 448, 960, 1984, 4095]) (ord := [0, 1, 2, 3, 4, 5, 6, 7, 8, 9, 10, 11, 12]) (ds := ?_) ?_ ?_ ?_ ?_ ?_ ?_
  rotate_left
  ·kernel_rfl
  ·kernel_rfl
  ·kernel_rfl
  ·rfl
  ·rfl
  iterate 13 (refine jaS (by first | rfl | (simp only [go_sem, h0, h1, h5, h6, jaG, jbK, ja8, jaz, jap, f0, f1, f2, qe2, jcL, qs1, e2])) (by simp only [jaT, heavy, jba, jaJ, go_sem, h0, h1, h5, h6, jaG, jbK, ja8, jaz, jap, f0, f1, f2, qe2, jcL, qs1, e2]; try exact rfl) rfl ?_)
  simp only [dRun, jaM, jao]
  repeat (first | refine jaf ?_ | ((first | (refine jad ?_ ?_; (focus rfl)) | (refine jac (gs := ?_) ?_ ?_; rotate_left; (focus rfl))); simp only [run1, go_sem, h0, h1]) | (refine jab ?_ ?_; (focus (simp only [go_sem, h0, h1]; done))) | (refine jaa ?_ ?_; (focus (simp only [go_sem, h0, h1]; done))) | ((first | refine jaj ?_ | refine jai ?_ | refine jak ?_); try simp only [go_sem]) | refine jah ?_)
  refine jcF ?_
  simp only [jcy]
  exact ⟨Only.up _ _ _, (h.up _).any, _, rfl, (by simp only [go_sem, h0]), (by simp only [go_sem, h1]), by trivial⟩
 ·have e2 : ilt (e - (-1023)) 2047 = true := (jbq _ _).trans (decide_eq_true (by omega))
  obtain ⟨D1, n1, s, tr1, G1, b1, b2, hsh⟩ := jhg (k := 53) (tr := tr) G (by decide) (by decide)
  obtain ⟨m, hri⟩ := ri_ex (tr := tr1) (dp := dp + (s : Int)) G1.dg G1.le (by omega)
  obtain ⟨o, c1, h13⟩ := fb13 m e he (by omega)
  refine ⟨o, c1, fun {X k i tm μ0 μ neg} hL hG hi h h0 h1 h5 h6 => ?_⟩
  have hLm := hL.grow hG
  have f0 : ∀ z, jau ⟨μ.obs, z⟩ 8 0 = some (.int .u64 52) := fun z => hLm.fi0
  have f1 : ∀ z, jau ⟨μ.obs, z⟩ 8 1 = some (.int .u64 11) := fun z => hLm.fi1
  have f2 : ∀ z, jau ⟨μ.obs, z⟩ 8 2 = some (.int .i64 (-1023)) := fun z => hLm.fi2
  have g0 := hLm.fi0
  have g1 := hLm.fi1
  have g2 := hLm.fi2
  obtain ⟨μ1, hr, z1, z2⟩ := hsh (X := X) (g := k + 5997) (i := i) (μ := ⟨μ.obs, μ.next + 13⟩) (dp := dp) (neg := neg) (by omega) (hL.grow (hG.only (Only.up μ i _) hi)) (by omega) (by omega) (h.up _)
  have hr : aFun Tryz.prog (jat Tryz.prog X S0 (k + 5997)) 163 [.pointer (some ⟨i, 0, none⟩), .int .i64 53] ⟨μ.obs, μ.next + 13⟩ = some (.tuple #[], μ1) := hr
  have hri := hri (X := X) (g := k + 5996) (i := i) (μ := μ1) (neg := neg) (by omega) z1
  rw [fs10]
  refine jaf ?_
  refine jaf ?_
  refine jaU (n := 13) (ms := [0, 0, 2, 6, 14, 31, 0, 64, 192, 448, 960, 1984, 4095]) (ord := [0, 1, 2, 3, 4, 5, 6, 7, 8, 9, 10, 11, 12]) (ds := ?_) ?_ ?_ ?_ ?_ ?_ ?_
  rotate_left
  ·kernel_rfl
  ·kernel_rfl
  ·kernel_rfl
  ·rfl
  ·rfl
  iterate 13 (refine jaS (by first | rfl | (simp only [go_sem, h0, h1, h5, h6, jaG, jbK, ja8, jaz, jap, f0, f1, f2, qe2, jcL, qs1, e2])) (by simp only [jaT, heavy, jba, jaJ, go_sem, h0, h1, h5, h6, jaG, jbK, ja8, jaz, jap, f0, f1, f2, qe2, jcL, qs1, e2]; try exact rfl) rfl ?_)
  simp only [dRun, jaM, jao]
  repeat (first | refine jaf ?_ | ((first | (refine jad ?_ ?_; (focus rfl)) | (refine jac (gs := ?_) ?_ ?_; rotate_left; (focus rfl))); simp only [run1, go_sem, h0, h1, jaG, jaz, f0, qs4, jiv, qs5, jcQ, hr, gg187, hri]) | (refine jab ?_ ?_; (focus (simp only [go_sem, h0, h1, jaG, jaz, f0, qs4, jiv, qs5, jcQ, hr, gg187, hri]; done))) | (refine jaa ?_ ?_; (focus (simp only [go_sem, h0, h1, jaG, jaz, f0, qs4, jiv, qs5, jcQ, hr, gg187, hri]; done))) | ((first | refine jaj ?_ | refine jai ?_ | refine jak ?_); try simp only [go_sem]) | refine jah ?_)
  exact Mid.up ((Only.up _ _ _).trans z2) (h13 (k := k + 5917) hL ((hG.only (Only.up μ i _) hi).only z2 hi) hi z1 (by simp only [go_sem, h0]) (by simp only [go_sem, h1]) (by simp only [go_sem, h5]) (by simp only [go_sem, h6]) (by simp only [go_sem]))
theorem fb8 {D : Nat → Nat} {n : Nat} {tr : Bool} {dp e : Int} (G : Good D n) (hp1 : -400 < dp) (hp2 : dp < 400) (he : -98000 ≤ e) (he2 : e < 98000) : ∃ o, (∀ m' e', o = some (m', e') → -1023 ≤ e' ∧ e' < 100000) ∧ ∀ {X : XT} {k i : Nat} {tm : T Value} {μ0 μ : Mem} {neg : Bool}, Lay μ0 → Grow μ0 μ → μ0.next ≤ i → Dec μ i D n dp neg tr → jaq tm 0 = .pointer (some ⟨i, 0, none⟩) → jaq tm 1 = .pointer (some ⟨8, 0, none⟩) → jaq tm 5 = .bool false → jaq tm 6 = .int .i64 e →
  EndsC (jat Tryz.prog X S0 (k + 6100) (ja1 8 (jaX Tryz.f147)) ⟨243, tm, [], none⟩ μ) (Mid o neg i μ) := by
 have qe : jay .i64 (Int.sub e 1) = e - 1 := jdK e 1 (by omega) (by omega)
 by_cases hb : e - 1 < -1022
 rotate_left
 ·have e1 : ilt (e - 1) (-1022) = false := (jbq _ _).trans (decide_eq_false hb)
  obtain ⟨o, c1, h10⟩ := fb10 (tr := tr) (dp := dp) (e := e - 1) G (by omega) (by omega) (by omega) (by omega)
  refine ⟨o, c1, fun {X k i tm μ0 μ neg} hL hG hi h h0 h1 h5 h6 => ?_⟩
  have hLm := hL.grow hG
  have f0 : ∀ z, jau ⟨μ.obs, z⟩ 8 0 = some (.int .u64 52) := fun z => hLm.fi0
  have f1 : ∀ z, jau ⟨μ.obs, z⟩ 8 1 = some (.int .u64 11) := fun z => hLm.fi1
  have f2 : ∀ z, jau ⟨μ.obs, z⟩ 8 2 = some (.int .i64 (-1023)) := fun z => hLm.fi2
  have g0 := hLm.fi0
  have g1 := hLm.fi1
  have g2 := hLm.fi2
  rw [fs8]
  repeat (first | refine jaf ?_ | ((first | (refine jad ?_ ?_; (focus rfl)) | (refine jac (gs := ?_) ?_ ?_; rotate_left; (focus rfl))); simp only [run1, go_sem, h0, h1, h5, h6, ja8, jap, g2, qe, qs3, e1]) | (refine jab ?_ ?_; (focus (simp only [go_sem, h0, h1, h5, h6, ja8, jap, g2, qe, qs3, e1]; done))) | (refine jaa ?_ ?_; (focus (simp only [go_sem, h0, h1, h5, h6, ja8, jap, g2, qe, qs3, e1]; done))) | ((first | refine jaj ?_ | refine jai ?_ | refine jak ?_); try simp only [go_sem]) | refine jah ?_)
  exact h10 (k := k + 98) hL hG hi h (by simp only [go_sem, h0]) (by simp only [go_sem, h1]) (by simp only [go_sem, h5]) (by simp only [go_sem])
 ·have e1 : ilt (e - 1) (-1022) = true := (jbq _ _).trans (decide_eq_true hb)
  obtain ⟨K, hK⟩ : ∃ K : Nat, -1022 - (e - 1) = .ofNat K := ⟨(-1022 - (e - 1)).toNat, by show -1022 - (e - 1) = (((-1022 - (e - 1)).toNat : Nat) : Int); omega⟩
  have hKd : -1022 - (e - 1) = (K : Int) := hK
  obtain ⟨D1, n1, s, tr1, G1, b1, b2, hsh⟩ := jhf (k := K) (tr := tr) G (by omega) (by omega)
  obtain ⟨o, c1, h10⟩ := fb10 (tr := tr1) (dp := dp - (s : Int)) (e := -1022) G1 (by omega) (by omega) (by decide) (by decide)
  have q1 : jay .i64 (Int.sub (-1022) (e - 1)) = .ofNat K := by rw [← hK]; exact jdK (-1022) (e - 1) (by omega) (by omega)
  have q2 : jay .i64 (Int.add (e - 1) (.ofNat K)) = -1022 := (jfD (e - 1) (K : Int) (by omega) (by omega)).trans (by omega)
  have np := fun ρ d t ty a ps af gd => neg_lit (n := K) (by omega) ρ d t ty a ps af gd
  refine ⟨o, c1, fun {X k i tm μ0 μ neg} hL hG hi h h0 h1 h5 h6 => ?_⟩
  have hLm := hL.grow hG
  have f0 : ∀ z, jau ⟨μ.obs, z⟩ 8 0 = some (.int .u64 52) := fun z => hLm.fi0
  have f1 : ∀ z, jau ⟨μ.obs, z⟩ 8 1 = some (.int .u64 11) := fun z => hLm.fi1
  have f2 : ∀ z, jau ⟨μ.obs, z⟩ 8 2 = some (.int .i64 (-1023)) := fun z => hLm.fi2
  have g0 := hLm.fi0
  have g1 := hLm.fi1
  have g2 := hLm.fi2
  obtain ⟨μ1, hr, z1, z2⟩ := hsh (X := X) (g := k + 6093) (i := i) (x := -(K : Int)) (μ := μ) (dp := dp) (neg := neg) (by omega) rfl (by omega) (by omega) h
  rw [fs8]
  repeat (first | refine jaf ?_ | ((first | (refine jad ?_ ?_; (focus rfl)) | (refine jac (gs := ?_) ?_ ?_; rotate_left; (focus rfl))); simp only [run1, go_sem, h0, h1, h5, h6, ja8, jap, g2, qe, qs3, e1, q1, np, jcQ, hr, q2]) | (refine jab ?_ ?_; (focus (simp only [go_sem, h0, h1, h5, h6, ja8, jap, g2, qe, qs3, e1, q1, np, jcQ, hr, q2]; done))) | (refine jaa ?_ ?_; (focus (simp only [go_sem, h0, h1, h5, h6, ja8, jap, g2, qe, qs3, e1, q1, np, jcQ, hr, q2]; done))) | ((first | refine jaj ?_ | refine jai ?_ | refine jak ?_); try simp only [go_sem]) | refine jah ?_)
  exact Mid.up z2 (h10 (k := k + 98) hL (hG.only z2 hi) hi z1 (by simp only [go_sem, h0]) (by simp only [go_sem, h1]) (by simp only [go_sem, h5]) (by simp only [go_sem]))
theorem fb6 {D : Nat → Nat} {n : Nat} {tr : Bool} {dp : Int} (G : Good D n) (hp1 : -330 ≤ dp) (hp2 : dp ≤ 310) : ∃ o, (∀ m' e', o = some (m', e') → -1023 ≤ e' ∧ e' < 100000) ∧ ∀ {X : XT} {k i : Nat} {tm : T Value} {μ0 μ : Mem} {neg : Bool} {e : Int}, e = 0 → Lay μ0 → Grow μ0 μ → μ0.next ≤ i → Dec μ i D n dp neg tr → jaq tm 0 = .pointer (some ⟨i, 0, none⟩) → jaq tm 1 = .pointer (some ⟨8, 0, none⟩) → jaq tm 5 = .bool false → jaq tm 6 = .int .i64 e →
  EndsC (jat Tryz.prog X S0 (k + 10000) (ja1 6 (jaX Tryz.f147)) ⟨243, tm, [], none⟩ μ) (Mid o neg i μ) := by
 have hd0 := G.dg 0 G.pos
 obtain ⟨D1, n1, tr1, dp1, e1, G1, a1, a2, a3, a4, hlp1⟩ := fr_loop 3200 D n tr dp 0 G (by by_cases h : dp ≤ 0; exact .inl h; exact .inr (by omega)) hp2 hp1 (by decide) (by decide)
 have hd1 := G1.dg 0 G1.pos
 obtain ⟨D2, n2, tr2, dp2, e2, G2, b1, b2, b3, b4, hlp2⟩ := fl_loop 3310 D1 n1 tr1 dp1 e1 G1 (.inr (by omega)) (by omega) (by omega) (by omega) (by omega)
 obtain ⟨o, c1, h8⟩ := fb8 (tr := tr2) (dp := dp2) (e := e2) G2 (by omega) (by omega) (by omega) (by omega)
 refine ⟨o, c1, fun {X k i tm μ0 μ neg e} he hL hG hi h h0 h1 h5 h6 => ?_⟩
 subst he
 rw [fs6]
 repeat (first | refine jaf ?_ | ((first | (refine jad ?_ ?_; (focus rfl)) | (refine jac (gs := ?_) ?_ ?_; rotate_left; (focus rfl))); simp only [run1, go_sem]) | (refine jab ?_ ?_; (focus (simp only [go_sem]; done))) | (refine jaa ?_ ?_; (focus (simp only [go_sem]; done))) | ((first | refine jaj ?_ | refine jai ?_ | refine jak ?_); try simp only [go_sem]) | refine jah ?_)
 rw [show k + 9998 = (k + 798) + 3200 + 6000 from by omega]
 refine EndsC.mono (hlp1 hL hG hi h h0 h1 h5 h6) ?_
 rintro x r μ1 ⟨rfl, g1, g2, tm1, rfl, h0, h1, h5, h6⟩
 simp only [ja4, reduceIte, jao]
 rw [fs7]
 have hG1 := hG.only g2 hi
 repeat (first | refine jaf ?_ | ((first | (refine jad ?_ ?_; (focus rfl)) | (refine jac (gs := ?_) ?_ ?_; rotate_left; (focus rfl))); simp only [run1, go_sem]) | (refine jab ?_ ?_; (focus (simp only [go_sem]; done))) | (refine jaa ?_ ?_; (focus (simp only [go_sem]; done))) | ((first | refine jaj ?_ | refine jai ?_ | refine jak ?_); try simp only [go_sem]) | refine jah ?_)
 rw [show k + 9997 = (k + 687) + 3310 + 6000 from by omega]
 refine EndsC.mono (hlp2 hL hG1 hi g1 h0 h1 h5 h6) ?_
 rintro x r μ2 ⟨rfl, k1, k2, tm2, rfl, h0, h1, h5, h6⟩
 simp only [ja4, reduceIte, jao]
 exact Mid.up (g2.trans k2) (h8 (k := k + 3898) hL (hG1.only k2 hi) hi k1 h0 h1 h5 h6)
theorem jhE {D : Nat → Nat} {n : Nat} {tr neg : Bool} {dp : Int} (G : n = 0 ∨ Good D n) (hp1 : -200000 < dp) (hp2 : dp < 200000) : ∃ b ovf, ∀ {X : XT} {g i : Nat} {μ0 μ : Mem}, 11000 ≤ g → Lay μ0 → Grow μ0 μ → μ0.next ≤ i → Dec μ i D n dp neg tr →
  ∃ μ', aFun Tryz.prog (jat Tryz.prog X S0 g) 147 [.pointer (some ⟨i, 0, none⟩), .pointer (some ⟨8, 0, none⟩)] μ = some (.tuple #[u b, .bool ovf], μ') ∧ Only μ μ' i := by
 have mid : ∃ o, (∀ m' e', o = some (m', e') → -1023 ≤ e' ∧ e' < 100000) ∧ ∀ {X : XT} {k i : Nat} {tm : T Value} {μ0 μ : Mem}, Lay μ0 → Grow μ0 μ → μ0.next ≤ i → Dec μ i D n dp neg tr → jaq tm 0 = .pointer (some ⟨i, 0, none⟩) → jaq tm 1 = .pointer (some ⟨8, 0, none⟩) → jaq tm 5 = .bool false →
   EndsC (jat Tryz.prog X S0 (k + 10100) (jaX Tryz.f147) ⟨243, tm, [], none⟩ μ) (Mid o neg i μ) := by
  by_cases hn : n = 0
  ·subst hn
   refine ⟨some (0, -1023), fun m' e' h => by cases h; decide, fun {X k i tm μ0 μ} hL hG hi h h0 h1 h5 => ?_⟩
   have hLm := hL.grow hG
   have f0 : ∀ z, jau ⟨μ.obs, z⟩ 8 0 = some (.int .u64 52) := fun z => hLm.fi0
   have f1 : ∀ z, jau ⟨μ.obs, z⟩ 8 1 = some (.int .u64 11) := fun z => hLm.fi1
   have f2 : ∀ z, jau ⟨μ.obs, z⟩ 8 2 = some (.int .i64 (-1023)) := fun z => hLm.fi2
   have g0 := hLm.fi0
   have g1 := hLm.fi1
   have g2 := hLm.fi2
   have hc := h.n
   have z1 : ieq (.ofNat 0) 0 = true := rfl
   rw [fs0]
   repeat (first | refine jaf ?_ | ((first | (refine jad ?_ ?_; (focus rfl)) | (refine jac (gs := ?_) ?_ ?_; rotate_left; (focus rfl))); simp only [run1, go_sem, h0, h1, h5, jar, ja8, jap, hc, g2, z1]) | (refine jab ?_ ?_; (focus (simp only [go_sem, h0, h1, h5, jar, ja8, jap, hc, g2, z1]; done))) | (refine jaa ?_ ?_; (focus (simp only [go_sem, h0, h1, h5, jar, ja8, jap, hc, g2, z1]; done))) | ((first | refine jaj ?_ | refine jai ?_ | refine jak ?_); try simp only [go_sem]) | refine jah ?_)
   refine jcF ?_
   simp only [jcy]
   exact ⟨Only.refl _ _, h.any, _, rfl, (by simp only [go_sem, h0]), (by simp only [go_sem, h1]), by trivial, (by simp only [go_sem, h5]), (by simp only [go_sem]), (by simp only [go_sem]; exact u_of (n := 0) (by decide))⟩
  have G := G.resolve_left hn
  have z1 : ieq (.ofNat n) 0 = false := (jaO _ 0 0 rfl).trans (decide_eq_false hn)
  by_cases hbig : 310 < dp
  ·have z2 : ilt 310 dp = true := (jbq _ _).trans (decide_eq_true hbig)
   refine ⟨none, fun m' e' h => (by cases h), fun {X k i tm μ0 μ} hL hG hi h h0 h1 h5 => ?_⟩
   have hc := h.n
   have hp := h.p
   rw [fs0]
   repeat (first | refine jaf ?_ | ((first | (refine jad ?_ ?_; (focus rfl)) | (refine jac (gs := ?_) ?_ ?_; rotate_left; (focus rfl))); simp only [run1, go_sem, h0, h1, h5, jar, jaw, jap, hc, hp, z1, z2]) | (refine jab ?_ ?_; (focus (simp only [go_sem, h0, h1, h5, jar, jaw, jap, hc, hp, z1, z2]; done))) | (refine jaa ?_ ?_; (focus (simp only [go_sem, h0, h1, h5, jar, jaw, jap, hc, hp, z1, z2]; done))) | ((first | refine jaj ?_ | refine jai ?_ | refine jak ?_); try simp only [go_sem]) | refine jah ?_)
   refine jcF ?_
   simp only [jcy]
   exact ⟨Only.refl _ _, h.any, _, rfl, (by simp only [go_sem, h0]), (by simp only [go_sem, h1]), by trivial⟩
  have z2 : ilt 310 dp = false := (jbq _ _).trans (decide_eq_false hbig)
  by_cases hsm : dp < -330
  ·have z3 : ilt dp (-330) = true := (jbq _ _).trans (decide_eq_true hsm)
   refine ⟨some (0, -1023), fun m' e' h => by cases h; decide, fun {X k i tm μ0 μ} hL hG hi h h0 h1 h5 => ?_⟩
   have hLm := hL.grow hG
   have f0 : ∀ z, jau ⟨μ.obs, z⟩ 8 0 = some (.int .u64 52) := fun z => hLm.fi0
   have f1 : ∀ z, jau ⟨μ.obs, z⟩ 8 1 = some (.int .u64 11) := fun z => hLm.fi1
   have f2 : ∀ z, jau ⟨μ.obs, z⟩ 8 2 = some (.int .i64 (-1023)) := fun z => hLm.fi2
   have g0 := hLm.fi0
   have g1 := hLm.fi1
   have g2 := hLm.fi2
   have hc := h.n
   have hp := h.p
   rw [fs0]
   repeat (first | refine jaf ?_ | ((first | (refine jad ?_ ?_; (focus rfl)) | (refine jac (gs := ?_) ?_ ?_; rotate_left; (focus rfl))); simp only [run1, go_sem, h0, h1, h5, jar, jaw, ja8, jap, hc, hp, g2, z1, z2, z3]) | (refine jab ?_ ?_; (focus (simp only [go_sem, h0, h1, h5, jar, jaw, ja8, jap, hc, hp, g2, z1, z2, z3]; done))) | (refine jaa ?_ ?_; (focus (simp only [go_sem, h0, h1, h5, jar, jaw, ja8, jap, hc, hp, g2, z1, z2, z3]; done))) | ((first | refine jaj ?_ | refine jai ?_ | refine jak ?_); try simp only [go_sem]) | refine jah ?_)
   refine jcF ?_
   simp only [jcy]
   exact ⟨Only.refl _ _, h.any, _, rfl, (by simp only [go_sem, h0]), (by simp only [go_sem, h1]), by trivial, (by simp only [go_sem, h5]), (by simp only [go_sem]), (by simp only [go_sem]; exact u_of (n := 0) (by decide))⟩
  have z3 : ilt dp (-330) = false := (jbq _ _).trans (decide_eq_false hsm)
  obtain ⟨o, c1, h6⟩ := fb6 (tr := tr) (dp := dp) G (by omega) (by omega)
  refine ⟨o, c1, fun {X k i tm μ0 μ} hL hG hi h h0 h1 h5 => ?_⟩
  have hc := h.n
  have hp := h.p
  rw [fs0]
  repeat (first | refine jaf ?_ | ((first | (refine jad ?_ ?_; (focus rfl)) | (refine jac (gs := ?_) ?_ ?_; rotate_left; (focus rfl))); simp only [run1, go_sem, h0, h1, h5, jar, jaw, jap, hc, hp, z1, z2, z3]) | (refine jab ?_ ?_; (focus (simp only [go_sem, h0, h1, h5, jar, jaw, jap, hc, hp, z1, z2, z3]; done))) | (refine jaa ?_ ?_; (focus (simp only [go_sem, h0, h1, h5, jar, jaw, jap, hc, hp, z1, z2, z3]; done))) | ((first | refine jaj ?_ | refine jai ?_ | refine jak ?_); try simp only [go_sem]) | refine jah ?_)
  exact h6 (k := k + 94) rfl hL hG hi h (by simp only [go_sem, h0]) (by simp only [go_sem, h1]) (by simp only [go_sem, h5]) (by simp only [go_sem])
 obtain ⟨o, ho, hmid⟩ := mid
 obtain ⟨b, ovf, hfin⟩ := fb_fin o neg ho
 refine ⟨b, ovf, fun {X g i μ0 μ} hg hL hG hi h => ?_⟩
 obtain ⟨f, rfl⟩ := gle hg
 have key : EndsF (aFun Tryz.prog (jat Tryz.prog X S0 (f + 11000)) 147 [.pointer (some ⟨i, 0, none⟩), .pointer (some ⟨8, 0, none⟩)] μ) fun v μ' => v = .tuple #[u b, .bool ovf] ∧ Only μ μ' i := by
  refine jan Tryz.func147 rfl rfl (nbl rfl) ?_
  simp only [go_sem, Tryz.ntmps147]
  refine jaf ?_
  refine jad ?_ ?_
  ·rfl
  simp only [go_sem]
  refine jdA ?_
  change EndsC (jat Tryz.prog X S0 _ (jaX Tryz.f147) _ _) _
  have fin : ∀ x r μ', FinB b ovf i μ x r μ' → retQ Tryz.prog Tryz.f147 (fun v μ' => v = .tuple #[u b, .bool ovf] ∧ Only μ μ' i) x r μ' := by
   rintro x r μ' ⟨rfl, g, tm', rfl, h4, h5⟩
   refine ⟨rfl, _, ?_, rfl, g⟩
   simp only [go_sem, Tryz.results147]
   simp only [h4, h5]
  refine EndsC.mono (hfin (X := X) (k := f + 10898) hL hG hi (hmid (k := f + 898) hL hG hi h (by simp only [go_sem]) (by simp only [go_sem]) (by simp only [go_sem]))) ?_
  intro x r μ' hx
  cases x with
  | goto l =>
    obtain ⟨rest, hr, he⟩ := hx
    refine ⟨rest, hr, EndsC.mono he ?_⟩
    intro x r μ' hx
    cases x with
    | goto l => exact hx
    | normal => exact fin _ _ _ hx
    | ret => exact fin _ _ _ hx
    | exit id => exact fin _ _ _ hx
  | normal => exact fin _ _ _ hx
  | ret => exact fin _ _ _ hx
  | exit id => exact fin _ _ _ hx
 obtain ⟨v, μ', h1, rfl, h2⟩ := key
 exact ⟨μ', h1, h2⟩
end
noncomputable section
open Go.Proofs.YtdjoekhccbiaiaaGreatDoor.DecM (val Dg)
structure RegS (tm : T Value) (s : ByteArray) (bi i : Nat) (sd sg : Bool) : Prop where
 r0 : jaq tm 0 = .pointer (some ⟨bi, 0, none⟩)
 r1 : jaq tm 1 = .string s
 r4 : jaq tm 4 = .bool false
 r5 : jaq tm 5 = .int .i64 (.ofNat i)
 r6 : jaq tm 6 = .bool sd
 r7 : jaq tm 7 = .bool sg
def Fit (D : Nat → Nat) (n : Nat) : Prop := n = 0 ∨ Good D n
theorem Fit.le {D : Nat → Nat} {n : Nat} (h : Fit D n) : n ≤ 800 := by
 rcases h with rfl | h
 ·omega
 ·exact h.le
theorem Fit.put {D : Nat → Nat} {n c : Nat} (h : Fit D n) (hn : n < 800) (h1 : 48 ≤ c) (h2 : c ≤ 57) (h3 : n = 0 → c ≠ 48) : Fit (put1 D n c) (n + 1) := by
 refine .inr ⟨fun k hk => ?_, Nat.succ_pos n, hn, ?_⟩
 ·unfold put1
  by_cases e : k = n
  ·rw [if_pos e]; exact ⟨h1, h2⟩
  ·rw [if_neg e]
   exact (h.resolve_left (by omega)).dg k (by omega)
 ·unfold put1
  by_cases e : 0 = n
  ·rw [if_pos e]; have := h3 e.symm; omega
  ·rw [if_neg e]; exact (h.resolve_left (by omega)).lead
def outS (ret : Bool) : Ax := if ret then .ret else .exit 1
set_option maxHeartbeats 16000000 in
theorem set_loop {s : ByteArray} (hs : ∀ c ∈ bys s, c ∈ nums) (hl : (bys s).length ≤ 1000) : ∀ (m i n : Nat) (D : Nat → Nat) (dp : Int) (tr sd sg : Bool), i + m = (bys s).length → Fit D n → n ≤ i → -(i : Int) ≤ dp → dp ≤ 800 →
  ∃ (ret : Bool) (i' n' : Nat) (D' : Nat → Nat) (dp' : Int) (tr' sd' sg' : Bool), i ≤ i' ∧ i' ≤ (bys s).length ∧ Fit D' n' ∧ n' ≤ i' ∧ -(i' : Int) ≤ dp' ∧ dp' ≤ 800 ∧ ∀ {X : XT} {e bi : Nat} {tm : T Value} {μ : Mem} {neg : Bool}, Dec μ bi D n dp neg tr → RegS tm s bi i sd sg →
   EndsC (jat Tryz.prog X S0 (e + m + 60) (.loop (jaL Tryz.f146 0)) ⟨224, tm, [], none⟩ μ) fun x r μ' => x = outS ret ∧ Dec μ' bi D' n' dp' neg tr' ∧ Only μ μ' bi ∧ ∃ tm', r = ⟨224, tm', [], none⟩ ∧ RegS tm' s bi i' sd' sg' := by
 have ls := ja5 s
 intro m
 induction m with
 | zero =>
   intro i n D dp tr sd sg hi hf hni hd1 hd2
   have hi : i = (bys s).length := hi
   have e1 : ilt (.ofNat i) (.ofNat (bys s).length) = false := (jav _ _).trans (decide_eq_false (by omega))
   refine ⟨false, i, n, D, dp, tr, sd, sg, Nat.le_refl _, by omega, hf, hni, hd1, hd2, fun {X e bi tm μ neg} hd h => ?_⟩
   refine jas ?_
   repeat (first | refine jaf ?_ | ((first | (refine jad ?_ ?_; (focus rfl)) | (refine jac (gs := ?_) ?_ ?_; rotate_left; (focus rfl))); simp only [run1, go_sem, h.r0, h.r1, h.r4, h.r5, h.r6, h.r7, jae, ls, jag, e1]) | (refine jab ?_ ?_; (focus (simp only [go_sem, h.r0, h.r1, h.r4, h.r5, h.r6, h.r7, jae, ls, jag, e1]; done))) | (refine jaa ?_ ?_; (focus (simp only [go_sem, h.r0, h.r1, h.r4, h.r5, h.r6, h.r7, jae, ls, jag, e1]; done))) | ((first | refine jaj ?_ | refine jai ?_ | refine jak ?_); try simp only [go_sem]) | refine jah ?_)
   exact ⟨by trivial, hd, Only.refl _ _, _, rfl, (by constructor <;> simp only [go_sem, h.r0, h.r1, h.r4, h.r5, h.r6, h.r7])⟩
 | succ m ih =>
   intro i n D dp tr sd sg hi hf hni hd1 hd2
   have hlt : i < (bys s).length := by omega
   obtain ⟨c, hc⟩ : ∃ c, c = (bys s)[i]'hlt := ⟨_, rfl⟩
   have hcn : c ∈ nums := by rw [hc]; exact hs _ (List.getElem_mem hlt)
   have hc256 := jgB c hcn
   have hx : ∀ (r : Rg) (x y : Operand), aev Tryz.prog r x = .string s → aev Tryz.prog r y = .int .i64 (.ofNat i) → jbi Tryz.prog (aev Tryz.prog r) 9 x y = some (.int .u8 (.ofNat c)) := fun r x y h1 h2 => by rw [hc]; exact jbA hlt h1 h2
   have e1 : ilt (.ofNat i) (.ofNat (bys s).length) = true := (jav _ _).trans (decide_eq_true hlt)
   have e95 : ieq (.ofNat c) 95 = false := (jaO c 95 95 rfl).trans (decide_eq_false (jef c hcn).2.2.2.2)
   have a1 : jay .i64 (Int.add (.ofNat i) 1) = .ofNat (i + 1) := ja2 i 1 (by omega)
   have hn8 := hf.le
   clear hc
   by_cases h46 : c = 46
   ·have e46 : ieq (.ofNat c) 46 = true := (jaO c 46 46 rfl).trans (decide_eq_true h46)
    cases sd with
    | true =>
      refine ⟨true, i, n, D, dp, tr, true, sg, Nat.le_refl _, by omega, hf, hni, hd1, hd2, fun {X e bi tm μ neg} hd h => ?_⟩
      refine jas ?_
      repeat (first | refine jaf ?_ | ((first | (refine jad ?_ ?_; (focus rfl)) | (refine jac (gs := ?_) ?_ ?_; rotate_left; (focus rfl))); simp only [run1, go_sem, h.r0, h.r1, h.r4, h.r5, h.r6, h.r7, jae, ls, jag, e1, hx, e95, e46]) | (refine jab ?_ ?_; (focus (simp only [go_sem, h.r0, h.r1, h.r4, h.r5, h.r6, h.r7, jae, ls, jag, e1, hx, e95, e46]; done))) | (refine jaa ?_ ?_; (focus (simp only [go_sem, h.r0, h.r1, h.r4, h.r5, h.r6, h.r7, jae, ls, jag, e1, hx, e95, e46]; done))) | ((first | refine jaj ?_ | refine jai ?_ | refine jak ?_); try simp only [go_sem]) | refine jah ?_)
      refine jam ?_
      exact ⟨by trivial, hd, Only.refl _ _, _, rfl, (by constructor <;> simp only [go_sem, h.r0, h.r1, h.r4, h.r5, h.r6, h.r7])⟩
    | false =>
      obtain ⟨ret, i', n', D', dp', tr', sd', sg', b1, b2, b3, b4, b5, b6, hih⟩ := ih (i + 1) n D (.ofNat n) tr true sg (by omega) hf (by omega) (by show -((i + 1 : Nat) : Int) ≤ (n : Int); omega) (by show (n : Int) ≤ 800; omega)
      refine ⟨ret, i', n', D', dp', tr', sd', sg', by omega, b2, b3, b4, b5, b6, fun {X e bi tm μ neg} hd h => ?_⟩
      have hcn := hd.n
      have hst := st_p (v := .ofNat n) hd.blk
      refine jas ?_
      repeat (first | refine jaf ?_ | ((first | (refine jad ?_ ?_; (focus rfl)) | (refine jac (gs := ?_) ?_ ?_; rotate_left; (focus rfl))); simp only [run1, go_sem, h.r0, h.r1, h.r4, h.r5, h.r6, h.r7, jae, ls, jag, e1, hx, e95, e46, jar, jaw, jap, hcn, hst, a1]) | (refine jab ?_ ?_; (focus (simp only [go_sem, h.r0, h.r1, h.r4, h.r5, h.r6, h.r7, jae, ls, jag, e1, hx, e95, e46, jar, jaw, jap, hcn, hst, a1]; done))) | (refine jaa ?_ ?_; (focus (simp only [go_sem, h.r0, h.r1, h.r4, h.r5, h.r6, h.r7, jae, ls, jag, e1, hx, e95, e46, jar, jaw, jap, hcn, hst, a1]; done))) | ((first | refine jaj ?_ | refine jai ?_ | refine jak ?_); try simp only [go_sem]) | refine jah ?_)
      rw [show e + (m + 1) + 59 = e + m + 60 from by omega]
      refine EndsC.mono (hih (hd.setP (.ofNat n)) (by constructor <;> simp only [go_sem, h.r0, h.r1, h.r4, h.r5, h.r6, h.r7])) ?_
      rintro x r μ' ⟨g1, g2, g3, g4⟩
      exact ⟨g1, g2, (Only.put _ _ _ _).trans g3, g4⟩
   have e46 : ieq (.ofNat c) 46 = false := (jaO c 46 46 rfl).trans (decide_eq_false h46)
   by_cases hdg : 48 ≤ c ∧ c ≤ 57
   rotate_left
   ·refine ⟨false, i, n, D, dp, tr, sd, sg, Nat.le_refl _, by omega, hf, hni, hd1, hd2, fun {X e bi tm μ neg} hd h => ?_⟩
    by_cases h48 : c < 48
    ·have d1 : ilt (.ofNat c) 48 = true := (jbx c 48 48 rfl).trans (decide_eq_true h48)
     refine jas ?_
     repeat (first | refine jaf ?_ | ((first | (refine jad ?_ ?_; (focus rfl)) | (refine jac (gs := ?_) ?_ ?_; rotate_left; (focus rfl))); simp only [run1, go_sem, h.r0, h.r1, h.r4, h.r5, h.r6, h.r7, jae, ls, jag, e1, hx, e95, e46, d1, undef]) | (refine jab ?_ ?_; (focus (simp only [go_sem, h.r0, h.r1, h.r4, h.r5, h.r6, h.r7, jae, ls, jag, e1, hx, e95, e46, d1, undef]; done))) | (refine jaa ?_ ?_; (focus (simp only [go_sem, h.r0, h.r1, h.r4, h.r5, h.r6, h.r7, jae, ls, jag, e1, hx, e95, e46, d1, undef]; done))) | ((first | refine jaj ?_ | refine jai ?_ | refine jak ?_); try simp only [go_sem]) | refine jah ?_)
     exact ⟨by trivial, hd, Only.refl _ _, _, rfl, (by constructor <;> simp only [go_sem, h.r0, h.r1, h.r4, h.r5, h.r6, h.r7])⟩
    ·have d1 : ilt (.ofNat c) 48 = false := (jbx c 48 48 rfl).trans (decide_eq_false h48)
     have d2 : ilt 57 (.ofNat c) = true := (jdf c 57 57 rfl).trans (decide_eq_true (by omega))
     refine jas ?_
     repeat (first | refine jaf ?_ | ((first | (refine jad ?_ ?_; (focus rfl)) | (refine jac (gs := ?_) ?_ ?_; rotate_left; (focus rfl))); simp only [run1, go_sem, h.r0, h.r1, h.r4, h.r5, h.r6, h.r7, jae, ls, jag, e1, hx, e95, e46, d1, d2, undef]) | (refine jab ?_ ?_; (focus (simp only [go_sem, h.r0, h.r1, h.r4, h.r5, h.r6, h.r7, jae, ls, jag, e1, hx, e95, e46, d1, d2, undef]; done))) | (refine jaa ?_ ?_; (focus (simp only [go_sem, h.r0, h.r1, h.r4, h.r5, h.r6, h.r7, jae, ls, jag, e1, hx, e95, e46, d1, d2, undef]; done))) | ((first | refine jaj ?_ | refine jai ?_ | refine jak ?_); try simp only [go_sem]) | refine jah ?_)
     exact ⟨by trivial, hd, Only.refl _ _, _, rfl, (by constructor <;> simp only [go_sem, h.r0, h.r1, h.r4, h.r5, h.r6, h.r7])⟩
   have d1 : ilt (.ofNat c) 48 = false := (jbx c 48 48 rfl).trans (decide_eq_false (by omega))
   have d2 : ilt 57 (.ofNat c) = false := (jdf c 57 57 rfl).trans (decide_eq_false (by omega))
   by_cases hz : c = 48
   ·have z1 : ieq (.ofNat c) 48 = true := (jaO c 48 48 rfl).trans (decide_eq_true hz)
    by_cases hn0 : n = 0
    ·subst hn0
     obtain ⟨ret, i', n', D', dp', tr', sd', sg', b1, b2, b3, b4, b5, b6, hih⟩ := ih (i + 1) 0 D (dp - 1) tr sd true (by omega) hf (by omega) (by omega) (by omega)
     refine ⟨ret, i', n', D', dp', tr', sd', sg', by omega, b2, b3, b4, b5, b6, fun {X e bi tm μ neg} hd h => ?_⟩
     have hcn := hd.n
     have hp := hd.p
     have n0 : ieq (.ofNat 0) 0 = true := rfl
     have q1 : jay .i64 (Int.sub dp 1) = dp - 1 := jdK dp 1 (by omega) (by omega)
     have hst := st_p (v := dp - 1) hd.blk
     refine jas ?_
     repeat (first | refine jaf ?_ | ((first | (refine jad ?_ ?_; (focus rfl)) | (refine jac (gs := ?_) ?_ ?_; rotate_left; (focus rfl))); simp only [run1, go_sem, h.r0, h.r1, h.r4, h.r5, h.r6, h.r7, jae, ls, jag, e1, hx, e95, e46, d1, d2, z1, undef, jar, jaw, jap, hcn, hp, n0, q1, hst, a1]) | (refine jab ?_ ?_; (focus (simp only [go_sem, h.r0, h.r1, h.r4, h.r5, h.r6, h.r7, jae, ls, jag, e1, hx, e95, e46, d1, d2, z1, undef, jar, jaw, jap, hcn, hp, n0, q1, hst, a1]; done))) | (refine jaa ?_ ?_; (focus (simp only [go_sem, h.r0, h.r1, h.r4, h.r5, h.r6, h.r7, jae, ls, jag, e1, hx, e95, e46, d1, d2, z1, undef, jar, jaw, jap, hcn, hp, n0, q1, hst, a1]; done))) | ((first | refine jaj ?_ | refine jai ?_ | refine jak ?_); try simp only [go_sem]) | refine jah ?_)
     rw [show e + (m + 1) + 59 = e + m + 60 from by omega]
     refine EndsC.mono (hih (hd.setP (dp - 1)) (by constructor <;> simp only [go_sem, h.r0, h.r1, h.r4, h.r5, h.r6, h.r7])) ?_
     rintro x r μ' ⟨g1, g2, g3, g4⟩
     exact ⟨g1, g2, (Only.put _ _ _ _).trans g3, g4⟩
    ·have n0 : ieq (.ofNat n) 0 = false := (jaO n 0 0 rfl).trans (decide_eq_false hn0)
     by_cases h8 : n < 800
     ·have l8 : ilt (.ofNat n) 800 = true := (jbx n 800 800 rfl).trans (decide_eq_true h8)
      obtain ⟨ret, i', n', D', dp', tr', sd', sg', b1, b2, b3, b4, b5, b6, hih⟩ := ih (i + 1) (n + 1) (put1 D n c) dp tr sd true (by omega) (hf.put h8 hdg.1 hdg.2 (by omega)) (by omega) (by omega) (by omega)
      refine ⟨ret, i', n', D', dp', tr', sd', sg', by omega, b2, b3, b4, b5, b6, fun {X e bi tm μ neg} hd h => ?_⟩
      have hcn := hd.n
      have hcz := (hd.up (μ.next + 12)).n
      have hu := (hd.up (μ.next + 12))
      have hst := st_d (v := c) hu.blk h8
      have hu2 := hu.setD (v := c) h8
      have hcn2 := hu2.n
      have hst2 := st_n (v := .ofNat (n + 1)) hu2.blk
      have q1 : jay .i64 (Int.add (.ofNat n) 1) = .ofNat (n + 1) := ja2 n 1 (by omega)
      have hix : ∀ (rg : Rg) (a b : Operand), aev Tryz.prog rg a = .pointer (some ⟨bi, 0, none⟩) → aev Tryz.prog rg b = .int .i64 (.ofNat n) → jaE Tryz.prog (aev Tryz.prog rg) 185 a b = some (.pointer (some ⟨bi, n, none⟩)) := fun rg a b g1 g2 => jc7 h8 g1 g2
      refine jas ?_
      repeat (first | refine jaf ?_ | ((first | (refine jad ?_ ?_; (focus rfl)) | (refine jac (gs := ?_) ?_ ?_; rotate_left; (focus rfl))); simp only [run1, go_sem, h.r0, h.r1, h.r4, h.r5, h.r6, h.r7, jae, ls, jag, e1, hx, e95, e46, d1, d2, undef, jar, jaw, jap, hcn, l8, z1, n0]) | (refine jab ?_ ?_; (focus (simp only [go_sem, h.r0, h.r1, h.r4, h.r5, h.r6, h.r7, jae, ls, jag, e1, hx, e95, e46, d1, d2, undef, jar, jaw, jap, hcn, l8, z1, n0]; done))) | (refine jaa ?_ ?_; (focus (simp only [go_sem, h.r0, h.r1, h.r4, h.r5, h.r6, h.r7, jae, ls, jag, e1, hx, e95, e46, d1, d2, undef, jar, jaw, jap, hcn, l8, z1, n0]; done))) | ((first | refine jaj ?_ | refine jai ?_ | refine jak ?_); try simp only [go_sem]) | refine jah ?_)
      refine jaU (n := 12) (ms := [0, 0, 2, 6, 14, 0, 0, 96, 1, 257, 1023, 2047]) (ord := [0, 1, 2, 3, 4, 5, 6, 7, 8, 9, 10, 11]) (ds := ?_) ?_ ?_ ?_ ?_ ?_ ?_
      rotate_left
      ·kernel_rfl
      ·kernel_rfl
      ·kernel_rfl
      ·rfl
      ·rfl
      iterate 12 (refine jaS (by first | rfl | (simp only [go_sem, h.r0, h.r1, h.r4, h.r5, h.r6, h.r7, hx, jax, jar, jap, hcz, hix, hst])) (by simp only [jaT, heavy, jba, jaJ, go_sem, h.r0, h.r1, h.r4, h.r5, h.r6, h.r7, hx, jax, jar, jap, hcz, hix, hst]; try exact rfl) rfl ?_)
      simp only [dRun, jaM, jao]
      repeat (first | refine jaf ?_ | ((first | (refine jad ?_ ?_; (focus rfl)) | (refine jac (gs := ?_) ?_ ?_; rotate_left; (focus rfl))); simp only [run1, go_sem, h.r0, h.r1, h.r4, h.r5, h.r6, h.r7, jar, jap, hcn2, q1, hst2, a1]) | (refine jab ?_ ?_; (focus (simp only [go_sem, h.r0, h.r1, h.r4, h.r5, h.r6, h.r7, jar, jap, hcn2, q1, hst2, a1]; done))) | (refine jaa ?_ ?_; (focus (simp only [go_sem, h.r0, h.r1, h.r4, h.r5, h.r6, h.r7, jar, jap, hcn2, q1, hst2, a1]; done))) | ((first | refine jaj ?_ | refine jai ?_ | refine jak ?_); try simp only [go_sem]) | refine jah ?_)
      rw [show e + (m + 1) + 59 = e + m + 60 from by omega]
      refine EndsC.mono (hih (hu2.setN (n + 1)) (by constructor <;> simp only [go_sem, h.r0, h.r1, h.r4, h.r5, h.r6, h.r7])) ?_
      rintro x r μ' ⟨g1, g2, g3, g4⟩
      exact ⟨g1, g2, (Only.up _ _ _).trans ((Only.put _ _ _ _).trans ((Only.put _ _ _ _).trans g3)), g4⟩
     ·have l8 : ilt (.ofNat n) 800 = false := (jbx n 800 800 rfl).trans (decide_eq_false h8)
      obtain ⟨ret, i', n', D', dp', tr', sd', sg', b1, b2, b3, b4, b5, b6, hih⟩ := ih (i + 1) n D dp tr sd true (by omega) hf (by omega) (by omega) (by omega)
      refine ⟨ret, i', n', D', dp', tr', sd', sg', by omega, b2, b3, b4, b5, b6, fun {X e bi tm μ neg} hd h => ?_⟩
      have hcn := hd.n
      refine jas ?_
      repeat (first | refine jaf ?_ | ((first | (refine jad ?_ ?_; (focus rfl)) | (refine jac (gs := ?_) ?_ ?_; rotate_left; (focus rfl))); simp only [run1, go_sem, h.r0, h.r1, h.r4, h.r5, h.r6, h.r7, jae, ls, jag, e1, hx, e95, e46, d1, d2, z1, undef, jar, jaw, jap, hcn, n0, l8, a1]) | (refine jab ?_ ?_; (focus (simp only [go_sem, h.r0, h.r1, h.r4, h.r5, h.r6, h.r7, jae, ls, jag, e1, hx, e95, e46, d1, d2, z1, undef, jar, jaw, jap, hcn, n0, l8, a1]; done))) | (refine jaa ?_ ?_; (focus (simp only [go_sem, h.r0, h.r1, h.r4, h.r5, h.r6, h.r7, jae, ls, jag, e1, hx, e95, e46, d1, d2, z1, undef, jar, jaw, jap, hcn, n0, l8, a1]; done))) | ((first | refine jaj ?_ | refine jai ?_ | refine jak ?_); try simp only [go_sem]) | refine jah ?_)
      rw [show e + (m + 1) + 59 = e + m + 60 from by omega]
      exact hih hd (by constructor <;> simp only [go_sem, h.r0, h.r1, h.r4, h.r5, h.r6, h.r7])
   ·have z1 : ieq (.ofNat c) 48 = false := (jaO c 48 48 rfl).trans (decide_eq_false hz)
    by_cases h8 : n < 800
    ·have l8 : ilt (.ofNat n) 800 = true := (jbx n 800 800 rfl).trans (decide_eq_true h8)
     obtain ⟨ret, i', n', D', dp', tr', sd', sg', b1, b2, b3, b4, b5, b6, hih⟩ := ih (i + 1) (n + 1) (put1 D n c) dp tr sd true (by omega) (hf.put h8 hdg.1 hdg.2 (by omega)) (by omega) (by omega) (by omega)
     refine ⟨ret, i', n', D', dp', tr', sd', sg', by omega, b2, b3, b4, b5, b6, fun {X e bi tm μ neg} hd h => ?_⟩
     have hcn := hd.n
     have hcz := (hd.up (μ.next + 12)).n
     have hu := (hd.up (μ.next + 12))
     have hst := st_d (v := c) hu.blk h8
     have hu2 := hu.setD (v := c) h8
     have hcn2 := hu2.n
     have hst2 := st_n (v := .ofNat (n + 1)) hu2.blk
     have q1 : jay .i64 (Int.add (.ofNat n) 1) = .ofNat (n + 1) := ja2 n 1 (by omega)
     have hix : ∀ (rg : Rg) (a b : Operand), aev Tryz.prog rg a = .pointer (some ⟨bi, 0, none⟩) → aev Tryz.prog rg b = .int .i64 (.ofNat n) → jaE Tryz.prog (aev Tryz.prog rg) 185 a b = some (.pointer (some ⟨bi, n, none⟩)) := fun rg a b g1 g2 => jc7 h8 g1 g2
     refine jas ?_
     repeat (first | refine jaf ?_ | ((first | (refine jad ?_ ?_; (focus rfl)) | (refine jac (gs := ?_) ?_ ?_; rotate_left; (focus rfl))); simp only [run1, go_sem, h.r0, h.r1, h.r4, h.r5, h.r6, h.r7, jae, ls, jag, e1, hx, e95, e46, d1, d2, undef, jar, jaw, jap, hcn, l8, z1]) | (refine jab ?_ ?_; (focus (simp only [go_sem, h.r0, h.r1, h.r4, h.r5, h.r6, h.r7, jae, ls, jag, e1, hx, e95, e46, d1, d2, undef, jar, jaw, jap, hcn, l8, z1]; done))) | (refine jaa ?_ ?_; (focus (simp only [go_sem, h.r0, h.r1, h.r4, h.r5, h.r6, h.r7, jae, ls, jag, e1, hx, e95, e46, d1, d2, undef, jar, jaw, jap, hcn, l8, z1]; done))) | ((first | refine jaj ?_ | refine jai ?_ | refine jak ?_); try simp only [go_sem]) | refine jah ?_)
     refine jaU (n := 12) (ms := [0, 0, 2, 6, 14, 0, 0, 96, 1, 257, 1023, 2047]) (ord := [0, 1, 2, 3, 4, 5, 6, 7, 8, 9, 10, 11]) (ds := ?_) ?_ ?_ ?_ ?_ ?_ ?_
     rotate_left
     ·kernel_rfl
     ·kernel_rfl
     ·kernel_rfl
     ·rfl
     ·rfl
     iterate 12 (refine jaS (by first | rfl | (simp only [go_sem, h.r0, h.r1, h.r4, h.r5, h.r6, h.r7, hx, jax, jar, jap, hcz, hix, hst])) (by simp only [jaT, heavy, jba, jaJ, go_sem, h.r0, h.r1, h.r4, h.r5, h.r6, h.r7, hx, jax, jar, jap, hcz, hix, hst]; try exact rfl) rfl ?_)
     simp only [dRun, jaM, jao]
     repeat (first | refine jaf ?_ | ((first | (refine jad ?_ ?_; (focus rfl)) | (refine jac (gs := ?_) ?_ ?_; rotate_left; (focus rfl))); simp only [run1, go_sem, h.r0, h.r1, h.r4, h.r5, h.r6, h.r7, jar, jap, hcn2, q1, hst2, a1]) | (refine jab ?_ ?_; (focus (simp only [go_sem, h.r0, h.r1, h.r4, h.r5, h.r6, h.r7, jar, jap, hcn2, q1, hst2, a1]; done))) | (refine jaa ?_ ?_; (focus (simp only [go_sem, h.r0, h.r1, h.r4, h.r5, h.r6, h.r7, jar, jap, hcn2, q1, hst2, a1]; done))) | ((first | refine jaj ?_ | refine jai ?_ | refine jak ?_); try simp only [go_sem]) | refine jah ?_)
     rw [show e + (m + 1) + 59 = e + m + 60 from by omega]
     refine EndsC.mono (hih (hu2.setN (n + 1)) (by constructor <;> simp only [go_sem, h.r0, h.r1, h.r4, h.r5, h.r6, h.r7])) ?_
     rintro x r μ' ⟨g1, g2, g3, g4⟩
     exact ⟨g1, g2, (Only.up _ _ _).trans ((Only.put _ _ _ _).trans ((Only.put _ _ _ _).trans g3)), g4⟩
    ·have l8 : ilt (.ofNat n) 800 = false := (jbx n 800 800 rfl).trans (decide_eq_false h8)
     obtain ⟨ret, i', n', D', dp', tr', sd', sg', b1, b2, b3, b4, b5, b6, hih⟩ := ih (i + 1) n D dp true sd true (by omega) hf (by omega) (by omega) (by omega)
     refine ⟨ret, i', n', D', dp', tr', sd', sg', by omega, b2, b3, b4, b5, b6, fun {X e bi tm μ neg} hd h => ?_⟩
     have hcn := hd.n
     have hst := st_t (v := true) hd.blk
     refine jas ?_
     repeat (first | refine jaf ?_ | ((first | (refine jad ?_ ?_; (focus rfl)) | (refine jac (gs := ?_) ?_ ?_; rotate_left; (focus rfl))); simp only [run1, go_sem, h.r0, h.r1, h.r4, h.r5, h.r6, h.r7, jae, ls, jag, e1, hx, e95, e46, d1, d2, z1, undef, jar, jaw, jaH, jap, hcn, l8, hst, a1]) | (refine jab ?_ ?_; (focus (simp only [go_sem, h.r0, h.r1, h.r4, h.r5, h.r6, h.r7, jae, ls, jag, e1, hx, e95, e46, d1, d2, z1, undef, jar, jaw, jaH, jap, hcn, l8, hst, a1]; done))) | (refine jaa ?_ ?_; (focus (simp only [go_sem, h.r0, h.r1, h.r4, h.r5, h.r6, h.r7, jae, ls, jag, e1, hx, e95, e46, d1, d2, z1, undef, jar, jaw, jaH, jap, hcn, l8, hst, a1]; done))) | ((first | refine jaj ?_ | refine jai ?_ | refine jak ?_); try simp only [go_sem]) | refine jah ?_)
     rw [show e + (m + 1) + 59 = e + m + 60 from by omega]
     refine EndsC.mono (hih (hd.setT true) (by constructor <;> simp only [go_sem, h.r0, h.r1, h.r4, h.r5, h.r6, h.r7])) ?_
     rintro x r μ' ⟨g1, g2, g3, g4⟩
     exact ⟨g1, g2, (Only.put _ _ _ _).trans g3, g4⟩
set_option maxHeartbeats 4000000 in
theorem set_exp {s : ByteArray} (hs : ∀ c ∈ bys s, c ∈ nums) (hl : (bys s).length ≤ 1000) (sd sg : Bool) : ∀ (m i v : Nat), i + m = (bys s).length → v < 110000 →
  ∃ i' v', i ≤ i' ∧ i' ≤ (bys s).length ∧ v' < 110000 ∧ ∀ {X : XT} {e bi : Nat} {tm : T Value} {μ : Mem} {es : Value}, RegS tm s bi i sd sg → jaq tm 9 = .int .i64 (.ofNat v) → jaq tm 8 = es →
   EndsC (jat Tryz.prog X S0 (e + m + 30) (.loop (jaL Tryz.f146 1)) ⟨224, tm, [], none⟩ μ) fun x r μ' => x = .exit 5 ∧ μ' = μ ∧ ∃ tm', r = ⟨224, tm', [], none⟩ ∧ RegS tm' s bi i' sd sg ∧ jaq tm' 9 = .int .i64 (.ofNat v') ∧ jaq tm' 8 = es := by
 have ls := ja5 s
 intro m
 induction m with
 | zero =>
   intro i v hi hv
   have hi : i = (bys s).length := hi
   have e1 : ilt (.ofNat i) (.ofNat (bys s).length) = false := (jav _ _).trans (decide_eq_false (by omega))
   refine ⟨i, v, Nat.le_refl _, by omega, hv, fun {X e bi tm μ es} h h20 h19 => ?_⟩
   refine jas ?_
   refine jaf ?_
   refine jaf ?_
   refine jac (gs := ?_) ?_ ?_
   rotate_left
   ·rfl
   iterate 5 (refine jal (by first | rfl | (simp only [go_sem, undef, h.r0, h.r1, h.r4, h.r5, h.r6, h.r7, jae, ls, jag, e1])) (by simp only [go_sem, undef, h.r0, h.r1, h.r4, h.r5, h.r6, h.r7, jae, ls, jag, e1]; try exact rfl) rfl ?_)
   iterate 16 (refine jaA (by simp only [go_sem, undef, h.r0, h.r1, h.r4, h.r5, h.r6, h.r7, jae, ls, jag, e1]) rfl ?_)
   refine jal (by first | rfl | (simp only [go_sem, undef, h.r0, h.r1, h.r4, h.r5, h.r6, h.r7, jae, ls, jag, e1])) (by simp only [go_sem, undef, h.r0, h.r1, h.r4, h.r5, h.r6, h.r7, jae, ls, jag, e1]; try exact rfl) rfl ?_
   simp only [go_sem]
   repeat (first | refine jaf ?_ | ((first | (refine jad ?_ ?_; (focus rfl)) | (refine jac (gs := ?_) ?_ ?_; rotate_left; (focus rfl))); simp only [run1, go_sem, undef, h.r0, h.r1, h.r4, h.r5, h.r6, h.r7, jae, ls, jag, e1]) | (refine jab ?_ ?_; (focus (simp only [go_sem, undef, h.r0, h.r1, h.r4, h.r5, h.r6, h.r7, jae, ls, jag, e1]; done))) | (refine jaa ?_ ?_; (focus (simp only [go_sem, undef, h.r0, h.r1, h.r4, h.r5, h.r6, h.r7, jae, ls, jag, e1]; done))) | ((first | refine jaj ?_ | refine jai ?_ | refine jak ?_); try simp only [go_sem]) | refine jah ?_)
   exact ⟨by trivial, by trivial, _, rfl, (by constructor <;> simp only [go_sem, h.r0, h.r1, h.r4, h.r5, h.r6, h.r7]), by simp only [go_sem, h20], by simp only [go_sem, h19]⟩
 | succ m ih =>
   intro i v hi hv
   have hlt : i < (bys s).length := by omega
   obtain ⟨c, hc⟩ : ∃ c, c = (bys s)[i]'hlt := ⟨_, rfl⟩
   have hcn : c ∈ nums := by rw [hc]; exact hs _ (List.getElem_mem hlt)
   have hc256 := jgB c hcn
   have hx : ∀ (r : Rg) (x y : Operand), aev Tryz.prog r x = .string s → aev Tryz.prog r y = .int .i64 (.ofNat i) → jbi Tryz.prog (aev Tryz.prog r) 9 x y = some (.int .u8 (.ofNat c)) := fun r x y h1 h2 => by rw [hc]; exact jbA hlt h1 h2
   have e1 : ilt (.ofNat i) (.ofNat (bys s).length) = true := (jav _ _).trans (decide_eq_true hlt)
   have e95 : ieq (.ofNat c) 95 = false := (jaO c 95 95 rfl).trans (decide_eq_false (jef c hcn).2.2.2.2)
   have a1 : jay .i64 (Int.add (.ofNat i) 1) = .ofNat (i + 1) := ja2 i 1 (by omega)
   clear hc
   by_cases hd : 48 ≤ c ∧ c ≤ 57
   ·have d1 : ilt (.ofNat c) 48 = false := (jbx c 48 48 rfl).trans (decide_eq_false (by omega))
    have d2 : ilt 57 (.ofNat c) = false := (jdf c 57 57 rfl).trans (decide_eq_false (by omega))
    by_cases hv2 : v < 10000
    ·obtain ⟨i', v', b1, b2, b3, hih⟩ := ih (i + 1) (v * 10 + c - 48) (by omega) (by omega)
     have v1 : ilt (.ofNat v) 10000 = true := (jbx v 10000 10000 rfl).trans (decide_eq_true hv2)
     have q1 : jay .i64 (Int.mul (.ofNat v) 10) = .ofNat (v * 10) := mul_nat v 10 (by omega)
     have q2 : jay .i64 (.ofNat c) = .ofNat c := q64 c (by omega)
     have q3 : jay .i64 (Int.add (.ofNat (v * 10)) (.ofNat c)) = .ofNat (v * 10 + c) := ja2 _ _ (by omega)
     have q4 : jay .i64 (Int.sub (.ofNat (v * 10 + c)) 48) = .ofNat (v * 10 + c - 48) := jco (v * 10 + c) 48 (by omega) (by omega)
     refine ⟨i', v', by omega, b2, b3, fun {X e bi tm μ es} h h20 h19 => ?_⟩
     refine jas ?_
     refine jaf ?_
     refine jaf ?_
     refine jac (gs := ?_) ?_ ?_
     rotate_left
     ·rfl
     iterate 16 (refine jal (by first | rfl | (simp only [go_sem, undef, h.r0, h.r1, h.r4, h.r5, h.r6, h.r7, h20, jae, ls, jag, e1, hx, e95, d1, d2, v1, q1, ja3, q2, q3, q4, a1])) (by simp only [go_sem, undef, h.r0, h.r1, h.r4, h.r5, h.r6, h.r7, h20, jae, ls, jag, e1, hx, e95, d1, d2, v1, q1, ja3, q2, q3, q4, a1]; try exact rfl) rfl ?_)
     iterate 4 (refine jaA (by simp only [go_sem, undef, h.r0, h.r1, h.r4, h.r5, h.r6, h.r7, h20, jae, ls, jag, e1, hx, e95, d1, d2, v1, q1, ja3, q2, q3, q4, a1]) rfl ?_)
     iterate 2 (refine jal (by first | rfl | (simp only [go_sem, undef, h.r0, h.r1, h.r4, h.r5, h.r6, h.r7, h20, jae, ls, jag, e1, hx, e95, d1, d2, v1, q1, ja3, q2, q3, q4, a1])) (by simp only [go_sem, undef, h.r0, h.r1, h.r4, h.r5, h.r6, h.r7, h20, jae, ls, jag, e1, hx, e95, d1, d2, v1, q1, ja3, q2, q3, q4, a1]; try exact rfl) rfl ?_)
     simp only [go_sem]
     repeat (first | refine jaf ?_ | ((first | (refine jad ?_ ?_; (focus rfl)) | (refine jac (gs := ?_) ?_ ?_; rotate_left; (focus rfl))); simp only [run1, go_sem, undef, h.r0, h.r1, h.r4, h.r5, h.r6, h.r7, h20, jae, ls, jag, e1, hx, e95, d1, d2, v1, q1, ja3, q2, q3, q4, a1]) | (refine jab ?_ ?_; (focus (simp only [go_sem, undef, h.r0, h.r1, h.r4, h.r5, h.r6, h.r7, h20, jae, ls, jag, e1, hx, e95, d1, d2, v1, q1, ja3, q2, q3, q4, a1]; done))) | (refine jaa ?_ ?_; (focus (simp only [go_sem, undef, h.r0, h.r1, h.r4, h.r5, h.r6, h.r7, h20, jae, ls, jag, e1, hx, e95, d1, d2, v1, q1, ja3, q2, q3, q4, a1]; done))) | ((first | refine jaj ?_ | refine jai ?_ | refine jak ?_); try simp only [go_sem]) | refine jah ?_)
     rw [show e + (m + 1) + 29 = e + m + 30 from by omega]
     exact hih (by constructor <;> simp only [go_sem, h.r0, h.r1, h.r4, h.r5, h.r6, h.r7]) (by simp only [go_sem]) (by simp only [go_sem, h19])
    ·obtain ⟨i', v', b1, b2, b3, hih⟩ := ih (i + 1) v (by omega) hv
     have v1 : ilt (.ofNat v) 10000 = false := (jbx v 10000 10000 rfl).trans (decide_eq_false hv2)
     refine ⟨i', v', by omega, b2, b3, fun {X e bi tm μ es} h h20 h19 => ?_⟩
     refine jas ?_
     refine jaf ?_
     refine jaf ?_
     refine jac (gs := ?_) ?_ ?_
     rotate_left
     ·rfl
     iterate 16 (refine jal (by first | rfl | (simp only [go_sem, undef, h.r0, h.r1, h.r4, h.r5, h.r6, h.r7, h20, jae, ls, jag, e1, hx, e95, d1, d2, v1, a1])) (by simp only [go_sem, undef, h.r0, h.r1, h.r4, h.r5, h.r6, h.r7, h20, jae, ls, jag, e1, hx, e95, d1, d2, v1, a1]; try exact rfl) rfl ?_)
     iterate 4 (refine jaA (by simp only [go_sem, undef, h.r0, h.r1, h.r4, h.r5, h.r6, h.r7, h20, jae, ls, jag, e1, hx, e95, d1, d2, v1, a1]) rfl ?_)
     iterate 2 (refine jal (by first | rfl | (simp only [go_sem, undef, h.r0, h.r1, h.r4, h.r5, h.r6, h.r7, h20, jae, ls, jag, e1, hx, e95, d1, d2, v1, a1])) (by simp only [go_sem, undef, h.r0, h.r1, h.r4, h.r5, h.r6, h.r7, h20, jae, ls, jag, e1, hx, e95, d1, d2, v1, a1]; try exact rfl) rfl ?_)
     simp only [go_sem]
     repeat (first | refine jaf ?_ | ((first | (refine jad ?_ ?_; (focus rfl)) | (refine jac (gs := ?_) ?_ ?_; rotate_left; (focus rfl))); simp only [run1, go_sem, undef, h.r0, h.r1, h.r4, h.r5, h.r6, h.r7, h20, jae, ls, jag, e1, hx, e95, d1, d2, v1, a1]) | (refine jab ?_ ?_; (focus (simp only [go_sem, undef, h.r0, h.r1, h.r4, h.r5, h.r6, h.r7, h20, jae, ls, jag, e1, hx, e95, d1, d2, v1, a1]; done))) | (refine jaa ?_ ?_; (focus (simp only [go_sem, undef, h.r0, h.r1, h.r4, h.r5, h.r6, h.r7, h20, jae, ls, jag, e1, hx, e95, d1, d2, v1, a1]; done))) | ((first | refine jaj ?_ | refine jai ?_ | refine jak ?_); try simp only [go_sem]) | refine jah ?_)
     rw [show e + (m + 1) + 29 = e + m + 30 from by omega]
     exact hih (by constructor <;> simp only [go_sem, h.r0, h.r1, h.r4, h.r5, h.r6, h.r7]) (by simp only [go_sem, h20]) (by simp only [go_sem, h19])
   ·refine ⟨i, v, Nat.le_refl _, by omega, hv, fun {X e bi tm μ es} h h20 h19 => ?_⟩
    by_cases h48 : c < 48
    ·have d1 : ilt (.ofNat c) 48 = true := (jbx c 48 48 rfl).trans (decide_eq_true h48)
     refine jas ?_
     refine jaf ?_
     refine jaf ?_
     refine jac (gs := ?_) ?_ ?_
     rotate_left
     ·rfl
     iterate 10 (refine jal (by first | rfl | (simp only [go_sem, undef, h.r0, h.r1, h.r4, h.r5, h.r6, h.r7, jae, ls, jag, e1, hx, e95, d1])) (by simp only [go_sem, undef, h.r0, h.r1, h.r4, h.r5, h.r6, h.r7, jae, ls, jag, e1, hx, e95, d1]; try exact rfl) rfl ?_)
     iterate 4 (refine jaA (by simp only [go_sem, undef, h.r0, h.r1, h.r4, h.r5, h.r6, h.r7, jae, ls, jag, e1, hx, e95, d1]) rfl ?_)
     iterate 8 (refine jal (by first | rfl | (simp only [go_sem, undef, h.r0, h.r1, h.r4, h.r5, h.r6, h.r7, jae, ls, jag, e1, hx, e95, d1])) (by simp only [go_sem, undef, h.r0, h.r1, h.r4, h.r5, h.r6, h.r7, jae, ls, jag, e1, hx, e95, d1]; try exact rfl) rfl ?_)
     simp only [go_sem]
     repeat (first | refine jaf ?_ | ((first | (refine jad ?_ ?_; (focus rfl)) | (refine jac (gs := ?_) ?_ ?_; rotate_left; (focus rfl))); simp only [run1, go_sem, undef, h.r0, h.r1, h.r4, h.r5, h.r6, h.r7, jae, ls, jag, e1, hx, e95, d1]) | (refine jab ?_ ?_; (focus (simp only [go_sem, undef, h.r0, h.r1, h.r4, h.r5, h.r6, h.r7, jae, ls, jag, e1, hx, e95, d1]; done))) | (refine jaa ?_ ?_; (focus (simp only [go_sem, undef, h.r0, h.r1, h.r4, h.r5, h.r6, h.r7, jae, ls, jag, e1, hx, e95, d1]; done))) | ((first | refine jaj ?_ | refine jai ?_ | refine jak ?_); try simp only [go_sem]) | refine jah ?_)
     exact ⟨by trivial, by trivial, _, rfl, (by constructor <;> simp only [go_sem, h.r0, h.r1, h.r4, h.r5, h.r6, h.r7]), by simp only [go_sem, h20], by simp only [go_sem, h19]⟩
    ·have d1 : ilt (.ofNat c) 48 = false := (jbx c 48 48 rfl).trans (decide_eq_false h48)
     have d2 : ilt 57 (.ofNat c) = true := (jdf c 57 57 rfl).trans (decide_eq_true (by omega))
     refine jas ?_
     refine jaf ?_
     refine jaf ?_
     refine jac (gs := ?_) ?_ ?_
     rotate_left
     ·rfl
     iterate 22 (refine jal (by first | rfl | (simp only [go_sem, undef, h.r0, h.r1, h.r4, h.r5, h.r6, h.r7, jae, ls, jag, e1, hx, e95, d1, d2])) (by simp only [go_sem, undef, h.r0, h.r1, h.r4, h.r5, h.r6, h.r7, jae, ls, jag, e1, hx, e95, d1, d2]; try exact rfl) rfl ?_)
     simp only [go_sem]
     repeat (first | refine jaf ?_ | ((first | (refine jad ?_ ?_; (focus rfl)) | (refine jac (gs := ?_) ?_ ?_; rotate_left; (focus rfl))); simp only [run1, go_sem, undef, h.r0, h.r1, h.r4, h.r5, h.r6, h.r7, jae, ls, jag, e1, hx, e95, d1, d2]) | (refine jab ?_ ?_; (focus (simp only [go_sem, undef, h.r0, h.r1, h.r4, h.r5, h.r6, h.r7, jae, ls, jag, e1, hx, e95, d1, d2]; done))) | (refine jaa ?_ ?_; (focus (simp only [go_sem, undef, h.r0, h.r1, h.r4, h.r5, h.r6, h.r7, jae, ls, jag, e1, hx, e95, d1, d2]; done))) | ((first | refine jaj ?_ | refine jai ?_ | refine jak ?_); try simp only [go_sem]) | refine jah ?_)
     exact ⟨by trivial, by trivial, _, rfl, (by constructor <;> simp only [go_sem, h.r0, h.r1, h.r4, h.r5, h.r6, h.r7]), by simp only [go_sem, h20], by simp only [go_sem, h19]⟩
end
noncomputable section
open Go.Proofs.YtdjoekhccbiaiaaGreatDoor.DecM (val Dg)
def thenS : Code → Code
 | .seq _ (.cond _ a _) => a
 | _ => .skip
def itemA : Code → Code
 | .seq a _ => a
 | c => c
def elseS : Code → Code
 | .seq _ (.cond _ _ b) => b
 | _ => .skip
def outE (done : Bool) : Ax := if done then .normal else .ret
theorem ss0 : (jaB Tryz.f146) = .seq (jaW 0 (jaB Tryz.f146)) (.seq (jaW 1 (jaB Tryz.f146)) (.seq (jaW 2 (jaB Tryz.f146)) (.seq (jaW 3 (jaB Tryz.f146)) (.seq (jaW 4 (jaB Tryz.f146)) (.seq (jaW 5 (jaB Tryz.f146)) (ja1 6 (jaB Tryz.f146))))))) := by kernel_rfl
theorem ss6 : ja1 6 (jaB Tryz.f146) = .seq (jaW 6 (jaB Tryz.f146)) (.seq (jaW 7 (jaB Tryz.f146)) (.seq (jaW 8 (jaB Tryz.f146)) (ja1 9 (jaB Tryz.f146)))) := by kernel_rfl
theorem ss9 : ja1 9 (jaB Tryz.f146) = .seq (jaW 9 (jaB Tryz.f146)) (.seq (jaW 10 (jaB Tryz.f146)) (ja1 11 (jaB Tryz.f146))) := by kernel_rfl
theorem ss11 : ja1 11 (jaB Tryz.f146) = .seq (jaW 11 (jaB Tryz.f146)) (ja1 12 (jaB Tryz.f146)) := by kernel_rfl
theorem si11 : jaW 11 (jaB Tryz.f146) = .seq (itemA (jaW 11 (jaB Tryz.f146))) (.cond (.tmp 138) (.seq (jaW 0 (thenS (jaW 11 (jaB Tryz.f146)))) (.seq (jaW 1 (thenS (jaW 11 (jaB Tryz.f146)))) (.seq (jaW 2 (thenS (jaW 11 (jaB Tryz.f146)))) (.seq (jaW 3 (thenS (jaW 11 (jaB Tryz.f146)))) (ja1 4 (thenS (jaW 11 (jaB Tryz.f146)))))))) (elseS (jaW 11 (jaB Tryz.f146)))) := by kernel_rfl
def FinS (ok : Bool) (D : Nat → Nat) (n : Nat) (dp : Int) (neg tr : Bool) (bi : Nat) (μ : Mem) : Ax → Rg → Mem → Prop := fun x r μ' => x = .ret ∧ Dec μ' bi D n dp neg tr ∧ Only μ μ' bi ∧ ∃ tm, r = ⟨224, tm, [], none⟩ ∧ jaq tm 4 = .bool ok
theorem set12 (s : ByteArray) (hl : (bys s).length ≤ 1000) (i : Nat) (sd sg : Bool) : ∃ ok, ∀ {X : XT} {k bi n : Nat} {D : Nat → Nat} {tm : T Value} {μ : Mem} {dp : Int} {neg tr : Bool}, Dec μ bi D n dp neg tr → RegS tm s bi i sd sg →
  EndsC (jat Tryz.prog X S0 (k + 30) (ja1 12 (jaB Tryz.f146)) ⟨224, tm, [], none⟩ μ) (FinS ok D n dp neg tr bi μ) := by
 have ls := ja5 s
 by_cases he : i = (bys s).length
 ·have e1 : ieq (.ofNat i) (.ofNat (bys s).length) = true := (jb7 _ _).trans (decide_eq_true he)
  refine ⟨true, fun {X k bi n D tm μ dp neg tr} hd h => ?_⟩
  repeat (first | refine jaf ?_ | ((first | (refine jad ?_ ?_; (focus rfl)) | (refine jac (gs := ?_) ?_ ?_; rotate_left; (focus rfl))); simp only [run1, go_sem, h.r0, h.r1, h.r4, h.r5, h.r6, h.r7, jae, ls, jag, e1]) | (refine jab ?_ ?_; (focus (simp only [go_sem, h.r0, h.r1, h.r4, h.r5, h.r6, h.r7, jae, ls, jag, e1]; done))) | (refine jaa ?_ ?_; (focus (simp only [go_sem, h.r0, h.r1, h.r4, h.r5, h.r6, h.r7, jae, ls, jag, e1]; done))) | ((first | refine jaj ?_ | refine jai ?_ | refine jak ?_); try simp only [go_sem]) | refine jah ?_)
  refine jam ?_
  exact ⟨by trivial, hd, Only.refl _ _, _, rfl, (by simp only [go_sem])⟩
 ·have e1 : ieq (.ofNat i) (.ofNat (bys s).length) = false := (jb7 _ _).trans (decide_eq_false he)
  refine ⟨false, fun {X k bi n D tm μ dp neg tr} hd h => ?_⟩
  repeat (first | refine jaf ?_ | ((first | (refine jad ?_ ?_; (focus rfl)) | (refine jac (gs := ?_) ?_ ?_; rotate_left; (focus rfl))); simp only [run1, go_sem, h.r0, h.r1, h.r4, h.r5, h.r6, h.r7, jae, ls, jag, e1]) | (refine jab ?_ ?_; (focus (simp only [go_sem, h.r0, h.r1, h.r4, h.r5, h.r6, h.r7, jae, ls, jag, e1]; done))) | (refine jaa ?_ ?_; (focus (simp only [go_sem, h.r0, h.r1, h.r4, h.r5, h.r6, h.r7, jae, ls, jag, e1]; done))) | ((first | refine jaj ?_ | refine jai ?_ | refine jak ?_); try simp only [go_sem]) | refine jah ?_)
  refine jam ?_
  exact ⟨by trivial, hd, Only.refl _ _, _, rfl, (by simp only [go_sem, h.r4])⟩
theorem setE {s : ByteArray} (hs : ∀ c ∈ bys s, c ∈ nums) (hl : (bys s).length ≤ 1000) (i : Nat) (dp : Int) (sd sg : Bool) (es : Int) (hes : es = 1 ∨ es = -1) (hi : i ≤ (bys s).length) (hd1 : -2000 < dp) (hd2 : dp < 2000) : ∃ done i' dp', i' ≤ (bys s).length ∧ -150000 < dp' ∧ dp' < 150000 ∧ ∀ {X : XT} {k bi n : Nat} {D : Nat → Nat} {tm : T Value} {μ : Mem} {neg tr : Bool}, Dec μ bi D n dp neg tr → RegS tm s bi i sd sg → jaq tm 8 = .int .i64 es →
  EndsC (jat Tryz.prog X S0 (k + 1100) (ja1 4 (thenS (jaW 11 (jaB Tryz.f146)))) ⟨224, tm, [], none⟩ μ) fun x r μ' => x = outE done ∧ Dec μ' bi D n dp' neg tr ∧ Only μ μ' bi ∧ ∃ tm', r = ⟨224, tm', [], none⟩ ∧ RegS tm' s bi i' sd sg := by
 have ls := ja5 s
 by_cases hlt : i < (bys s).length
 rotate_left
 ·have e1 : ilt (.ofNat i) (.ofNat (bys s).length) = false := (jav _ _).trans (decide_eq_false hlt)
  refine ⟨false, i, dp, hi, by omega, by omega, fun {X k bi n D tm μ neg tr} hd h h8 => ?_⟩
  refine jaf ?_
  refine jaf ?_
  refine jac (gs := ?_) ?_ ?_
  rotate_left
  ·rfl
  iterate 5 (refine jal (by first | rfl | (simp only [go_sem, undef, h.r0, h.r1, h.r4, h.r5, h.r6, h.r7, jae, ls, jag, e1])) (by simp only [go_sem, undef, h.r0, h.r1, h.r4, h.r5, h.r6, h.r7, jae, ls, jag, e1]; try exact rfl) rfl ?_)
  iterate 4 (refine jaA (by simp only [go_sem, undef, h.r0, h.r1, h.r4, h.r5, h.r6, h.r7, jae, ls, jag, e1]) rfl ?_)
  iterate 2 (refine jal (by first | rfl | (simp only [go_sem, undef, h.r0, h.r1, h.r4, h.r5, h.r6, h.r7, jae, ls, jag, e1])) (by simp only [go_sem, undef, h.r0, h.r1, h.r4, h.r5, h.r6, h.r7, jae, ls, jag, e1]; try exact rfl) rfl ?_)
  iterate 4 (refine jaA (by simp only [go_sem, undef, h.r0, h.r1, h.r4, h.r5, h.r6, h.r7, jae, ls, jag, e1]) rfl ?_)
  refine jal (by first | rfl | (simp only [go_sem, undef, h.r0, h.r1, h.r4, h.r5, h.r6, h.r7, jae, ls, jag, e1])) (by simp only [go_sem, undef, h.r0, h.r1, h.r4, h.r5, h.r6, h.r7, jae, ls, jag, e1]; try exact rfl) rfl ?_
  simp only [go_sem]
  repeat (first | refine jaf ?_ | ((first | (refine jad ?_ ?_; (focus rfl)) | (refine jac (gs := ?_) ?_ ?_; rotate_left; (focus rfl))); simp only [run1, go_sem, undef, h.r0, h.r1, h.r4, h.r5, h.r6, h.r7, jae, ls, jag, e1]) | (refine jab ?_ ?_; (focus (simp only [go_sem, undef, h.r0, h.r1, h.r4, h.r5, h.r6, h.r7, jae, ls, jag, e1]; done))) | (refine jaa ?_ ?_; (focus (simp only [go_sem, undef, h.r0, h.r1, h.r4, h.r5, h.r6, h.r7, jae, ls, jag, e1]; done))) | ((first | refine jaj ?_ | refine jai ?_ | refine jak ?_); try simp only [go_sem]) | refine jah ?_)
  refine jam ?_
  exact ⟨by trivial, hd, Only.refl _ _, _, rfl, (by constructor <;> simp only [go_sem, h.r0, h.r1, h.r4, h.r5, h.r6, h.r7])⟩
 have e1 : ilt (.ofNat i) (.ofNat (bys s).length) = true := (jav _ _).trans (decide_eq_true hlt)
 obtain ⟨c, hc⟩ : ∃ c, c = (bys s)[i]'hlt := ⟨_, rfl⟩
 have hx : ∀ (r : Rg) (x y : Operand), aev Tryz.prog r x = .string s → aev Tryz.prog r y = .int .i64 (.ofNat i) → jbi Tryz.prog (aev Tryz.prog r) 9 x y = some (.int .u8 (.ofNat c)) := fun r x y h1 h2 => by rw [hc]; exact jbA hlt h1 h2
 clear hc
 by_cases h48 : c < 48
 ·have d1 : ilt (.ofNat c) 48 = true := (jbx c 48 48 rfl).trans (decide_eq_true h48)
  refine ⟨false, i, dp, hi, by omega, by omega, fun {X k bi n D tm μ neg tr} hd h h8 => ?_⟩
  refine jaf ?_
  refine jaf ?_
  refine jac (gs := ?_) ?_ ?_
  rotate_left
  ·rfl
  iterate 11 (refine jal (by first | rfl | (simp only [go_sem, undef, h.r0, h.r1, h.r4, h.r5, h.r6, h.r7, jae, ls, jag, e1, hx, d1])) (by simp only [go_sem, undef, h.r0, h.r1, h.r4, h.r5, h.r6, h.r7, jae, ls, jag, e1, hx, d1]; try exact rfl) rfl ?_)
  iterate 4 (refine jaA (by simp only [go_sem, undef, h.r0, h.r1, h.r4, h.r5, h.r6, h.r7, jae, ls, jag, e1, hx, d1]) rfl ?_)
  refine jal (by first | rfl | (simp only [go_sem, undef, h.r0, h.r1, h.r4, h.r5, h.r6, h.r7, jae, ls, jag, e1, hx, d1])) (by simp only [go_sem, undef, h.r0, h.r1, h.r4, h.r5, h.r6, h.r7, jae, ls, jag, e1, hx, d1]; try exact rfl) rfl ?_
  simp only [go_sem]
  repeat (first | refine jaf ?_ | ((first | (refine jad ?_ ?_; (focus rfl)) | (refine jac (gs := ?_) ?_ ?_; rotate_left; (focus rfl))); simp only [run1, go_sem, undef, h.r0, h.r1, h.r4, h.r5, h.r6, h.r7, jae, ls, jag, e1, hx, d1]) | (refine jab ?_ ?_; (focus (simp only [go_sem, undef, h.r0, h.r1, h.r4, h.r5, h.r6, h.r7, jae, ls, jag, e1, hx, d1]; done))) | (refine jaa ?_ ?_; (focus (simp only [go_sem, undef, h.r0, h.r1, h.r4, h.r5, h.r6, h.r7, jae, ls, jag, e1, hx, d1]; done))) | ((first | refine jaj ?_ | refine jai ?_ | refine jak ?_); try simp only [go_sem]) | refine jah ?_)
  refine jam ?_
  exact ⟨by trivial, hd, Only.refl _ _, _, rfl, (by constructor <;> simp only [go_sem, h.r0, h.r1, h.r4, h.r5, h.r6, h.r7])⟩
 have d1 : ilt (.ofNat c) 48 = false := (jbx c 48 48 rfl).trans (decide_eq_false h48)
 by_cases h57 : 57 < c
 ·have d2 : ilt 57 (.ofNat c) = true := (jdf c 57 57 rfl).trans (decide_eq_true h57)
  refine ⟨false, i, dp, hi, by omega, by omega, fun {X k bi n D tm μ neg tr} hd h h8 => ?_⟩
  refine jaf ?_
  refine jaf ?_
  refine jac (gs := ?_) ?_ ?_
  rotate_left
  ·rfl
  iterate 16 (refine jal (by first | rfl | (simp only [go_sem, undef, h.r0, h.r1, h.r4, h.r5, h.r6, h.r7, jae, ls, jag, e1, hx, d1, d2])) (by simp only [go_sem, undef, h.r0, h.r1, h.r4, h.r5, h.r6, h.r7, jae, ls, jag, e1, hx, d1, d2]; try exact rfl) rfl ?_)
  simp only [go_sem]
  repeat (first | refine jaf ?_ | ((first | (refine jad ?_ ?_; (focus rfl)) | (refine jac (gs := ?_) ?_ ?_; rotate_left; (focus rfl))); simp only [run1, go_sem, undef, h.r0, h.r1, h.r4, h.r5, h.r6, h.r7, jae, ls, jag, e1, hx, d1, d2]) | (refine jab ?_ ?_; (focus (simp only [go_sem, undef, h.r0, h.r1, h.r4, h.r5, h.r6, h.r7, jae, ls, jag, e1, hx, d1, d2]; done))) | (refine jaa ?_ ?_; (focus (simp only [go_sem, undef, h.r0, h.r1, h.r4, h.r5, h.r6, h.r7, jae, ls, jag, e1, hx, d1, d2]; done))) | ((first | refine jaj ?_ | refine jai ?_ | refine jak ?_); try simp only [go_sem]) | refine jah ?_)
  refine jam ?_
  exact ⟨by trivial, hd, Only.refl _ _, _, rfl, (by constructor <;> simp only [go_sem, h.r0, h.r1, h.r4, h.r5, h.r6, h.r7])⟩
 have d2 : ilt 57 (.ofNat c) = false := (jdf c 57 57 rfl).trans (decide_eq_false h57)
 obtain ⟨i', v', b1, b2, b3, hlp⟩ := set_exp hs hl sd sg ((bys s).length - i) i 0 (by omega) (by decide)
 have q1 : jay .i64 (Int.mul (.ofNat v') es) = (v' : Int) * es := i_mul (v' : Int) es (by rcases hes with rfl | rfl <;> omega) (by rcases hes with rfl | rfl <;> omega)
 obtain ⟨pe, hpe⟩ : ∃ pe, pe = (v' : Int) * es := ⟨_, rfl⟩
 have hpe1 : -110000 < pe ∧ pe < 110000 := by rw [hpe]; rcases hes with rfl | rfl <;> omega
 rw [← hpe] at q1
 have q2 : jay .i64 (Int.add dp pe) = dp + pe := jfD dp pe (by omega) (by omega)
 refine ⟨true, i', dp + pe, b2, by omega, by omega, fun {X k bi n D tm μ neg tr} hd h h8 => ?_⟩
 have hp := hd.p
 have hst := st_p (v := dp + pe) hd.blk
 refine jaf ?_
 refine jaf ?_
 refine jac (gs := ?_) ?_ ?_
 rotate_left
 ·rfl
 iterate 16 (refine jal (by first | rfl | (simp only [go_sem, undef, h.r0, h.r1, h.r4, h.r5, h.r6, h.r7, jae, ls, jag, e1, hx, d1, d2])) (by simp only [go_sem, undef, h.r0, h.r1, h.r4, h.r5, h.r6, h.r7, jae, ls, jag, e1, hx, d1, d2]; try exact rfl) rfl ?_)
 simp only [go_sem]
 repeat (first | refine jaf ?_ | ((first | (refine jad ?_ ?_; (focus rfl)) | (refine jac (gs := ?_) ?_ ?_; rotate_left; (focus rfl))); simp only [run1, go_sem, undef, h.r0, h.r1, h.r4, h.r5, h.r6, h.r7, jae, ls, jag, e1, hx, d1, d2]) | (refine jab ?_ ?_; (focus (simp only [go_sem, undef, h.r0, h.r1, h.r4, h.r5, h.r6, h.r7, jae, ls, jag, e1, hx, d1, d2]; done))) | (refine jaa ?_ ?_; (focus (simp only [go_sem, undef, h.r0, h.r1, h.r4, h.r5, h.r6, h.r7, jae, ls, jag, e1, hx, d1, d2]; done))) | ((first | refine jaj ?_ | refine jai ?_ | refine jak ?_); try simp only [go_sem]) | refine jah ?_)
 rw [show k + 1096 = (k + 1066 - ((bys s).length - i)) + ((bys s).length - i) + 30 from by omega]
 refine EndsC.mono (hlp (bi := bi) (es := .int .i64 es) (by constructor <;> simp only [go_sem, h.r0, h.r1, h.r4, h.r5, h.r6, h.r7]) (by simp only [go_sem]; try rfl) (by simp only [go_sem, h8])) ?_
 rintro x r μ' ⟨rfl, rfl, tm', rfl, h, h9, h8⟩
 simp only [ja4, reduceIte, jao]
 repeat (first | refine jaf ?_ | ((first | (refine jad ?_ ?_; (focus rfl)) | (refine jac (gs := ?_) ?_ ?_; rotate_left; (focus rfl))); simp only [run1, go_sem, h.r0, h.r1, h.r4, h.r5, h.r6, h.r7, h9, h8, q1, q2, jaw, jap, hp, hst]) | (refine jab ?_ ?_; (focus (simp only [go_sem, h.r0, h.r1, h.r4, h.r5, h.r6, h.r7, h9, h8, q1, q2, jaw, jap, hp, hst]; done))) | (refine jaa ?_ ?_; (focus (simp only [go_sem, h.r0, h.r1, h.r4, h.r5, h.r6, h.r7, h9, h8, q1, q2, jaw, jap, hp, hst]; done))) | ((first | refine jaj ?_ | refine jai ?_ | refine jak ?_); try simp only [go_sem]) | refine jah ?_)
 exact ⟨by trivial, hd.setP _, Only.put _ _ _ _, _, rfl, (by constructor <;> simp only [go_sem, h.r0, h.r1, h.r4, h.r5, h.r6, h.r7])⟩
attribute [local irreducible] ja1
theorem set11 {s : ByteArray} (hs : ∀ c ∈ bys s, c ∈ nums) (hl : (bys s).length ≤ 1000) (i : Nat) (dp : Int) (sd sg : Bool) (hi : i ≤ (bys s).length) (hd1 : -2000 < dp) (hd2 : dp < 2000) : ∃ ok dp', -150000 < dp' ∧ dp' < 150000 ∧ ∀ {X : XT} {k bi n : Nat} {D : Nat → Nat} {tm : T Value} {μ : Mem} {neg tr : Bool}, Dec μ bi D n dp neg tr → RegS tm s bi i sd sg →
  EndsC (jat Tryz.prog X S0 (k + 1200) (ja1 11 (jaB Tryz.f146)) ⟨224, tm, [], none⟩ μ) (FinS ok D n dp' neg tr bi μ) := by
 have ls := ja5 s
 by_cases hlt : i < (bys s).length
 rotate_left
 ·have e1 : ilt (.ofNat i) (.ofNat (bys s).length) = false := (jav _ _).trans (decide_eq_false hlt)
  obtain ⟨ok, h12⟩ := set12 s hl i sd sg
  refine ⟨ok, dp, by omega, by omega, fun {X k bi n D tm μ neg tr} hd h => ?_⟩
  rw [ss11, si11]
  refine jaf ?_
  refine jaf ?_
  refine jac (gs := ?_) ?_ ?_
  rotate_left
  ·rfl
  iterate 5 (refine jal (by first | rfl | (simp only [go_sem, undef, h.r0, h.r1, h.r4, h.r5, h.r6, h.r7, jae, ls, jag, e1])) (by simp only [go_sem, undef, h.r0, h.r1, h.r4, h.r5, h.r6, h.r7, jae, ls, jag, e1]; try exact rfl) rfl ?_)
  iterate 5 (refine jaA (by simp only [go_sem, undef, h.r0, h.r1, h.r4, h.r5, h.r6, h.r7, jae, ls, jag, e1]) rfl ?_)
  refine jal (by first | rfl | (simp only [go_sem, undef, h.r0, h.r1, h.r4, h.r5, h.r6, h.r7, jae, ls, jag, e1])) (by simp only [go_sem, undef, h.r0, h.r1, h.r4, h.r5, h.r6, h.r7, jae, ls, jag, e1]; try exact rfl) rfl ?_
  simp only [go_sem]
  repeat (first | refine jaf ?_ | ((first | (refine jad ?_ ?_; (focus rfl)) | (refine jac (gs := ?_) ?_ ?_; rotate_left; (focus rfl))); simp only [run1, go_sem, h.r0, h.r1, h.r4, h.r5, h.r6, h.r7, jae, ls, jag, e1]) | (refine jab ?_ ?_; (focus (simp only [go_sem, h.r0, h.r1, h.r4, h.r5, h.r6, h.r7, jae, ls, jag, e1]; done))) | (refine jaa ?_ ?_; (focus (simp only [go_sem, h.r0, h.r1, h.r4, h.r5, h.r6, h.r7, jae, ls, jag, e1]; done))) | ((first | refine jaj ?_ | refine jai ?_ | refine jak ?_); try simp only [go_sem]) | refine jah ?_)
  exact h12 (k := k + 1169) hd (by constructor <;> simp only [go_sem, h.r0, h.r1, h.r4, h.r5, h.r6, h.r7])
 have e1 : ilt (.ofNat i) (.ofNat (bys s).length) = true := (jav _ _).trans (decide_eq_true hlt)
 obtain ⟨c, hc⟩ : ∃ c, c = (bys s)[i]'hlt := ⟨_, rfl⟩
 have hcn : c ∈ nums := by rw [hc]; exact hs _ (List.getElem_mem hlt)
 have hx : ∀ (r : Rg) (x y : Operand), aev Tryz.prog r x = .string s → aev Tryz.prog r y = .int .i64 (.ofNat i) → jbi Tryz.prog (aev Tryz.prog r) 9 x y = some (.int .u8 (.ofNat c)) := fun r x y h1 h2 => by rw [hc]; exact jbA hlt h1 h2
 clear hc
 have lo : ∀ {X : XT} (g : Nat) (μ : Mem), 10 ≤ g → aFun Tryz.prog (jat Tryz.prog X S0 g) 179 [.int .u8 (.ofNat c)] μ = some (.int .u8 (.ofNat (lw c)), μ) := fun g μ h => lower_eq h hcn
 by_cases he : lw c = 101
 rotate_left
 ·have l1 : ieq (.ofNat (lw c)) 101 = false := (jaO _ 101 101 rfl).trans (decide_eq_false he)
  obtain ⟨ok, h12⟩ := set12 s hl i sd sg
  refine ⟨ok, dp, by omega, by omega, fun {X k bi n D tm μ neg tr} hd h => ?_⟩
  rw [ss11, si11]
  refine jaf ?_
  refine jaf ?_
  refine jac (gs := ?_) ?_ ?_
  rotate_left
  ·rfl
  iterate 11 (refine jal (by first | rfl | (simp only [go_sem, undef, h.r0, h.r1, h.r4, h.r5, h.r6, h.r7, jae, ls, jag, e1, hx, jby, lo, Nat.reduceLeDiff, l1])) (by simp only [go_sem, undef, h.r0, h.r1, h.r4, h.r5, h.r6, h.r7, jae, ls, jag, e1, hx, jby, lo, Nat.reduceLeDiff, l1]; try exact rfl) rfl ?_)
  simp only [go_sem]
  repeat (first | refine jaf ?_ | ((first | (refine jad ?_ ?_; (focus rfl)) | (refine jac (gs := ?_) ?_ ?_; rotate_left; (focus rfl))); simp only [run1, go_sem, h.r0, h.r1, h.r4, h.r5, h.r6, h.r7, jae, ls, jag, e1]) | (refine jab ?_ ?_; (focus (simp only [go_sem, h.r0, h.r1, h.r4, h.r5, h.r6, h.r7, jae, ls, jag, e1]; done))) | (refine jaa ?_ ?_; (focus (simp only [go_sem, h.r0, h.r1, h.r4, h.r5, h.r6, h.r7, jae, ls, jag, e1]; done))) | ((first | refine jaj ?_ | refine jai ?_ | refine jak ?_); try simp only [go_sem]) | refine jah ?_)
  exact h12 (k := k + 1169) hd (by constructor <;> simp only [go_sem, h.r0, h.r1, h.r4, h.r5, h.r6, h.r7])
 have l1 : ieq (.ofNat (lw c)) 101 = true := (jaO _ 101 101 rfl).trans (decide_eq_true he)
 have a1 : jay .i64 (Int.add (.ofNat i) 1) = .ofNat (i + 1) := ja2 i 1 (by omega)
 by_cases hlt2 : i + 1 < (bys s).length
 rotate_left
 ·have e2 : ilt (.ofNat (i + 1)) (.ofNat (bys s).length) = false := (jav _ _).trans (decide_eq_false hlt2)
  refine ⟨false, dp, by omega, by omega, fun {X k bi n D tm μ neg tr} hd h => ?_⟩
  rw [ss11, si11]
  refine jaf ?_
  refine jaf ?_
  refine jac (gs := ?_) ?_ ?_
  rotate_left
  ·rfl
  iterate 11 (refine jal (by first | rfl | (simp only [go_sem, undef, h.r0, h.r1, h.r4, h.r5, h.r6, h.r7, jae, ls, jag, e1, hx, jby, lo, Nat.reduceLeDiff, l1])) (by simp only [go_sem, undef, h.r0, h.r1, h.r4, h.r5, h.r6, h.r7, jae, ls, jag, e1, hx, jby, lo, Nat.reduceLeDiff, l1]; try exact rfl) rfl ?_)
  simp only [go_sem]
  repeat (first | refine jaf ?_ | ((first | (refine jad ?_ ?_; (focus rfl)) | (refine jac (gs := ?_) ?_ ?_; rotate_left; (focus rfl))); simp only [run1, go_sem, h.r0, h.r1, h.r4, h.r5, h.r6, h.r7, jae, ls, jag, a1, e2]) | (refine jab ?_ ?_; (focus (simp only [go_sem, h.r0, h.r1, h.r4, h.r5, h.r6, h.r7, jae, ls, jag, a1, e2]; done))) | (refine jaa ?_ ?_; (focus (simp only [go_sem, h.r0, h.r1, h.r4, h.r5, h.r6, h.r7, jae, ls, jag, a1, e2]; done))) | ((first | refine jaj ?_ | refine jai ?_ | refine jak ?_); try simp only [go_sem]) | refine jah ?_)
  refine jam ?_
  exact ⟨by trivial, hd, Only.refl _ _, _, rfl, (by simp only [go_sem, h.r4])⟩
 have e2 : ilt (.ofNat (i + 1)) (.ofNat (bys s).length) = true := (jav _ _).trans (decide_eq_true hlt2)
 obtain ⟨c1, hc1⟩ : ∃ c, c = (bys s)[i + 1]'hlt2 := ⟨_, rfl⟩
 have hx1 : ∀ (r : Rg) (x y : Operand), aev Tryz.prog r x = .string s → aev Tryz.prog r y = .int .i64 (.ofNat (i + 1)) → jbi Tryz.prog (aev Tryz.prog r) 9 x y = some (.int .u8 (.ofNat c1)) := fun r x y h1 h2 => by rw [hc1]; exact jbA hlt2 h1 h2
 clear hc1
 have a2 : jay .i64 (Int.add (.ofNat (i + 1)) 1) = .ofNat (i + 2) := ja2 (i + 1) 1 (by omega)
 have go : ∀ (i2 : Nat) (es : Int), i2 ≤ (bys s).length → (es = 1 ∨ es = -1) → ∃ ok dp', -150000 < dp' ∧ dp' < 150000 ∧ ∀ {X : XT} {k q bi n : Nat} {D : Nat → Nat} {tm : T Value} {μ : Mem} {neg tr : Bool}, Dec μ bi D n dp neg tr → RegS tm s bi i2 sd sg → jaq tm 8 = .int .i64 es →
   EndsC (jat Tryz.prog X S0 (k + 1100) (ja1 4 (thenS (jaW 11 (jaB Tryz.f146)))) ⟨224, tm, [], none⟩ μ) (jha (q + 30) Tryz.prog X S0 (ja1 12 (jaB Tryz.f146)) (FinS ok D n dp' neg tr bi μ)) := fun i2 es hi2 hes => by
  obtain ⟨done, i', dp', c1, c2, c3, hE⟩ := setE hs hl i2 dp sd sg es hes hi2 hd1 hd2
  obtain ⟨ok, h12⟩ := set12 s hl i' sd sg
  cases done with
  | true =>
    refine ⟨ok, dp', c2, c3, fun {X k q bi n D tm μ neg tr} hd h h8 => ?_⟩
    refine EndsC.mono (hE hd h h8) ?_
    rintro x r μ' ⟨rfl, hd, g, tm', rfl, h⟩
    refine EndsC.mono (h12 (k := q) hd h) ?_
    rintro x r μ2 ⟨hx, hd, g2, hh⟩
    exact ⟨hx, hd, g.trans g2, hh⟩
  | false =>
    refine ⟨false, dp', c2, c3, fun {X k q bi n D tm μ neg tr} hd h h8 => ?_⟩
    refine EndsC.mono (hE hd h h8) ?_
    rintro x r μ' ⟨rfl, hd, g, tm', rfl, h⟩
    exact ⟨by trivial, hd, g, _, rfl, h.r4⟩
 by_cases p1 : c1 = 43
 ·have s1 : ieq (.ofNat c1) 43 = true := (jaO _ 43 43 rfl).trans (decide_eq_true p1)
  obtain ⟨ok, dp', b2, b3, hgo⟩ := go (i + 2) 1 (by omega) (.inl rfl)
  refine ⟨ok, dp', b2, b3, fun {X k bi n D tm μ neg tr} hd h => ?_⟩
  rw [ss11, si11]
  refine jaf ?_
  refine jaf ?_
  refine jac (gs := ?_) ?_ ?_
  rotate_left
  ·rfl
  iterate 11 (refine jal (by first | rfl | (simp only [go_sem, undef, h.r0, h.r1, h.r4, h.r5, h.r6, h.r7, jae, ls, jag, e1, hx, jby, lo, Nat.reduceLeDiff, l1])) (by simp only [go_sem, undef, h.r0, h.r1, h.r4, h.r5, h.r6, h.r7, jae, ls, jag, e1, hx, jby, lo, Nat.reduceLeDiff, l1]; try exact rfl) rfl ?_)
  simp only [go_sem]
  repeat (first | refine jaf ?_ | ((first | (refine jad ?_ ?_; (focus rfl)) | (refine jac (gs := ?_) ?_ ?_; rotate_left; (focus rfl))); simp only [run1, go_sem, h.r0, h.r1, h.r4, h.r5, h.r6, h.r7, jae, ls, jag, a1, e2, hx1, s1, a2]) | (refine jab ?_ ?_; (focus (simp only [go_sem, h.r0, h.r1, h.r4, h.r5, h.r6, h.r7, jae, ls, jag, a1, e2, hx1, s1, a2]; done))) | (refine jaa ?_ ?_; (focus (simp only [go_sem, h.r0, h.r1, h.r4, h.r5, h.r6, h.r7, jae, ls, jag, a1, e2, hx1, s1, a2]; done))) | ((first | refine jaj ?_ | refine jai ?_ | refine jak ?_); try simp only [go_sem]) | refine jah ?_)
  try simp only [ja4, jao]
  exact hgo (k := k + 93) (q := k + 1169) hd (by constructor <;> simp only [go_sem, h.r0, h.r1, h.r4, h.r5, h.r6, h.r7]) (by simp only [go_sem])
 ·have s1 : ieq (.ofNat c1) 43 = false := (jaO _ 43 43 rfl).trans (decide_eq_false p1)
  by_cases p2 : c1 = 45
  ·have s2 : ieq (.ofNat c1) 45 = true := (jaO _ 45 45 rfl).trans (decide_eq_true p2)
   obtain ⟨ok, dp', b2, b3, hgo⟩ := go (i + 2) (-1) (by omega) (.inr rfl)
   refine ⟨ok, dp', b2, b3, fun {X k bi n D tm μ neg tr} hd h => ?_⟩
   rw [ss11, si11]
   refine jaf ?_
   refine jaf ?_
   refine jac (gs := ?_) ?_ ?_
   rotate_left
   ·rfl
   iterate 11 (refine jal (by first | rfl | (simp only [go_sem, undef, h.r0, h.r1, h.r4, h.r5, h.r6, h.r7, jae, ls, jag, e1, hx, jby, lo, Nat.reduceLeDiff, l1])) (by simp only [go_sem, undef, h.r0, h.r1, h.r4, h.r5, h.r6, h.r7, jae, ls, jag, e1, hx, jby, lo, Nat.reduceLeDiff, l1]; try exact rfl) rfl ?_)
   simp only [go_sem]
   repeat (first | refine jaf ?_ | ((first | (refine jad ?_ ?_; (focus rfl)) | (refine jac (gs := ?_) ?_ ?_; rotate_left; (focus rfl))); simp only [run1, go_sem, h.r0, h.r1, h.r4, h.r5, h.r6, h.r7, jae, ls, jag, a1, e2, hx1, s1, s2, a2]) | (refine jab ?_ ?_; (focus (simp only [go_sem, h.r0, h.r1, h.r4, h.r5, h.r6, h.r7, jae, ls, jag, a1, e2, hx1, s1, s2, a2]; done))) | (refine jaa ?_ ?_; (focus (simp only [go_sem, h.r0, h.r1, h.r4, h.r5, h.r6, h.r7, jae, ls, jag, a1, e2, hx1, s1, s2, a2]; done))) | ((first | refine jaj ?_ | refine jai ?_ | refine jak ?_); try simp only [go_sem]) | refine jah ?_)
   try simp only [ja4, jao]
   exact hgo (k := k + 93) (q := k + 1169) hd (by constructor <;> simp only [go_sem, h.r0, h.r1, h.r4, h.r5, h.r6, h.r7]) (by simp only [go_sem])
  ·have s2 : ieq (.ofNat c1) 45 = false := (jaO _ 45 45 rfl).trans (decide_eq_false p2)
   obtain ⟨ok, dp', b2, b3, hgo⟩ := go (i + 1) 1 (by omega) (.inl rfl)
   refine ⟨ok, dp', b2, b3, fun {X k bi n D tm μ neg tr} hd h => ?_⟩
   rw [ss11, si11]
   refine jaf ?_
   refine jaf ?_
   refine jac (gs := ?_) ?_ ?_
   rotate_left
   ·rfl
   iterate 11 (refine jal (by first | rfl | (simp only [go_sem, undef, h.r0, h.r1, h.r4, h.r5, h.r6, h.r7, jae, ls, jag, e1, hx, jby, lo, Nat.reduceLeDiff, l1])) (by simp only [go_sem, undef, h.r0, h.r1, h.r4, h.r5, h.r6, h.r7, jae, ls, jag, e1, hx, jby, lo, Nat.reduceLeDiff, l1]; try exact rfl) rfl ?_)
   simp only [go_sem]
   repeat (first | refine jaf ?_ | ((first | (refine jad ?_ ?_; (focus rfl)) | (refine jac (gs := ?_) ?_ ?_; rotate_left; (focus rfl))); simp only [run1, go_sem, h.r0, h.r1, h.r4, h.r5, h.r6, h.r7, jae, ls, jag, a1, e2, hx1, s1, s2]) | (refine jab ?_ ?_; (focus (simp only [go_sem, h.r0, h.r1, h.r4, h.r5, h.r6, h.r7, jae, ls, jag, a1, e2, hx1, s1, s2]; done))) | (refine jaa ?_ ?_; (focus (simp only [go_sem, h.r0, h.r1, h.r4, h.r5, h.r6, h.r7, jae, ls, jag, a1, e2, hx1, s1, s2]; done))) | ((first | refine jaj ?_ | refine jai ?_ | refine jak ?_); try simp only [go_sem]) | refine jah ?_)
   try simp only [ja4, jao]
   exact hgo (k := k + 93) (q := k + 1169) hd (by constructor <;> simp only [go_sem, h.r0, h.r1, h.r4, h.r5, h.r6, h.r7]) (by simp only [go_sem])
theorem set6 {s : ByteArray} (hs : ∀ c ∈ bys s, c ∈ nums) (hl : (bys s).length ≤ 1000) (i : Nat) (neg : Bool) (hi : i ≤ (bys s).length) : ∃ (ok : Bool) (D' : Nat → Nat) (n' : Nat) (dp' : Int) (tr' : Bool), Fit D' n' ∧ -150000 < dp' ∧ dp' < 150000 ∧ ∀ {X : XT} {k bi : Nat} {tm : T Value} {μ : Mem}, Dec μ bi (fun _ => 0) 0 0 neg false → jaq tm 0 = .pointer (some ⟨bi, 0, none⟩) → jaq tm 1 = .string s → jaq tm 4 = .bool false → jaq tm 5 = .int .i64 (.ofNat i) →
  EndsC (jat Tryz.prog X S0 (k + 2400) (ja1 6 (jaB Tryz.f146)) ⟨224, tm, [], none⟩ μ) (FinS ok D' n' dp' neg tr' bi μ) := by
 obtain ⟨ret, i', n', D', dp', tr', sd', sg', b1, b2, b3, b4, b5, b6, hlp⟩ := set_loop hs hl ((bys s).length - i) i 0 (fun _ => 0) 0 false false false (by omega) (.inl rfl) (Nat.zero_le _) (by omega) (by decide)
 have c1 : ∃ (ok : Bool) (dq : Int), -150000 < dq ∧ dq < 150000 ∧ ∀ {X : XT} {k bi : Nat} {tm : T Value} {μ : Mem}, ret = false → Dec μ bi D' n' dp' neg tr' → RegS tm s bi i' sd' sg' →
   EndsC (jat Tryz.prog X S0 (k + 1300) (ja1 9 (jaB Tryz.f146)) ⟨224, tm, [], none⟩ μ) (FinS ok D' n' dq neg tr' bi μ) := by
  cases sg' with
  | false =>
    refine ⟨false, dp', by omega, by omega, fun {X k bi tm μ} _ hd h => ?_⟩
    rw [ss9]
    repeat (first | refine jaf ?_ | ((first | (refine jad ?_ ?_; (focus rfl)) | (refine jac (gs := ?_) ?_ ?_; rotate_left; (focus rfl))); simp only [run1, go_sem, h.r0, h.r1, h.r4, h.r5, h.r6, h.r7]) | (refine jab ?_ ?_; (focus (simp only [go_sem, h.r0, h.r1, h.r4, h.r5, h.r6, h.r7]; done))) | (refine jaa ?_ ?_; (focus (simp only [go_sem, h.r0, h.r1, h.r4, h.r5, h.r6, h.r7]; done))) | ((first | refine jaj ?_ | refine jai ?_ | refine jak ?_); try simp only [go_sem]) | refine jah ?_)
    refine jam ?_
    exact ⟨by trivial, hd, Only.refl _ _, _, rfl, (by simp only [go_sem, h.r4])⟩
  | true =>
    cases sd' with
    | true =>
      obtain ⟨ok, dq, e1, e2, h11⟩ := set11 hs hl i' dp' true true b2 (by omega) (by omega)
      refine ⟨ok, dq, e1, e2, fun {X k bi tm μ} _ hd h => ?_⟩
      rw [ss9]
      repeat (first | refine jaf ?_ | ((first | (refine jad ?_ ?_; (focus rfl)) | (refine jac (gs := ?_) ?_ ?_; rotate_left; (focus rfl))); simp only [run1, go_sem, h.r0, h.r1, h.r4, h.r5, h.r6, h.r7]) | (refine jab ?_ ?_; (focus (simp only [go_sem, h.r0, h.r1, h.r4, h.r5, h.r6, h.r7]; done))) | (refine jaa ?_ ?_; (focus (simp only [go_sem, h.r0, h.r1, h.r4, h.r5, h.r6, h.r7]; done))) | ((first | refine jaj ?_ | refine jai ?_ | refine jak ?_); try simp only [go_sem]) | refine jah ?_)
      exact h11 (k := k + 98) hd (by constructor <;> simp only [go_sem, h.r0, h.r1, h.r4, h.r5, h.r6, h.r7])
    | false =>
      have hn8 := b3.le
      obtain ⟨ok, dq, e1, e2, h11⟩ := set11 hs hl i' (.ofNat n') false true b2 (by show _ < (n' : Int); omega) (by show (n' : Int) < _; omega)
      refine ⟨ok, dq, e1, e2, fun {X k bi tm μ} _ hd h => ?_⟩
      have hcn := hd.n
      have hst := st_p (v := .ofNat n') hd.blk
      rw [ss9]
      repeat (first | refine jaf ?_ | ((first | (refine jad ?_ ?_; (focus rfl)) | (refine jac (gs := ?_) ?_ ?_; rotate_left; (focus rfl))); simp only [run1, go_sem, h.r0, h.r1, h.r4, h.r5, h.r6, h.r7, jar, jaw, jap, hcn, hst]) | (refine jab ?_ ?_; (focus (simp only [go_sem, h.r0, h.r1, h.r4, h.r5, h.r6, h.r7, jar, jaw, jap, hcn, hst]; done))) | (refine jaa ?_ ?_; (focus (simp only [go_sem, h.r0, h.r1, h.r4, h.r5, h.r6, h.r7, jar, jaw, jap, hcn, hst]; done))) | ((first | refine jaj ?_ | refine jai ?_ | refine jak ?_); try simp only [go_sem]) | refine jah ?_)
      refine EndsC.mono (h11 (k := k + 98) (hd.setP (.ofNat n')) (by constructor <;> simp only [go_sem, h.r0, h.r1, h.r4, h.r5, h.r6, h.r7])) ?_
      rintro x r μ2 ⟨hx, hd, g2, hh⟩
      exact ⟨hx, hd, (Only.put _ _ _ _).trans g2, hh⟩
 obtain ⟨ok, dq, e1, e2, h9⟩ := c1
 cases ret with
 | true =>
   refine ⟨false, D', n', dp', tr', b3, by omega, by omega, fun {X k bi tm μ} hd h0 h1 h4 h5 => ?_⟩
   rw [ss6]
   repeat (first | refine jaf ?_ | ((first | (refine jad ?_ ?_; (focus rfl)) | (refine jac (gs := ?_) ?_ ?_; rotate_left; (focus rfl))); simp only [run1, go_sem]) | (refine jab ?_ ?_; (focus (simp only [go_sem]; done))) | (refine jaa ?_ ?_; (focus (simp only [go_sem]; done))) | ((first | refine jaj ?_ | refine jai ?_ | refine jak ?_); try simp only [go_sem]) | refine jah ?_)
   rw [show k + 2396 = (k + 2336 - ((bys s).length - i)) + ((bys s).length - i) + 60 from by omega]
   refine EndsC.mono (hlp hd (by constructor <;> simp only [go_sem, h0, h1, h4, h5])) ?_
   rintro x r μ' ⟨rfl, hd, g, tm', rfl, h⟩
   exact ⟨by trivial, hd, g, _, rfl, h.r4⟩
 | false =>
   refine ⟨ok, D', n', dq, tr', b3, e1, e2, fun {X k bi tm μ} hd h0 h1 h4 h5 => ?_⟩
   rw [ss6]
   repeat (first | refine jaf ?_ | ((first | (refine jad ?_ ?_; (focus rfl)) | (refine jac (gs := ?_) ?_ ?_; rotate_left; (focus rfl))); simp only [run1, go_sem]) | (refine jab ?_ ?_; (focus (simp only [go_sem]; done))) | (refine jaa ?_ ?_; (focus (simp only [go_sem]; done))) | ((first | refine jaj ?_ | refine jai ?_ | refine jak ?_); try simp only [go_sem]) | refine jah ?_)
   rw [show k + 2396 = (k + 2336 - ((bys s).length - i)) + ((bys s).length - i) + 60 from by omega]
   refine EndsC.mono (hlp hd (by constructor <;> simp only [go_sem, h0, h1, h4, h5])) ?_
   rintro x r μ' ⟨rfl, hd, g, tm', rfl, h⟩
   show EndsC _ _
   refine EndsC.mono (h9 (k := k + 1097) rfl hd h) ?_
   rintro x r μ2 ⟨hx, hd, g2, hh⟩
   exact ⟨hx, hd, g.trans g2, hh⟩
theorem set_ex {s : ByteArray} (hs : ∀ c ∈ bys s, c ∈ nums) (hl : (bys s).length ≤ 1000) : ∃ (ok : Bool) (D' : Nat → Nat) (n' : Nat) (dp' : Int) (neg' tr' : Bool), Fit D' n' ∧ -150000 < dp' ∧ dp' < 150000 ∧ ∀ {X : XT} {g bi : Nat} {μ : Mem}, 3000 ≤ g → Dec μ bi (fun _ => 0) 0 0 false false →
  ∃ μ', aFun Tryz.prog (jat Tryz.prog X S0 g) 146 [.pointer (some ⟨bi, 0, none⟩), .string s] μ = some (.bool ok, μ') ∧ Dec μ' bi D' n' dp' neg' tr' ∧ Only μ μ' bi := by
 have ls := ja5 s
 by_cases h0 : 0 < (bys s).length
 rotate_left
 ·have e0 : ilt 0 (.ofNat (bys s).length) = false := (jav 0 _).trans (decide_eq_false h0)
  refine ⟨false, fun _ => 0, 0, 0, false, false, .inl rfl, by decide, by decide, fun {X g bi μ} hg hd => ?_⟩
  obtain ⟨f, rfl⟩ := gle hg
  have s1 := st_g (v := false) hd.blk
  have hd1 := hd.setG false
  have s2 := st_t (v := false) hd1.blk
  have key : EndsF (aFun Tryz.prog (jat Tryz.prog X S0 (f + 3000)) 146 [.pointer (some ⟨bi, 0, none⟩), .string s] μ) fun v μ' => v = .bool false ∧ Dec μ' bi (fun _ => 0) 0 0 false false ∧ Only μ μ' bi := by
   refine jan Tryz.func146 rfl rfl (nbl rfl) ?_
   simp only [go_sem, Tryz.ntmps146]
   change EndsC (jat Tryz.prog X S0 _ (jaB Tryz.f146) _ _) _
   rw [ss0]
   repeat (first | refine jaf ?_ | ((first | (refine jad ?_ ?_; (focus rfl)) | (refine jac (gs := ?_) ?_ ?_; rotate_left; (focus rfl))); simp only [run1, go_sem, jbE, jaH, s1, s2, jae, ls, jag, e0]) | (refine jab ?_ ?_; (focus (simp only [go_sem, jbE, jaH, s1, s2, jae, ls, jag, e0]; done))) | (refine jaa ?_ ?_; (focus (simp only [go_sem, jbE, jaH, s1, s2, jae, ls, jag, e0]; done))) | ((first | refine jaj ?_ | refine jai ?_ | refine jak ?_); try simp only [go_sem]) | refine jah ?_)
   refine jam ?_
   refine ⟨rfl, _, ?_, rfl, hd1.setT false, (Only.put _ _ _ _).trans (Only.put _ _ _ _)⟩
   simp only [go_sem, Tryz.results146]
  obtain ⟨v, μ', h1, rfl, h2, h3⟩ := key
  exact ⟨μ', h1, h2, h3⟩
 obtain ⟨c, hc⟩ : ∃ c, c = (bys s)[0]'h0 := ⟨_, rfl⟩
 have hx : ∀ (r : Rg) (x y : Operand), aev Tryz.prog r x = .string s → aev Tryz.prog r y = .int .i64 0 → jbi Tryz.prog (aev Tryz.prog r) 9 x y = some (.int .u8 (.ofNat c)) := fun r x y h1 h2 => by rw [hc]; exact jbA (i := 0) h0 h1 h2
 clear hc
 have e0 : ilt 0 (.ofNat (bys s).length) = true := (jav 0 _).trans (decide_eq_true h0)
 have r1 : jay .i64 (Int.add 0 1) = 1 := rfl
 by_cases p1 : c = 43
 ·have s1 : ieq (.ofNat c) 43 = true := (jaO _ 43 43 rfl).trans (decide_eq_true p1)
  obtain ⟨ok, D', n', dp', tr', b1, b2, b3, h6⟩ := set6 hs hl 1 false (by omega)
  refine ⟨ok, D', n', dp', false, tr', b1, b2, b3, fun {X g bi μ} hg hd => ?_⟩
  obtain ⟨f, rfl⟩ := gle hg
  have t1 := st_g (v := false) hd.blk
  have hd1 := hd.setG false
  have t2 := st_t (v := false) hd1.blk
  have hd2 := hd1.setT false
  have key : EndsF (aFun Tryz.prog (jat Tryz.prog X S0 (f + 3000)) 146 [.pointer (some ⟨bi, 0, none⟩), .string s] μ) fun v μ' => v = .bool ok ∧ Dec μ' bi D' n' dp' false tr' ∧ Only μ μ' bi := by
   refine jan Tryz.func146 rfl rfl (nbl rfl) ?_
   simp only [go_sem, Tryz.ntmps146]
   change EndsC (jat Tryz.prog X S0 _ (jaB Tryz.f146) _ _) _
   rw [ss0]
   repeat (first | refine jaf ?_ | ((first | (refine jad ?_ ?_; (focus rfl)) | (refine jac (gs := ?_) ?_ ?_; rotate_left; (focus rfl))); simp only [run1, go_sem, jbE, jaH, t1, t2, jae, ls, jag, e0, hx, r1, s1]) | (refine jab ?_ ?_; (focus (simp only [go_sem, jbE, jaH, t1, t2, jae, ls, jag, e0, hx, r1, s1]; done))) | (refine jaa ?_ ?_; (focus (simp only [go_sem, jbE, jaH, t1, t2, jae, ls, jag, e0, hx, r1, s1]; done))) | ((first | refine jaj ?_ | refine jai ?_ | refine jak ?_); try simp only [go_sem]) | refine jah ?_)
   try simp only [ja4, jao]
   refine EndsC.mono (h6 (k := f + 594) hd2 (by simp only [go_sem]) (by simp only [go_sem]) (by simp only [go_sem]) (by simp only [go_sem]; try rfl)) ?_
   rintro x r μ' ⟨rfl, g1, g2, tm', rfl, g4⟩
   refine ⟨rfl, _, ?_, rfl, g1, (Only.put _ _ _ _).trans ((Only.put _ _ _ _).trans g2)⟩
   simp only [go_sem, Tryz.results146]
   rw [g4]
  obtain ⟨v, μ', h1, rfl, h2, h3⟩ := key
  exact ⟨μ', h1, h2, h3⟩
 ·have s1 : ieq (.ofNat c) 43 = false := (jaO _ 43 43 rfl).trans (decide_eq_false p1)
  by_cases p2 : c = 45
  ·have s2 : ieq (.ofNat c) 45 = true := (jaO _ 45 45 rfl).trans (decide_eq_true p2)
   obtain ⟨ok, D', n', dp', tr', b1, b2, b3, h6⟩ := set6 hs hl 1 true (by omega)
   refine ⟨ok, D', n', dp', true, tr', b1, b2, b3, fun {X g bi μ} hg hd => ?_⟩
   obtain ⟨f, rfl⟩ := gle hg
   have t1 := st_g (v := false) hd.blk
   have hd1 := hd.setG false
   have t2 := st_t (v := false) hd1.blk
   have hd2 := hd1.setT false
   have t3 := st_g (v := true) hd2.blk
   have hd3 := hd2.setG true
   have key : EndsF (aFun Tryz.prog (jat Tryz.prog X S0 (f + 3000)) 146 [.pointer (some ⟨bi, 0, none⟩), .string s] μ) fun v μ' => v = .bool ok ∧ Dec μ' bi D' n' dp' true tr' ∧ Only μ μ' bi := by
    refine jan Tryz.func146 rfl rfl (nbl rfl) ?_
    simp only [go_sem, Tryz.ntmps146]
    change EndsC (jat Tryz.prog X S0 _ (jaB Tryz.f146) _ _) _
    rw [ss0]
    repeat (first | refine jaf ?_ | ((first | (refine jad ?_ ?_; (focus rfl)) | (refine jac (gs := ?_) ?_ ?_; rotate_left; (focus rfl))); simp only [run1, go_sem, jbE, jaH, t1, t2, t3, jae, ls, jag, e0, hx, r1, s1, s2]) | (refine jab ?_ ?_; (focus (simp only [go_sem, jbE, jaH, t1, t2, t3, jae, ls, jag, e0, hx, r1, s1, s2]; done))) | (refine jaa ?_ ?_; (focus (simp only [go_sem, jbE, jaH, t1, t2, t3, jae, ls, jag, e0, hx, r1, s1, s2]; done))) | ((first | refine jaj ?_ | refine jai ?_ | refine jak ?_); try simp only [go_sem]) | refine jah ?_)
    try simp only [ja4, jao]
    refine EndsC.mono (h6 (k := f + 594) hd3 (by simp only [go_sem]) (by simp only [go_sem]) (by simp only [go_sem]) (by simp only [go_sem]; try rfl)) ?_
    rintro x r μ' ⟨rfl, g1, g2, tm', rfl, g4⟩
    refine ⟨rfl, _, ?_, rfl, g1, (Only.put _ _ _ _).trans ((Only.put _ _ _ _).trans ((Only.put _ _ _ _).trans g2))⟩
    simp only [go_sem, Tryz.results146]
    rw [g4]
   obtain ⟨v, μ', h1, rfl, h2, h3⟩ := key
   exact ⟨μ', h1, h2, h3⟩
  ·have s2 : ieq (.ofNat c) 45 = false := (jaO _ 45 45 rfl).trans (decide_eq_false p2)
   obtain ⟨ok, D', n', dp', tr', b1, b2, b3, h6⟩ := set6 hs hl 0 false (by omega)
   refine ⟨ok, D', n', dp', false, tr', b1, b2, b3, fun {X g bi μ} hg hd => ?_⟩
   obtain ⟨f, rfl⟩ := gle hg
   have t1 := st_g (v := false) hd.blk
   have hd1 := hd.setG false
   have t2 := st_t (v := false) hd1.blk
   have hd2 := hd1.setT false
   have key : EndsF (aFun Tryz.prog (jat Tryz.prog X S0 (f + 3000)) 146 [.pointer (some ⟨bi, 0, none⟩), .string s] μ) fun v μ' => v = .bool ok ∧ Dec μ' bi D' n' dp' false tr' ∧ Only μ μ' bi := by
    refine jan Tryz.func146 rfl rfl (nbl rfl) ?_
    simp only [go_sem, Tryz.ntmps146]
    change EndsC (jat Tryz.prog X S0 _ (jaB Tryz.f146) _ _) _
    rw [ss0]
    repeat (first | refine jaf ?_ | ((first | (refine jad ?_ ?_; (focus rfl)) | (refine jac (gs := ?_) ?_ ?_; rotate_left; (focus rfl))); simp only [run1, go_sem, jbE, jaH, t1, t2, jae, ls, jag, e0, hx, r1, s1, s2]) | (refine jab ?_ ?_; (focus (simp only [go_sem, jbE, jaH, t1, t2, jae, ls, jag, e0, hx, r1, s1, s2]; done))) | (refine jaa ?_ ?_; (focus (simp only [go_sem, jbE, jaH, t1, t2, jae, ls, jag, e0, hx, r1, s1, s2]; done))) | ((first | refine jaj ?_ | refine jai ?_ | refine jak ?_); try simp only [go_sem]) | refine jah ?_)
    try simp only [ja4, jao]
    refine EndsC.mono (h6 (k := f + 594) hd2 (by simp only [go_sem]) (by simp only [go_sem]) (by simp only [go_sem]) (by simp only [go_sem]; try rfl)) ?_
    rintro x r μ' ⟨rfl, g1, g2, tm', rfl, g4⟩
    refine ⟨rfl, _, ?_, rfl, g1, (Only.put _ _ _ _).trans ((Only.put _ _ _ _).trans g2)⟩
    simp only [go_sem, Tryz.results146]
    rw [g4]
   obtain ⟨v, μ', h1, rfl, h2, h3⟩ := key
   exact ⟨μ', h1, h2, h3⟩
end
noncomputable section
open Go.Proofs.YtdjoekhccbiaiaaGreatDoor.DecM (val Dg)
def Err3 (v : Value) : Prop := v = .nilIface ∨ v = .iface 134 (.int .i64 1) ∨ v = .iface 134 (.int .i64 2)
theorem mi1 (r : Rg) : jbu Tryz.prog (aev Tryz.prog r) 134 (.const (.int .i64 1)) = some (.iface 134 (.int .i64 1)) := by
 unfold jbu
 simp only [Tryz.underlying134]
 rfl
theorem mi2 (r : Rg) : jbu Tryz.prog (aev Tryz.prog r) 134 (.const (.int .i64 2)) = some (.iface 134 (.int .i64 2)) := by
 unfold jbu
 simp only [Tryz.underlying134]
 rfl
def zD : List Value := List.replicate 800 (.int .u8 0) ++ [.int .i64 0, .int .i64 0, .bool false, .bool false]
def obD : Ob := .cells 804 187 zD.toArray .e 0 0 false false
set_option maxRecDepth 100000 in
theorem jeq : je2 Tryz.prog 187 = some (obD, fun id => .pointer (some ⟨id, 0, none⟩)) := by kernel_rfl
def isZ : Value → Bool
 | .int .u8 (.ofNat 0) => true
 | _ => false
theorem isZ_eq {v : Value} (h : isZ v = true) : v = .int .u8 0 := by
 unfold isZ at h
 split at h
 ·rfl
 ·cases h
set_option maxRecDepth 100000 in
theorem zD_all : ((List.range 800).all fun k => isZ (cellAt zD.toArray .e k)) = true := by kernel_rfl
theorem zD_at (k : Nat) (hk : k < 800) : cellAt zD.toArray .e k = .int .u8 0 := isZ_eq (List.all_eq_true.1 zD_all k (List.mem_range.2 hk))
theorem jiu (μ : Mem) : Dec ⟨μ.obs.set μ.next obD, μ.next + 1⟩ μ.next (fun _ => 0) 0 0 false false := by
 have hg : (μ.obs.set μ.next obD).get μ.next = some obD := by rw [T.get_set, if_pos rfl]
 have hc : ∀ k (h : k < 804), jau ⟨μ.obs.set μ.next obD, μ.next + 1⟩ μ.next k = some (cellAt zD.toArray .e k) := fun k h => by
  unfold jau
  show (match jcB ((μ.obs.set μ.next obD).get μ.next) with | some (n, zero, over) => if k < n then some (cellAt zero over k) else none | none => none) = _
  rw [hg]
  show (if k < 804 then some (cellAt zD.toArray .e k) else none) = _
  rw [if_pos h]
 refine ⟨⟨_, _, _, _, hg⟩, fun k hk => ?_, ?_, ?_, ?_, ?_⟩
 ·rw [hc k (by omega)]
  refine congrArg some ?_
  exact zD_at k hk
 ·rw [hc _ (by decide)]; kernel_rfl
 ·rw [hc _ (by decide)]; kernel_rfl
 ·rw [hc _ (by decide)]; kernel_rfl
 ·rw [hc _ (by decide)]; kernel_rfl
theorem sa0 : (jaB Tryz.f123) = .seq (jaW 0 (jaB Tryz.f123)) (.seq (jaW 1 (jaB Tryz.f123)) (ja1 2 (jaB Tryz.f123))) := by kernel_rfl
theorem sa2 : ja1 2 (jaB Tryz.f123) = .seq (jaW 2 (jaB Tryz.f123)) (.seq (jaW 3 (jaB Tryz.f123)) (.seq (jaW 4 (jaB Tryz.f123)) (ja1 5 (jaB Tryz.f123)))) := by kernel_rfl
theorem sa5 : ja1 5 (jaB Tryz.f123) = .seq (jaW 5 (jaB Tryz.f123)) (ja1 6 (jaB Tryz.f123)) := by kernel_rfl
theorem sa6 : ja1 6 (jaB Tryz.f123) = .seq (jaW 6 (jaB Tryz.f123)) (.seq (jaW 7 (jaB Tryz.f123)) (.seq (jaW 8 (jaB Tryz.f123)) (.seq (jaW 9 (jaB Tryz.f123)) (.seq (jaW 10 (jaB Tryz.f123)) (.seq (jaW 11 (jaB Tryz.f123)) (ja1 12 (jaB Tryz.f123))))))) := by kernel_rfl
def FinA (f n : Nat) (v : Value) (μ : Mem) : Ax → Rg → Mem → Prop := fun x r μ' => x = .ret ∧ Grow μ μ' ∧ ∃ tm, r = ⟨143, tm, [], none⟩ ∧ jaq tm 2 = .float .f64 f ∧ jaq tm 3 = .int .i64 (.ofNat n) ∧ jaq tm 4 = v
theorem nums_head {s : ByteArray} (hs : ∀ c ∈ bys s, c ∈ nums) (n : Nat) : ∀ c ∈ bys (jjJ s n), c ∈ nums := fun c hc => hs c (by rw [ji2] at hc; exact List.mem_of_mem_take hc)
theorem slow_ex {s : ByteArray} (hs : ∀ c ∈ bys s, c ∈ nums) (hl : (bys s).length ≤ 1000) (n : Nat) (hn : n ≤ (bys s).length) : ∃ (f : Nat) (v : Value), Err3 v ∧ ∀ {X : XT} {k : Nat} {tm : T Value} {μ : Mem}, jbr X → Lay μ → jaq tm 0 = .string s → jaq tm 3 = .int .i64 (.ofNat n) → jaq tm 4 = .nilIface →
  EndsC (jat Tryz.prog X S0 (k + 12000) (ja1 6 (jaB Tryz.f123)) ⟨143, tm, [], none⟩ μ) (FinA f n v μ) := by
 have hl' : (bys (jjJ s n)).length ≤ 1000 := by rw [ji2, List.length_take]; omega
 obtain ⟨ok, D, m, dp, neg, tr, b1, b2, b3, hset⟩ := set_ex (nums_head hs n) hl'
 have hsl : ∀ (r : Rg) (x y : Operand), aev Tryz.prog r x = .string s → aev Tryz.prog r y = .int .i64 (.ofNat n) → jbG Tryz.prog (aev Tryz.prog r) 9 x none (some y) none = some (.string (jjJ s n)) := fun r x y h1 h2 => slice_to h1 h2 hn
 cases ok with
 | false =>
   refine ⟨0, .iface 134 (.int .i64 2), .inr (.inr rfl), fun {X k tm μ} hX hL h0 h3 h4 => ?_⟩
   have hd := jiu μ
   obtain ⟨μ1, hr, z1, z2⟩ := hset (X := X) (g := k + 11996) (by omega) hd
   have hG : Grow μ μ1 := (jb2 μ obD).only z2 (Nat.le_refl _)
   rw [sa6]
   repeat (first | refine jaf ?_ | ((first | (refine jad ?_ ?_; (focus rfl)) | (refine jac (gs := ?_) ?_ ?_; rotate_left; (focus rfl))); simp only [run1, go_sem, h0, h3, h4, jeq, Nat.add_eq, hsl, jgJ, hr, mi1, mi2]) | (refine jab ?_ ?_; (focus (simp only [go_sem, h0, h3, h4, jeq, Nat.add_eq, hsl, jgJ, hr, mi1, mi2]; done))) | (refine jaa ?_ ?_; (focus (simp only [go_sem, h0, h3, h4, jeq, Nat.add_eq, hsl, jgJ, hr, mi1, mi2]; done))) | ((first | refine jaj ?_ | refine jai ?_ | refine jak ?_); try simp only [go_sem]) | refine jah ?_)
   refine jam ?_
   exact ⟨by trivial, hG, _, rfl, (by simp only [go_sem]), (by simp only [go_sem, h3]), (by simp only [go_sem])⟩
 | true =>
   obtain ⟨b, ovf, hfb⟩ := jhE (n := m) (tr := tr) (neg := neg) (dp := dp) b1 (by omega) (by omega)
   cases ovf with
   | true =>
     refine ⟨W b, .iface 134 (.int .i64 1), .inr (.inl rfl), fun {X k tm μ} hX hL h0 h3 h4 => ?_⟩
     have hd := jiu μ
     obtain ⟨μ1, hr, z1, z2⟩ := hset (X := X) (g := k + 11996) (by omega) hd
     have hG : Grow μ μ1 := (jb2 μ obD).only z2 (Nat.le_refl _)
     obtain ⟨μ2, hr2, z3⟩ := hfb (X := X) (g := k + 11996) (by omega) hL hG (Nat.le_refl _) z1
     have x1' : ∀ a μ, X 149 [u a] μ = some (.float .f64 (W a), μ) := hX
     rw [sa6]
     repeat (first | refine jaf ?_ | ((first | (refine jad ?_ ?_; (focus rfl)) | (refine jac (gs := ?_) ?_ ?_; rotate_left; (focus rfl))); simp only [run1, go_sem, h0, h3, h4, nI, jeq, Nat.add_eq, hsl, jgJ, hr, jjT, hr2, jbC, x1', mi1, mi2]) | (refine jab ?_ ?_; (focus (simp only [go_sem, h0, h3, h4, nI, jeq, Nat.add_eq, hsl, jgJ, hr, jjT, hr2, jbC, x1', mi1, mi2]; done))) | (refine jaa ?_ ?_; (focus (simp only [go_sem, h0, h3, h4, nI, jeq, Nat.add_eq, hsl, jgJ, hr, jjT, hr2, jbC, x1', mi1, mi2]; done))) | ((first | refine jaj ?_ | refine jai ?_ | refine jak ?_); try simp only [go_sem]) | refine jah ?_)
     refine jam ?_
     exact ⟨by trivial, hG.only z3 (Nat.le_refl _), _, rfl, (by simp only [go_sem]), (by simp only [go_sem, h3]), (by simp only [go_sem])⟩
   | false =>
     refine ⟨W b, .nilIface, .inl rfl, fun {X k tm μ} hX hL h0 h3 h4 => ?_⟩
     have hd := jiu μ
     obtain ⟨μ1, hr, z1, z2⟩ := hset (X := X) (g := k + 11996) (by omega) hd
     have hG : Grow μ μ1 := (jb2 μ obD).only z2 (Nat.le_refl _)
     obtain ⟨μ2, hr2, z3⟩ := hfb (X := X) (g := k + 11996) (by omega) hL hG (Nat.le_refl _) z1
     have x1' : ∀ a μ, X 149 [u a] μ = some (.float .f64 (W a), μ) := hX
     rw [sa6]
     repeat (first | refine jaf ?_ | ((first | (refine jad ?_ ?_; (focus rfl)) | (refine jac (gs := ?_) ?_ ?_; rotate_left; (focus rfl))); simp only [run1, go_sem, h0, h3, h4, nI, jeq, Nat.add_eq, hsl, jgJ, hr, jjT, hr2, jbC, x1']) | (refine jab ?_ ?_; (focus (simp only [go_sem, h0, h3, h4, nI, jeq, Nat.add_eq, hsl, jgJ, hr, jjT, hr2, jbC, x1']; done))) | (refine jaa ?_ ?_; (focus (simp only [go_sem, h0, h3, h4, nI, jeq, Nat.add_eq, hsl, jgJ, hr, jjT, hr2, jbC, x1']; done))) | ((first | refine jaj ?_ | refine jai ?_ | refine jak ?_); try simp only [go_sem]) | refine jah ?_)
     refine jam ?_
     exact ⟨by trivial, hG.only z3 (Nat.le_refl _), _, rfl, (by simp only [go_sem]), (by simp only [go_sem, h3]), (by simp only [go_sem, h4])⟩
end
end Go.Proofs.YtdjoekhccbiaiaaGreatDoor.dw
