/-
  distafflaw05.DatumWords, part S: its walk and its law. No conditions.
-/
import Derived.Test.YtdjoekhccbiaiaaGreatDoorDwR
set_option maxRecDepth 20000
set_option maxHeartbeats 8000000
set_option linter.unusedSimpArgs false
set_option linter.unusedVariables false
set_option linter.unusedSectionVars false
namespace Go.Proofs.YtdjoekhccbiaiaaGreatDoor.dw
open Go Go.Proofs Go.Proofs.YtdjoekhccbiaiaaGreatDoor Go.Proofs.YtdjoekhccbiaiaaGreatDoor.Ev
noncomputable section
theorem jeB (a b : Int) : jbg false .u32 a b = none := rfl
theorem jdD (a b : Int) : jb3 Nat.land .u32 .u32 a b = none := rfl
theorem pv_shr : ∀ n, n < 32 → pv Tryz.prog (Op.shift .shr .u32 10 .i64 (.ofNat n)) = some (.int .u32 (.ofNat (10 / 2 ^ n))) := by
 intro n h
 have h : n = 0 ∨ n = 1 ∨ n = 2 ∨ n = 3 ∨ n = 4 ∨ n = 5 ∨ n = 6 ∨ n = 7 ∨ n = 8 ∨ n = 9 ∨ n = 10 ∨ n = 11 ∨ n = 12 ∨ n = 13 ∨ n = 14 ∨ n = 15 ∨ n = 16 ∨ n = 17 ∨ n = 18 ∨ n = 19 ∨ n = 20 ∨ n = 21 ∨ n = 22 ∨ n = 23 ∨ n = 24 ∨ n = 25 ∨ n = 26 ∨ n = 27 ∨ n = 28 ∨ n = 29 ∨ n = 30 ∨ n = 31 := by omega
 rcases h with rfl | rfl | rfl | rfl | rfl | rfl | rfl | rfl | rfl | rfl | rfl | rfl | rfl | rfl | rfl | rfl | rfl | rfl | rfl | rfl | rfl | rfl | rfl | rfl | rfl | rfl | rfl | rfl | rfl | rfl | rfl | rfl <;> (show _ = _; kernel_rfl)
theorem pv_and : ∀ y, y ≤ 10 → pv Tryz.prog (pure (Value.int .u32 (bits .and .u32 (.ofNat y) 1)) : Sem Value) = some (.int .u32 (.ofNat (y % 2))) := by
 intro y h
 have h : y = 0 ∨ y = 1 ∨ y = 2 ∨ y = 3 ∨ y = 4 ∨ y = 5 ∨ y = 6 ∨ y = 7 ∨ y = 8 ∨ y = 9 ∨ y = 10 := by omega
 rcases h with rfl | rfl | rfl | rfl | rfl | rfl | rfl | rfl | rfl | rfl | rfl <;> (show _ = _; kernel_rfl)
theorem jjl {na q c : Nat} {va : Value} (hna : na ≤ 49000) : ∀ (m : Nat), m ≤ 32 → ∀ {X : XT} {e no : Nat} {tm : T Value} {v : Value} {μ0 μ : Mem}, Rd μ0 va na → q < μ0.next → jau μ0 q 0 = some (.int .u32 10) → Grow μ0 μ → Rd μ v no → no ≤ na + 2 * (32 - m) → jaq tm 0 = va → jaq tm 1 = .slice (some ⟨q, 0, none⟩) 1 c → jaq tm 5 = v → jaq tm 6 = .int .i64 (rdx m) →
  EndsC (jat Tryz.prog X S0 (e + m + 70100) (.loop (jaL Tryz.f83 0)) ⟨34, tm, [], none⟩ μ) fun x r μ' => x = .exit 0 ∧ Grow μ0 μ' ∧ ∃ tm' v' n', r = ⟨34, tm', [], none⟩ ∧ n' ≤ na + 64 ∧ Rd μ' v' n' ∧ jaq tm' 5 = v' := by
 intro m
 induction m with
 | zero =>
   intro _ X e no tm v μ0 μ hA hq hqc hG hR hno h0 h1 h5 h6
   have h6 : jaq tm 6 = .int .i64 (-1) := h6
   have e1 : ilt (-1) 0 = true := rfl
   refine jas ?_
   repeat (first | refine jaf ?_ | ((first | (refine jad ?_ ?_; (focus rfl)) | (refine jac (gs := ?_) ?_ ?_; rotate_left; (focus rfl))); simp only [run1, go_sem, h6, e1]) | (refine jab ?_ ?_; (focus (simp only [go_sem, h6, e1]; done))) | (refine jaa ?_ ?_; (focus (simp only [go_sem, h6, e1]; done))) | ((first | refine jaj ?_ | refine jai ?_ | refine jak ?_); try simp only [go_sem]) | refine jah ?_)
   exact ⟨by trivial, hG, _, v, no, rfl, by omega, hR, by simp only [go_sem, h5]⟩
 | succ m ih =>
   intro hm X e no tm v μ0 μ hA hq hqc hG hR hno h0 h1 h5 h6
   have h6 : jaq tm 6 = .int .i64 (.ofNat m) := h6
   have e1 : ilt (.ofNat m) 0 = false := (jav m 0).trans (decide_eq_false (by omega))
   obtain ⟨v1, n1, μ1, hr1, hn1, hR1, hG1, _⟩ := jih (X := X) (g := e + (m + 1) + 70094) (by omega) (by omega) hR hR (by omega)
   rw [if_neg (Nat.lt_irrefl _)] at hn1
   have hGa := hG.trans hG1
   have hc1 : jau μ1 q 0 = some (.int .u32 10) := (jbZ hGa hq 0).trans hqc
   have q1 : aDiv false .i64 .i64 (.ofNat m) 32 = some (.int .i64 0) := by
    show some (Value.int .i64 (jay .i64 (.ofNat (m / 32)))) = _
    rw [Nat.div_eq_of_lt (by omega)]; rfl
   have q2 : aDiv true .i64 .i64 (.ofNat m) 32 = some (.int .i64 (.ofNat m)) := by
    show some (Value.int .i64 (.ofNat (m % 32))) = _
    rw [Nat.mod_eq_of_lt (by omega)]
   have hix : ∀ (rg : Rg) (a b : Operand), aev Tryz.prog rg a = .slice (some ⟨q, 0, none⟩) 1 c → aev Tryz.prog rg b = .int .i64 0 → jaE Tryz.prog (aev Tryz.prog rg) 25 a b = some (.pointer (some ⟨q, 0, none⟩)) := fun rg a b g1 g2 => by
    rw [jaZ (P := Tryz.prog) (m := 0) Tryz.underlying25 jdJ rfl g1 g2 (by decide)]
   have s1 := pv_shr m (by omega)
   have hy : 10 / 2 ^ m ≤ 10 := Nat.div_le_self _ _
   have s2 := pv_and (10 / 2 ^ m) hy
   obtain ⟨y, hyy⟩ : ∃ y, y = 10 / 2 ^ m := ⟨_, rfl⟩
   rw [← hyy] at s1 s2
   have q6 : jay .i64 (Int.sub (.ofNat m) 1) = rdx m := jic (by omega)
   by_cases hb : y % 2 = 1
   ·have e2 : ieq (.ofNat (y % 2)) 1 = true := (jaO _ 1 1 rfl).trans (decide_eq_true hb)
    obtain ⟨v2, n2, μ2, hr2, hn2, hR2, hG2, _⟩ := jih (X := X) (g := e + (m + 1) + 70092) (by omega) (by omega) hR1 (hA.grow hGa) (by omega)
    have hn2' : n2 ≤ na + 2 * (32 - m) := by split at hn2 <;> omega
    refine jas ?_
    repeat (first | refine jaf ?_ | ((first | (refine jad ?_ ?_; (focus rfl)) | (refine jac (gs := ?_) ?_ ?_; rotate_left; (focus rfl))); simp only [run1, go_sem, h0, h1, h5, h6, e1, gg82, hr1, q1, hix, jbX, hc1, q2, jeB, s1, jdD, s2, e2, hr2, q6]) | (refine jab ?_ ?_; (focus (simp only [go_sem, h0, h1, h5, h6, e1, gg82, hr1, q1, hix, jbX, hc1, q2, jeB, s1, jdD, s2, e2, hr2, q6]; done))) | (refine jaa ?_ ?_; (focus (simp only [go_sem, h0, h1, h5, h6, e1, gg82, hr1, q1, hix, jbX, hc1, q2, jeB, s1, jdD, s2, e2, hr2, q6]; done))) | ((first | refine jaj ?_ | refine jai ?_ | refine jak ?_); try simp only [go_sem]) | refine jah ?_)
    rw [show e + (m + 1) + 70099 = e + m + 70100 from by omega]
    exact ih (by omega) (no := n2) (v := v2) hA hq hqc (hGa.trans hG2) hR2 hn2' (by simp only [go_sem, h0]) (by simp only [go_sem, h1]) (by simp only [go_sem]) (by simp only [go_sem])
   ·have e2 : ieq (.ofNat (y % 2)) 1 = false := (jaO _ 1 1 rfl).trans (decide_eq_false hb)
    refine jas ?_
    repeat (first | refine jaf ?_ | ((first | (refine jad ?_ ?_; (focus rfl)) | (refine jac (gs := ?_) ?_ ?_; rotate_left; (focus rfl))); simp only [run1, go_sem, h0, h1, h5, h6, e1, gg82, hr1, q1, hix, jbX, hc1, q2, jeB, s1, jdD, s2, e2, q6]) | (refine jab ?_ ?_; (focus (simp only [go_sem, h0, h1, h5, h6, e1, gg82, hr1, q1, hix, jbX, hc1, q2, jeB, s1, jdD, s2, e2, q6]; done))) | (refine jaa ?_ ?_; (focus (simp only [go_sem, h0, h1, h5, h6, e1, gg82, hr1, q1, hix, jbX, hc1, q2, jeB, s1, jdD, s2, e2, q6]; done))) | ((first | refine jaj ?_ | refine jai ?_ | refine jak ?_); try simp only [go_sem]) | refine jah ?_)
    rw [show e + (m + 1) + 70099 = e + m + 70100 from by omega]
    exact ih (by omega) (no := n1) (v := v1) hA hq hqc hGa hR1 (by omega) (by simp only [go_sem, h0]) (by simp only [go_sem, h1]) (by simp only [go_sem]) (by simp only [go_sem])
theorem times_ex {na q c : Nat} {va : Value} (hna : na ≤ 49000) {X : XT} {g : Nat} {μ : Mem} (hA : Rd μ va na) (hq : q < μ.next) (hqc : jau μ q 0 = some (.int .u32 10)) (hg : 71000 ≤ g) : ∃ v n μ', aFun Tryz.prog (jat Tryz.prog X S0 g) 83 [va, .slice (some ⟨q, 0, none⟩) 1 c] μ = some (v, μ') ∧ n ≤ na + 64 ∧ Rd μ' v n ∧ Grow μ μ' ∧ New μ v := by
 obtain ⟨k, rfl⟩ := gle hg
 have q1 : jay .i64 (Int.mul 32 (.ofNat 1)) = 32 := rfl
 have q2 : jay .i64 (Int.sub 32 1) = 31 := rfl
 have lb : aLen Tryz.prog 25 (.slice (some ⟨q, 0, none⟩) 1 c) = some 1 := by
  unfold aLen
  simp only [Tryz.underlying25]
 have key : EndsF (aFun Tryz.prog (jat Tryz.prog X S0 (k + 71000)) 83 [va, .slice (some ⟨q, 0, none⟩) 1 c] μ) fun w μ' => ∃ n, n ≤ na + 64 ∧ Rd μ' w n ∧ Grow μ μ' ∧ New μ w := by
  refine jan Tryz.func83 rfl rfl (nbl rfl) ?_
  simp only [go_sem, Tryz.ntmps83]
  repeat (first | refine jaf ?_ | ((first | (refine jad ?_ ?_; (focus rfl)) | (refine jac (gs := ?_) ?_ ?_; rotate_left; (focus rfl))); simp only [run1, go_sem, bs0, jae, lb, jag, q1, q2]) | (refine jab ?_ ?_; (focus (simp only [go_sem, bs0, jae, lb, jag, q1, q2]; done))) | (refine jaa ?_ ?_; (focus (simp only [go_sem, bs0, jae, lb, jag, q1, q2]; done))) | ((first | refine jaj ?_ | refine jai ?_ | refine jak ?_); try simp only [go_sem]) | refine jah ?_)
  rw [show k + 70995 = (k + 863) + 32 + 70100 from by omega]
  refine EndsC.mono (jjl (c := c) hna 32 (Nat.le_refl _) (no := 0) hA hq hqc (jb2 μ _) (Lim.empty μ).rd (Nat.zero_le _) (by simp only [go_sem]) (by simp only [go_sem]) (by simp only [go_sem]) (by simp only [go_sem]; try rfl)) ?_
  rintro x r μ1 ⟨rfl, hG, tm', v', n', rfl, hn', hR, h5⟩
  simp only [ja4, reduceIte, jao]
  obtain ⟨v2, n2, μ2, hr, hn2, hR2, hG2, hN⟩ := jgr (X := X) (g := k + 70995) hR (by omega) (by omega)
  repeat (first | refine jaf ?_ | ((first | (refine jad ?_ ?_; (focus rfl)) | (refine jac (gs := ?_) ?_ ?_; rotate_left; (focus rfl))); simp only [run1, go_sem, h5, jgK, hr]) | (refine jab ?_ ?_; (focus (simp only [go_sem, h5, jgK, hr]; done))) | (refine jaa ?_ ?_; (focus (simp only [go_sem, h5, jgK, hr]; done))) | ((first | refine jaj ?_ | refine jai ?_ | refine jak ?_); try simp only [go_sem]) | refine jah ?_)
  refine jam ?_
  refine ⟨rfl, v2, ?_, n2, by omega, hR2, hG.trans hG2, fun i hi => Nat.le_trans hG.1 (hN i hi)⟩
  simp only [go_sem, Tryz.results83]
 obtain ⟨w, μ', h1, n, h2, h3, h4, h5⟩ := key
 exact ⟨w, n, μ', h1, h2, h3, h4, h5⟩
end
noncomputable section
open Go.Proofs.YtdjoekhccbiaiaaGreatDoor.NumText (dig)
theorem conv_84 (n : Int) : jbb Tryz.prog 5 56 (.int .u8 n) = some (.int .u32 (jay .u32 n)) := by
 simp only [jbb, Tryz.underlying5, Tryz.underlying56]
theorem n4_sub {a b : Nat} (h : b ≤ a) (h2 : a < 4294967296) : jay .u32 (Int.sub (.ofNat a) (.ofNat b)) = .ofNat (a - b) := by
 have e : Int.sub (.ofNat a) (.ofNat b) = .ofNat (a - b) := by show (a : Int) - (b : Int) = ((a - b : Nat) : Int); omega
 rw [e, q4, Nat.mod_eq_of_lt (by omega)]
def ob1 (x : Nat) : Ob := .cells 1 56 #[.int .u32 (.ofNat x)] .e 0 0 false false
theorem bs1 {x : Nat} (r : Rg) (y : Operand) (h : aev Tryz.prog r y = .int .u32 (.ofNat x)) : jbl Tryz.prog (aev Tryz.prog r) 25 1 #[(0, y)] = some (ob1 x, fun id => .slice (some ⟨id, 0, none⟩) 1 2) := jcR Tryz.underlying25 jdJ rfl z_u32 rfl h rfl
theorem bs10 (r : Rg) : jbl Tryz.prog (aev Tryz.prog r) 25 1 #[(0, .const (.int .u32 10))] = some (ob1 10, fun id => .slice (some ⟨id, 0, none⟩) 1 2) := bs1 (x := 10) r _ rfl
theorem ob1_rd {μ : Mem} {i x : Nat} (hx : x < 4294967296) (h : μ.obs.get i = some (ob1 x)) (hi : i < μ.next) : Rd μ (.slice (some ⟨i, 0, none⟩) 1 2) 1 :=
 .inr ⟨i, 2, 1, #[.int .u32 (.ofNat x)], .e, false, false, rfl, h, Nat.le_refl _, hi, fun k hk => by
  obtain rfl : k = 0 := by omega
  exact ⟨x, hx, rfl⟩, .inl ⟨rfl, Nat.le_refl _⟩⟩
theorem ob1_cell {μ : Mem} {i x : Nat} (h : μ.obs.get i = some (ob1 x)) : jau μ i 0 = some (.int .u32 (.ofNat x)) := by
 unfold jau
 rw [h]
 rfl
theorem Rd.off {μ μ' : Mem} {v : Value} {n j : Nat} {o : Ob} (h : Rd μ v n) (hn : ∀ i, SlAt v i → i ≠ j) (hm : μ' = ⟨μ.obs.set j o, μ.next⟩) : Rd μ' v n := by
 subst hm
 rcases h with h | ⟨i, c, m, z, ov, fx, sh, h1, h2, h3, h4, h5⟩
 ·exact .inl h
 ·refine .inr ⟨i, c, m, z, ov, fx, sh, h1, ?_, h3, h4, h5⟩
  show T.get (T.set _ _ _) _ = _
  rw [T.get_set, if_neg (hn i ⟨_, _, h1⟩)]
  exact h2
theorem rp_loop {s : ByteArray} (hl : (bys s).length ≤ 700) : ∀ (m i : Nat), i + m = (bys s).length → jca ((bys s).drop i) → ∀ {X : XT} {e n : Nat} {tm : T Value} {v : Value} {μ0 μ : Mem}, n ≤ 66 * i → Rd μ v n → Grow μ0 μ → jaq tm 0 = .string s → jaq tm 2 = .slice none 0 0 → jaq tm 3 = .int .i64 0 → jaq tm 4 = v → jaq tm 6 = .int .i64 (.ofNat i) →
  EndsC (jat Tryz.prog X S0 (e + m + 80000) (.loop (jaL Tryz.f54 1)) ⟨51, tm, [], none⟩ μ) fun x r μ' => x = .exit 2 ∧ Grow μ0 μ' ∧ ∃ tm' v' n', r = ⟨51, tm', [], none⟩ ∧ n' ≤ 46200 ∧ Rd μ' v' n' ∧ jaq tm' 4 = v' := by
 have ls := ja5 s
 intro m
 induction m with
 | zero =>
   intro i hi hd X e n tm v μ0 μ hn hR hG h0 h2 h3 h4 h6
   have hi : i = (bys s).length := hi
   have e1 : ilt (.ofNat i) (.ofNat (bys s).length) = false := (jav _ _).trans (decide_eq_false (by omega))
   refine jas ?_
   repeat (first | refine jaf ?_ | ((first | (refine jad ?_ ?_; (focus rfl)) | (refine jac (gs := ?_) ?_ ?_; rotate_left; (focus rfl))); simp only [run1, go_sem, h0, h4, h6, jae, ls, jag, e1]) | (refine jab ?_ ?_; (focus (simp only [go_sem, h0, h4, h6, jae, ls, jag, e1]; done))) | (refine jaa ?_ ?_; (focus (simp only [go_sem, h0, h4, h6, jae, ls, jag, e1]; done))) | ((first | refine jaj ?_ | refine jai ?_ | refine jak ?_); try simp only [go_sem]) | refine jah ?_)
   exact ⟨by trivial, hG, _, v, n, rfl, by omega, hR, by simp only [go_sem, h4]⟩
 | succ m ih =>
   intro i hi hd X e n tm v μ0 μ hn hR hG h0 h2 h3 h4 h6
   have hlt : i < (bys s).length := by omega
   have hdr : (bys s).drop i = (bys s)[i]'hlt :: (bys s).drop (i + 1) := List.drop_eq_getElem_cons hlt
   obtain ⟨c, hc⟩ : ∃ c, c = (bys s)[i]'hlt := ⟨_, rfl⟩
   rw [← hc] at hdr
   have hx : ∀ (r : Rg) (x y : Operand), aev Tryz.prog r x = .string s → aev Tryz.prog r y = .int .i64 (.ofNat i) → jbi Tryz.prog (aev Tryz.prog r) 9 x y = some (.int .u8 (.ofNat c)) := fun r x y h1 h2 => by rw [hc]; exact jbA hlt h1 h2
   have e1 : ilt (.ofNat i) (.ofNat (bys s).length) = true := (jav _ _).trans (decide_eq_true hlt)
   have a1 : jay .i64 (Int.add (.ofNat i) 1) = .ofNat (i + 1) := ja2 i 1 (by omega)
   clear hc
   rw [hdr] at hd
   have hdc := hd c List.mem_cons_self
   have hcb : 48 ≤ c ∧ c ≤ 57 := by simp [dig] at hdc; exact hdc
   have hd' : jca ((bys s).drop (i + 1)) := fun d hd1 => hd d (List.mem_cons_of_mem _ hd1)
   have q1 : jay .u32 (.ofNat c) = .ofNat c := by rw [q4, Nat.mod_eq_of_lt (by omega)]
   have q2 : jay .u32 (Int.sub (.ofNat c) 48) = .ofNat (c - 48) := n4_sub (b := 48) hcb.1 (by omega)
   obtain ⟨μa, hμa⟩ : ∃ μa : Mem, μa = ⟨μ.obs.set (Nat.add μ.next 1) (ob1 10), μ.next + 11⟩ := ⟨_, rfl⟩
   have hGa : Grow μ μa := by
    rw [hμa]
    exact ⟨Nat.le_add_right _ _, fun j hj => by show T.get (T.set _ _ _) _ = _; rw [T.get_set, if_neg (by show j ≠ μ.next + 1; omega)]⟩
   have hca : jau μa (Nat.add μ.next 1) 0 = some (.int .u32 10) := ob1_cell (x := 10) (by rw [hμa]; show T.get (T.set _ _ _) _ = _; rw [T.get_set, if_pos rfl])
   obtain ⟨v1, n1, μ1, hr1, hn1, hR1, hG1, hN1⟩ := times_ex (c := 2) (X := X) (g := e + (m + 1) + 79995) (μ := μa) (by omega) (hR.grow hGa) (q := Nat.add μ.next 1) (by rw [hμa]; show μ.next + 1 < μ.next + 11; omega) hca (by omega)
   have hna : μa.next = μ.next + 11 := by rw [hμa]
   obtain ⟨μb, hμb⟩ : ∃ μb : Mem, μb = ⟨μ1.obs.set (Nat.add μ.next 8) (ob1 (c - 48)), μ1.next⟩ := ⟨_, rfl⟩
   have hlt1 : μ.next + 11 ≤ μ1.next := by rw [← hna]; exact hG1.1
   have hRb1 : Rd μb v1 n1 := hR1.off (j := Nat.add μ.next 8) (o := ob1 (c - 48)) (fun i hi => by have := hN1 i hi; rw [hna] at this; show i ≠ μ.next + 8; omega) hμb
   have hRb2 : Rd μb (.slice (some ⟨Nat.add μ.next 8, 0, none⟩) 1 2) 1 := ob1_rd (x := c - 48) (by omega) (by rw [hμb]; show T.get (T.set _ _ _) _ = _; rw [T.get_set, if_pos rfl]) (by rw [hμb]; show μ.next + 8 < μ1.next; omega)
   obtain ⟨v2, n2, μ2, hr2, hn2, hR2, hG2, _⟩ := jih (X := X) (g := e + (m + 1) + 79995) (μ := μb) (by omega) (by decide) hRb1 hRb2 (by omega)
   have hn2' : n2 ≤ 66 * (i + 1) := by split at hn2 <;> omega
   have hG' : Grow μ μ2 := by
    refine ⟨?_, fun j hj => ?_⟩
    ·have := hG2.1; rw [hμb] at this; have : μ1.next ≤ μ2.next := this; omega
    ·rw [hG2.2 j (by rw [hμb]; show j < μ1.next; omega), hμb]
     show T.get (T.set _ _ _) _ = _
     rw [T.get_set, if_neg (by show j ≠ μ.next + 8; omega)]
     exact (hG1.2 j (by rw [hna]; omega)).trans (hGa.2 j hj)
   rw [hμa] at hr1
   rw [hμb] at hr2
   have bsc : ∀ (r : Rg) (y : Operand), aev Tryz.prog r y = .int .u32 (.ofNat (c - 48)) → jbl Tryz.prog (aev Tryz.prog r) 25 1 #[(0, y)] = some (ob1 (c - 48), fun id => .slice (some ⟨id, 0, none⟩) 1 2) := fun r y h => bs1 r y h
   refine jas ?_
   repeat (first | refine jaf ?_ | ((first | (refine jad ?_ ?_; (focus rfl)) | (refine jac (gs := ?_) ?_ ?_; rotate_left; (focus rfl))); simp only [run1, go_sem, h0, h4, h6, jae, ls, jag, e1]) | (refine jab ?_ ?_; (focus (simp only [go_sem, h0, h4, h6, jae, ls, jag, e1]; done))) | (refine jaa ?_ ?_; (focus (simp only [go_sem, h0, h4, h6, jae, ls, jag, e1]; done))) | ((first | refine jaj ?_ | refine jai ?_ | refine jak ?_); try simp only [go_sem]) | refine jah ?_)
   refine jaU (n := 11) (ms := [0, 0, 3, 0, 0, 24, 56, 120, 248, 511, 1023]) (ord := [0, 1, 2, 3, 4, 5, 6, 7, 8, 9, 10]) (ds := ?_) ?_ ?_ ?_ ?_ ?_ ?_
   rotate_left
   ·kernel_rfl
   ·kernel_rfl
   ·kernel_rfl
   ·rfl
   ·rfl
   iterate 11 (refine jaS (by first | rfl | (simp only [go_sem, h0, h4, h6, bs10, bsc, gg83, hr1, hx, conv_84, q1, q2, gg82, hr2])) (by simp only [jaT, heavy, jba, jaJ, go_sem, h0, h4, h6, bs10, bsc, gg83, hr1, hx, conv_84, q1, q2, gg82, hr2]; try exact rfl) rfl ?_)
   simp only [dRun, jaM, jao]
   repeat (first | refine jaf ?_ | ((first | (refine jad ?_ ?_; (focus rfl)) | (refine jac (gs := ?_) ?_ ?_; rotate_left; (focus rfl))); simp only [run1, go_sem, h6, a1]) | (refine jab ?_ ?_; (focus (simp only [go_sem, h6, a1]; done))) | (refine jaa ?_ ?_; (focus (simp only [go_sem, h6, a1]; done))) | ((first | refine jaj ?_ | refine jai ?_ | refine jak ?_); try simp only [go_sem]) | refine jah ?_)
   rw [show e + (m + 1) + 79999 = e + m + 80000 from by omega]
   exact ih (i + 1) (by omega) hd' (n := n2) (v := v2) hn2' hR2 (hG.trans hG') (by simp only [go_sem, h0]) (by simp only [go_sem, h2]) (by simp only [go_sem, h3]) (by simp only [go_sem]) (by simp only [go_sem])
theorem rp_check {s : ByteArray} (hl : (bys s).length ≤ 700) : ∀ (m i : Nat), i + m = (bys s).length → ∀ {X : XT} {e : Nat} {tm : T Value} {v : Value} {μ : Mem}, jaq tm 0 = .string s → jaq tm 2 = .slice none 0 0 → jaq tm 3 = .int .i64 0 → jaq tm 4 = v → jaq tm 5 = .int .i64 (.ofNat i) →
  EndsC (jat Tryz.prog X S0 (e + m + 40) (.loop (jaL Tryz.f54 0)) ⟨51, tm, [], none⟩ μ) fun x r μ' => μ' = μ ∧ ∃ tm', r = ⟨51, tm', [], none⟩ ∧ ((jca ((bys s).drop i) ∧ x = .exit 0 ∧ jaq tm' 0 = .string s ∧ jaq tm' 2 = .slice none 0 0 ∧ jaq tm' 3 = .int .i64 0 ∧ jaq tm' 4 = v) ∨ (¬ jca ((bys s).drop i) ∧ x = .ret ∧ jaq tm' 2 = .slice none 0 0 ∧ jaq tm' 3 = .int .i64 13)) := by
 have ls := ja5 s
 intro m
 induction m with
 | zero =>
   intro i hi X e tm v μ h0 h2 h3 h4 h5
   have hi : i = (bys s).length := hi
   have e1 : ilt (.ofNat i) (.ofNat (bys s).length) = false := (jav _ _).trans (decide_eq_false (by omega))
   refine jas ?_
   repeat (first | refine jaf ?_ | ((first | (refine jad ?_ ?_; (focus rfl)) | (refine jac (gs := ?_) ?_ ?_; rotate_left; (focus rfl))); simp only [run1, go_sem, h0, h5, jae, ls, jag, e1]) | (refine jab ?_ ?_; (focus (simp only [go_sem, h0, h5, jae, ls, jag, e1]; done))) | (refine jaa ?_ ?_; (focus (simp only [go_sem, h0, h5, jae, ls, jag, e1]; done))) | ((first | refine jaj ?_ | refine jai ?_ | refine jak ?_); try simp only [go_sem]) | refine jah ?_)
   exact ⟨by trivial, _, rfl, .inl ⟨(by rw [hi, List.drop_length]; intro c hc; cases hc), by trivial, by simp only [go_sem, h0], by simp only [go_sem, h2], by simp only [go_sem, h3], by simp only [go_sem, h4]⟩⟩
 | succ m ih =>
   intro i hi X e tm v μ h0 h2 h3 h4 h5
   have hlt : i < (bys s).length := by omega
   have hdr : (bys s).drop i = (bys s)[i]'hlt :: (bys s).drop (i + 1) := List.drop_eq_getElem_cons hlt
   obtain ⟨c, hc⟩ : ∃ c, c = (bys s)[i]'hlt := ⟨_, rfl⟩
   rw [← hc] at hdr
   have hx : ∀ (r : Rg) (x y : Operand), aev Tryz.prog r x = .string s → aev Tryz.prog r y = .int .i64 (.ofNat i) → jbi Tryz.prog (aev Tryz.prog r) 9 x y = some (.int .u8 (.ofNat c)) := fun r x y h1 h2 => by rw [hc]; exact jbA hlt h1 h2
   have e1 : ilt (.ofNat i) (.ofNat (bys s).length) = true := (jav _ _).trans (decide_eq_true hlt)
   have a1 : jay .i64 (Int.add (.ofNat i) 1) = .ofNat (i + 1) := ja2 i 1 (by omega)
   clear hc
   rw [hdr]
   by_cases h48 : c < 48
   ·have d1 : ilt (.ofNat c) 48 = true := (jbx c 48 48 rfl).trans (decide_eq_true h48)
    refine jas ?_
    repeat (first | refine jaf ?_ | ((first | (refine jad ?_ ?_; (focus rfl)) | (refine jac (gs := ?_) ?_ ?_; rotate_left; (focus rfl))); simp only [run1, go_sem, h0, h5, jae, ls, jag, e1, hx, d1, undef]) | (refine jab ?_ ?_; (focus (simp only [go_sem, h0, h5, jae, ls, jag, e1, hx, d1, undef]; done))) | (refine jaa ?_ ?_; (focus (simp only [go_sem, h0, h5, jae, ls, jag, e1, hx, d1, undef]; done))) | ((first | refine jaj ?_ | refine jai ?_ | refine jak ?_); try simp only [go_sem]) | refine jah ?_)
    refine jam ?_
    exact ⟨by trivial, _, rfl, .inr ⟨fun ha => (by have := ha c List.mem_cons_self; simp [dig] at this; omega), by trivial, by simp only [go_sem], by simp only [go_sem]⟩⟩
   have d1 : ilt (.ofNat c) 48 = false := (jbx c 48 48 rfl).trans (decide_eq_false h48)
   by_cases h57 : 57 < c
   ·have d2 : ilt 57 (.ofNat c) = true := (jdf c 57 57 rfl).trans (decide_eq_true h57)
    refine jas ?_
    repeat (first | refine jaf ?_ | ((first | (refine jad ?_ ?_; (focus rfl)) | (refine jac (gs := ?_) ?_ ?_; rotate_left; (focus rfl))); simp only [run1, go_sem, h0, h5, jae, ls, jag, e1, hx, d1, d2, undef]) | (refine jab ?_ ?_; (focus (simp only [go_sem, h0, h5, jae, ls, jag, e1, hx, d1, d2, undef]; done))) | (refine jaa ?_ ?_; (focus (simp only [go_sem, h0, h5, jae, ls, jag, e1, hx, d1, d2, undef]; done))) | ((first | refine jaj ?_ | refine jai ?_ | refine jak ?_); try simp only [go_sem]) | refine jah ?_)
    refine jam ?_
    exact ⟨by trivial, _, rfl, .inr ⟨fun ha => (by have := ha c List.mem_cons_self; simp [dig] at this; omega), by trivial, by simp only [go_sem], by simp only [go_sem]⟩⟩
   have d2 : ilt 57 (.ofNat c) = false := (jdf c 57 57 rfl).trans (decide_eq_false h57)
   have hdc : dig c = true := by simp [dig]; omega
   have hall : ∀ l, jca (c :: l) ↔ jca l := fun l => ⟨fun h d hd => h d (List.mem_cons_of_mem _ hd), fun h d hd => by
    rcases List.mem_cons.1 hd with rfl | hd
    ·exact hdc
    ·exact h d hd⟩
   refine jas ?_
   repeat (first | refine jaf ?_ | ((first | (refine jad ?_ ?_; (focus rfl)) | (refine jac (gs := ?_) ?_ ?_; rotate_left; (focus rfl))); simp only [run1, go_sem, h0, h5, jae, ls, jag, e1, hx, d1, d2, undef, a1]) | (refine jab ?_ ?_; (focus (simp only [go_sem, h0, h5, jae, ls, jag, e1, hx, d1, d2, undef, a1]; done))) | (refine jaa ?_ ?_; (focus (simp only [go_sem, h0, h5, jae, ls, jag, e1, hx, d1, d2, undef, a1]; done))) | ((first | refine jaj ?_ | refine jai ?_ | refine jak ?_); try simp only [go_sem]) | refine jah ?_)
   rw [show e + (m + 1) + 39 = e + m + 40 from by omega]
   refine EndsC.mono (ih (i + 1) (by omega) (v := v) (by simp only [go_sem, h0]) (by simp only [go_sem, h2]) (by simp only [go_sem, h3]) (by simp only [go_sem, h4]) (by simp only [go_sem])) ?_
   rintro x r μ' ⟨g1, tm', g2, g3⟩
   refine ⟨g1, tm', g2, ?_⟩
   rcases g3 with ⟨g3, g4⟩ | ⟨g3, g4⟩
   ·exact .inl ⟨(hall _).2 g3, g4⟩
   ·exact .inr ⟨fun h => g3 ((hall _).1 h), g4⟩
end
noncomputable section
open Go.Proofs.YtdjoekhccbiaiaaGreatDoor.NumText (dig unsg isS)
section
set_option linter.defProp false
variable {X : XT} {ev : Code → Rg → Mem → Option (Ax × Rg × Mem)}
def gg31 := go_call (P := Tryz.prog) (X := X) (ev := ev) (S := S0) Tryz.func31 rfl rfl
def gg55 := go_call (P := Tryz.prog) (X := X) (ev := ev) (S := S0) Tryz.func55 rfl rfl
def gg32 := go_call (P := Tryz.prog) (X := X) (ev := ev) (S := S0) Tryz.func32 rfl rfl
end
theorem bigR_ex {X : XT} {g n : Nat} {v : Value} {μ : Mem} (h : Rd μ v n) (hn : n ≤ 50000) (hg : 60200 ≤ g) : ∃ b μ', aFun Tryz.prog (jat Tryz.prog X S0 g) 84 [v] μ = some (.bool b, μ') ∧ Grow μ μ' := by
 obtain ⟨k, rfl⟩ := gle hg
 obtain ⟨v1, n1, μ1, hr, hn1, hR, hG, _⟩ := jgr (X := X) (g := k + 60197) h (by omega) (by omega)
 have lv := hR.len
 refine ⟨decide (64 < n1), μ1, jaQ ?_, hG⟩
 have e1 : ilt 64 (.ofNat n1) = decide (64 < n1) := jav 64 n1
 refine jan Tryz.func84 rfl rfl (nbl rfl) ?_
 simp only [go_sem, Tryz.ntmps84]
 repeat (first | refine jaf ?_ | ((first | (refine jad ?_ ?_; (focus rfl)) | (refine jac (gs := ?_) ?_ ?_; rotate_left; (focus rfl))); simp only [run1, go_sem, jgK, hr, jae, lv, jag, e1]) | (refine jab ?_ ?_; (focus (simp only [go_sem, jgK, hr, jae, lv, jag, e1]; done))) | (refine jaa ?_ ?_; (focus (simp only [go_sem, jgK, hr, jae, lv, jag, e1]; done))) | ((first | refine jaj ?_ | refine jai ?_ | refine jak ?_); try simp only [go_sem]) | refine jah ?_)
 refine jam ?_
 refine ⟨rfl, _, ?_, rfl, rfl⟩
 simp only [go_sem, Tryz.results84]
theorem jjq {s : ByteArray} (hl : (bys s).length ≤ 700) {X : XT} {g : Nat} {μ : Mem} (hg : 90000 ≤ g) : ∃ v n e μ', aFun Tryz.prog (jat Tryz.prog X S0 g) 54 [.string s] μ = some (.tuple #[v, .int .i64 e], μ') ∧ ((0 < (bys s).length ∧ jca (bys s)) → e = 0 ∨ e = 11) ∧ (¬ (0 < (bys s).length ∧ jca (bys s)) → e = 13) ∧ Rd μ' v n ∧ Grow μ μ' := by
 obtain ⟨k, rfl⟩ := gle hg
 have ls := ja5 s
 have key : EndsF (aFun Tryz.prog (jat Tryz.prog X S0 (k + 90000)) 54 [.string s] μ) fun w μ' => ∃ v n e, w = .tuple #[v, .int .i64 e] ∧ ((0 < (bys s).length ∧ jca (bys s)) → e = 0 ∨ e = 11) ∧ (¬ (0 < (bys s).length ∧ jca (bys s)) → e = 13) ∧ Rd μ' v n ∧ Grow μ μ' := by
  by_cases h0 : (bys s).length = 0
  ·have e1 : ilt (.ofNat (bys s).length) 1 = true := (jbx _ 1 1 rfl).trans (decide_eq_true (by omega))
   refine jan Tryz.func54 rfl rfl (nbl rfl) ?_
   simp only [go_sem, Tryz.ntmps54]
   repeat (first | refine jaf ?_ | ((first | (refine jad ?_ ?_; (focus rfl)) | (refine jac (gs := ?_) ?_ ?_; rotate_left; (focus rfl))); simp only [run1, go_sem, undef, jae, ls, jag, e1]) | (refine jab ?_ ?_; (focus (simp only [go_sem, undef, jae, ls, jag, e1]; done))) | (refine jaa ?_ ?_; (focus (simp only [go_sem, undef, jae, ls, jag, e1]; done))) | ((first | refine jaj ?_ | refine jai ?_ | refine jak ?_); try simp only [go_sem]) | refine jah ?_)
   refine jam ?_
   refine ⟨rfl, .tuple #[.slice none 0 0, .int .i64 13], ?_, .slice none 0 0, 0, 13, rfl, fun h => by omega, fun _ => rfl, Rd.nil _, Grow.refl _⟩
   simp only [go_sem, Tryz.results54]
  have e1 : ilt (.ofNat (bys s).length) 1 = false := (jbx _ 1 1 rfl).trans (decide_eq_false (by omega))
  have e7 : ilt 700 (.ofNat (bys s).length) = false := (jav 700 _).trans (decide_eq_false (by omega))
  have hR0 : Rd ⟨μ.obs.set μ.next ob0, Nat.add μ.next 1⟩ (.slice (some ⟨μ.next, 0, none⟩) 0 0) 0 := (Lim.empty μ).rd
  have hG0 : Grow μ ⟨μ.obs.set μ.next ob0, Nat.add μ.next 1⟩ := jb2 μ _
  refine jan Tryz.func54 rfl rfl (nbl rfl) ?_
  simp only [go_sem, Tryz.ntmps54]
  repeat (first | refine jaf ?_ | ((first | (refine jad ?_ ?_; (focus rfl)) | (refine jac (gs := ?_) ?_ ?_; rotate_left; (focus rfl))); simp only [run1, go_sem, undef, jae, ls, jag, e1, e7, bs0]) | (refine jab ?_ ?_; (focus (simp only [go_sem, undef, jae, ls, jag, e1, e7, bs0]; done))) | (refine jaa ?_ ?_; (focus (simp only [go_sem, undef, jae, ls, jag, e1, e7, bs0]; done))) | ((first | refine jaj ?_ | refine jai ?_ | refine jak ?_); try simp only [go_sem]) | refine jah ?_)
  rw [show k + 89994 = (k + 89954 - (bys s).length) + (bys s).length + 40 from by omega]
  refine EndsC.mono (rp_check hl (bys s).length 0 (Nat.zero_add _) (v := .slice (some ⟨μ.next, 0, none⟩) 0 0) (by simp only [go_sem]) (by simp only [go_sem]) (by simp only [go_sem]) (by simp only [go_sem]) (by simp only [go_sem]; try rfl)) ?_
  rintro x r μ' ⟨rfl, tm', rfl, ⟨ha, rfl, h0', h2, h3, h4⟩ | ⟨ha, rfl, h2, h3⟩⟩
  ·have ha0 := ha
   rw [List.drop_zero] at ha
   simp only [ja4, reduceIte, jao]
   repeat (first | refine jaf ?_ | ((first | (refine jad ?_ ?_; (focus rfl)) | (refine jac (gs := ?_) ?_ ?_; rotate_left; (focus rfl))); simp only [run1, go_sem]) | (refine jab ?_ ?_; (focus (simp only [go_sem]; done))) | (refine jaa ?_ ?_; (focus (simp only [go_sem]; done))) | ((first | refine jaj ?_ | refine jai ?_ | refine jak ?_); try simp only [go_sem]) | refine jah ?_)
   rw [show k + 89993 = (k + 9993 - (bys s).length) + (bys s).length + 80000 from by omega]
   refine EndsC.mono (rp_loop hl (bys s).length 0 (Nat.zero_add _) ha0 (n := 0) (v := .slice (some ⟨μ.next, 0, none⟩) 0 0) (Nat.zero_le _) hR0 hG0 (by simp only [go_sem, h0']) (by simp only [go_sem, h2]) (by simp only [go_sem, h3]) (by simp only [go_sem, h4]) (by simp only [go_sem]; try rfl)) ?_
   rintro x r μ1 ⟨rfl, hG, tm1, v', n', rfl, hn', hR, h4⟩
   simp only [ja4, reduceIte, jao]
   obtain ⟨b, μ2, hr, hG2⟩ := bigR_ex (X := X) (g := k + 89992) hR (by omega) (by omega)
   cases b with
   | true =>
     repeat (first | refine jaf ?_ | ((first | (refine jad ?_ ?_; (focus rfl)) | (refine jac (gs := ?_) ?_ ?_; rotate_left; (focus rfl))); simp only [run1, go_sem, h4, gg84, hr]) | (refine jab ?_ ?_; (focus (simp only [go_sem, h4, gg84, hr]; done))) | (refine jaa ?_ ?_; (focus (simp only [go_sem, h4, gg84, hr]; done))) | ((first | refine jaj ?_ | refine jai ?_ | refine jak ?_); try simp only [go_sem]) | refine jah ?_)
     refine jam ?_
     refine ⟨rfl, .tuple #[.slice none 0 0, .int .i64 11], ?_, .slice none 0 0, 0, 11, rfl, fun _ => .inr rfl, fun h => absurd ⟨by omega, ha⟩ h, Rd.nil _, hG.trans hG2⟩
     simp only [go_sem, Tryz.results54]
   | false =>
     repeat (first | refine jaf ?_ | ((first | (refine jad ?_ ?_; (focus rfl)) | (refine jac (gs := ?_) ?_ ?_; rotate_left; (focus rfl))); simp only [run1, go_sem, h4, gg84, hr]) | (refine jab ?_ ?_; (focus (simp only [go_sem, h4, gg84, hr]; done))) | (refine jaa ?_ ?_; (focus (simp only [go_sem, h4, gg84, hr]; done))) | ((first | refine jaj ?_ | refine jai ?_ | refine jak ?_); try simp only [go_sem]) | refine jah ?_)
     refine jam ?_
     refine ⟨rfl, .tuple #[v', .int .i64 0], ?_, v', n', 0, rfl, fun _ => .inl rfl, fun h => absurd ⟨by omega, ha⟩ h, hR.grow hG2, hG.trans hG2⟩
     simp only [go_sem, Tryz.results54]
  ·rw [List.drop_zero] at ha
   simp only [ja4]
   refine ⟨rfl, .tuple #[.slice none 0 0, .int .i64 13], ?_, .slice none 0 0, 0, 13, rfl, fun h => absurd h.2 ha, fun _ => rfl, Rd.nil _, hG0⟩
   simp only [go_sem, Tryz.results54]
   rw [h2, h3]
 obtain ⟨w, μ', h1, v, n, e, rfl, h2, h3, h4, h5⟩ := key
 exact ⟨v, n, e, μ', h1, h2, h3, h4, h5⟩
theorem made_ex {X : XT} {g n : Nat} {v : Value} {b : Bool} {μ : Mem} (h : Rd μ v n) (hg : 20 ≤ g) : ∃ b' v' μ', aFun Tryz.prog (jat Tryz.prog X S0 g) 55 [.bool b, v] μ = some (.agg #[.bool b', v'], μ') ∧ one v' = true ∧ Grow μ μ' := by
 obtain ⟨k, rfl⟩ := gle hg
 have lv := (h.grow (jb2 μ obI)).len
 have hG := jb2 μ obI
 have key : EndsF (aFun Tryz.prog (jat Tryz.prog X S0 (k + 20)) 55 [.bool b, v] μ) fun w μ' => ∃ b' v', w = .agg #[.bool b', v'] ∧ one v' = true ∧ Grow μ μ' := by
  by_cases hz : n = 0
  ·have e1 : ieq (.ofNat n) 0 = true := (jaO _ 0 0 rfl).trans (decide_eq_true hz)
   have hs := st_I (x := .bool false) (y := .slice none 0 0) (blkI (μ := μ)) rfl rfl
   refine jan Tryz.func55 rfl rfl (nbl rfl) ?_
   simp only [go_sem, Tryz.ntmps55]
   repeat (first | refine jaf ?_ | ((first | (refine jad ?_ ?_; (focus rfl)) | (refine jac (gs := ?_) ?_ ?_; rotate_left; (focus rfl))); simp only [run1, go_sem, al_I, Nat.add_eq, jae, lv, jag, e1, jbB, hs]) | (refine jab ?_ ?_; (focus (simp only [go_sem, al_I, Nat.add_eq, jae, lv, jag, e1, jbB, hs]; done))) | (refine jaa ?_ ?_; (focus (simp only [go_sem, al_I, Nat.add_eq, jae, lv, jag, e1, jbB, hs]; done))) | ((first | refine jaj ?_ | refine jai ?_ | refine jak ?_); try simp only [go_sem]) | refine jah ?_)
   refine jam ?_
   refine ⟨rfl, .agg #[.bool false, .slice none 0 0], ?_, _, _, rfl, rfl, hG.put_new (Nat.le_refl _)⟩
   simp only [go_sem, Tryz.results55]
   rw [ld_I blkI]
  ·have e1 : ieq (.ofNat n) 0 = false := (jaO _ 0 0 rfl).trans (decide_eq_false hz)
   have hs := st_I (x := .bool b) (y := v) (blkI (μ := μ)) rfl h.one
   have hb : ∀ (r : Rg) (x y : Operand), aev Tryz.prog r x = .bool b → aev Tryz.prog r y = v → jb9 Tryz.prog (aev Tryz.prog r) 27 #[(0, x), (1, y)] = some (.agg #[.bool b, v]) := fun r x y g1 g2 => build_I g1 g2 rfl h.one
   refine jan Tryz.func55 rfl rfl (nbl rfl) ?_
   simp only [go_sem, Tryz.ntmps55]
   repeat (first | refine jaf ?_ | ((first | (refine jad ?_ ?_; (focus rfl)) | (refine jac (gs := ?_) ?_ ?_; rotate_left; (focus rfl))); simp only [run1, go_sem, al_I, Nat.add_eq, jae, lv, jag, e1, hb, hs]) | (refine jab ?_ ?_; (focus (simp only [go_sem, al_I, Nat.add_eq, jae, lv, jag, e1, hb, hs]; done))) | (refine jaa ?_ ?_; (focus (simp only [go_sem, al_I, Nat.add_eq, jae, lv, jag, e1, hb, hs]; done))) | ((first | refine jaj ?_ | refine jai ?_ | refine jak ?_); try simp only [go_sem]) | refine jah ?_)
   refine jam ?_
   refine ⟨rfl, .agg #[.bool b, v], ?_, _, _, rfl, h.one, hG.put_new (Nat.le_refl _)⟩
   simp only [go_sem, Tryz.results55]
   rw [ld_I blkI]
 obtain ⟨w, μ', h1, b', v', rfl, h2, h3⟩ := key
 exact ⟨b', v', μ', h1, h2, h3⟩
end
noncomputable section
open Go.Proofs.YtdjoekhccbiaiaaGreatDoor.NumText (dig unsg isS)
theorem sf0 : (jaB Tryz.f31) = .seq (jaW 0 (jaB Tryz.f31)) (.seq (jaW 1 (jaB Tryz.f31)) (.seq (jaW 2 (jaB Tryz.f31)) (ja1 3 (jaB Tryz.f31)))) := by kernel_rfl
theorem sf3 : ja1 3 (jaB Tryz.f31) = .seq (jaW 3 (jaB Tryz.f31)) (.seq (jaW 4 (jaB Tryz.f31)) (.seq (jaW 5 (jaB Tryz.f31)) (ja1 6 (jaB Tryz.f31)))) := by kernel_rfl
theorem sf6 : ja1 6 (jaB Tryz.f31) = .ret := by kernel_rfl
attribute [local irreducible] ja1
theorem rp3 {s : ByteArray} (hl : (bys s).length ≤ 700) {X : XT} {k i : Nat} {b : Bool} {tm : T Value} {μ0 μ : Mem} (hG0 : Grow μ0 μ) (hi : μ0.next ≤ i) (hi2 : i < μ.next) (hb : Blk μ i 2 27) (h0 : jaq tm 0 = .string (jbH s)) (h2 : jaq tm 2 = .pointer (some ⟨i, 0, none⟩)) (h4 : jaq tm 4 = .bool b) :
  EndsC (jat Tryz.prog X S0 (k + 92000) (ja1 3 (jaB Tryz.f31)) ⟨37, tm, [], none⟩ μ) (FinE s μ0 i) := by
 have hb1 : bys (jbH s) = unsg (bys s) := jd3 s
 have hl1 : (bys (jbH s)).length ≤ 700 := by rw [hb1]; have := je9 (bys s); omega
 obtain ⟨v, n, e, μ1, hr, he1, he2, hR, hG⟩ := jjq hl1 (X := X) (g := k + 91998) (μ := μ) (by omega)
 rw [hb1] at he1 he2
 have hB1 : Blk μ1 i 2 27 := hb.of_get (hG.2 i hi2)
 by_cases hI : isInt s
 ·rcases he1 hI with rfl | rfl
  ·have z1 : ieq 0 0 = true := rfl
   obtain ⟨b', v', μ2, hr2, hv', hG2⟩ := made_ex (b := b) (X := X) (g := k + 91996) hR (by omega)
   have hi1 : i < μ1.next := Nat.lt_of_lt_of_le hi2 hG.1
   have hB2 : Blk μ2 i 2 27 := hB1.of_get (hG2.2 i hi1)
   have hst := st_I (x := .bool b') (y := v') hB2 rfl hv'
   rw [sf3]
   repeat (first | refine jaf ?_ | ((first | (refine jad ?_ ?_; (focus rfl)) | (refine jac (gs := ?_) ?_ ?_; rotate_left; (focus rfl))); simp only [run1, go_sem, h0, h2, h4, gg54, hr, z1, gg55, hr2, hst]) | (refine jab ?_ ?_; (focus (simp only [go_sem, h0, h2, h4, gg54, hr, z1, gg55, hr2, hst]; done))) | (refine jaa ?_ ?_; (focus (simp only [go_sem, h0, h2, h4, gg54, hr, z1, gg55, hr2, hst]; done))) | ((first | refine jaj ?_ | refine jai ?_ | refine jak ?_); try simp only [go_sem]) | refine jah ?_)
   rw [sf6]
   refine jam ?_
   exact ⟨by trivial, ((hG0.trans hG).trans hG2).put_new hi, _, b', v', 0, rfl, (by simp only [go_sem, h2]), (by simp only [go_sem]), ld_I hB2, fun _ => .inl rfl, fun h => absurd hI h, hv'⟩
  ·have z1 : ieq 11 0 = false := rfl
   have hst := st_I (x := .bool false) (y := .slice none 0 0) hB1 rfl rfl
   rw [sf3]
   repeat (first | refine jaf ?_ | ((first | (refine jad ?_ ?_; (focus rfl)) | (refine jac (gs := ?_) ?_ ?_; rotate_left; (focus rfl))); simp only [run1, go_sem, h0, h2, h4, gg54, hr, z1, jbB, hst]) | (refine jab ?_ ?_; (focus (simp only [go_sem, h0, h2, h4, gg54, hr, z1, jbB, hst]; done))) | (refine jaa ?_ ?_; (focus (simp only [go_sem, h0, h2, h4, gg54, hr, z1, jbB, hst]; done))) | ((first | refine jaj ?_ | refine jai ?_ | refine jak ?_); try simp only [go_sem]) | refine jah ?_)
   refine jam ?_
   exact ⟨by trivial, (hG0.trans hG).put_new hi, _, false, .slice none 0 0, 11, rfl, (by simp only [go_sem, h2]), (by simp only [go_sem]), ld_I hB1, fun _ => .inr rfl, fun h => absurd hI h, rfl⟩
 ·obtain rfl := he2 hI
  have z1 : ieq 13 0 = false := rfl
  have hst := st_I (x := .bool false) (y := .slice none 0 0) hB1 rfl rfl
  rw [sf3]
  repeat (first | refine jaf ?_ | ((first | (refine jad ?_ ?_; (focus rfl)) | (refine jac (gs := ?_) ?_ ?_; rotate_left; (focus rfl))); simp only [run1, go_sem, h0, h2, h4, gg54, hr, z1, jbB, hst]) | (refine jab ?_ ?_; (focus (simp only [go_sem, h0, h2, h4, gg54, hr, z1, jbB, hst]; done))) | (refine jaa ?_ ?_; (focus (simp only [go_sem, h0, h2, h4, gg54, hr, z1, jbB, hst]; done))) | ((first | refine jaj ?_ | refine jai ?_ | refine jak ?_); try simp only [go_sem]) | refine jah ?_)
  refine jam ?_
  exact ⟨by trivial, (hG0.trans hG).put_new hi, _, false, .slice none 0 0, 13, rfl, (by simp only [go_sem, h2]), (by simp only [go_sem]), ld_I hB1, fun h => absurd h hI, fun _ => rfl, rfl⟩
theorem refInt_ex {s : ByteArray} (hl : (bys s).length ≤ 700) {X : XT} {g : Nat} {μ : Mem} (hg : 92500 ≤ g) : ∃ b v e μ', aFun Tryz.prog (jat Tryz.prog X S0 g) 31 [.string s] μ = some (.tuple #[.agg #[.bool b, v], .int .i64 e], μ') ∧ (isInt s → e = 0 ∨ e = 11) ∧ (¬ isInt s → e = 13) ∧ one v = true ∧ Grow μ μ' := by
 obtain ⟨k, rfl⟩ := gle hg
 have ls := ja5 s
 have hG1 : Grow μ ⟨μ.obs.set μ.next obI, μ.next + 1⟩ := jb2 μ obI
 have key : EndsF (aFun Tryz.prog (jat Tryz.prog X S0 (k + 92500)) 31 [.string s] μ) fun w μ' => ∃ b v e, w = .tuple #[.agg #[.bool b, v], .int .i64 e] ∧ (isInt s → e = 0 ∨ e = 11) ∧ (¬ isInt s → e = 13) ∧ one v = true ∧ Grow μ μ' := by
  have fin : ∀ x r μ', FinE s μ μ.next x r μ' → retQ Tryz.prog Tryz.f31 (fun w μ' => ∃ b v e, w = .tuple #[.agg #[.bool b, v], .int .i64 e] ∧ (isInt s → e = 0 ∨ e = 11) ∧ (¬ isInt s → e = 13) ∧ one v = true ∧ Grow μ μ') x r μ' := by
   rintro x r μ' ⟨rfl, g1, tm, b, v, e, rfl, g2, g3, g4, g5, g6, g7⟩
   refine ⟨rfl, .tuple #[.agg #[.bool b, v], .int .i64 e], ?_, b, v, e, rfl, g5, g6, g7, g1⟩
   simp only [go_sem, Tryz.results31]
   simp only [g2, g3, g4]
  refine jan Tryz.func31 rfl rfl (nbl rfl) ?_
  simp only [go_sem, Tryz.ntmps31]
  change EndsC (jat Tryz.prog X S0 _ (jaB Tryz.f31) _ _) _
  rw [sf0]
  refine jaf ?_
  refine jad ?_ ?_
  ·rfl
  simp only [go_sem, al_I, Nat.add_eq]
  refine jaf ?_
  refine jad ?_ ?_
  ·rfl
  simp only [go_sem]
  cases h : bys s with
  | nil =>
    have hu : jbH s = s := by unfold jbH; rw [h]
    have e1 : ilt 0 (.ofNat (bys s).length) = false := (jav 0 _).trans (decide_eq_false (by rw [h]; decide))
    refine jaf ?_
    refine jaf ?_
    refine jac (gs := ?_) ?_ ?_
    rotate_left
    ·rfl
    iterate 4 (refine jal (by first | rfl | (simp only [go_sem, undef, jae, ls, jag, e1])) (by simp only [go_sem, undef, jae, ls, jag, e1]; try exact rfl) rfl ?_)
    iterate 8 (refine jaA (by simp only [go_sem, undef, jae, ls, jag, e1]) rfl ?_)
    refine jal (by first | rfl | (simp only [go_sem, undef, jae, ls, jag, e1])) (by simp only [go_sem, undef, jae, ls, jag, e1]; try exact rfl) rfl ?_
    simp only [go_sem]
    refine jaa ?_ ?_
    ·simp only [go_sem]
    refine jaj ?_
    simp only [jao]
    refine EndsC.mono (rp3 hl (k := k + 497) (b := false) hG1 (Nat.le_refl _) (Nat.lt_succ_self _) blkI (by rw [hu]; simp only [go_sem]) (by simp only [go_sem]) (by simp only [go_sem])) fin
  | cons c l =>
    have e1 : ilt 0 (.ofNat (bys s).length) = true := (jav 0 _).trans (decide_eq_true (by rw [h]; exact Nat.succ_pos _))
    have hx : ∀ (r : Rg) (x : Operand), aev Tryz.prog r x = .string s → jbi Tryz.prog (aev Tryz.prog r) 9 x (.const (.int .i64 0)) = some (.int .u8 (.ofNat c)) := fun r x h1 => at0 (kd := .i64) h h1 rfl
    have hsl : ∀ (r : Rg) (x : Operand), aev Tryz.prog r x = .string s → jbG Tryz.prog (aev Tryz.prog r) 9 x (some (.const (.int .i64 1))) none none = some (.string (jcv s 1)) := fun r x h1 => jbV (k := 1) (kd := .i64) h1 rfl (by rw [h]; exact Nat.succ_le_succ (Nat.zero_le _))
    by_cases h43 : c = 43
    ·have s1 : ieq (.ofNat c) 43 = true := (jaO _ 43 43 rfl).trans (decide_eq_true h43)
     have hu : jbH s = jcv s 1 := by unfold jbH; rw [h]; simp only; rw [if_pos (by rw [h43]; decide)]
     have e45 : ieq (.ofNat c) 45 = false := (jaO _ 45 45 rfl).trans (by rw [h43]; rfl)
     refine jaf ?_
     refine jaf ?_
     refine jac (gs := ?_) ?_ ?_
     rotate_left
     ·rfl
     iterate 8 (refine jal (by first | rfl | (simp only [go_sem, undef, jae, ls, jag, e1, hx, s1])) (by simp only [go_sem, undef, jae, ls, jag, e1, hx, s1]; try exact rfl) rfl ?_)
     iterate 3 (refine jaA (by simp only [go_sem, undef, jae, ls, jag, e1, hx, s1]) rfl ?_)
     iterate 2 (refine jal (by first | rfl | (simp only [go_sem, undef, jae, ls, jag, e1, hx, s1])) (by simp only [go_sem, undef, jae, ls, jag, e1, hx, s1]; try exact rfl) rfl ?_)
     simp only [go_sem]
     refine jab ?_ ?_
     ·simp only [go_sem]
     repeat (first | refine jaf ?_ | ((first | (refine jad ?_ ?_; (focus rfl)) | (refine jac (gs := ?_) ?_ ?_; rotate_left; (focus rfl))); simp only [run1, go_sem, hx, e45, hsl]) | (refine jab ?_ ?_; (focus (simp only [go_sem, hx, e45, hsl]; done))) | (refine jaa ?_ ?_; (focus (simp only [go_sem, hx, e45, hsl]; done))) | ((first | refine jaj ?_ | refine jai ?_ | refine jak ?_); try simp only [go_sem]) | refine jah ?_)
     refine EndsC.mono (rp3 hl (k := k + 497) (b := false) hG1 (Nat.le_refl _) (Nat.lt_succ_self _) blkI (by rw [hu]; simp only [go_sem]) (by simp only [go_sem]) (by simp only [go_sem])) fin
    have s1 : ieq (.ofNat c) 43 = false := (jaO _ 43 43 rfl).trans (decide_eq_false h43)
    by_cases h45 : c = 45
    ·have s2 : ieq (.ofNat c) 45 = true := (jaO _ 45 45 rfl).trans (decide_eq_true h45)
     have hu : jbH s = jcv s 1 := by unfold jbH; rw [h]; simp only; rw [if_pos (by rw [h45]; decide)]
     have e45 : ieq (.ofNat c) 45 = true := (jaO _ 45 45 rfl).trans (by rw [h45]; rfl)
     refine jaf ?_
     refine jaf ?_
     refine jac (gs := ?_) ?_ ?_
     rotate_left
     ·rfl
     iterate 13 (refine jal (by first | rfl | (simp only [go_sem, undef, jae, ls, jag, e1, hx, s1, s2])) (by simp only [go_sem, undef, jae, ls, jag, e1, hx, s1, s2]; try exact rfl) rfl ?_)
     simp only [go_sem]
     refine jab ?_ ?_
     ·simp only [go_sem]
     repeat (first | refine jaf ?_ | ((first | (refine jad ?_ ?_; (focus rfl)) | (refine jac (gs := ?_) ?_ ?_; rotate_left; (focus rfl))); simp only [run1, go_sem, hx, e45, hsl]) | (refine jab ?_ ?_; (focus (simp only [go_sem, hx, e45, hsl]; done))) | (refine jaa ?_ ?_; (focus (simp only [go_sem, hx, e45, hsl]; done))) | ((first | refine jaj ?_ | refine jai ?_ | refine jak ?_); try simp only [go_sem]) | refine jah ?_)
     refine EndsC.mono (rp3 hl (k := k + 497) (b := true) hG1 (Nat.le_refl _) (Nat.lt_succ_self _) blkI (by rw [hu]; simp only [go_sem]) (by simp only [go_sem]) (by simp only [go_sem])) fin
    have s2 : ieq (.ofNat c) 45 = false := (jaO _ 45 45 rfl).trans (decide_eq_false h45)
    have hu : jbH s = s := by unfold jbH; rw [h]; simp only; rw [if_neg (by simp [isS, h43, h45])]
    refine jaf ?_
    refine jaf ?_
    refine jac (gs := ?_) ?_ ?_
    rotate_left
    ·rfl
    iterate 13 (refine jal (by first | rfl | (simp only [go_sem, undef, jae, ls, jag, e1, hx, s1, s2])) (by simp only [go_sem, undef, jae, ls, jag, e1, hx, s1, s2]; try exact rfl) rfl ?_)
    simp only [go_sem]
    refine jaa ?_ ?_
    ·simp only [go_sem]
    refine jaj ?_
    simp only [jao]
    refine EndsC.mono (rp3 hl (k := k + 497) (b := false) hG1 (Nat.le_refl _) (Nat.lt_succ_self _) blkI (by rw [hu]; simp only [go_sem]) (by simp only [go_sem]) (by simp only [go_sem])) fin
 obtain ⟨w, μ', h1, b, v, e, rfl, h2, h3, h4, h5⟩ := key
 exact ⟨b, v, e, μ', h1, h2, h3, h4, h5⟩
end
noncomputable section
theorem out_ex {X : XT} {g : Nat} {p x : Value} {e : Int} {μ : Mem} (hp : one p = true) (hx : one x = true) (he : e = 0 ∨ e = 11) (hg : 20 ≤ g) : ∃ a b c d μ', aFun Tryz.prog (jat Tryz.prog X S0 g) 32 [.agg #[p, x], .int .i64 e] μ = some (.tuple #[.agg #[a, b, c, d], .int .i64 e], μ') ∧ (one a = true ∧ one b = true ∧ one c = true ∧ one d = true) ∧ Grow μ μ' := by
 obtain ⟨k, rfl⟩ := gle hg
 obtain ⟨μ1, hμ1⟩ : ∃ μ1 : Mem, μ1 = ⟨μ.obs.set μ.next (obIv p x), μ.next + 1⟩ := ⟨_, rfl⟩
 have hN : Blk ⟨μ1.obs.set μ1.next obN, μ1.next + 1⟩ μ1.next 4 29 := blkN
 have hst := st_N (a := .bool false) (b := .float .f64 0) hN rfl rfl hp hx
 have hst0 := st_N (a := .bool false) (b := .float .f64 0) (x := .bool false) (y := .slice none 0 0) hN rfl rfl rfl rfl
 have hld := ld_N (a := .bool false) (b := .float .f64 0) (x := p) (y := x) hN
 have hld0 := ld_N (a := .bool false) (b := .float .f64 0) (x := .bool false) (y := .slice none 0 0) hN
 have hi : jci Tryz.prog ⟨μ1.obs.set μ1.next obN, μ1.next + 1⟩ 27 (.pointer (some ⟨μ.next, 0, none⟩)) = some (.agg #[p, x]) := by
  have h0 : μ1.obs.get μ.next = some (obIv p x) := by rw [hμ1]; show T.get _ _ = _; rw [T.get_set, if_pos rfl]
  have h1 : (⟨μ1.obs.set μ1.next obN, μ1.next + 1⟩ : Mem).obs.get μ.next = some (obIv p x) := by
   show T.get (T.set _ _ _) _ = _
   rw [T.get_set, if_neg (by rw [hμ1]; show μ.next ≠ μ.next + 1; omega), h0]
  exact (Has.new (l := [p, x]) h1).load Tryz.underlying27 i_Int rfl
 have hG : Grow μ μ1 := by rw [hμ1]; exact jb2 _ _
 have hb : ∀ (r : Rg) (y : Operand), aev Tryz.prog r y = .agg #[p, x] → jb9 Tryz.prog (aev Tryz.prog r) 29 #[(2, y)] = some (.agg #[.bool false, .float .f64 0, p, x]) := fun r y g => ji4 g
 rcases he with rfl | rfl
 ·refine ⟨.bool false, .float .f64 0, p, x, _, jaQ ?_, ⟨rfl, rfl, hp, hx⟩, (hG.trans (jb2 μ1 obN)).put_new (o := 0) (vs := [.bool false, .float .f64 0, p, x]) hG.1⟩
  have z1 : ieq 0 0 = true := rfl
  rw [hμ1] at hst hld hi ⊢
  refine jan Tryz.func32 rfl rfl (nbl rfl) ?_
  simp only [go_sem, Tryz.ntmps32]
  repeat (first | refine jaf ?_ | ((first | (refine jad ?_ ?_; (focus rfl)) | (refine jac (gs := ?_) ?_ ?_; rotate_left; (focus rfl))); simp only [run1, go_sem, jgT, al_N, Nat.add_eq, z1, hi, hb, hst]) | (refine jab ?_ ?_; (focus (simp only [go_sem, jgT, al_N, Nat.add_eq, z1, hi, hb, hst]; done))) | (refine jaa ?_ ?_; (focus (simp only [go_sem, jgT, al_N, Nat.add_eq, z1, hi, hb, hst]; done))) | ((first | refine jaj ?_ | refine jai ?_ | refine jak ?_); try simp only [go_sem]) | refine jah ?_)
  refine jam ?_
  refine ⟨rfl, _, ?_, rfl, rfl⟩
  simp only [go_sem, Tryz.results32]
  rw [hld]
 ·refine ⟨.bool false, .float .f64 0, .bool false, .slice none 0 0, _, jaQ ?_, ⟨rfl, rfl, rfl, rfl⟩, (hG.trans (jb2 μ1 obN)).put_new (o := 0) (vs := [.bool false, .float .f64 0, .bool false, .slice none 0 0]) hG.1⟩
  have z1 : ieq 11 0 = false := rfl
  rw [hμ1] at hst0 hld0 ⊢
  refine jan Tryz.func32 rfl rfl (nbl rfl) ?_
  simp only [go_sem, Tryz.ntmps32]
  repeat (first | refine jaf ?_ | ((first | (refine jad ?_ ?_; (focus rfl)) | (refine jac (gs := ?_) ?_ ?_; rotate_left; (focus rfl))); simp only [run1, go_sem, jgT, al_N, Nat.add_eq, z1, jbR, hst0]) | (refine jab ?_ ?_; (focus (simp only [go_sem, jgT, al_N, Nat.add_eq, z1, jbR, hst0]; done))) | (refine jaa ?_ ?_; (focus (simp only [go_sem, jgT, al_N, Nat.add_eq, z1, jbR, hst0]; done))) | ((first | refine jaj ?_ | refine jai ?_ | refine jak ?_); try simp only [go_sem]) | refine jah ?_)
  refine jam ?_
  refine ⟨rfl, _, ?_, rfl, rfl⟩
  simp only [go_sem, Tryz.results32]
  rw [hld0]
theorem jib {s : ByteArray} (hl : (bys s).length ≤ 700) {X : XT} {g : Nat} {μ : Mem} (hX : jbr X) (hX2 : jbN X) (hL : Lay μ) (hg : 95000 ≤ g) :
  ∃ a b c d e μ', aFun Tryz.prog (jat Tryz.prog X S0 g) 17 [.string s] μ = some (.tuple #[.agg #[a, b, c, d], .int .i64 e], μ') ∧ (one a = true ∧ one b = true ∧ one c = true ∧ one d = true) ∧ (isInt s → e = 0 ∨ e = 11) ∧ (¬ isInt s → e = if jdW s then 0 else 13) ∧ Grow μ μ' := by
 obtain ⟨k, rfl⟩ := gle hg
 have hG1 : Grow μ ⟨μ.obs.set μ.next obN, μ.next + 1⟩ := jb2 μ obN
 obtain ⟨b, v, e, μ2, hr, he1, he2, hv, hG2⟩ := refInt_ex hl (X := X) (g := k + 94997) (μ := ⟨μ.obs.set μ.next obN, μ.next + 1⟩) (by omega)
 have hB2 : Blk μ2 μ.next 4 29 := blkN.of_get (hG2.2 μ.next (Nat.lt_succ_self _))
 have hst1 := st_I (x := .bool b) (y := v) (blkI (μ := μ2)) rfl hv
 have hld1 := ld_I (x := .bool b) (y := v) (blkI (μ := μ2))
 obtain ⟨μ4, hμ4⟩ : ∃ μ4, μ4 = putL ⟨μ2.obs.set μ2.next obI, μ2.next + 1⟩ μ2.next 0 [.bool b, v] := ⟨_, rfl⟩
 have hG4 : Grow μ2 μ4 := by rw [hμ4]; exact (jb2 μ2 obI).put_new (Nat.le_refl _)
 have hlt2 : μ.next < μ2.next := Nat.lt_of_lt_of_le (Nat.lt_succ_self _) hG2.1
 have hB4 : Blk μ4 μ.next 4 29 := hB2.of_get (hG4.2 μ.next hlt2)
 have hlt4 : μ.next < μ4.next := Nat.lt_of_lt_of_le hlt2 hG4.1
 rw [← hμ4] at hst1 hld1
 have hGa : Grow μ μ4 := (hG1.trans hG2).trans hG4
 have key : EndsF (aFun Tryz.prog (jat Tryz.prog X S0 (k + 95000)) 17 [.string s] μ) fun w μ' => ∃ a b c d e, w = .tuple #[.agg #[a, b, c, d], .int .i64 e] ∧ (one a = true ∧ one b = true ∧ one c = true ∧ one d = true) ∧ (isInt s → e = 0 ∨ e = 11) ∧ (¬ isInt s → e = if jdW s then 0 else 13) ∧ Grow μ μ' := by
  by_cases hI : isInt s
  ·obtain ⟨a, b', c, d, μ5, hr5, ⟨o1, o2, o3, o4⟩, hG5⟩ := out_ex (p := .bool b) (x := v) (e := e) (X := X) (g := k + 94993) (μ := μ4) rfl hv (he1 hI) (by omega)
   have hB5 : Blk μ5 μ.next 4 29 := hB4.of_get (hG5.2 μ.next hlt4)
   have hst := st_N hB5 o1 o2 o3 o4
   rcases he1 hI with rfl | rfl
   ·have z1 : ieq 0 0 = true := rfl
    refine jan Tryz.func17 rfl rfl (nbl rfl) ?_
    simp only [go_sem, Tryz.ntmps17]
    repeat (first | refine jaf ?_ | ((first | (refine jad ?_ ?_; (focus rfl)) | (refine jac (gs := ?_) ?_ ?_; rotate_left; (focus rfl))); simp only [run1, go_sem, undef, al_N, Nat.add_eq, gg31, hr, al_I, hst1, z1, hld1, gg32, hr5, hst]) | (refine jab ?_ ?_; (focus (simp only [go_sem, undef, al_N, Nat.add_eq, gg31, hr, al_I, hst1, z1, hld1, gg32, hr5, hst]; done))) | (refine jaa ?_ ?_; (focus (simp only [go_sem, undef, al_N, Nat.add_eq, gg31, hr, al_I, hst1, z1, hld1, gg32, hr5, hst]; done))) | ((first | refine jaj ?_ | refine jai ?_ | refine jak ?_); try simp only [go_sem]) | refine jah ?_)
    refine jam ?_
    refine ⟨rfl, .tuple #[.agg #[a, b', c, d], .int .i64 0], ?_, _, _, _, _, _, rfl, ⟨o1, o2, o3, o4⟩, fun _ => .inl rfl, fun h => absurd hI h, (hGa.trans hG5).put_new (Nat.le_refl _)⟩
    simp only [go_sem, Tryz.results17]
    rw [ld_N hB5]
   ·have z1 : ieq 11 0 = false := rfl
    have z2 : ieq 11 11 = true := rfl
    refine jan Tryz.func17 rfl rfl (nbl rfl) ?_
    simp only [go_sem, Tryz.ntmps17]
    repeat (first | refine jaf ?_ | ((first | (refine jad ?_ ?_; (focus rfl)) | (refine jac (gs := ?_) ?_ ?_; rotate_left; (focus rfl))); simp only [run1, go_sem, undef, al_N, Nat.add_eq, gg31, hr, al_I, hst1, z1, z2, hld1, gg32, hr5, hst]) | (refine jab ?_ ?_; (focus (simp only [go_sem, undef, al_N, Nat.add_eq, gg31, hr, al_I, hst1, z1, z2, hld1, gg32, hr5, hst]; done))) | (refine jaa ?_ ?_; (focus (simp only [go_sem, undef, al_N, Nat.add_eq, gg31, hr, al_I, hst1, z1, z2, hld1, gg32, hr5, hst]; done))) | ((first | refine jaj ?_ | refine jai ?_ | refine jak ?_); try simp only [go_sem]) | refine jah ?_)
    refine jam ?_
    refine ⟨rfl, .tuple #[.agg #[a, b', c, d], .int .i64 11], ?_, _, _, _, _, _, rfl, ⟨o1, o2, o3, o4⟩, fun _ => .inr rfl, fun h => absurd hI h, (hGa.trans hG5).put_new (Nat.le_refl _)⟩
    simp only [go_sem, Tryz.results17]
    rw [ld_N hB5]
  ·obtain rfl := he2 hI
   have z1 : ieq 13 0 = false := rfl
   have z2 : ieq 13 11 = false := rfl
   obtain ⟨f, μ5, hr5, hG5⟩ := refFlo_ex hl (X := X) (g := k + 94995) (μ := μ4) hX hX2 (hL.grow hGa) (by omega)
   cases hf : jdW s with
   | true =>
     rw [hf, if_pos rfl] at hr5
     have z3 : ieq 0 0 = true := rfl
     obtain ⟨_, ⟨μ6, hr6, hG6⟩⟩ := flo_num (f := f) (X := X) (g := k + 94993) (μ := μ5) (by omega)
     have hB6 : Blk μ6 μ.next 4 29 := hB4.of_get ((hG5.trans hG6).2 μ.next hlt4)
     have hst := st_N (a := .bool true) (b := .float .f64 f) (x := .bool false) (y := .slice none 0 0) hB6 rfl rfl rfl rfl
     refine jan Tryz.func17 rfl rfl (nbl rfl) ?_
     simp only [go_sem, Tryz.ntmps17]
     repeat (first | refine jaf ?_ | ((first | (refine jad ?_ ?_; (focus rfl)) | (refine jac (gs := ?_) ?_ ?_; rotate_left; (focus rfl))); simp only [run1, go_sem, undef, al_N, Nat.add_eq, gg31, hr, al_I, hst1, z1, z2, gg33, hr5, z3, gg34, hr6, hst]) | (refine jab ?_ ?_; (focus (simp only [go_sem, undef, al_N, Nat.add_eq, gg31, hr, al_I, hst1, z1, z2, gg33, hr5, z3, gg34, hr6, hst]; done))) | (refine jaa ?_ ?_; (focus (simp only [go_sem, undef, al_N, Nat.add_eq, gg31, hr, al_I, hst1, z1, z2, gg33, hr5, z3, gg34, hr6, hst]; done))) | ((first | refine jaj ?_ | refine jai ?_ | refine jak ?_); try simp only [go_sem]) | refine jah ?_)
     refine jam ?_
     refine ⟨rfl, .tuple #[.agg #[.bool true, .float .f64 f, .bool false, .slice none 0 0], .int .i64 0], ?_, _, _, _, _, _, rfl, ⟨rfl, rfl, rfl, rfl⟩, fun h => absurd h hI, fun _ => rfl, ((hGa.trans hG5).trans hG6).put_new (Nat.le_refl _)⟩
     simp only [go_sem, Tryz.results17]
     rw [ld_N hB6]
   | false =>
     rw [hf, if_neg (by decide)] at hr5
     have z3 : ieq 31 0 = false := rfl
     have hB5 : Blk μ5 μ.next 4 29 := hB4.of_get (hG5.2 μ.next hlt4)
     have hst := st_N (a := .bool false) (b := .float .f64 0) (x := .bool false) (y := .slice none 0 0) hB5 rfl rfl rfl rfl
     refine jan Tryz.func17 rfl rfl (nbl rfl) ?_
     simp only [go_sem, Tryz.ntmps17]
     repeat (first | refine jaf ?_ | ((first | (refine jad ?_ ?_; (focus rfl)) | (refine jac (gs := ?_) ?_ ?_; rotate_left; (focus rfl))); simp only [run1, go_sem, undef, al_N, Nat.add_eq, gg31, hr, al_I, hst1, z1, z2, gg33, hr5, z3, jbR, hst]) | (refine jab ?_ ?_; (focus (simp only [go_sem, undef, al_N, Nat.add_eq, gg31, hr, al_I, hst1, z1, z2, gg33, hr5, z3, jbR, hst]; done))) | (refine jaa ?_ ?_; (focus (simp only [go_sem, undef, al_N, Nat.add_eq, gg31, hr, al_I, hst1, z1, z2, gg33, hr5, z3, jbR, hst]; done))) | ((first | refine jaj ?_ | refine jai ?_ | refine jak ?_); try simp only [go_sem]) | refine jah ?_)
     refine jam ?_
     refine ⟨rfl, .tuple #[.agg #[.bool false, .float .f64 0, .bool false, .slice none 0 0], .int .i64 13], ?_, _, _, _, _, _, rfl, ⟨rfl, rfl, rfl, rfl⟩, fun h => absurd h hI, fun _ => rfl, (hGa.trans hG5).put_new (Nat.le_refl _)⟩
     simp only [go_sem, Tryz.results17]
     rw [ld_N hB5]
 obtain ⟨w, μ', h1, a, b, c, d, e, rfl, h2, h3, h4, h5⟩ := key
 exact ⟨a, b, c, d, e, μ', h1, h2, h3, h4, h5⟩
end
noncomputable section
def jgC (s : ByteArray) : Bool := by
 classical exact if isInt s then false else !jdW s
theorem jgj {s : ByteArray} {e : Int} (h1 : isInt s → e = 0 ∨ e = 11) (h2 : ¬ isInt s → e = if jdW s then 0 else 13) : ieq e 13 = jgC s := by
 unfold jgC
 by_cases hI : isInt s
 ·rw [if_pos hI]
  rcases h1 hI with rfl | rfl <;> rfl
 ·rw [if_neg hI]
  have h2 := h2 hI
  cases hf : jdW s with
  | true => rw [hf, if_pos rfl] at h2; subst h2; rfl
  | false => rw [hf, if_neg (by decide)] at h2; subst h2; rfl
theorem pn_yes {s : ByteArray} (h : Head s ∧ jde s) {X : XT} {g : Nat} {μ : Mem} (hX : jbr X) (hX2 : jbN X) (hL : Lay μ) (hg : 100000 ≤ g) : ∃ μ', aFun Tryz.prog (jat Tryz.prog X S0 g) 5 [.string s] μ = some (.bool (jgC s), μ') ∧ Grow μ μ' := by
 obtain ⟨k, rfl⟩ := gle hg
 obtain ⟨⟨z1, z2, z3⟩, hp⟩ := h
 have ls := ja5 s
 have e1 : ieq (.ofNat (bys s).length) 0 = false := (jaO _ 0 0 rfl).trans (decide_eq_false (by omega))
 have e2 : ilt 40 (.ofNat (bys s).length) = false := (jav 40 _).trans (decide_eq_false (by omega))
 have e3 : aStr .eql s ⟨List.toArray [46]⟩ = some (.bool false) := (str_eq s dotS).trans (by rw [decide_eq_false z3])
 obtain ⟨a, b, c, d, e, μ1, hr, ⟨o1, o2, o3, o4⟩, he1, he2, hG⟩ := jgt (s := s) (by omega) (X := X) (g := k + 99995) (μ := μ) hX hX2 hL (by omega)
 have hst := st_N (blkN (μ := μ1)) o1 o2 o3 o4
 have hq := jgj he1 he2
 have key : EndsF (aFun Tryz.prog (jat Tryz.prog X S0 (k + 100000)) 5 [.string s] μ) fun w μ' => w = .bool (jgC s) ∧ Grow μ μ' := by
  refine jan Tryz.func5 rfl rfl (nbl rfl) ?_
  simp only [go_sem, Tryz.ntmps5]
  refine jaf ?_
  refine jad ?_ ?_
  ·rfl
  simp only [go_sem]
  refine jaf ?_
  refine jaf ?_
  refine jac (gs := ?_) ?_ ?_
  rotate_left
  ·rfl
  iterate 12 (refine jal (by first | rfl | (simp only [go_sem, undef, jae, ls, jag, e1, e2, e3])) (by simp only [go_sem, undef, jae, ls, jag, e1, e2, e3]; try exact rfl) rfl ?_)
  simp only [go_sem]
  repeat (first | refine jaf ?_ | ((first | (refine jad ?_ ?_; (focus rfl)) | (refine jac (gs := ?_) ?_ ?_; rotate_left; (focus rfl))); simp only [run1, go_sem, jae, ls, jag]) | (refine jab ?_ ?_; (focus (simp only [go_sem, jae, ls, jag]; done))) | (refine jaa ?_ ?_; (focus (simp only [go_sem, jae, ls, jag]; done))) | ((first | refine jaj ?_ | refine jai ?_ | refine jak ?_); try simp only [go_sem]) | refine jah ?_)
  rw [show k + 99995 = (k + 99965 - (bys s).length) + (bys s).length + 30 from by omega]
  refine EndsC.mono (pn_loop (by omega) (bys s).length 0 (Nat.zero_add _) (by simp only [go_sem]) (by simp only [go_sem]) (by simp only [go_sem]; try rfl) (by simp only [go_sem])) ?_
  rintro x r μ' ⟨rfl, tm', rfl, h0, h2, ⟨h5, rfl⟩ | ⟨⟨c', hc1, hc2⟩, -⟩⟩
  ·simp only [ja4, reduceIte, jao]
   repeat (first | refine jaf ?_ | ((first | (refine jad ?_ ?_; (focus rfl)) | (refine jac (gs := ?_) ?_ ?_; rotate_left; (focus rfl))); simp only [run1, go_sem, h0, gg15, hr, al_N, Nat.add_eq, hst, hq]) | (refine jab ?_ ?_; (focus (simp only [go_sem, h0, gg15, hr, al_N, Nat.add_eq, hst, hq]; done))) | (refine jaa ?_ ?_; (focus (simp only [go_sem, h0, gg15, hr, al_N, Nat.add_eq, hst, hq]; done))) | ((first | refine jaj ?_ | refine jai ?_ | refine jak ?_); try simp only [go_sem]) | refine jah ?_)
   refine jam ?_
   refine ⟨rfl, .bool (jgC s), ?_, rfl, (hG.trans (jb2 μ1 obN)).put_new hG.1⟩
   simp only [go_sem, Tryz.results5]
  ·rw [List.drop_zero] at hc1
   rw [hp c' hc1] at hc2
   cases hc2
 obtain ⟨w, μ', h1, rfl, h2⟩ := key
 exact ⟨μ', h1, h2⟩
theorem rn_yes {s : ByteArray} (h : Head s ∧ jde s) {X : XT} {g : Nat} {μ : Mem} (hX : jbr X) (hX2 : jbN X) (hL : Lay μ) (hg : 100000 ≤ g) : ∃ μ', aFun Tryz.prog (jat Tryz.prog X S0 g) 6 [.string s] μ = some (.bool (jgC s), μ') ∧ Grow μ μ' := by
 obtain ⟨k, rfl⟩ := gle hg
 obtain ⟨⟨z1, z2, z3⟩, hp⟩ := h
 have ls := ja5 s
 have e1 : ilt (.ofNat (bys s).length) 1 = false := (jbx _ 1 1 rfl).trans (decide_eq_false (by omega))
 have e2 : ilt 40 (.ofNat (bys s).length) = false := (jav 40 _).trans (decide_eq_false (by omega))
 have e3 : aStr .eql s ⟨List.toArray [46]⟩ = some (.bool false) := (str_eq s dotS).trans (by rw [decide_eq_false z3])
 obtain ⟨a, b, c, d, e, μ1, hr, ⟨o1, o2, o3, o4⟩, he1, he2, hG⟩ := jib (s := s) (by omega) (X := X) (g := k + 99995) (μ := μ) hX hX2 hL (by omega)
 have hst := st_N (blkN (μ := μ1)) o1 o2 o3 o4
 have hq := jgj he1 he2
 have key : EndsF (aFun Tryz.prog (jat Tryz.prog X S0 (k + 100000)) 6 [.string s] μ) fun w μ' => w = .bool (jgC s) ∧ Grow μ μ' := by
  refine jan Tryz.func6 rfl rfl (nbl rfl) ?_
  simp only [go_sem, Tryz.ntmps6]
  refine jaf ?_
  refine jad ?_ ?_
  ·rfl
  simp only [go_sem]
  refine jaf ?_
  refine jaf ?_
  refine jac (gs := ?_) ?_ ?_
  rotate_left
  ·rfl
  iterate 12 (refine jal (by first | rfl | (simp only [go_sem, undef, jae, ls, jag, e1, e2, e3])) (by simp only [go_sem, undef, jae, ls, jag, e1, e2, e3]; try exact rfl) rfl ?_)
  simp only [go_sem]
  repeat (first | refine jaf ?_ | ((first | (refine jad ?_ ?_; (focus rfl)) | (refine jac (gs := ?_) ?_ ?_; rotate_left; (focus rfl))); simp only [run1, go_sem, jae, ls, jag]) | (refine jab ?_ ?_; (focus (simp only [go_sem, jae, ls, jag]; done))) | (refine jaa ?_ ?_; (focus (simp only [go_sem, jae, ls, jag]; done))) | ((first | refine jaj ?_ | refine jai ?_ | refine jak ?_); try simp only [go_sem]) | refine jah ?_)
  rw [show k + 99995 = (k + 99965 - (bys s).length) + (bys s).length + 30 from by omega]
  refine EndsC.mono (rn_loop (by omega) (bys s).length 0 (Nat.zero_add _) (by simp only [go_sem]) (by simp only [go_sem]) (by simp only [go_sem]; try rfl)) ?_
  rintro x r μ' ⟨rfl, tm', rfl, h0, h2, ⟨h5, rfl⟩ | ⟨⟨c', hc1, hc2⟩, -⟩⟩
  ·simp only [ja4, reduceIte, jao]
   repeat (first | refine jaf ?_ | ((first | (refine jad ?_ ?_; (focus rfl)) | (refine jac (gs := ?_) ?_ ?_; rotate_left; (focus rfl))); simp only [run1, go_sem, h0, gg17, hr, al_N, Nat.add_eq, hst, hq]) | (refine jab ?_ ?_; (focus (simp only [go_sem, h0, gg17, hr, al_N, Nat.add_eq, hst, hq]; done))) | (refine jaa ?_ ?_; (focus (simp only [go_sem, h0, gg17, hr, al_N, Nat.add_eq, hst, hq]; done))) | ((first | refine jaj ?_ | refine jai ?_ | refine jak ?_); try simp only [go_sem]) | refine jah ?_)
   refine jam ?_
   refine ⟨rfl, .bool (jgC s), ?_, rfl, (hG.trans (jb2 μ1 obN)).put_new hG.1⟩
   simp only [go_sem, Tryz.results6]
  ·rw [List.drop_zero] at hc1
   rw [hp c' hc1] at hc2
   cases hc2
 obtain ⟨w, μ', h1, rfl, h2⟩ := key
 exact ⟨μ', h1, h2⟩
theorem names_ex (s : ByteArray) : ∃ b, ∀ {X : XT} {g : Nat} {μ : Mem}, jbr X → jbN X → Lay μ → 100000 ≤ g → (∃ μ', aFun Tryz.prog (jat Tryz.prog X S0 g) 5 [.string s] μ = some (.bool b, μ') ∧ Grow μ μ') ∧ ∃ μ', aFun Tryz.prog (jat Tryz.prog X S0 g) 6 [.string s] μ = some (.bool b, μ') ∧ Grow μ μ' := by
 by_cases h : Head s ∧ jde s
 ·exact ⟨jgC s, fun hX hX2 hL hg => ⟨pn_yes h hX hX2 hL hg, rn_yes h hX hX2 hL hg⟩⟩
 ·exact ⟨false, fun hX hX2 hL hg => ⟨⟨_, pn_no h (by omega), Grow.refl _⟩, ⟨_, rn_no h (by omega), Grow.refl _⟩⟩⟩
end
noncomputable section
theorem law_ex (s : ByteArray) {X : XT} {g : Nat} {μ : Mem} (hX : jbr X) (hX2 : jbN X) (hL : Lay μ) (hg : 100010 ≤ g) (hal : ∀ k, jbL Tryz.prog (jat Tryz.prog X S0 k) S0 4 [] μ = some (.bool true, μ)) :
  ∃ μ', aFun Tryz.prog (jat Tryz.prog X S0 g) 3 [.string s] μ = some (.bool true, μ') ∧ Grow μ μ' := by
 obtain ⟨k, rfl⟩ := gle hg
 obtain ⟨b, hb⟩ := names_ex s
 obtain ⟨⟨μ1, h1, G1⟩, _⟩ := hb (X := X) (g := k + 100007) (μ := μ) hX hX2 hL (by omega)
 obtain ⟨_, ⟨μ2, h2, G2⟩⟩ := hb (X := X) (g := k + 100007) (μ := μ1) hX hX2 (hL.grow G1) (by omega)
 have q : ∀ (r : Rg) (d : Option Tmp) (ty : TypeId) (x y : Operand) (ps : String) (af : Array Edge) (gd : Option (Nat × Bool)), aev Tryz.prog r x = .bool b → aev Tryz.prog r y = .bool b → ja0 Tryz.prog (aev Tryz.prog r) ⟨d, .binOp .eql 4 x y 4, ty, ps, af, gd⟩ = some (.bool true) := fun r d ty x y ps af gd g1 g2 => by rw [eqb g1 g2]; cases b <;> rfl
 have key : EndsF (aFun Tryz.prog (jat Tryz.prog X S0 (k + 100010)) 3 [.string s] μ) fun w μ' => w = .bool true ∧ Grow μ μ' := by
  refine jan Tryz.func3 rfl rfl (nbl rfl) ?_
  simp only [go_sem, Tryz.ntmps3]
  repeat (first | refine jaf ?_ | ((first | (refine jad ?_ ?_; (focus rfl)) | (refine jac (gs := ?_) ?_ ?_; rotate_left; (focus rfl))); simp only [run1, go_sem, jdX (P := Tryz.prog) Tryz.func4 rfl, hal, gg5, h1, gg6, h2, anb, q]) | (refine jab ?_ ?_; (focus (simp only [go_sem, jdX (P := Tryz.prog) Tryz.func4 rfl, hal, gg5, h1, gg6, h2, anb, q]; done))) | (refine jaa ?_ ?_; (focus (simp only [go_sem, jdX (P := Tryz.prog) Tryz.func4 rfl, hal, gg5, h1, gg6, h2, anb, q]; done))) | ((first | refine jaj ?_ | refine jai ?_ | refine jak ?_); try simp only [go_sem]) | refine jah ?_)
  refine jam ?_
  refine ⟨rfl, .bool true, ?_, rfl, G1.trans G2⟩
  simp only [go_sem, Tryz.results3]
 obtain ⟨w, μ', h1, rfl, h2⟩ := key
 exact ⟨μ', h1, h2⟩
end
noncomputable section
structure Pins (J : Nat → Ev.Loc) (W : World) (b : Nat) (o : Ob) : Prop where
 live : o ≠ .dead
 bnd : b < W.heap.size
 ob : ObRel J W b 0 o
 back : ∀ (J' : Nat → Ev.Loc) (w' : World), ObRel J' w' b 0 o → w'.heap[b]? = W.heap[b]?
theorem jgz {J : Nat → Ev.Loc} {W : World} {b : Nat} {l : List Value} {ty : TypeId} (h : W.heap[b]? = some (.cells l.toArray ty (0, 0))) (hp : ∀ v ∈ l, jaV 5 v = true) : Pins J W b (.rom l ty) :=
 ⟨by simp, (Array.getElem?_eq_some_iff.1 h).1, ⟨h, fun v hv => ja6 5 (hp v hv)⟩, fun J' w' (h' : _ ∧ _) => h'.1.trans h.symm⟩
theorem pins_held {J : Nat → Ev.Loc} {W : World} {b : Nat} {c : Array Value} {ty : TypeId} {fz : Nat × Nat} (h : W.heap[b]? = some (.cells c ty fz)) : Pins J W b (.held c ty fz) :=
 ⟨by simp, (Array.getElem?_eq_some_iff.1 h).1, h, fun J' w' h' => (show w'.heap[b]? = some (.cells c ty fz) from h').trans h.symm⟩
theorem jec {J : Nat → Ev.Loc} {W : World} {b : Nat} {l : List Value} {c : Array Value} {ty : TypeId} {fz : Nat × Nat} (h : W.heap[b]? = some (.cells c ty fz)) (hv : ARel J l.toArray c) : Pins J W b (.pin l c ty fz) :=
 ⟨by simp, (Array.getElem?_eq_some_iff.1 h).1, ⟨h, hv⟩, fun J' w' (h' : _ ∧ _) => h'.1.trans h.symm⟩
structure HandsP (P : Program) (W : World) (nx : Nat) (J : Nat → Ev.Loc) (t : T Ob) : Prop where
 loc : ∀ i, J i = jbj nx i ∨ ∃ b o, J i = .at b 0 ∧ i ≠ P.globals.size ∧ i < nx ∧ (i < P.globals.size → b = i) ∧ t.get i = some o ∧ Pins J W b o
 inj : ∀ i j b, J i = .at b 0 → J j = .at b 0 → i = j
 only : ∀ i o, t.get i = some o → ∃ b, J i = .at b 0
theorem jiR (nx i b s : Nat) : jbj nx i ≠ .at b s := fun e => by unfold jbj at e; split at e <;> cases e
theorem jhB {P : Program} {X : XT} (hN : jcJ P) (hX : XOk P X) (hm : P.follows .mixedOrders = true) {S : List (FuncId × LK)} (hS : SumsOk P S) {k : Nat} {g : FuncId} {nx : Nat} (hnx : P.globals.size < nx) {W : World} {J : Nat → Ev.Loc} {t : T Ob} (h : HandsP P W nx J t)
  {args : List Value} {args' : Array Value} (ha : ARel J args.toArray args') {v : Value} {μ' : Mem} (hrun : aFun P (jat P X S k) g args ⟨t, nx⟩ = some (v, μ')) (hk : ∀ i, i < nx → μ'.obs.get i = t.get i) (hpv : jaV 5 v = true) :
  Calls P g args' W fun e W' => e = .returned v ∧ Same W W' := by
 have at0 : ∀ {i b s}, J i = .at b s → s = 0 ∧ i ≠ P.globals.size ∧ i < nx ∧ (i < P.globals.size → b = i) ∧ ∃ o, t.get i = some o ∧ Pins J W b o := fun {i b s} e => by
  rcases h.loc i with e1 | ⟨b1, o1, e1, h1, h2, h3, h4, h5⟩
  ·rw [e1] at e; exact absurd e (jiR _ _ _ _)
  ·rw [e1] at e; cases e; exact ⟨rfl, h1, h2, h3, o1, h4, h5⟩
 have nk : ∀ i, (i = P.globals.size ∨ nx ≤ i) → J i = jbj nx i := fun i hi => by
  rcases h.loc i with e1 | ⟨b1, o1, e1, h1, h2, _⟩
  ·exact e1
  ·omega
 have hr : Rel J ⟨t, nx⟩ W := by
  refine ⟨fun i j b s t2 e1 e2 => ?_, fun i b s e => ?_, fun i hi => ?_, fun i o ho _ => ?_⟩
  ·obtain ⟨rfl, _⟩ := at0 e1
   obtain ⟨rfl, _⟩ := at0 e2
   exact h.inj i j b e1 e2
  ·obtain ⟨_, _, _, _, o, _, h4⟩ := at0 e
   exact h4.bnd
  ·rw [nk i (.inr hi)]; exact if_neg (Nat.not_lt.2 hi)
  ·obtain ⟨b, e⟩ := h.only i o ho
   have ho' : t.get i = some o := ho
   obtain ⟨_, _, _, _, o2, h3, h4⟩ := at0 e
   rw [h3] at ho'
   cases ho'
   exact ⟨b, 0, e, h4.ob⟩
 have hB : Base P J := by
  refine ⟨fun g hg => ?_, ?_⟩
  ·rcases h.loc g with e1 | ⟨b1, o1, e1, h1, h2, h3, _⟩
   ·exact .inr (by rw [e1]; exact if_pos (Nat.lt_trans hg hnx))
   ·obtain rfl := h3 hg
    exact .inl ⟨0, e1⟩
  ·rw [nk _ (.inl rfl)]; exact if_pos hnx
 refine callsIn_wide.1 (jgi (jgP hN hX hm hS k).1 g args _ _ μ' hrun _ W args' hr hB ha 0 _ fun J' v' w' h1 h2 h3 => ?_)
 refine ⟨by rw [jeb 5 hpv h1], h3.os, h3.output, h3.size, fun b2 hb2 => ?_, h3.tape⟩
 by_cases hex : ∃ i, J i = .at b2 0
 ·obtain ⟨i, e⟩ := hex
  obtain ⟨_, _, hi, _, o, h5, h6⟩ := at0 e
  obtain ⟨b3, s3, hJ, hob⟩ := h2.obj i _ ((hk i hi).trans h5) h6.live
  rcases h3.at_ _ _ _ e with e3 | ⟨e3, _⟩
  ·rw [e3] at hJ; cases hJ; exact h6.back J' w' hob
  ·rw [e3] at hJ; cases hJ
 ·refine h3.frame b2 hb2 fun i s e => ?_
  obtain ⟨rfl, _⟩ := at0 e
  exact absurd ⟨i, e⟩ hex
abbrev Ent := Nat × Nat × Ob
def jE (nx : Nat) : List Ent → Nat → Ev.Loc
 | [], i => jbj nx i
 | x :: r, i => if i = x.1 then .at x.2.1 0 else jE nx r i
def tE : List Ent → T Ob
 | [] => .e
 | x :: r => (tE r).set x.1 x.2.2
theorem jE_at {nx : Nat} : ∀ {E : List Ent} {i b s : Nat}, jE nx E i = .at b s → s = 0 ∧ ∃ o, (i, b, o) ∈ E
 | [], i, b, s, h => absurd h (jiR _ _ _ _)
 | x :: r, i, b, s, h => by
   unfold jE at h
   by_cases g : i = x.1
   ·rw [if_pos g] at h; cases h; subst g; exact ⟨rfl, x.2.2, List.mem_cons_self ..⟩
   ·rw [if_neg g] at h
    obtain ⟨h1, o, h2⟩ := jE_at h
    exact ⟨h1, o, List.mem_cons_of_mem _ h2⟩
theorem jE_none {nx : Nat} : ∀ {E : List Ent} {i : Nat}, (∀ b, jE nx E i ≠ .at b 0) → jE nx E i = jbj nx i
 | [], i, _ => rfl
 | x :: r, i, h => by
   unfold jE at h ⊢
   by_cases g : i = x.1
   ·exact absurd (if_pos g) (h x.2.1)
   ·rw [if_neg g]; exact jE_none fun b e => h b ((if_neg g).trans e)
theorem jE_mem {nx : Nat} : ∀ {E : List Ent}, (E.map (·.1)).Nodup → ∀ x ∈ E, jE nx E x.1 = .at x.2.1 0
 | [], _, x, h => by cases h
 | y :: r, hn, x, h => by
   rw [List.map_cons, List.nodup_cons] at hn
   unfold jE
   rcases List.mem_cons.1 h with rfl | h
   ·exact if_pos rfl
   ·rw [if_neg (show x.1 ≠ y.1 from fun e => hn.1 (e ▸ List.mem_map_of_mem (f := fun z : Ent => z.1) h))]
    exact jE_mem hn.2 x h
theorem tE_mem : ∀ {E : List Ent}, (E.map (·.1)).Nodup → ∀ x ∈ E, (tE E).get x.1 = some x.2.2
 | [], _, x, h => by cases h
 | y :: r, hn, x, h => by
   rw [List.map_cons, List.nodup_cons] at hn
   unfold tE
   rcases List.mem_cons.1 h with rfl | h
   ·rw [T.get_set, if_pos rfl]
   ·rw [T.get_set, if_neg (show x.1 ≠ y.1 from fun e => hn.1 (e ▸ List.mem_map_of_mem (f := fun z : Ent => z.1) h))]
    exact tE_mem hn.2 x h
theorem tE_some : ∀ {E : List Ent} {i : Nat} {o : Ob}, (tE E).get i = some o → ∃ x ∈ E, x.1 = i
 | [], i, o, h => by unfold tE at h; rw [T.get_e] at h; cases h
 | y :: r, i, o, h => by
   unfold tE at h
   rw [T.get_set] at h
   by_cases g : i = y.1
   ·exact ⟨y, List.mem_cons_self .., g.symm⟩
   ·rw [if_neg g] at h
    obtain ⟨x, h1, h2⟩ := tE_some h
    exact ⟨x, List.mem_cons_of_mem _ h1, h2⟩
theorem jga : ∀ {E : List Ent}, (E.map (·.2.1)).Nodup → ∀ {x y : Ent}, x ∈ E → y ∈ E → x.2.1 = y.2.1 → x = y
 | [], _, x, y, h, _, _ => by cases h
 | z :: r, hn, x, y, hx, hy, e => by
   rw [List.map_cons, List.nodup_cons] at hn
   rcases List.mem_cons.1 hx with h1 | h1
   ·rcases List.mem_cons.1 hy with h2 | h2
    ·rw [h1, h2]
    ·rw [h1] at e
     exact absurd (e ▸ List.mem_map_of_mem (f := fun z : Ent => z.2.1) h2) hn.1
   ·rcases List.mem_cons.1 hy with h2 | h2
    ·rw [h2] at e
     exact absurd (e ▸ List.mem_map_of_mem (f := fun z : Ent => z.2.1) h1) hn.1
    ·exact jga hn.2 h1 h2 e
theorem jjK {P : Program} {W : World} {nx : Nat} {E : List Ent} (h1 : (E.map (·.1)).Nodup) (h2 : (E.map (·.2.1)).Nodup) (h3 : ∀ x ∈ E, x.1 ≠ P.globals.size ∧ x.1 < nx ∧ (x.1 < P.globals.size → x.2.1 = x.1) ∧ Pins (jE nx E) W x.2.1 x.2.2) : HandsP P W nx (jE nx E) (tE E) := by
 refine ⟨fun i => ?_, fun i j b e1 e2 => ?_, fun i o ho => ?_⟩
 ·by_cases hex : ∃ b, jE nx E i = .at b 0
  ·obtain ⟨b, e⟩ := hex
   obtain ⟨_, o, hm⟩ := jE_at e
   obtain ⟨g1, g2, g3, g4⟩ := h3 _ hm
   exact .inr ⟨b, o, e, g1, g2, g3, tE_mem h1 _ hm, g4⟩
  ·exact .inl (jE_none fun b e => hex ⟨b, e⟩)
 ·obtain ⟨_, o1, m1⟩ := jE_at e1
  obtain ⟨_, o2, m2⟩ := jE_at e2
  exact congrArg (·.1) (jga h2 m1 m2 rfl)
 ·obtain ⟨x, hx, rfl⟩ := tE_some ho
  exact ⟨_, jE_mem h1 x hx⟩
abbrev Arr := Nat × Array Value × TypeId
def arrE : List Nat → Nat → List Arr → List Ent
 | _, _, [] => []
 | seen, n, x :: r => if x.1 ∈ seen then arrE seen (n + 1) r else (n, x.1, .held x.2.1 x.2.2 (0, 0)) :: arrE (x.1 :: seen) (n + 1) r
theorem jfK : ∀ {seen : List Nat} {n : Nat} {l : List Arr} {x : Ent}, x ∈ arrE seen n l → n ≤ x.1 ∧ x.1 < n + l.length ∧ x.2.1 ∉ seen ∧ ∃ y ∈ l, x.2.1 = y.1 ∧ x.2.2 = .held y.2.1 y.2.2 (0, 0)
 | seen, n, [], x, h => by cases h
 | seen, n, y :: r, x, h => by
   unfold arrE at h
   by_cases g : y.1 ∈ seen
   ·rw [if_pos g] at h
    obtain ⟨h1, h2, h3, z, h4, h5⟩ := jfK h
    exact ⟨by omega, by simp only [List.length_cons]; omega, h3, z, List.mem_cons_of_mem _ h4, h5⟩
   ·rw [if_neg g] at h
    rcases List.mem_cons.1 h with rfl | h
    ·exact ⟨Nat.le_refl _, by simp only [List.length_cons]; omega, g, y, List.mem_cons_self .., rfl, rfl⟩
    ·obtain ⟨h1, h2, h3, z, h4, h5⟩ := jfK h
     exact ⟨by omega, by simp only [List.length_cons]; omega, fun e => h3 (List.mem_cons_of_mem _ e), z, List.mem_cons_of_mem _ h4, h5⟩
theorem jiy : ∀ {seen : List Nat} {n : Nat} {l : List Arr}, ((arrE seen n l).map (·.1)).Nodup
 | seen, n, [] => List.nodup_nil
 | seen, n, y :: r => by
   unfold arrE
   by_cases g : y.1 ∈ seen
   ·rw [if_pos g]; exact jiy
   ·rw [if_neg g, List.map_cons, List.nodup_cons]
    refine ⟨fun h => ?_, jiy⟩
    obtain ⟨x, h1, h2⟩ := List.mem_map.1 h
    have h2 : x.1 = n := h2
    have := (jfK h1).1
    omega
theorem jeN : ∀ {seen : List Nat} {n : Nat} {l : List Arr}, ((arrE seen n l).map (·.2.1)).Nodup
 | seen, n, [] => List.nodup_nil
 | seen, n, y :: r => by
   unfold arrE
   by_cases g : y.1 ∈ seen
   ·rw [if_pos g]; exact jeN
   ·rw [if_neg g, List.map_cons, List.nodup_cons]
    refine ⟨fun h => ?_, jeN⟩
    obtain ⟨x, h1, h2⟩ := List.mem_map.1 h
    have h2 : x.2.1 = y.1 := h2
    exact (jfK h1).2.2.1 (h2 ▸ List.mem_cons_self ..)
theorem jfL : ∀ {seen : List Nat} {n : Nat} {l : List Arr} {y : Arr}, y ∈ l → (∀ z ∈ l, z.1 = y.1 → z = y) → y.1 ∉ seen → ∃ id, (id, y.1, .held y.2.1 y.2.2 (0, 0)) ∈ arrE seen n l
 | seen, n, [], y, h, _, _ => by cases h
 | seen, n, x :: r, y, h, hs, hn => by
   unfold arrE
   by_cases e : x.1 = y.1
   ·obtain rfl := hs x (List.mem_cons_self ..) e
    rw [if_neg hn]
    exact ⟨n, List.mem_cons_self ..⟩
   ·have hr : y ∈ r := by
     rcases List.mem_cons.1 h with rfl | h
     ·exact absurd rfl e
     ·exact h
    by_cases g : x.1 ∈ seen
    ·rw [if_pos g]
     exact jfL hr (fun z hz => hs z (List.mem_cons_of_mem _ hz)) hn
    ·rw [if_neg g]
     obtain ⟨id, h1⟩ := jfL (seen := x.1 :: seen) (n := n + 1) hr (fun z hz => hs z (List.mem_cons_of_mem _ hz)) (fun h2 => (List.mem_cons.1 h2).elim (fun h3 => e h3.symm) hn)
     exact ⟨id, List.mem_cons_of_mem _ h1⟩
end
noncomputable section
structure SlAt (W : World) (g n : Nat) (y : Arr) (o cap : Nat) (t : TypeId) : Prop where
 head : W.heap[g]? = some (.cells #[.slice (some ⟨y.1, o, none⟩) n cap] t (0, 0))
 blk : W.heap[y.1]? = some (.cells y.2.1 y.2.2 (0, 0))
structure Laid (W : World) : Prop where
 opt : ∃ t, W.heap[(7 : Nat)]? = some (.cells [Value.bool true].toArray t (0, 0))
 fi : ∃ t, W.heap[(8 : Nat)]? = some (.cells [Value.int .u64 52, .int .u64 11, .int .i64 (-1023)].toArray t (0, 0))
 pt : ∃ t, W.heap[(13 : Nat)]? = some (.cells ptab.toArray t (0, 0))
 fp : ∃ y o cap t, SlAt W 12 23 y o cap t ∧ ∀ k, k < 23 → y.2.1[o + k]? = some (.float .f64 (fpows.getD k 0))
 pw : ∃ y o cap t, SlAt W 11 9 y o cap t ∧ ∀ k, k < 9 → y.2.1[o + k]? = some (.int .i64 (.ofNat (powts.getD k 0)))
 lc : ∃ y o cap t, SlAt W 14 61 y o cap t ∧ ∀ k, k < 61 → y.2.1[o + 2 * k]? = some (.int .i64 (.ofNat (dlt k))) ∧ y.2.1[o + 2 * k + 1]? = some (.string (cut k))
 er : ∃ t u v, W.heap[(5 : Nat)]? = some (.cells #[.iface u v] t (0, 0))
 es : ∃ t u v, W.heap[(4 : Nat)]? = some (.cells #[.iface u v] t (0, 0))
def bad : Value → Bool
 | .float _ _ => true
 | .string _ => true
 | .int .i64 (.ofNat 1) => true
 | _ => false
theorem apart {W : World} {g : Nat} {c : Array Value} {t : TypeId} {y : Arr} {k : Nat} {v : Value} (hg : W.heap[g]? = some (.cells c t (0, 0))) (hy : W.heap[y.1]? = some (.cells y.2.1 y.2.2 (0, 0))) (hk : y.2.1[k]? = some v) (hb : bad v = true) (hc : c.toList.all (fun v => !bad v) = true) : g ≠ y.1 := by
 rintro rfl
 rw [hg] at hy
 injection hy with hy
 injection hy with e1 e2 e3
 rw [← e1] at hk
 have h1 : v ∈ c.toList := by
  obtain ⟨h, rfl⟩ := Array.getElem?_eq_some_iff.1 hk
  exact Array.getElem_mem_toList h
 have := List.all_eq_true.1 hc v h1
 rw [hb] at this
 cases this
def okU : Value → Bool
 | .int .u64 (.ofNat n) => Nat.blt n 18446744073709551616
 | _ => false
theorem okU_u {v : Value} (h : okU v = true) : v = u (natOf v) := by
 unfold okU at h
 split at h
 ·rename_i n
  show Value.int .u64 (.ofNat n) = .int .u64 (.ofNat (W n))
  rw [W_of (by simpa using h)]
 ·cases h
set_option maxRecDepth 1000000 in
theorem ptab_ok : ptab.all okU = true := by kernel_rfl
set_option maxRecDepth 1000000 in
theorem jiO : ptab.length = 1392 := by kernel_rfl
set_option maxRecDepth 1000000 in
theorem ptab_good : ptab.all (fun v => !bad v) = true := by kernel_rfl
set_option maxRecDepth 1000000 in
theorem jjs : ptab.all (jaV 5) = true := by kernel_rfl
theorem ptab_at {k : Nat} (h : k < 1392) : ptab[k]? = some (u (natOf (ptab.getD k undef))) := by
 have h' : k < ptab.length := by rw [jiO]; exact h
 have e : ptab.getD k undef = ptab[k] := by simp [List.getD, h']
 rw [e, List.getElem?_eq_getElem h', ← okU_u (List.all_eq_true.1 ptab_ok _ (List.getElem_mem h'))]
theorem jdx {t : T Ob} {nx i k : Nat} {l : List Value} {ty : TypeId} {v : Value} (h : t.get i = some (.rom l ty)) (hk : l[k]? = some v) : jau ⟨t, nx⟩ i k = some v := by
 unfold jau
 rw [show (Mem.obs ⟨t, nx⟩).get i = _ from h]
 obtain ⟨hl, rfl⟩ := List.getElem?_eq_some_iff.1 hk
 show (if k < l.length then some (cellAt l.toArray .e k) else none) = _
 rw [if_pos hl, jce l k hl]
theorem jed {t : T Ob} {nx i k : Nat} {l : List Value} {c : Array Value} {ty : TypeId} {fz : Nat × Nat} {v : Value} (h : t.get i = some (.pin l c ty fz)) (hk : l[k]? = some v) : jau ⟨t, nx⟩ i k = some v := by
 unfold jau
 rw [show (Mem.obs ⟨t, nx⟩).get i = _ from h]
 obtain ⟨hl, rfl⟩ := List.getElem?_eq_some_iff.1 hk
 show (if k < l.length then some (cellAt l.toArray .e k) else none) = _
 rw [if_pos hl, jce l k hl]
theorem jei {t : T Ob} {nx i k : Nat} {c : Array Value} {ty : TypeId} {fz : Nat × Nat} {v : Value} (h : t.get i = some (.held c ty fz)) (hk : c[k]? = some v) (hp : jaV 5 v = true) : jau ⟨t, nx⟩ i k = some v := by
 obtain ⟨hsz, hcj⟩ := Array.getElem?_eq_some_iff.1 hk
 have hm : Nat.mod k (c.map strip).size = k := by show k % _ = _; rw [Nat.mod_eq_of_lt]; simpa using hsz
 unfold jau
 rw [show (Mem.obs ⟨t, nx⟩).get i = _ from h]
 show (if k < c.size then _ else _) = _
 rw [if_pos hsz]
 simp only [cellAt, T.get_e, hm]
 simp [Array.getD, hsz, hcj]
 unfold strip
 rw [hp]
theorem jbd {J : Nat → Ev.Loc} {v v' : Value} (h : VRel J v v') : ARel J [v].toArray #[v'] := ⟨rfl, fun i a b ha hb => by
 match i with
 | 0 => simp at ha hb; subst ha hb; exact h
 | i + 1 => simp at ha⟩
end
noncomputable section
def gL8 : List Nat := [7, 8, 13, 12, 11, 14, 5, 4]
theorem jhC : gL8.Nodup := by decide
theorem gL8_low : ∀ a ∈ gL8, a < 17 := by decide
theorem gsz : 17 ≤ Tryz.prog.globals.size ∧ Tryz.prog.globals.size < 870 := by decide +kernel
def entG (t1 t2 t3 t4 t5 t6 t7 t8 : TypeId) (i1 o1 k1 i2 o2 k2 i3 o3 k3 : Nat) (y1 y2 y3 : Arr) (u7 : TypeId) (v7 : Value) (u8 : TypeId) (v8 : Value) : List Ent := [(7, 7, .rom [Value.bool true] t1),
 (8, 8, .rom [Value.int .u64 52, .int .u64 11, .int .i64 (-1023)] t2),
 (13, 13, .rom ptab t3),
 (12, 12, .pin [Value.slice (some ⟨i1, o1, none⟩) 23 (2 * k1)] #[.slice (some ⟨y1.1, o1, none⟩) 23 k1] t4 (0, 0)),
 (11, 11, .pin [Value.slice (some ⟨i2, o2, none⟩) 9 (2 * k2)] #[.slice (some ⟨y2.1, o2, none⟩) 9 k2] t5 (0, 0)),
 (14, 14, .pin [Value.slice (some ⟨i3, o3, none⟩) 61 (2 * k3)] #[.slice (some ⟨y3.1, o3, none⟩) 61 k3] t6 (0, 0)),
 (5, 5, .pin [Value.iface u7 (.chan none)] #[.iface u7 v7] t7 (0, 0)),
 (4, 4, .pin [Value.iface u8 (.chan none)] #[.iface u8 v8] t8 (0, 0))]
theorem entG_ids (t1 t2 t3 t4 t5 t6 t7 t8 : TypeId) (i1 o1 k1 i2 o2 k2 i3 o3 k3 : Nat) (y1 y2 y3 : Arr) (u7 : TypeId) (v7 : Value) (u8 : TypeId) (v8 : Value) : (entG t1 t2 t3 t4 t5 t6 t7 t8 i1 o1 k1 i2 o2 k2 i3 o3 k3 y1 y2 y3 u7 v7 u8 v8).map (·.1) = gL8 := rfl
theorem jir (t1 t2 t3 t4 t5 t6 t7 t8 : TypeId) (i1 o1 k1 i2 o2 k2 i3 o3 k3 : Nat) (y1 y2 y3 : Arr) (u7 : TypeId) (v7 : Value) (u8 : TypeId) (v8 : Value) : (entG t1 t2 t3 t4 t5 t6 t7 t8 i1 o1 k1 i2 o2 k2 i3 o3 k3 y1 y2 y3 u7 v7 u8 v8).map (·.2.1) = gL8 := rfl
theorem jjH {W : World} (hL : Laid W) : ∃ E : List Ent, HandsP Tryz.prog W 900 (jE 900 E) (tE E) ∧ Lay ⟨tE E, 900⟩ := by
 obtain ⟨t1, h1⟩ := hL.opt
 obtain ⟨t2, h2⟩ := hL.fi
 obtain ⟨t3, h3⟩ := hL.pt
 obtain ⟨y1, o1, k1, t4, ⟨h4, b1⟩, c1⟩ := hL.fp
 obtain ⟨y2, o2, k2, t5, ⟨h5, b2⟩, c2⟩ := hL.pw
 obtain ⟨y3, o3, k3, t6, ⟨h6, b3⟩, c3⟩ := hL.lc
 obtain ⟨t7, u7, v7, h7⟩ := hL.er
 obtain ⟨t8, u8, v8, h8⟩ := hL.es
 have hb : ∀ y ∈ [y1, y2, y3], W.heap[y.1]? = some (.cells y.2.1 y.2.2 (0, 0)) := fun y hy => by
  simp only [List.mem_cons, List.not_mem_nil, or_false] at hy
  rcases hy with rfl | rfl | rfl
  ·exact b1
  ·exact b2
  ·exact b3
 have hs : ∀ y ∈ [y1, y2, y3], ∀ z ∈ [y1, y2, y3], z.1 = y.1 → z = y := fun y hy z hz e => by
  have e1 := hb z hz
  rw [e, hb y hy] at e1
  injection e1 with e1
  injection e1 with e2 e3 e4
  exact Prod.ext e (Prod.ext e2.symm e3.symm)
 have n1 : y1 ∈ [y1, y2, y3] := List.mem_of_getElem? (i := 0) rfl
 have n2 : y2 ∈ [y1, y2, y3] := List.mem_of_getElem? (i := 1) rfl
 have n3 : y3 ∈ [y1, y2, y3] := List.mem_of_getElem? (i := 2) rfl
 obtain ⟨i1, m1⟩ := jfL (seen := []) (n := 870) n1 (hs _ n1) (List.not_mem_nil)
 obtain ⟨i2, m2⟩ := jfL (seen := []) (n := 870) n2 (hs _ n2) (List.not_mem_nil)
 obtain ⟨i3, m3⟩ := jfL (seen := []) (n := 870) n3 (hs _ n3) (List.not_mem_nil)
 have hA : ∀ x ∈ arrE [] 870 [y1, y2, y3], 870 ≤ x.1 ∧ x.1 < 873 ∧ ∃ y ∈ [y1, y2, y3], x.2.1 = y.1 ∧ x.2.2 = .held y.2.1 y.2.2 (0, 0) := fun x hx => by
  obtain ⟨q1, q2, _, q3⟩ := jfK hx
  exact ⟨q1, q2, q3⟩
 have ids := jiy (seen := []) (n := 870) (l := [y1, y2, y3])
 have blks := jeN (seen := []) (n := 870) (l := [y1, y2, y3])
 obtain ⟨A, hAe⟩ : ∃ A, A = arrE [] 870 [y1, y2, y3] := ⟨_, rfl⟩
 rw [← hAe] at m1 m2 m3 hA ids blks
 have good : ∀ a ∈ gL8, ∃ c t, W.heap[a]? = some (.cells c t (0, 0)) ∧ c.toList.all (fun v => !bad v) = true := fun a ha => by
  simp only [gL8, List.mem_cons, List.not_mem_nil, or_false] at ha
  rcases ha with rfl | rfl | rfl | rfl | rfl | rfl | rfl | rfl
  ·exact ⟨_, _, h1, rfl⟩
  ·exact ⟨_, _, h2, rfl⟩
  ·exact ⟨_, _, h3, by rw [show ptab.toArray.toList = ptab from by simp]; exact ptab_good⟩
  ·exact ⟨_, _, h4, rfl⟩
  ·exact ⟨_, _, h5, rfl⟩
  ·exact ⟨_, _, h6, rfl⟩
  ·exact ⟨_, _, h7, rfl⟩
  ·exact ⟨_, _, h8, rfl⟩
 have badY : ∀ y ∈ [y1, y2, y3], ∃ (k : Nat) (v : Value), y.2.1[k]? = some v ∧ bad v = true := fun y hy => by
  simp only [List.mem_cons, List.not_mem_nil, or_false] at hy
  rcases hy with rfl | rfl | rfl
  ·exact ⟨_, _, c1 0 (by decide), rfl⟩
  ·exact ⟨_, _, c2 0 (by decide), rfl⟩
  ·exact ⟨_, _, (c3 0 (by decide)).2, rfl⟩
 have off : ∀ a ∈ gL8, ∀ y ∈ [y1, y2, y3], a ≠ y.1 := fun a ha y hy => by
  obtain ⟨c, t, q1, q2⟩ := good a ha
  obtain ⟨k, v, q3, q4⟩ := badY y hy
  exact apart q1 (hb y hy) q3 q4 q2
 obtain ⟨G, hG⟩ : ∃ G, G = entG t1 t2 t3 t4 t5 t6 t7 t8 i1 o1 k1 i2 o2 k2 i3 o3 k3 y1 y2 y3 u7 v7 u8 v8 := ⟨_, rfl⟩
 have gi : G.map (·.1) = gL8 := by rw [hG]; exact entG_ids ..
 have gb : G.map (·.2.1) = gL8 := by rw [hG]; exact jir ..
 have hn1 : ((G ++ A).map (·.1)).Nodup := by
  rw [List.map_append, gi]
  refine List.nodup_append.2 ⟨jhC, ids, fun a ha b hb' e => ?_⟩
  obtain ⟨x, hx, rfl⟩ := List.mem_map.1 hb'
  have q1 := gL8_low a ha
  have q2 := (hA x hx).1
  have e : a = x.1 := e
  omega
 have hn2 : ((G ++ A).map (·.2.1)).Nodup := by
  rw [List.map_append, gb]
  refine List.nodup_append.2 ⟨jhC, blks, fun a ha b hb' e => ?_⟩
  obtain ⟨x, hx, rfl⟩ := List.mem_map.1 hb'
  obtain ⟨_, _, y, hy, e1, _⟩ := hA x hx
  exact off a ha y hy (e.trans e1)
 have hJ := jE_mem (nx := 900) hn1
 have ht := tE_mem hn1
 have j1 : jE 900 (G ++ A) i1 = .at y1.1 0 := hJ _ (List.mem_append_right G m1)
 have j2 : jE 900 (G ++ A) i2 = .at y2.1 0 := hJ _ (List.mem_append_right G m2)
 have j3 : jE 900 (G ++ A) i3 = .at y3.1 0 := hJ _ (List.mem_append_right G m3)
 have mG : ∀ {x : Ent}, x ∈ entG t1 t2 t3 t4 t5 t6 t7 t8 i1 o1 k1 i2 o2 k2 i3 o3 k3 y1 y2 y3 u7 v7 u8 v8 → x ∈ G ++ A := fun hx => List.mem_append_left A (by rw [hG]; exact hx)
 have e1 : (tE (G ++ A)).get 7 = some (.rom [Value.bool true] t1) := ht (7, 7, .rom [Value.bool true] t1) (mG (List.mem_of_getElem? (i := 0) rfl))
 have e2 : (tE (G ++ A)).get 8 = some (.rom [Value.int .u64 52, .int .u64 11, .int .i64 (-1023)] t2) := ht (8, 8, .rom [Value.int .u64 52, .int .u64 11, .int .i64 (-1023)] t2) (mG (List.mem_of_getElem? (i := 1) rfl))
 have e3 : (tE (G ++ A)).get 13 = some (.rom ptab t3) := ht (13, 13, .rom ptab t3) (mG (List.mem_of_getElem? (i := 2) rfl))
 have e4 : (tE (G ++ A)).get 12 = some (.pin [Value.slice (some ⟨i1, o1, none⟩) 23 (2 * k1)] #[.slice (some ⟨y1.1, o1, none⟩) 23 k1] t4 (0, 0)) := ht (12, 12, .pin [Value.slice (some ⟨i1, o1, none⟩) 23 (2 * k1)] #[.slice (some ⟨y1.1, o1, none⟩) 23 k1] t4 (0, 0)) (mG (List.mem_of_getElem? (i := 3) rfl))
 have e5 : (tE (G ++ A)).get 11 = some (.pin [Value.slice (some ⟨i2, o2, none⟩) 9 (2 * k2)] #[.slice (some ⟨y2.1, o2, none⟩) 9 k2] t5 (0, 0)) := ht (11, 11, .pin [Value.slice (some ⟨i2, o2, none⟩) 9 (2 * k2)] #[.slice (some ⟨y2.1, o2, none⟩) 9 k2] t5 (0, 0)) (mG (List.mem_of_getElem? (i := 4) rfl))
 have e6 : (tE (G ++ A)).get 14 = some (.pin [Value.slice (some ⟨i3, o3, none⟩) 61 (2 * k3)] #[.slice (some ⟨y3.1, o3, none⟩) 61 k3] t6 (0, 0)) := ht (14, 14, .pin [Value.slice (some ⟨i3, o3, none⟩) 61 (2 * k3)] #[.slice (some ⟨y3.1, o3, none⟩) 61 k3] t6 (0, 0)) (mG (List.mem_of_getElem? (i := 5) rfl))
 have e7 : (tE (G ++ A)).get 5 = some (.pin [Value.iface u7 (.chan none)] #[.iface u7 v7] t7 (0, 0)) := ht (5, 5, .pin [Value.iface u7 (.chan none)] #[.iface u7 v7] t7 (0, 0)) (mG (List.mem_of_getElem? (i := 6) rfl))
 have e8 : (tE (G ++ A)).get 4 = some (.pin [Value.iface u8 (.chan none)] #[.iface u8 v8] t8 (0, 0)) := ht (4, 4, .pin [Value.iface u8 (.chan none)] #[.iface u8 v8] t8 (0, 0)) (mG (List.mem_of_getElem? (i := 7) rfl))
 have f1 : (tE (G ++ A)).get i1 = some (.held y1.2.1 y1.2.2 (0, 0)) := ht _ (List.mem_append_right G m1)
 have f2 : (tE (G ++ A)).get i2 = some (.held y2.2.1 y2.2.2 (0, 0)) := ht _ (List.mem_append_right G m2)
 have f3 : (tE (G ++ A)).get i3 = some (.held y3.2.1 y3.2.2 (0, 0)) := ht _ (List.mem_append_right G m3)
 have l1 : i1 < 900 := by have := (hA _ m1).2.1; omega
 have l2 : i2 < 900 := by have := (hA _ m2).2.1; omega
 have l3 : i3 < 900 := by have := (hA _ m3).2.1; omega
 refine ⟨G ++ A, jjK hn1 hn2 fun x hx => ?_, ?_⟩
 ·rcases List.mem_append.1 hx with hx | hx
  ·have hid : x.1 ∈ gL8 := by rw [← gi]; exact List.mem_map_of_mem hx
   have hlow := gL8_low _ hid
   have hz := gsz
   refine ⟨by omega, by omega, fun _ => ?_, ?_⟩
   ·rw [hG] at hx
    simp only [entG, List.mem_cons, List.not_mem_nil, or_false] at hx
    rcases hx with rfl | rfl | rfl | rfl | rfl | rfl | rfl | rfl <;> rfl
   ·rw [hG] at hx
    simp only [entG, List.mem_cons, List.not_mem_nil, or_false] at hx
    rcases hx with rfl | rfl | rfl | rfl | rfl | rfl | rfl | rfl
    ·exact jgz h1 (List.all_eq_true.1 rfl)
    ·exact jgz h2 (List.all_eq_true.1 rfl)
    ·exact jgz h3 (List.all_eq_true.1 jjs)
    ·exact jec h4 (jbd (.slice j1 (.inl ⟨by omega, by omega⟩)))
    ·exact jec h5 (jbd (.slice j2 (.inl ⟨by omega, by omega⟩)))
    ·exact jec h6 (jbd (.slice j3 (.inl ⟨by omega, by omega⟩)))
    ·exact jec h7 (jbd (.iface (.any none _)))
    ·exact jec h8 (jbd (.iface (.any none _)))
  ·obtain ⟨q1, q2, y, hy, e1, e2⟩ := hA x hx
   have hz := gsz
   refine ⟨by omega, by omega, fun h => by omega, ?_⟩
   rw [e1, e2]
   exact pins_held (hb y hy)
 ·refine ⟨jdx e1 rfl, jdx e2 rfl, jdx e2 rfl, jdx e2 rfl, fun k hk => ⟨jdx e3 (ptab_at (by omega)), jdx e3 (ptab_at (by omega))⟩,
   ⟨i1, o1, 2 * k1, jed e4 rfl, l1, fun k hk => jei f1 (c1 k hk) rfl⟩,
   ⟨i2, o2, 2 * k2, jed e5 rfl, l2, fun k hk => jei f2 (c2 k hk) rfl⟩,
   ⟨i3, o3, 2 * k3, jed e6 rfl, l3, fun k hk => ⟨jei f3 (c3 k hk).1 rfl, jei f3 (c3 k hk).2 rfl⟩⟩,
   ⟨_, jed e7 rfl, rfl⟩, ⟨_, jed e8 rfl, rfl⟩, (by decide : 20 < 900)⟩
end
noncomputable section
theorem jfy {P : Program} {w : World} : ∀ {l : List (String × DataW Unit)} {ps : List MemPlace}, DataW.LaidVars P w l ps → ∀ n d, (n, d) ∈ l →
  ∃ g t cs fuel p, P.globalNamed n = some g ∧ (P.globals[g]?).map (·.type) = some t ∧ w.var? P n = some cs ∧ DataW.trod (fun _ => ()) P w 0 (fun _ => true) false fuel t cs.toList = some (d, p) ∧ ∀ x ∈ MemPlace.row ⟨g, 0, none⟩ cs.size ++ p, x ∈ ps
 | [], _, _, _, _, hm => by cases hm
 | (n', d') :: r, ps, h, n, d, hm => by
   obtain ⟨g, t, cs, fuel, p, q, h1, h2, h3, h4, h5, rfl⟩ := h
   rcases List.mem_cons.1 hm with e | e
   ·cases e
    exact ⟨g, t, cs, fuel, p, h1, h2, h3, h4, fun x hx => List.mem_append_left q hx⟩
   ·obtain ⟨g', t', cs', f', p', k1, k2, k3, k4, k5⟩ := jfy h5 n d e
    exact ⟨g', t', cs', f', p', k1, k2, k3, k4, fun x hx => List.mem_append_right _ (k5 x hx)⟩
theorem row_mem {a : Addr} {n i : Nat} (h : i < n) : MemPlace.cell a.block (a.off + i) ∈ MemPlace.row a n := List.mem_map.2 ⟨i, List.mem_range.2 h, rfl⟩
variable {P : Program} {W : World} {laid : List (String × DataW Unit)} {n : String} {d : DataW Unit} {g : Nat} {t : TypeId}
theorem listed (hL : laidMetH P laid W) (hp : (laid.all fun x => x.2.handleName?.isNone) = true) (hm : (n, d) ∈ laid) (hg : P.globalNamed n = some g) (hty : (P.globals[g]?).map (·.type) = some t) :
  ∃ cs fuel p, (0 < cs.size → ∃ t', W.heap[g]? = some (.cells cs t' (0, 0))) ∧ DataW.trod (fun _ => ()) P W 0 (fun _ => true) false fuel t cs.toList = some (d, p) ∧ ∀ b off, MemPlace.cell b off ∈ p → ∃ c t', W.heap[b]? = some (.cells c t' (0, 0)) := by
 rw [MakeChecks.laidMetH_plain P laid W hp] at hL
 obtain ⟨ps, hv, _, hps⟩ := hL
 obtain ⟨g2, t2, cs, fuel, p, e1, e2, e3, e4, e5⟩ := jfy hv n d hm
 rw [hg] at e1; cases e1
 rw [hty] at e2; cases e2
 refine ⟨cs, fuel, p, fun h0 => ?_, e4, fun b off hb => (hps b off (e5 _ (List.mem_append_right _ hb))).1⟩
 obtain ⟨⟨c, t', hc⟩, _⟩ := hps g (0 + 0) (e5 _ (List.mem_append_left _ (row_mem (a := ⟨g, 0, none⟩) h0)))
 have e6 : World.var? P W n = some c := by
  unfold World.var?
  rw [hg]
  show (match W.heap[g]? with
   | some (.cells cs _ _) => some cs
   | _ => none) = some c
  rw [hc]
 rw [e3] at e6; cases e6
 exact ⟨t', hc⟩
theorem jey {c : Array Value} {l : List Value} (h : c.toList = l) : c = l.toArray := by subst h; simp
theorem jio (hL : laidMetH P laid W) (hp : (laid.all fun x => x.2.handleName?.isNone) = true) (hm : (n, d) ∈ laid) (hg : P.globalNamed n = some g) (hty : (P.globals[g]?).map (·.type) = some t) {k m : Nat} {l : List Value} (hk : jip P k t = true) (hd : flatL m d = some l) (hne : 0 < l.length) :
  ∃ t', W.heap[g]? = some (.cells l.toArray t' (0, 0)) := by
 obtain ⟨cs, fuel, p, h1, h2, _⟩ := listed hL hp hm hg hty
 have e := jhF k t fuel m _ l d p hk h2 hd
 obtain rfl := jey e
 exact h1 (by simpa using hne)
theorem jiW {name : String} {d' : DataW Unit} {ms : Array (String × TypeId)} (hL : laidMetH P laid W) (hp : (laid.all fun x => x.2.handleName?.isNone) = true) (hm : (n, .iface name d') ∈ laid) (hg : P.globalNamed n = some g) (hty : (P.globals[g]?).map (·.type) = some t) (hi : P.underlying t = some (.interface ms)) :
  ∃ t' u v, W.heap[g]? = some (.cells #[.iface u v] t' (0, 0)) := by
 obtain ⟨cs, fuel, p, h1, h2, _⟩ := listed hL hp hm hg hty
 obtain ⟨_, u, v, hcs, _⟩ := iface_of_trod hi h2
 obtain rfl := jey hcs
 obtain ⟨t', h⟩ := h1 (by simp)
 exact ⟨t', u, v, h⟩
theorem jgw {e : TypeId} {ds : List (DataW Unit)} {ls : List (List Value)} {k m w : Nat} (hL : laidMetH P laid W) (hp : (laid.all fun x => x.2.handleName?.isNone) = true) (hm : (n, .slice ds []) ∈ laid) (hg : P.globalNamed n = some g) (hty : (P.globals[g]?).map (·.type) = some t)
  (ht : P.underlying t = some (.slice e)) (hc : P.cellsOf e = w) (hw : 0 < w) (hk : jip P k e = true) (hfl : ds.map (flatL m) = ls.map some) (hne : 0 < ls.length) :
  ∃ (y : Arr) (o cap : Nat) (tb : TypeId), SlAt W g ls.length y o cap tb ∧ ∀ i l j v, ls[i]? = some l → l[j]? = some v → y.2.1[o + i * w + j]? = some v := by
 obtain ⟨cs, fuel, p, h1, h2, h3⟩ := listed hL hp hm hg hty
 have hlen : ds.length = ls.length := by simpa using congrArg List.length hfl
 rcases DataW.trod_slice ht h2 with ⟨_, ex⟩ | ⟨a, len, cap, elems, rest, f, rfl, ecs, ex, _, _, _, hel, hat, _, _⟩
 ·cases ex
 injection ex with ex1 ex2
 injection ex1 with ed er
 subst ex2
 have hdl : ls.length = len := by rw [← hlen, ed, List.length_map, hel]
 have each : ∀ i l, ls[i]? = some l → W.cells? 0 (a.add (i * w)) w = some l := fun i l hi => by
  have hil : i < ls.length := (List.getElem?_eq_some_iff.1 hi).1
  have h4 := hat i (by omega)
  have hie : i < elems.length := by omega
  rw [List.getElem?_eq_getElem hie, Option.bind_eq_some_iff] at h4
  obtain ⟨csi, h5, h6⟩ := h4
  have h7 : (ds.map (flatL m))[i]? = some (some l) := by rw [hfl, List.getElem?_map, hi]; rfl
  rw [ed] at h7
  have h8 : flatL m (elems[i]).1 = some l := by simpa [hie] using h7
  obtain rfl := jhF k e f m csi l (elems[i]).1 (elems[i]).2 hk h6 h8
  rw [hc] at h5
  exact h5
 obtain ⟨l0, hl0⟩ : ∃ l0, ls[0]? = some l0 := ⟨_, List.getElem?_eq_getElem hne⟩
 obtain ⟨_, hl0w, hl0c⟩ := World.cells?_some (each 0 l0 hl0)
 obtain ⟨b, o, sp⟩ := a
 have a0 : ∀ (x : Addr), x.add 0 = x := fun x => rfl
 have hc0 := hl0c 0 hw
 rw [Nat.zero_mul, a0, a0, List.getElem?_eq_getElem (by omega : 0 < l0.length)] at hc0
 have hsp : sp = none := by
  unfold World.cell? at hc0
  simp only at hc0
  split at hc0
  ·cases sp with
   | none => rfl
   | some x => simp at hc0
  ·cases hc0
 subst hsp
 have hpos : 0 < (elems.length + rest.length) * P.cellsOf e := by
  rw [hc]
  exact Nat.mul_pos (by omega) hw
 obtain ⟨c, te, hb⟩ := h3 b (o + 0) (List.mem_append_left _ (row_mem (a := ⟨b, o, none⟩) hpos))
 obtain rfl := jey ecs
 obtain ⟨tb, hh⟩ := h1 (by simp)
 refine ⟨(b, c, te), o, cap, tb, ⟨?_, hb⟩, fun i l j v hi hj => ?_⟩
 ·rw [hdl]; exact hh
 ·obtain ⟨_, h4, h5⟩ := World.cells?_some (each i l hi)
  have hjl : j < l.length := (List.getElem?_eq_some_iff.1 hj).1
  have h6 := h5 j (by omega)
  rw [hj] at h6
  have ea : (Addr.add (Addr.add ⟨b, o, none⟩ (i * w)) j) = ⟨b, o + i * w + j, none⟩ := by
   unfold Addr.add
   by_cases g1 : i * w = 0
   ·rw [if_pos g1, g1]
    by_cases g2 : j = 0
    ·rw [if_pos g2, g2]; rfl
    ·rw [if_neg g2]; rfl
   ·rw [if_neg g1]
    by_cases g2 : j = 0
    ·rw [if_pos g2, g2]; rfl
    ·rw [if_neg g2]
  rw [ea] at h6
  unfold World.cell? at h6
  simp only [hb] at h6
  simpa using h6
end
noncomputable section
theorem am_loop {S : List (FuncId × LK)} {s : ByteArray} {c : Nat} (hl : (bys s).length ≤ 1000) : ∀ (m i : Nat), i + m = (bys s).length → ∀ {X : XT} {e : Nat} {tm : T Value} {μ : Mem}, jaq tm 0 = .string s → jaq tm 1 = .int .u8 (.ofNat c) → jaq tm 4 = .bool false → jaq tm 5 = .int .i64 (.ofNat i) →
  EndsC (jat Tryz.prog X S (e + m + 30) (.loop (jaL Tryz.f30 0)) ⟨17, tm, [], none⟩ μ) fun x r μ' => μ' = μ ∧ ∃ tm', r = ⟨17, tm', [], none⟩ ∧ ((((bys s).drop i).contains c = false ∧ x = .exit 0) ∨ (((bys s).drop i).contains c = true ∧ x = .ret ∧ jaq tm' 4 = .bool true)) := by
 have ls := ja5 s
 intro m
 induction m with
 | zero =>
   intro i hi X e tm μ h0 h1 h2 h3
   have hi : i = (bys s).length := hi
   have e1 : ilt (.ofNat i) (.ofNat (bys s).length) = false := (jav _ _).trans (decide_eq_false (by omega))
   refine jas ?_
   repeat (first | refine jaf ?_ | ((first | (refine jad ?_ ?_; (focus rfl)) | (refine jac (gs := ?_) ?_ ?_; rotate_left; (focus rfl))); simp only [run1, go_sem, h0, h1, h2, h3, jae, ls, jag, e1]) | (refine jab ?_ ?_; (focus (simp only [go_sem, h0, h1, h2, h3, jae, ls, jag, e1]; done))) | (refine jaa ?_ ?_; (focus (simp only [go_sem, h0, h1, h2, h3, jae, ls, jag, e1]; done))) | ((first | refine jaj ?_ | refine jai ?_ | refine jak ?_); try simp only [go_sem]) | refine jah ?_)
   exact ⟨by trivial, _, rfl, .inl ⟨(by rw [hi, List.drop_length]; rfl), by trivial⟩⟩
 | succ m ih =>
   intro i hi X e tm μ h0 h1 h2 h3
   have hlt : i < (bys s).length := by omega
   have hdr : (bys s).drop i = (bys s)[i]'hlt :: (bys s).drop (i + 1) := List.drop_eq_getElem_cons hlt
   obtain ⟨b, hb⟩ : ∃ b, b = (bys s)[i]'hlt := ⟨_, rfl⟩
   rw [← hb] at hdr
   have hx : ∀ (r : Rg) (x y : Operand), aev Tryz.prog r x = .string s → aev Tryz.prog r y = .int .i64 (.ofNat i) → jbi Tryz.prog (aev Tryz.prog r) 9 x y = some (.int .u8 (.ofNat b)) := fun r x y h1 h2 => by rw [hb]; exact jbA hlt h1 h2
   have e1 : ilt (.ofNat i) (.ofNat (bys s).length) = true := (jav _ _).trans (decide_eq_true hlt)
   have a1 : jay .i64 (Int.add (.ofNat i) 1) = .ofNat (i + 1) := ja2 i 1 (by omega)
   clear hb
   rw [hdr]
   by_cases hp : b = c
   ·have e2 : ieq (.ofNat b) (.ofNat c) = true := (jb7 _ _).trans (decide_eq_true hp)
    refine jas ?_
    repeat (first | refine jaf ?_ | ((first | (refine jad ?_ ?_; (focus rfl)) | (refine jac (gs := ?_) ?_ ?_; rotate_left; (focus rfl))); simp only [run1, go_sem, h0, h1, h2, h3, jae, ls, jag, e1, hx, e2]) | (refine jab ?_ ?_; (focus (simp only [go_sem, h0, h1, h2, h3, jae, ls, jag, e1, hx, e2]; done))) | (refine jaa ?_ ?_; (focus (simp only [go_sem, h0, h1, h2, h3, jae, ls, jag, e1, hx, e2]; done))) | ((first | refine jaj ?_ | refine jai ?_ | refine jak ?_); try simp only [go_sem]) | refine jah ?_)
    refine jam ?_
    exact ⟨by trivial, _, rfl, .inr ⟨(by rw [List.contains_cons, hp]; simp), by trivial, by simp only [go_sem]⟩⟩
   ·have e2 : ieq (.ofNat b) (.ofNat c) = false := (jb7 _ _).trans (decide_eq_false hp)
    refine jas ?_
    repeat (first | refine jaf ?_ | ((first | (refine jad ?_ ?_; (focus rfl)) | (refine jac (gs := ?_) ?_ ?_; rotate_left; (focus rfl))); simp only [run1, go_sem, h0, h1, h2, h3, jae, ls, jag, e1, hx, e2, a1]) | (refine jab ?_ ?_; (focus (simp only [go_sem, h0, h1, h2, h3, jae, ls, jag, e1, hx, e2, a1]; done))) | (refine jaa ?_ ?_; (focus (simp only [go_sem, h0, h1, h2, h3, jae, ls, jag, e1, hx, e2, a1]; done))) | ((first | refine jaj ?_ | refine jai ?_ | refine jak ?_); try simp only [go_sem]) | refine jah ?_)
    rw [show e + (m + 1) + 29 = e + m + 30 from by omega]
    refine EndsC.mono (ih (i + 1) (by omega) (by simp only [go_sem, h0]) (by simp only [go_sem, h1]) (by simp only [go_sem, h2]) (by simp only [go_sem])) ?_
    rintro x r μ' ⟨g1, tm', g2, g3⟩
    have ec : (b :: (bys s).drop (i + 1)).contains c = ((bys s).drop (i + 1)).contains c := by
     rw [List.contains_cons, show (c == b) = false from by simpa using fun h => hp h.symm, Bool.false_or]
    rw [ec]
    exact ⟨g1, tm', g2, g3⟩
theorem among_eq {S : List (FuncId × LK)} {s : ByteArray} {c : Nat} (hl : (bys s).length ≤ 1000) {X : XT} {g : Nat} {μ : Mem} (hg : 2000 ≤ g) : aFun Tryz.prog (jat Tryz.prog X S g) 30 [.string s, .int .u8 (.ofNat c)] μ = some (.bool ((bys s).contains c), μ) := by
 obtain ⟨k, rfl⟩ := gle hg
 refine jaQ ?_
 refine jan Tryz.func30 rfl rfl (nbl rfl) ?_
 simp only [go_sem, Tryz.ntmps30]
 repeat (first | refine jaf ?_ | ((first | (refine jad ?_ ?_; (focus rfl)) | (refine jac (gs := ?_) ?_ ?_; rotate_left; (focus rfl))); simp only [run1, go_sem, undef]) | (refine jab ?_ ?_; (focus (simp only [go_sem, undef]; done))) | (refine jaa ?_ ?_; (focus (simp only [go_sem, undef]; done))) | ((first | refine jaj ?_ | refine jai ?_ | refine jak ?_); try simp only [go_sem]) | refine jah ?_)
 rw [show k + 1996 = (k + 1966 - (bys s).length) + (bys s).length + 30 from by omega]
 refine EndsC.mono (am_loop (c := c) hl (bys s).length 0 (Nat.zero_add _) (by simp only [go_sem]) (by simp only [go_sem]) (by simp only [go_sem]) (by simp only [go_sem]; try rfl)) ?_
 rintro x r μ' ⟨rfl, tm', rfl, ⟨h1, rfl⟩ | ⟨h1, rfl, h2⟩⟩
 ·rw [List.drop_zero] at h1
  simp only [ja4, reduceIte, jao]
  rw [h1]
  repeat (first | refine jaf ?_ | ((first | (refine jad ?_ ?_; (focus rfl)) | (refine jac (gs := ?_) ?_ ?_; rotate_left; (focus rfl))); simp only [run1, go_sem, undef]) | (refine jab ?_ ?_; (focus (simp only [go_sem, undef]; done))) | (refine jaa ?_ ?_; (focus (simp only [go_sem, undef]; done))) | ((first | refine jaj ?_ | refine jai ?_ | refine jak ?_); try simp only [go_sem]) | refine jah ?_)
  refine jam ?_
  refine ⟨rfl, _, ?_, rfl, rfl⟩
  simp only [go_sem, Tryz.results30]
 ·rw [List.drop_zero] at h1
  simp only [ja4]
  refine ⟨rfl, _, ?_, rfl, rfl⟩
  simp only [go_sem, Tryz.results30]
  rw [h2, h1]
def jft : ByteArray := ⟨List.toArray (List.append [97, 98, 99, 100, 101, 102, 103, 104, 105, 106, 107, 108, 109, 110, 111, 112, 113, 114, 115, 116, 117, 118, 119, 120, 121, 122, 65, 66, 67, 68, 69, 70, 71, 72, 73, 74, 75, 76, 77, 78] [79, 80, 81, 82, 83, 84, 85, 86, 87, 88, 89, 90, 48, 49, 50, 51, 52, 53, 54, 55, 56, 57, 33, 36, 37, 38, 42, 47, 58, 60, 61, 62, 63, 94, 95, 126, 43, 45, 46, 64])⟩
theorem jgd : bys jft = plainL := by kernel_rfl
theorem rplain_eq {c : Nat} {X : XT} {g : Nat} {μ : Mem} (hg : 3000 ≤ g) : aFun Tryz.prog (jat Tryz.prog X [] g) 16 [.int .u8 (.ofNat c)] μ = some (.bool (plainL.contains c), μ) := by
 obtain ⟨k, rfl⟩ := gle hg
 refine jaQ ?_
 have ha := among_eq (S := []) (s := jft) (c := c) (by rw [jgd]; decide) (X := X) (g := k + 2997) (μ := μ) (by omega)
 rw [jgd] at ha
 have hc : ∀ μ', aGo Tryz.prog X (jbL Tryz.prog (jat Tryz.prog X [] (k + 2997)) []) 30 [.string jft, .int .u8 (.ofNat c)] μ' = aFun Tryz.prog (jat Tryz.prog X [] (k + 2997)) 30 [.string jft, .int .u8 (.ofNat c)] μ' := fun μ' => go_call (P := Tryz.prog) (X := X) (S := []) Tryz.func30 rfl rfl _ _
 refine jan Tryz.func16 rfl rfl (nbl rfl) ?_
 simp only [go_sem, Tryz.ntmps16]
 repeat (first | refine jaf ?_ | ((first | (refine jad ?_ ?_; (focus rfl)) | (refine jac (gs := ?_) ?_ ?_; rotate_left; (focus rfl))); simp only [run1, go_sem, show (⟨List.toArray _⟩ : ByteArray) = jft from rfl, hc, ha]) | (refine jab ?_ ?_; (focus (simp only [go_sem, show (⟨List.toArray _⟩ : ByteArray) = jft from rfl, hc, ha]; done))) | (refine jaa ?_ ?_; (focus (simp only [go_sem, show (⟨List.toArray _⟩ : ByteArray) = jft from rfl, hc, ha]; done))) | ((first | refine jaj ?_ | refine jai ?_ | refine jak ?_); try simp only [go_sem]) | refine jah ?_)
 refine jam ?_
 refine ⟨rfl, _, ?_, rfl, rfl⟩
 simp only [go_sem, Tryz.results16]
theorem plain_run {P : Program} {X : XT} (hN : jcJ P) (hX : XOk P X) (hm : P.follows .mixedOrders = true) {S : List (FuncId × LK)} (hS : SumsOk P S) {k : Nat} {g : FuncId} {nx : Nat} (hnx : P.globals.size < nx)
  (f : List Value → Option Value) (h : ∀ args v, f args = some v → ∃ μ', aFun P (jat P X S k) g args ⟨.e, nx⟩ = some (v, μ')) : KOk P g (.plain f) := by
 intro args v hf hp hv W n R hR
 obtain ⟨μ', hrun⟩ := h args v hf
 have hnone : ∀ i b s, jbj nx i ≠ .at b s := fun i b s e => by unfold jbj at e; split at e <;> cases e
 have hr : Rel (jbj nx) ⟨.e, nx⟩ W := ⟨fun i j b s t e _ => absurd e (hnone _ _ _), fun i b s e => absurd e (hnone _ _ _), fun i hi => if_neg (Nat.not_lt.2 hi), fun i o ho _ => by simp [T.get_e] at ho⟩
 have hB : Base P (jbj nx) := ⟨fun g hg => .inr (if_pos (Nat.lt_trans hg hnx)), if_pos hnx⟩
 have ha : ARel (jbj nx) args.toArray args.toArray := ⟨rfl, fun i a b ha hb => by
  rw [ha] at hb; cases hb
  refine ja6 5 (List.all_eq_true.1 hp _ ?_)
  have := Array.mem_of_getElem? ha
  simpa using this⟩
 refine jgi (jgP hN hX hm hS k).1 g args _ v μ' hrun _ W _ hr hB ha n R fun J' v' w' h1 h2 h3 => ?_
 rw [jeb 5 hv h1]
 exact hR w' ⟨h3.os, h3.output, h3.size, fun b hb => h3.frame b hb (fun i s e => absurd e (hnone _ _ _)), h3.tape⟩
end
noncomputable section
theorem isNamed : jcJ Tryz.prog := named_of (by kernel_rfl)
theorem mixed : Tryz.prog.follows .mixedOrders = true := by kernel_rfl
def xs : List (FuncId × XK) := [(50, .f64from), (67, .f64bits), (119, .same), (121, .noZero 5), (149, .f64from), (153, .f64bits), (76, .indexByte)]
theorem rows : ∀ x ∈ xs, ∃ fn, XRow Tryz.prog x.1 x.2 fn := by
 intro x hx
 simp only [xs, List.mem_cons, List.not_mem_nil, or_false] at hx
 rcases hx with rfl | rfl | rfl | rfl | rfl | rfl | rfl
 ·exact ⟨_, Tryz.func50, by kernel_rfl, by kernel_rfl, by kernel_rfl, by kernel_rfl, fun e h => by cases h⟩
 ·exact ⟨_, Tryz.func67, by kernel_rfl, by kernel_rfl, by kernel_rfl, by kernel_rfl, fun e h => by cases h⟩
 ·exact ⟨_, Tryz.func119, by kernel_rfl, by kernel_rfl, by kernel_rfl, by kernel_rfl, fun e h => by cases h⟩
 ·exact ⟨_, Tryz.func121, by kernel_rfl, by kernel_rfl, by kernel_rfl, by kernel_rfl, fun e h => by cases h; exact ⟨Tryz.f121.resultTypes.getD 0 0, by kernel_rfl, by kernel_rfl⟩⟩
 ·exact ⟨_, Tryz.func149, by kernel_rfl, by kernel_rfl, by kernel_rfl, by kernel_rfl, fun e h => by cases h⟩
 ·exact ⟨_, Tryz.func153, by kernel_rfl, by kernel_rfl, by kernel_rfl, by kernel_rfl, fun e h => by cases h⟩
 ·exact ⟨_, Tryz.func76, by kernel_rfl, by kernel_rfl, by kernel_rfl, by kernel_rfl, fun e h => by cases h⟩
theorem bits1 : jbr (aExt xs) := fun a μ => rfl
theorem bits2 : jbN (aExt xs) := fun n μ _ => rfl
def domC : List (List Value) := (List.range 256).map fun q => [.int .u8 (.ofNat q)]
theorem domP : ∀ args v, fP args = some v → args ∈ domC := by
 intro args v h
 unfold fP at h
 split at h
 ·rename_i q
  split at h
  ·rename_i hq
   exact List.mem_map.2 ⟨q, List.mem_range.2 hq, rfl⟩
  ·cases h
 ·cases h
theorem domF : ∀ args v, fF args = some v → args ∈ domC := by
 intro args v h
 unfold fF at h
 split at h
 ·rename_i q
  split at h
  ·rename_i hq
   exact List.mem_map.2 ⟨q, List.mem_range.2 hq, rfl⟩
  ·cases h
 ·cases h
theorem tbP : domOk (fun args => aFun Tryz.prog (jat Tryz.prog (aExt xs) [] 100) 14 args ⟨.e, 900⟩) fP domC = true := by kernel_rfl
theorem ranR : ∀ args v, fP args = some v → ∃ μ', aFun Tryz.prog (jat Tryz.prog (aExt xs) [] 3000) 16 args ⟨.e, 900⟩ = some (v, μ') := by
 intro args v h
 unfold fP at h
 split at h
 ·split at h
  ·cases h
   exact ⟨_, rplain_eq (Nat.le_refl _)⟩
  ·cases h
 ·cases h
theorem tbF : domOk (fun args => aFun Tryz.prog (jat Tryz.prog (aExt xs) [] 100) 85 args ⟨.e, 900⟩) fF domC = true := by kernel_rfl
theorem ranAlive : jgF roms (aFun Tryz.prog (jat Tryz.prog (aExt xs) [] 4000) 4 [] ⟨jeW roms, 900⟩) = true := by kernel_rfl
theorem sums : SumsOk Tryz.prog S0 :=
 SumsOk.cons (sum_of isNamed (jfX rows) mixed (SumsOk.none _) (by decide +kernel) roms (by kernel_rfl) ranAlive)
 (SumsOk.cons (jhr isNamed (jfX rows) mixed (SumsOk.none _) (by decide +kernel) fP domC domP tbP)
 (SumsOk.cons (plain_run isNamed (jfX rows) mixed (SumsOk.none _) (by decide +kernel) fP ranR)
 (SumsOk.cons (jhr isNamed (jfX rows) mixed (SumsOk.none _) (by decide +kernel) fF domC domF tbF) (SumsOk.none _))))
end
noncomputable section
theorem jj6 {X : XT} {μ : Mem} (h : jfp μ roms = true) (k : Nat) : jbL Tryz.prog (jat Tryz.prog X S0 k) S0 4 [] μ = some (.bool true, μ) := by
 show (match jfp μ roms with | true => some (Value.bool true, μ) | false => none) = _
 rw [h]
theorem ran {W : World} (hL : Laid W) (s : ByteArray) : Calls Tryz.prog 3 #[.string s] W fun e W' => e = .returned (.bool true) ∧ Same W W' := by
 obtain ⟨E, hH, hY⟩ := jjH hL
 obtain ⟨μ', hr, hG⟩ := law_ex (X := aExt xs) (g := 100010) s bits1 bits2 hY (Nat.le_refl _) (jj6 rfl)
 exact jhB isNamed (jfX rows) mixed sums (by decide +kernel) hH (jbd (.string s)) hr hG.2 rfl
end
end Go.Proofs.YtdjoekhccbiaiaaGreatDoor.dw
