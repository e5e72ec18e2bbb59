/-
  distafflaw10.CodeEffects, part Qd: its walk and its law. No conditions.
-/
import Derived.Test.YtlkenchibdeinaaGreatDoorDwQc
set_option linter.all false
set_option maxRecDepth 20000
set_option maxHeartbeats 8000000
namespace Go.Proofs.YtlkenchibdeinaaGreatDoor.ce
open YtlkenchibdeinaaGreatDoor.Ev
noncomputable section
@[go_sem] def gg240 {X ev} := gC X ev Tryz.func240 rfl rfl
@[go_sem] def gg82 {X ev} := gC X ev Tryz.func82 rfl rfl
@[go_sem] def gg194 {X ev} := gC X ev Tryz.func194 rfl rfl
@[go_sem] def gg195 {X ev} := gC X ev Tryz.func195 rfl rfl
@[go_sem] def gg89 {X ev} := gC X ev Tryz.func89 rfl rfl
@[go_sem] def gg149 {X ev} := gC X ev Tryz.func149 rfl rfl
theorem at_ex {v : Value} {n i : Nat} {μ : Mem} (h : Rd μ v n) : ∃ a, a < 4294967296 ∧ (n ≤ i → a = 0) ∧ ∀ {X : XT} {g : Nat}, 20 ≤ g → aFun pZ (jaj pZ X S0 g) 240 [v, .int .i64 (.ofNat i)] μ = some (.int .u64 (.ofNat a), μ) := by
 have lv := h.len
 by_cases hi : i < n
 ·obtain ⟨bi, c, a, rfl, ha, hc⟩ := h.at hi
  have e1 : ilt (.ofNat i) (.ofNat n) = true := dT (jao _ _) hi
  have q1 : jak .u64 (.ofNat a) = .ofNat a := nw (by omega)
  have hix : ∀ rg a b, aev pZ rg a = .slice (some ⟨bi, 0, none⟩) n c → aev pZ rg b = .int .i64 (.ofNat i) → jan pZ (aev pZ rg) 38 a b = some (.pointer (some ⟨bi, i, none⟩)) := fun rg a b g1 g2 => by
   rw [jaL (P := pZ) Tryz.underlying38 jcI rfl g1 g2 hi, rzT]
  refine ⟨a, ha, fun h => by omega, fun {X g} hg => ?_⟩
  obtain ⟨k, rfl⟩ := gle hg
  refine jaF ?_
  refine jaf Tryz.func240 rfl rfl (nbl rfl) ?_
  simp only [go_sem, Tryz.ntmps240]
  repeat (refine jaa rfl ?_; (try simp only [go_sem, lv, jae, e1, hix, hc, conv_4u, q1]); fail_if_success refine stk ?_)
  exact jad ⟨rfl, _, by simp only [go_sem, Tryz.results240], rfl, rfl⟩
 ·have e1 : ilt (.ofNat i) (.ofNat n) = false := dF (jao _ _) hi
  refine ⟨0, by decide, fun _ => rfl, fun {X g} hg => ?_⟩
  obtain ⟨k, rfl⟩ := gle hg
  refine jaF ?_
  refine jaf Tryz.func240 rfl rfl (nbl rfl) ?_
  simp only [go_sem, Tryz.ntmps240]
  repeat (refine jaa rfl ?_; (try simp only [go_sem, lv, jae, e1]); fail_if_success refine stk ?_)
  refine jad ?_
  refine ⟨rfl, _, ?_, rfl, rfl⟩
  simp only [go_sem, Tryz.results240]
  rfl
theorem jjI : ∀ n, n ≤ 2000000 → ∀ {X : XT} {e : Nat} {tm : T Value} {v : Value} {μ : Mem}, Rd μ v n → jac tm 3 = v →
  LpC X (e + n + 20) Tryz.f82 0 25 tm μ fun x r μ' => x = .exit 0 ∧ μ' = μ ∧ ∃ tm' v' n', r = ⟨25, tm', [], none⟩ ∧ n' ≤ n ∧ Rd μ v' n' ∧ jac tm' 3 = v' ∧ ∀ i, SlAt v' i → SlAt v i := by
 intro n
 induction n with
 | zero =>
   intro hn X e tm v μ h h3
   have lv := h.len
   have e1 : ilt 0 (.ofNat 0) = false := rfl
   refine jah ?_
   refine jag ?_
   refine jag ?_
   refine jab rfl ?_
   repeat (refine jam rfl ?_; (try simp only [go_sem, h3, lv, jae, e1]); fail_if_success refine stk ?_)
   refine jax ?_ ?_
   ·simp only [go_sem]
   refine jbw ?_
   simp only [jbv]
   exact ⟨by trivial, by trivial, _, v, 0, rfl, rzN _, h, by simp only [go_sem, h3], fun i hi => hi⟩
 | succ n ih =>
   intro hn X e tm v μ h h3
   have lv := h.len
   obtain ⟨v', hsl, hR', hS'⟩ := h.take (Nat.le_succ n)
   obtain ⟨bi, c, a, hv, ha, hc⟩ := h.at (rzQ n)
   have e1 : ilt 0 (.ofNat (n + 1)) = true := dT (jao 0 (n + 1)) (rzW n)
   have q1 : jak .i64 (Int.sub (.ofNat (n + 1)) 1) = .ofNat n := jaV (n + 1) 1 (by omega) (by omega)
   have hix : ∀ rg a b, aev pZ rg a = v → aev pZ rg b = .int .i64 (.ofNat n) → jan pZ (aev pZ rg) 38 a b = some (.pointer (some ⟨bi, n, none⟩)) := fun rg a b g1 g2 => by
    rw [hv] at g1
    rw [jaL (P := pZ) Tryz.underlying38 jcI rfl g1 g2 (by omega), rzT]
   have hsl : ∀ rg x y, aev pZ rg x = v → aev pZ rg y = .int .i64 (.ofNat n) → ja0 pZ (aev pZ rg) 38 x none (some y) none = some v' := fun rg x y g1 g2 => hsl _ x y g1 g2
   by_cases hz : a = 0
   ·have e2 : ieq (.ofNat a) 0 = true := dT (jaB _ 0 0 rfl) hz
    refine jah ?_
    refine jag ?_
    refine jag ?_
    refine jab rfl ?_
    repeat (refine jam rfl ?_; (try simp only [go_sem, h3, lv, jae, e1, q1, hix, hc, e2]); fail_if_success refine stk ?_)
    repeat (refine jaa rfl ?_; (try simp only [go_sem, h3, lv, jae, q1, hsl]); fail_if_success refine stk ?_)
    rw [(by omega : e + (n + 1) + 19 = e + n + 20)]
    refine rzM (ih (by omega) hR' (by simp only [go_sem])) ?_
    rintro x r μ' ⟨g1, g2, tm', w, n', g3, g4, g5, g6, g7⟩
    exact ⟨g1, g2, tm', w, n', g3, by omega, g5, g6, fun i hi => hS' i (g7 i hi)⟩
   ·have e2 : ieq (.ofNat a) 0 = false := dF (jaB _ 0 0 rfl) hz
    refine jah ?_
    refine jag ?_
    refine jag ?_
    refine jab rfl ?_
    repeat (refine jam rfl ?_; (try simp only [go_sem, h3, lv, jae, e1, q1, hix, hc, e2]); fail_if_success refine stk ?_)
    refine jax ?_ ?_
    ·simp only [go_sem]
    refine jbw ?_
    simp only [jbv]
    exact ⟨by trivial, by trivial, _, v, n + 1, rfl, rzN _, h, by simp only [go_sem, h3], fun i hi => hi⟩
theorem jgg {X : XT} {g n : Nat} {v : Value} {μ : Mem} (h : Rd μ v n) (hn : n ≤ 60000) (hg : 60100 ≤ g) : ∃ v' n' μ', aFun pZ (jaj pZ X S0 g) 82 [v] μ = some (v', μ') ∧ n' ≤ n ∧ Rd μ' v' n' ∧ Grow μ μ' ∧ New μ v' := by
 obtain ⟨k, rfl⟩ := gle hg
 obtain ⟨v1, μ1, hap, hR, hG, hN⟩ := jiL h (by omega)
 have key : EndsF (aFun pZ (jaj pZ X S0 (k + 60100)) 82 [v] μ) fun w μ' => ∃ n', n' ≤ n ∧ Rd μ' w n' ∧ Grow μ μ' ∧ New μ w := by
  refine jaf Tryz.func82 rfl rfl (nbl rfl) ?_
  simp only [go_sem, Tryz.ntmps82]
  repeat (refine jaa rfl ?_; (try simp only [go_sem, bs0, hap]); fail_if_success refine stk ?_)
  rw [(by omega : k + 60096 = (k + 60076 - n) + n + 20)]
  refine rzM (jjI n (by omega) hR (by simp only [go_sem])) ?_
  rintro x r μ' ⟨rfl, rfl, tm', v', n', rfl, hn', hR', h3, hS⟩
  simp only [go_sem]
  repeat (refine jaa rfl ?_; (try simp only [go_sem, h3]); fail_if_success refine stk ?_)
  exact jad ⟨rfl, v', by simp only [go_sem, Tryz.results82], n', hn', hR', hG, fun i hi => hN i (hS i hi)⟩
 obtain ⟨w, μ', h1, n', h2, h3, h4⟩ := key
 exact ⟨w, n', μ', h1, h2, h3, h4⟩
theorem n_div32 {a : Nat} (ha : a < 18446744073709551616) : aDiv false .u64 .u64 (.ofNat a) 4294967296 = some (.int .u64 (.ofNat (a / 4294967296))) := by
 show some (Value.int .u64 (jak .u64 (.ofNat (a / 4294967296)))) = _
 rw [nw (Nat.lt_of_le_of_lt (Nat.div_le_self _ _) ha)]
theorem n_rem32 (a : Nat) : aDiv true .u64 .u64 (.ofNat a) 4294967296 = some (.int .u64 (.ofNat (a % 4294967296))) := rfl
theorem lbP : (jbk Tryz.f194 0) = .seq (jaM 0 (jbk Tryz.f194 0)) (.seq (jaM 1 (jbk Tryz.f194 0)) (jaS 2 (jbk Tryz.f194 0))) := by kernel_rfl
theorem plus_loop {na nb : Nat} {va vb : Value} (hna : na ≤ 50000) (hnb : nb ≤ 50000) : ∀ (m i c : Nat), i + m = (if na < nb then nb else na) + 1 → c ≤ 1 → (m = 0 → c = 0) → ∀ {X : XT} {e : Nat} {tm : T Value} {v : Value} {μ0 μ : Mem}, Rd μ0 va na → Rd μ0 vb nb → Lim μ0 μ v i → jac tm 0 = va → jac tm 1 = vb → jac tm 5 = v → jac tm 6 = .int .u64 (.ofNat c) → jac tm 7 = .int .i64 (.ofNat i) →
  LpC X (e + m + 100) Tryz.f194 0 45 tm μ fun x r μ' => x = .exit 0 ∧ ∃ tm' v' n', r = ⟨45, tm', [], none⟩ ∧ n' ≤ (if na < nb then nb else na) + 1 ∧ Lim μ0 μ' v' n' ∧ jac tm' 5 = v' := by
 obtain ⟨M, hM⟩ := exq ((if na < nb then nb else na))
 have hM1 : na ≤ M ∧ nb ≤ M ∧ M ≤ 50000 ∧ (M = na ∨ M = nb) := by rw [hM]; split <;> omega
 rw [← hM]
 intro m
 induction m with
 | zero =>
   intro i c hi hc hm X e tm v μ0 μ hA hB hL h0 h1 h5 h6 h7
   obtain rfl := hm rfl
   have la := (hA.grow hL.grow).len
   have lb := (hB.grow hL.grow).len
   have e1 : ilt (.ofNat i) (.ofNat na) = false := dF (jao _ _) (by omega)
   have e2 : ilt (.ofNat i) (.ofNat nb) = false := dF (jao _ _) (by omega)
   have e3 : ilt 0 (.ofNat 0) = false := rfl
   refine jah ?_
   refine jag ?_
   refine jag ?_
   refine jab rfl ?_
   repeat (refine jam rfl ?_; (try simp only [go_sem, h0, h1, h5, h6, h7, la, lb, jae, e1, e2, e3]); fail_if_success refine stk ?_)
   refine jax ?_ ?_
   ·simp only [go_sem]
   refine jbw ?_
   simp only [jbv]
   exact ⟨by trivial, _, v, i, rfl, by omega, hL, by simp only [go_sem, h5]⟩
 | succ m ih =>
   intro i c hi hc hm X e tm v μ0 μ hA hB hL h0 h1 h5 h6 h7
   have hA' := hA.grow hL.grow
   have hB' := hB.grow hL.grow
   have la := hA'.len
   have lb := hB'.len
   obtain ⟨a, ha, ha0, hat⟩ := at_ex (i := i) hA'
   obtain ⟨b, hb, hb0, hbt⟩ := at_ex (i := i) hB'
   have hat := fun (g : Nat) (hg : 20 ≤ g) => hat (X := X) hg
   have hbt := fun (g : Nat) (hg : 20 ≤ g) => hbt (X := X) hg
   by_cases hdone : i = M ∧ c = 0
   ·obtain ⟨rfl, rfl⟩ := hdone
    have e1 : ilt (.ofNat i) (.ofNat na) = false := dF (jao _ _) (by omega)
    have e2 : ilt (.ofNat i) (.ofNat nb) = false := dF (jao _ _) (by omega)
    have e3 : ilt 0 (.ofNat 0) = false := rfl
    refine jah ?_
    refine jag ?_
    refine jag ?_
    refine jab rfl ?_
    repeat (refine jam rfl ?_; (try simp only [go_sem, h0, h1, h5, h6, h7, la, lb, jae, e1, e2, e3]); fail_if_success refine stk ?_)
    refine jax ?_ ?_
    ·simp only [go_sem]
    refine jbw ?_
    simp only [jbv]
    exact ⟨by trivial, _, v, i, rfl, by omega, hL, by simp only [go_sem, h5]⟩
   obtain ⟨t, ht⟩ := exq (a + b + c)
   have q1 : jak .u64 (Int.add (.ofNat a) (.ofNat b)) = .ofNat (a + b) := jgq (by omega)
   have q2 : jak .u64 (Int.add (.ofNat (a + b)) (.ofNat c)) = .ofNat t := by rw [ht]; exact jgq (by omega)
   have q3 := n_rem32 t
   have q4' : jak .u32 (.ofNat (t % 4294967296)) = .ofNat (t % 4294967296) := by rw [q4, Nat.mod_mod]
   have q5 := n_div32 (a := t) (by omega)
   have q6 : jak .i64 (Int.add (.ofNat i) 1) = .ofNat (i + 1) := jaE i 1 (by omega)
   have hc' : t / 4294967296 ≤ 1 := by omega
   have hc0 : m = 0 → t / 4294967296 = 0 := fun hm0 => by
    have hiM : i = M := by omega
    rw [ht, ha0 (by omega), hb0 (by omega)]
    omega
   obtain ⟨w, hw⟩ := exq (t % 4294967296)
   have hwl : w < 4294967296 := by rw [hw]; exact Nat.mod_lt _ (by decide)
   obtain ⟨c', hcc⟩ := exq (t / 4294967296)
   rw [← hw] at q3 q4'
   rw [← hcc] at q5 hc' hc0
   obtain ⟨v', μ2, hap, hL2⟩ := hL.push (x := .int .u32 (.ofNat w)) (by omega) ⟨w, hwl, rfl⟩
   have bs : ∀ r x, aev pZ r x = .int .u32 (.ofNat w) → jap pZ (aev pZ r) 38 1 #[(0, x)] = some (.cells 1 141 #[.int .u32 (.ofNat w)] .e 0 0 false false, fun id => .slice (some ⟨id, 0, none⟩) 1 2) := fun r x g => jbr Tryz.underlying38 jcI rfl jh1 rfl g rfl
   have go : ∀ {tm1 : T Value}, (∀ j, j < 10 → jac tm1 j = jac tm j) → EndsC (jaj pZ X S0 (e + (m + 1) + 97) (jaM 1 (jbk Tryz.f194 0)) ⟨45, tm1, [], none⟩ μ) fun x r μ' => x = .normal ∧ μ' = μ2 ∧ ∃ tm', r = ⟨45, tm', [], none⟩ ∧ jac tm' 0 = va ∧ jac tm' 1 = vb ∧ jac tm' 5 = v' ∧ jac tm' 6 = .int .u64 (.ofNat c') ∧ jac tm' 7 = .int .i64 (.ofNat i) := by
    intro tm1 hr
    have h0 := (hr 0 (by decide)).trans h0
    have h1 := (hr 1 (by decide)).trans h1
    have h5 := (hr 5 (by decide)).trans h5
    have h6 := (hr 6 (by decide)).trans h6
    have h7 := (hr 7 (by decide)).trans h7
    clear hr
    repeat (refine jaa rfl ?_; (try simp only [go_sem, h0, h1, h5, h6, h7, hat, hbt, Nat.reduceLeDiff, q1, q2, q3, conv_u4, q4', bs, hap, q5]); fail_if_success refine stk ?_)
    try simp only [jbi, jai]
    exact ⟨by trivial, by trivial, _, rfl, by simp only [go_sem, h0], by simp only [go_sem, h1], by simp only [go_sem], by simp only [go_sem], by simp only [go_sem, h7]⟩
   have fin : ∀ {tm' : T Value}, jac tm' 0 = va → jac tm' 1 = vb → jac tm' 5 = v' → jac tm' 6 = .int .u64 (.ofNat c') → jac tm' 7 = .int .i64 (.ofNat i) → EndsC (jaj pZ X S0 (e + (m + 1) + 97) (jaS 2 (jbk Tryz.f194 0)) ⟨45, tm', [], none⟩ μ2) (je8 (e + (m + 1) + 99) pZ X S0 (.loop (jbk Tryz.f194 0)) fun x r μ' => x = .exit 0 ∧ ∃ tm' v' n', r = ⟨45, tm', [], none⟩ ∧ n' ≤ M + 1 ∧ Lim μ0 μ' v' n' ∧ jac tm' 5 = v') := by
    intro tm' h0 h1 h5 h6 h7
    repeat (refine jaa rfl ?_; (try simp only [go_sem, h7, q6]); fail_if_success refine stk ?_)
    rw [(by omega : e + (m + 1) + 99 = e + m + 100)]
    exact ih (i + 1) c' (by omega) hc' hc0 hA hB hL2 (by simp only [go_sem, h0]) (by simp only [go_sem, h1]) (by simp only [go_sem, h5]) (by simp only [go_sem, h6]) (by simp only [go_sem])
   by_cases c1 : i < na
   ·have e1 : ilt (.ofNat i) (.ofNat na) = true := dT (jao _ _) c1
    refine jah ?_
    rw [lbP]
    refine jag ?_
    refine jag ?_
    refine jab rfl ?_
    repeat (refine jam rfl ?_; (try simp only [go_sem, h0, h1, h5, h6, h7, la, lb, jae, e1]); fail_if_success refine stk ?_)
    refine jbl ?_ ?_
    ·simp only [go_sem]
    refine jbo ?_
    simp only [jai]
    refine jag (rzM (go (by intro j hj; rcases (by omega : j = 0 ∨ j = 1 ∨ j = 2 ∨ j = 3 ∨ j = 4 ∨ j = 5 ∨ j = 6 ∨ j = 7 ∨ j = 8 ∨ j = 9) with rfl | rfl | rfl | rfl | rfl | rfl | rfl | rfl | rfl | rfl <;> simp only [go_sem])) ?_)
    rintro x r μ' ⟨rfl, rfl, tm', rfl, h0, h1, h5, h6, h7⟩
    simp only [jai]
    exact fin h0 h1 h5 h6 h7
   have e1 : ilt (.ofNat i) (.ofNat na) = false := dF (jao _ _) c1
   by_cases c2 : i < nb
   ·have e2 : ilt (.ofNat i) (.ofNat nb) = true := dT (jao _ _) c2
    refine jah ?_
    rw [lbP]
    refine jag ?_
    refine jag ?_
    refine jab rfl ?_
    repeat (refine jam rfl ?_; (try simp only [go_sem, h0, h1, h5, h6, h7, la, lb, jae, e1, e2]); fail_if_success refine stk ?_)
    refine jbl ?_ ?_
    ·simp only [go_sem]
    refine jbo ?_
    simp only [jai]
    refine jag (rzM (go (by intro j hj; rcases (by omega : j = 0 ∨ j = 1 ∨ j = 2 ∨ j = 3 ∨ j = 4 ∨ j = 5 ∨ j = 6 ∨ j = 7 ∨ j = 8 ∨ j = 9) with rfl | rfl | rfl | rfl | rfl | rfl | rfl | rfl | rfl | rfl <;> simp only [go_sem])) ?_)
    rintro x r μ' ⟨rfl, rfl, tm', rfl, h0, h1, h5, h6, h7⟩
    simp only [jai]
    exact fin h0 h1 h5 h6 h7
   have e2 : ilt (.ofNat i) (.ofNat nb) = false := dF (jao _ _) c2
   have e3 : ilt 0 (.ofNat c) = true := dT (jao 0 c) (by omega)
   refine jah ?_
   rw [lbP]
   refine jag ?_
   refine jag ?_
   refine jab rfl ?_
   repeat (refine jam rfl ?_; (try simp only [go_sem, h0, h1, h5, h6, h7, la, lb, jae, e1, e2, e3]); fail_if_success refine stk ?_)
   refine jbl ?_ ?_
   ·simp only [go_sem]
   refine jbo ?_
   simp only [jai]
   refine jag (rzM (go (by intro j hj; rcases (by omega : j = 0 ∨ j = 1 ∨ j = 2 ∨ j = 3 ∨ j = 4 ∨ j = 5 ∨ j = 6 ∨ j = 7 ∨ j = 8 ∨ j = 9) with rfl | rfl | rfl | rfl | rfl | rfl | rfl | rfl | rfl | rfl <;> simp only [go_sem])) ?_)
   rintro x r μ' ⟨rfl, rfl, tm', rfl, h0, h1, h5, h6, h7⟩
   simp only [jai]
   exact fin h0 h1 h5 h6 h7
theorem Lim.empty (μ : Mem) : Lim μ ⟨μ.obs.set μ.next ob0, Nat.add μ.next 1⟩ (.slice (some ⟨μ.next, 0, none⟩) 0 0) 0 :=
 ⟨[], ⟨.inr ⟨μ.next, 0, #[], .e, false, false, 0, rfl, by show T.get _ _ = _; rw [T.get_set, if_pos rfl]; rfl, rzN _, (fun k h => absurd h (Nat.not_lt_zero _)), .inl ⟨rfl, rfl⟩⟩, ja5 μ _, fun i hi => by
  obtain ⟨l, c, hv⟩ := hi
  injection hv with e1
  injection e1 with e1
  injection e1 with e1
  subst e1
  exact ⟨rzN _, rzQ _⟩⟩, rfl, (fun x h => by cases h)⟩
theorem jil {na nb : Nat} {va vb : Value} (hna : na ≤ 50000) (hnb : nb ≤ 50000) {X : XT} {g : Nat} {μ : Mem} (hA : Rd μ va na) (hB : Rd μ vb nb) (hg : 70000 ≤ g) : ∃ v n μ', aFun pZ (jaj pZ X S0 g) 194 [va, vb] μ = some (v, μ') ∧ n ≤ (if na < nb then nb else na) + 1 ∧ Rd μ' v n ∧ Grow μ μ' ∧ New μ v := by
 obtain ⟨k, rfl⟩ := gle hg
 have hM : (if na < nb then nb else na) ≤ 50000 := by split <;> omega
 have key : EndsF (aFun pZ (jaj pZ X S0 (k + 70000)) 194 [va, vb] μ) fun w μ' => ∃ n, n ≤ (if na < nb then nb else na) + 1 ∧ Rd μ' w n ∧ Grow μ μ' ∧ New μ w := by
  refine jaf Tryz.func194 rfl rfl (nbl rfl) ?_
  simp only [go_sem, Tryz.ntmps194]
  repeat (refine jaa rfl ?_; (try simp only [go_sem, bs0]); fail_if_success refine stk ?_)
  rw [(by omega : k + 69994 = (k + 69893 - (if na < nb then nb else na)) + ((if na < nb then nb else na) + 1) + 100)]
  refine rzM (plus_loop hna hnb _ 0 0 (rzT _) (rzY _) (fun h => rfl) hA hB (Lim.empty μ) (by simp only [go_sem]) (by simp only [go_sem]) (by simp only [go_sem]) (by simp only [go_sem]; try rfl) (by simp only [go_sem]; try rfl)) ?_
  rintro x r μ1 ⟨rfl, tm', v', n', rfl, hn', hL, h5⟩
  simp only [go_sem]
  obtain ⟨v2, n2, μ2, hr, hn2, hR, hG, hN⟩ := jgg (X := X) (g := k + 69994) hL.rd (by omega) (by omega)
  repeat (refine jaa rfl ?_; (try simp only [go_sem, h5, hr]); fail_if_success refine stk ?_)
  exact jad ⟨rfl, v2, by simp only [go_sem, Tryz.results194], n2, by omega, hR, hL.grow.trans hG, fun i hi => rzS hL.grow.1 (hN i hi)⟩
 obtain ⟨w, μ', h1, n, h2, h3, h4⟩ := key
 exact ⟨w, n, μ', h1, h2, h3, h4⟩
theorem sh_none (a b : Int) : jaQ false .u32 a b = none := rfl
theorem jjz (a b : Int) : jbA Nat.land .u32 .u32 a b = none := rfl
theorem pv_shr : ∀ n, n < 32 → pv pZ (Op.shift .shr .u32 10 .i64 (.ofNat n)) = some (.int .u32 (.ofNat (10 / 2 ^ n))) := by
 intro n h
 have h : n = 0 ∨ n = 1 ∨ n = 2 ∨ n = 3 ∨ n = 4 ∨ n = 5 ∨ n = 6 ∨ n = 7 ∨ n = 8 ∨ n = 9 ∨ n = 10 ∨ n = 11 ∨ n = 12 ∨ n = 13 ∨ n = 14 ∨ n = 15 ∨ n = 16 ∨ n = 17 ∨ n = 18 ∨ n = 19 ∨ n = 20 ∨ n = 21 ∨ n = 22 ∨ n = 23 ∨ n = 24 ∨ n = 25 ∨ n = 26 ∨ n = 27 ∨ n = 28 ∨ n = 29 ∨ n = 30 ∨ n = 31 := by omega
 rcases h with rfl | rfl | rfl | rfl | rfl | rfl | rfl | rfl | rfl | rfl | rfl | rfl | rfl | rfl | rfl | rfl | rfl | rfl | rfl | rfl | rfl | rfl | rfl | rfl | rfl | rfl | rfl | rfl | rfl | rfl | rfl | rfl <;> (show _ = _; kernel_rfl)
theorem pv_and : ∀ y, y ≤ 10 → pv pZ (pure (Value.int .u32 (bits .and .u32 (.ofNat y) 1)) : Sem Value) = some (.int .u32 (.ofNat (y % 2))) := by
 intro y h
 have h : y = 0 ∨ y = 1 ∨ y = 2 ∨ y = 3 ∨ y = 4 ∨ y = 5 ∨ y = 6 ∨ y = 7 ∨ y = 8 ∨ y = 9 ∨ y = 10 := by omega
 rcases h with rfl | rfl | rfl | rfl | rfl | rfl | rfl | rfl | rfl | rfl | rfl <;> (show _ = _; kernel_rfl)
theorem jjK {na q c : Nat} {va : Value} (hna : na ≤ 49000) : ∀ (m : Nat), m ≤ 32 → ∀ {X : XT} {e no : Nat} {tm : T Value} {v : Value} {μ0 μ : Mem}, Rd μ0 va na → q < μ0.next → jal μ0 q 0 = some (.int .u32 10) → Grow μ0 μ → Rd μ v no → no ≤ na + 2 * (32 - m) → jac tm 0 = va → jac tm 1 = .slice (some ⟨q, 0, none⟩) 1 c → jac tm 5 = v → jac tm 6 = .int .i64 (rdx m) →
  LpC X (e + m + 70100) Tryz.f195 0 34 tm μ fun x r μ' => x = .exit 0 ∧ Grow μ0 μ' ∧ ∃ tm' v' n', r = ⟨34, tm', [], none⟩ ∧ n' ≤ na + 64 ∧ Rd μ' v' n' ∧ jac tm' 5 = v' := by
 intro m
 induction m with
 | zero =>
   intro _ X e no tm v μ0 μ hA hq hqc hG hR hno h0 h1 h5 h6
   have h6 : jac tm 6 = .int .i64 (-1) := h6
   have e1 : ilt (-1) 0 = true := rfl
   refine jah ?_
   repeat (refine jaa rfl ?_; (try simp only [go_sem, h6, e1]); fail_if_success refine stk ?_)
   exact ⟨by trivial, hG, _, v, no, rfl, by omega, hR, by simp only [go_sem, h5]⟩
 | succ m ih =>
   intro hm X e no tm v μ0 μ hA hq hqc hG hR hno h0 h1 h5 h6
   have h6 : jac tm 6 = .int .i64 (.ofNat m) := h6
   have e1 : ilt (.ofNat m) 0 = false := dF (jao m 0) (by omega)
   obtain ⟨v1, n1, μ1, hr1, hn1, hR1, hG1, _⟩ := jil (X := X) (g := e + (m + 1) + 70094) (by omega) (by omega) hR hR (by omega)
   rw [if_neg (Nat.lt_irrefl _)] at hn1
   have hGa := hG.trans hG1
   have hc1 : jal μ1 q 0 = some (.int .u32 10) := (jbF hGa hq 0).trans hqc
   have q1 : aDiv false .i64 .i64 (.ofNat m) 32 = some (.int .i64 0) := by
    show some (Value.int .i64 (jak .i64 (.ofNat (m / 32)))) = _
    rw [Nat.div_eq_of_lt (by omega)]; rfl
   have q2 : aDiv true .i64 .i64 (.ofNat m) 32 = some (.int .i64 (.ofNat m)) := by
    show some (Value.int .i64 (.ofNat (m % 32))) = _
    rw [Nat.mod_eq_of_lt (by omega)]
   have hix : ∀ rg a b, aev pZ rg a = .slice (some ⟨q, 0, none⟩) 1 c → aev pZ rg b = .int .i64 0 → jan pZ (aev pZ rg) 38 a b = some (.pointer (some ⟨q, 0, none⟩)) := fun rg a b g1 g2 => by
    rw [jaL (P := pZ) (m := 0) Tryz.underlying38 jcI rfl g1 g2 (by decide)]
   have s1 := pv_shr m (by omega)
   have hy : 10 / 2 ^ m ≤ 10 := Nat.div_le_self _ _
   have s2 := pv_and (10 / 2 ^ m) hy
   obtain ⟨y, hyy⟩ : ∃ y, y = 10 / 2 ^ m := ⟨_, rfl⟩
   rw [← hyy] at s1 s2
   have q6 : jak .i64 (Int.sub (.ofNat m) 1) = rdx m := jih (by omega)
   by_cases hb : y % 2 = 1
   ·have e2 : ieq (.ofNat (y % 2)) 1 = true := dT (jaB _ 1 1 rfl) hb
    obtain ⟨v2, n2, μ2, hr2, hn2, hR2, hG2, _⟩ := jil (X := X) (g := e + (m + 1) + 70092) (by omega) (by omega) hR1 (hA.grow hGa) (by omega)
    have hn2' : n2 ≤ na + 2 * (32 - m) := by split at hn2 <;> omega
    refine jah ?_
    repeat (refine jaa rfl ?_; (try simp only [go_sem, h0, h1, h5, h6, e1, hr1, q1, hix, hc1, q2, sh_none, s1, jjz, s2, e2, hr2, q6]); fail_if_success refine stk ?_)
    rw [(by omega : e + (m + 1) + 70099 = e + m + 70100)]
    exact ih (by omega) (no := n2) (v := v2) hA hq hqc (hGa.trans hG2) hR2 hn2' (by simp only [go_sem, h0]) (by simp only [go_sem, h1]) (by simp only [go_sem]) (by simp only [go_sem])
   ·have e2 : ieq (.ofNat (y % 2)) 1 = false := dF (jaB _ 1 1 rfl) hb
    refine jah ?_
    repeat (refine jaa rfl ?_; (try simp only [go_sem, h0, h1, h5, h6, e1, hr1, q1, hix, hc1, q2, sh_none, s1, jjz, s2, e2, q6]); fail_if_success refine stk ?_)
    rw [(by omega : e + (m + 1) + 70099 = e + m + 70100)]
    exact ih (by omega) (no := n1) (v := v1) hA hq hqc hGa hR1 (by omega) (by simp only [go_sem, h0]) (by simp only [go_sem, h1]) (by simp only [go_sem]) (by simp only [go_sem])
theorem times_ex {na q c : Nat} {va : Value} (hna : na ≤ 49000) {X : XT} {g : Nat} {μ : Mem} (hA : Rd μ va na) (hq : q < μ.next) (hqc : jal μ q 0 = some (.int .u32 10)) (hg : 71000 ≤ g) : ∃ v n μ', aFun pZ (jaj pZ X S0 g) 195 [va, .slice (some ⟨q, 0, none⟩) 1 c] μ = some (v, μ') ∧ n ≤ na + 64 ∧ Rd μ' v n ∧ Grow μ μ' ∧ New μ v := by
 obtain ⟨k, rfl⟩ := gle hg
 have q1 : jak .i64 (Int.mul 32 (.ofNat 1)) = 32 := rfl
 have q2 : jak .i64 (Int.sub 32 1) = 31 := rfl
 have lb : aLen pZ 38 (.slice (some ⟨q, 0, none⟩) 1 c) = some 1 := by
  unfold aLen
  simp only [Tryz.underlying38]
 have key : EndsF (aFun pZ (jaj pZ X S0 (k + 71000)) 195 [va, .slice (some ⟨q, 0, none⟩) 1 c] μ) fun w μ' => ∃ n, n ≤ na + 64 ∧ Rd μ' w n ∧ Grow μ μ' ∧ New μ w := by
  refine jaf Tryz.func195 rfl rfl (nbl rfl) ?_
  simp only [go_sem, Tryz.ntmps195]
  repeat (refine jaa rfl ?_; (try simp only [go_sem, bs0, lb, jae, q1, q2]); fail_if_success refine stk ?_)
  rw [(by omega : k + 70995 = (k + 863) + 32 + 70100)]
  refine rzM (jjK (c := c) hna 32 (rzN _) (no := 0) hA hq hqc (ja5 μ _) (Lim.empty μ).rd (rzY _) (by simp only [go_sem]) (by simp only [go_sem]) (by simp only [go_sem]) (by simp only [go_sem]; try rfl)) ?_
  rintro x r μ1 ⟨rfl, hG, tm', v', n', rfl, hn', hR, h5⟩
  simp only [go_sem]
  obtain ⟨v2, n2, μ2, hr, hn2, hR2, hG2, hN⟩ := jgg (X := X) (g := k + 70995) hR (by omega) (by omega)
  repeat (refine jaa rfl ?_; (try simp only [go_sem, h5, hr]); fail_if_success refine stk ?_)
  exact jad ⟨rfl, v2, by simp only [go_sem, Tryz.results195], n2, by omega, hR2, hG.trans hG2, fun i hi => rzS hG.1 (hN i hi)⟩
 obtain ⟨w, μ', h1, n, h2, h3, h4, h5⟩ := key
 exact ⟨w, n, μ', h1, h2, h3, h4, h5⟩
end
noncomputable section
open Go.Proofs.YtlkenchibdeinaaGreatDoor.NumText (dig)
theorem conv_84 (n : Int) : jaG pZ 5 141 (.int .u8 n) = some (.int .u32 (jak .u32 n)) := by
 simp only [jaG, Tryz.underlying5, Tryz.underlying141]
theorem n4_sub {a b : Nat} (h : b ≤ a) (h2 : a < 4294967296) : jak .u32 (Int.sub (.ofNat a) (.ofNat b)) = .ofNat (a - b) := by
 have e : Int.sub (.ofNat a) (.ofNat b) = .ofNat (a - b) := by show (a : Int) - (b : Int) = ((a - b : Nat) : Int); omega
 rw [e, q4, Nat.mod_eq_of_lt (by omega)]
def ob1 (x : Nat) : Ob := .cells 1 141 #[.int .u32 (.ofNat x)] .e 0 0 false false
theorem bs1 {x : Nat} (r : Rg) (y : Operand) (h : aev pZ r y = .int .u32 (.ofNat x)) : jap pZ (aev pZ r) 38 1 #[(0, y)] = some (ob1 x, fun id => .slice (some ⟨id, 0, none⟩) 1 2) := jbr Tryz.underlying38 jcI rfl jh1 rfl h rfl
theorem bs10 (r : Rg) : jap pZ (aev pZ r) 38 1 #[(0, .const (.int .u32 10))] = some (ob1 10, fun id => .slice (some ⟨id, 0, none⟩) 1 2) := bs1 (x := 10) r _ rfl
theorem ob1_rd {μ : Mem} {i x : Nat} (hx : x < 4294967296) (h : μ.obs.get i = some (ob1 x)) (hi : i < μ.next) : Rd μ (.slice (some ⟨i, 0, none⟩) 1 2) 1 :=
 .inr ⟨i, 2, 1, #[.int .u32 (.ofNat x)], .e, false, false, rfl, h, rzN _, hi, fun k hk => by
  obtain rfl : k = 0 := by omega
  exact ⟨x, hx, rfl⟩, .inl ⟨rfl, rzN _⟩⟩
theorem ob1_cell {μ : Mem} {i x : Nat} (h : μ.obs.get i = some (ob1 x)) : jal μ i 0 = some (.int .u32 (.ofNat x)) := by
 unfold jal
 rw [h]
 rfl
theorem Rd.off {μ μ' : Mem} {v : Value} {n j : Nat} {o : Ob} (h : Rd μ v n) (hn : ∀ i, SlAt v i → i ≠ j) (hm : μ' = ⟨μ.obs.set j o, μ.next⟩) : Rd μ' v n := by
 subst hm
 rcases h with h | ⟨i, c, m, z, ov, fx, sh, h1, h2, h3, h4, h5⟩
 ·exact .inl h
 ·refine .inr ⟨i, c, m, z, ov, fx, sh, h1, ?_, h3, h4, h5⟩
  show T.get (T.set _ _ _) _ = _
  rw [T.get_set, if_neg (hn i ⟨_, _, h1⟩)]
  exact h2
theorem rp_loop {s : ByteArray} (hl : (bys s).length ≤ 700) : ∀ (m i : Nat), i + m = (bys s).length → jdr ((bys s).drop i) → ∀ {X : XT} {e n : Nat} {tm : T Value} {v : Value} {μ0 μ : Mem}, n ≤ 66 * i → Rd μ v n → Grow μ0 μ → jac tm 0 = .string s → jac tm 2 = .slice none 0 0 → jac tm 3 = .int .i64 0 → jac tm 4 = v → jac tm 6 = .int .i64 (.ofNat i) →
  LpC X (e + m + 80000) Tryz.f149 1 51 tm μ fun x r μ' => x = .exit 2 ∧ Grow μ0 μ' ∧ ∃ tm' v' n', r = ⟨51, tm', [], none⟩ ∧ n' ≤ 46200 ∧ Rd μ' v' n' ∧ jac tm' 4 = v' := by
 have ls := jaU s
 intro m
 induction m with
 | zero =>
   intro i hi hd X e n tm v μ0 μ hn hR hG h0 h2 h3 h4 h6
   have hi : i = (bys s).length := hi
   have e1 : ilt (.ofNat i) (.ofNat (bys s).length) = false := dF (jao _ _) (by omega)
   refine jah ?_
   repeat (refine jaa rfl ?_; (try simp only [go_sem, h0, h4, h6, ls, jae, e1]); fail_if_success refine stk ?_)
   exact ⟨by trivial, hG, _, v, n, rfl, by omega, hR, by simp only [go_sem, h4]⟩
 | succ m ih =>
   intro i hi hd X e n tm v μ0 μ hn hR hG h0 h2 h3 h4 h6
   have hlt : i < (bys s).length := by omega
   have hdr : (bys s).drop i = (bys s)[i]'hlt :: (bys s).drop (i + 1) := List.drop_eq_getElem_cons hlt
   obtain ⟨c, hc⟩ := exq ((bys s)[i]'hlt)
   rw [← hc] at hdr
   have hx : ∀ r x y, aev pZ r x = .string s → aev pZ r y = .int .i64 (.ofNat i) → jaX pZ (aev pZ r) 9 x y = some (.int .u8 (.ofNat c)) := fun r x y h1 h2 => by rw [hc]; exact jbB hlt h1 h2
   have e1 : ilt (.ofNat i) (.ofNat (bys s).length) = true := dT (jao _ _) hlt
   have a1 : jak .i64 (Int.add (.ofNat i) 1) = .ofNat (i + 1) := jaE i 1 (by omega)
   clear hc
   rw [hdr] at hd
   have hdc := hd c List.mem_cons_self
   have hcb : 48 ≤ c ∧ c ≤ 57 := by simp [dig] at hdc; exact hdc
   have hd' : jdr ((bys s).drop (i + 1)) := fun d hd1 => hd d (List.mem_cons_of_mem _ hd1)
   have q1 : jak .u32 (.ofNat c) = .ofNat c := by rw [q4, Nat.mod_eq_of_lt (by omega)]
   have q2 : jak .u32 (Int.sub (.ofNat c) 48) = .ofNat (c - 48) := n4_sub (b := 48) hcb.1 (by omega)
   obtain ⟨μa, hμa⟩ := exq (⟨μ.obs.set (Nat.add μ.next 1) (ob1 10), μ.next + 11⟩ : Mem)
   have hGa : Grow μ μa := by
    rw [hμa]
    exact ⟨Nat.le_add_right _ _, fun j hj => by show T.get (T.set _ _ _) _ = _; rw [T.get_set, if_neg (by show j ≠ μ.next + 1; omega)]⟩
   have hca : jal μa (Nat.add μ.next 1) 0 = some (.int .u32 10) := ob1_cell (x := 10) (by rw [hμa]; show T.get (T.set _ _ _) _ = _; rw [T.get_set, if_pos rfl])
   obtain ⟨v1, n1, μ1, hr1, hn1, hR1, hG1, hN1⟩ := times_ex (c := 2) (X := X) (g := e + (m + 1) + 79995) (μ := μa) (by omega) (hR.grow hGa) (q := Nat.add μ.next 1) (by rw [hμa]; show μ.next + 1 < μ.next + 11; omega) hca (by omega)
   have hna : μa.next = μ.next + 11 := by rw [hμa]
   obtain ⟨μb, hμb⟩ := exq (⟨μ1.obs.set (Nat.add μ.next 8) (ob1 (c - 48)), μ1.next⟩ : Mem)
   have hlt1 : μ.next + 11 ≤ μ1.next := by rw [← hna]; exact hG1.1
   have hRb1 : Rd μb v1 n1 := hR1.off (j := Nat.add μ.next 8) (o := ob1 (c - 48)) (fun i hi => by have := hN1 i hi; rw [hna] at this; show i ≠ μ.next + 8; omega) hμb
   have hRb2 : Rd μb (.slice (some ⟨Nat.add μ.next 8, 0, none⟩) 1 2) 1 := ob1_rd (x := c - 48) (by omega) (by rw [hμb]; show T.get (T.set _ _ _) _ = _; rw [T.get_set, if_pos rfl]) (by rw [hμb]; show μ.next + 8 < μ1.next; omega)
   obtain ⟨v2, n2, μ2, hr2, hn2, hR2, hG2, _⟩ := jil (X := X) (g := e + (m + 1) + 79995) (μ := μb) (by omega) (by decide) hRb1 hRb2 (by omega)
   have hn2' : n2 ≤ 66 * (i + 1) := by split at hn2 <;> omega
   have hG' : Grow μ μ2 := by
    refine ⟨?_, fun j hj => ?_⟩
    ·have := hG2.1; rw [hμb] at this; have : μ1.next ≤ μ2.next := this; omega
    ·rw [hG2.2 j (by rw [hμb]; show j < μ1.next; omega), hμb]
     show T.get (T.set _ _ _) _ = _
     rw [T.get_set, if_neg (by show j ≠ μ.next + 8; omega)]
     exact (hG1.2 j (by rw [hna]; omega)).trans (hGa.2 j hj)
   rw [hμa] at hr1
   rw [hμb] at hr2
   have bsc : ∀ r y, aev pZ r y = .int .u32 (.ofNat (c - 48)) → jap pZ (aev pZ r) 38 1 #[(0, y)] = some (ob1 (c - 48), fun id => .slice (some ⟨id, 0, none⟩) 1 2) := fun r y h => bs1 r y h
   refine jah ?_
   repeat (refine jaa rfl ?_; (try simp only [go_sem, h0, h4, h6, ls, jae, e1]); fail_if_success refine stk ?_)
   refine jaz (n := 11) (ms := [0, 0, 3, 0, 0, 24, 56, 120, 248, 511, 1023]) (ord := [0, 1, 2, 3, 4, 5, 6, 7, 8, 9, 10]) (ds := ?_) ?_ ?_ ?_ ?_ ?_ ?_
   rotate_left
   ·kernel_rfl
   ·kernel_rfl
   ·kernel_rfl
   ·rfl
   ·rfl
   iterate 11 (refine jay (by first | rfl | (simp only [go_sem, h0, h4, h6, bs10, bsc, gg195, hr1, hx, conv_84, q1, q2, gg194, hr2])) (by simp only [jaC, heavy, jaO, jar, go_sem, h0, h4, h6, bs10, bsc, gg195, hr1, hx, conv_84, q1, q2, gg194, hr2]; try exact rfl) rfl ?_)
   simp only [dRun, jat, jai]
   repeat (refine jaa rfl ?_; (try simp only [go_sem, h6, a1]); fail_if_success refine stk ?_)
   rw [(by omega : e + (m + 1) + 79999 = e + m + 80000)]
   exact ih (i + 1) (by omega) hd' (n := n2) (v := v2) hn2' hR2 (hG.trans hG') (by simp only [go_sem, h0]) (by simp only [go_sem, h2]) (by simp only [go_sem, h3]) (by simp only [go_sem]) (by simp only [go_sem])
theorem rp_check {s : ByteArray} (hl : (bys s).length ≤ 700) : ∀ (m i : Nat), i + m = (bys s).length → ∀ {X : XT} {e : Nat} {tm : T Value} {v : Value} {μ : Mem}, jac tm 0 = .string s → jac tm 2 = .slice none 0 0 → jac tm 3 = .int .i64 0 → jac tm 4 = v → jac tm 5 = .int .i64 (.ofNat i) →
  LpC X (e + m + 40) Tryz.f149 0 51 tm μ fun x r μ' => μ' = μ ∧ ∃ tm', r = ⟨51, tm', [], none⟩ ∧ ((jdr ((bys s).drop i) ∧ x = .exit 0 ∧ jac tm' 0 = .string s ∧ jac tm' 2 = .slice none 0 0 ∧ jac tm' 3 = .int .i64 0 ∧ jac tm' 4 = v) ∨ (¬ jdr ((bys s).drop i) ∧ x = .ret ∧ jac tm' 2 = .slice none 0 0 ∧ jac tm' 3 = .int .i64 13)) := by
 have ls := jaU s
 intro m
 induction m with
 | zero =>
   intro i hi X e tm v μ h0 h2 h3 h4 h5
   have hi : i = (bys s).length := hi
   have e1 : ilt (.ofNat i) (.ofNat (bys s).length) = false := dF (jao _ _) (by omega)
   refine jah ?_
   repeat (refine jaa rfl ?_; (try simp only [go_sem, h0, h5, ls, jae, e1]); fail_if_success refine stk ?_)
   exact ⟨by trivial, _, rfl, .inl ⟨(by rw [hi, List.drop_length]; intro c hc; cases hc), by trivial, by simp only [go_sem, h0], by simp only [go_sem, h2], by simp only [go_sem, h3], by simp only [go_sem, h4]⟩⟩
 | succ m ih =>
   intro i hi X e tm v μ h0 h2 h3 h4 h5
   have hlt : i < (bys s).length := by omega
   have hdr : (bys s).drop i = (bys s)[i]'hlt :: (bys s).drop (i + 1) := List.drop_eq_getElem_cons hlt
   obtain ⟨c, hc⟩ := exq ((bys s)[i]'hlt)
   rw [← hc] at hdr
   have hx : ∀ r x y, aev pZ r x = .string s → aev pZ r y = .int .i64 (.ofNat i) → jaX pZ (aev pZ r) 9 x y = some (.int .u8 (.ofNat c)) := fun r x y h1 h2 => by rw [hc]; exact jbB hlt h1 h2
   have e1 : ilt (.ofNat i) (.ofNat (bys s).length) = true := dT (jao _ _) hlt
   have a1 : jak .i64 (Int.add (.ofNat i) 1) = .ofNat (i + 1) := jaE i 1 (by omega)
   clear hc
   rw [hdr]
   by_cases h48 : c < 48
   ·have d1 : ilt (.ofNat c) 48 = true := dT (jbn c 48 48 rfl) h48
    refine jah ?_
    repeat (refine jaa rfl ?_; (try simp only [go_sem, h0, h5, ls, jae, e1, hx, d1]); fail_if_success refine stk ?_)
    refine jad ?_
    exact ⟨by trivial, _, rfl, .inr ⟨fun ha => (by have := ha c List.mem_cons_self; simp [dig] at this; omega), by trivial, by simp only [go_sem], by simp only [go_sem]⟩⟩
   have d1 : ilt (.ofNat c) 48 = false := dF (jbn c 48 48 rfl) h48
   by_cases h57 : 57 < c
   ·have d2 : ilt 57 (.ofNat c) = true := dT (jcp c 57 57 rfl) h57
    refine jah ?_
    repeat (refine jaa rfl ?_; (try simp only [go_sem, h0, h5, ls, jae, e1, hx, d1, d2]); fail_if_success refine stk ?_)
    refine jad ?_
    exact ⟨by trivial, _, rfl, .inr ⟨fun ha => (by have := ha c List.mem_cons_self; simp [dig] at this; omega), by trivial, by simp only [go_sem], by simp only [go_sem]⟩⟩
   have d2 : ilt 57 (.ofNat c) = false := dF (jcp c 57 57 rfl) h57
   have hdc : dig c = true := by simp [dig]; omega
   have hall : ∀ l, jdr (c :: l) ↔ jdr l := fun l => ⟨fun h d hd => h d (List.mem_cons_of_mem _ hd), fun h d hd => by
    rcases List.mem_cons.1 hd with rfl | hd
    ·exact hdc
    ·exact h d hd⟩
   refine jah ?_
   repeat (refine jaa rfl ?_; (try simp only [go_sem, h0, h5, ls, jae, e1, hx, d1, d2, a1]); fail_if_success refine stk ?_)
   rw [(by omega : e + (m + 1) + 39 = e + m + 40)]
   refine rzM (ih (i + 1) (by omega) (v := v) (by simp only [go_sem, h0]) (by simp only [go_sem, h2]) (by simp only [go_sem, h3]) (by simp only [go_sem, h4]) (by simp only [go_sem])) ?_
   rintro x r μ' ⟨g1, tm', g2, g3⟩
   refine ⟨g1, tm', g2, ?_⟩
   rcases g3 with ⟨g3, g4⟩ | ⟨g3, g4⟩
   ·exact .inl ⟨(hall _).2 g3, g4⟩
   ·exact .inr ⟨fun h => g3 ((hall _).1 h), g4⟩
end
noncomputable section
open Go.Proofs.YtlkenchibdeinaaGreatDoor.NumText (dig unsg isS)
@[go_sem] def gg115 {X ev} := gC X ev Tryz.func115 rfl rfl
@[go_sem] def gg150 {X ev} := gC X ev Tryz.func150 rfl rfl
@[go_sem] def gg116 {X ev} := gC X ev Tryz.func116 rfl rfl
theorem bigR_ex {X : XT} {g n : Nat} {v : Value} {μ : Mem} (h : Rd μ v n) (hn : n ≤ 50000) (hg : 60200 ≤ g) : ∃ b μ', aFun pZ (jaj pZ X S0 g) 89 [v] μ = some (.bool b, μ') ∧ Grow μ μ' := by
 obtain ⟨k, rfl⟩ := gle hg
 obtain ⟨v1, n1, μ1, hr, hn1, hR, hG, _⟩ := jgg (X := X) (g := k + 60197) h (by omega) (by omega)
 have lv := hR.len
 refine ⟨decide (64 < n1), μ1, jaF ?_, hG⟩
 have e1 : ilt 64 (.ofNat n1) = decide (64 < n1) := jao 64 n1
 refine jaf Tryz.func89 rfl rfl (nbl rfl) ?_
 simp only [go_sem, Tryz.ntmps89]
 repeat (refine jaa rfl ?_; (try simp only [go_sem, hr, lv, jae, e1]); fail_if_success refine stk ?_)
 exact jad ⟨rfl, _, by simp only [go_sem, Tryz.results89], rfl, rfl⟩
theorem jjV {s : ByteArray} (hl : (bys s).length ≤ 700) {X : XT} {g : Nat} {μ : Mem} (hg : 90000 ≤ g) : ∃ v n e μ', aFun pZ (jaj pZ X S0 g) 149 [.string s] μ = some (.tuple #[v, .int .i64 e], μ') ∧ ((0 < (bys s).length ∧ jdr (bys s)) → e = 0 ∨ e = 11) ∧ (¬ (0 < (bys s).length ∧ jdr (bys s)) → e = 13) ∧ Rd μ' v n ∧ Grow μ μ' := by
 obtain ⟨k, rfl⟩ := gle hg
 have ls := jaU s
 have key : EndsF (aFun pZ (jaj pZ X S0 (k + 90000)) 149 [.string s] μ) fun w μ' => ∃ v n e, w = .tuple #[v, .int .i64 e] ∧ ((0 < (bys s).length ∧ jdr (bys s)) → e = 0 ∨ e = 11) ∧ (¬ (0 < (bys s).length ∧ jdr (bys s)) → e = 13) ∧ Rd μ' v n ∧ Grow μ μ' := by
  by_cases h0 : (bys s).length = 0
  ·have e1 : ilt (.ofNat (bys s).length) 1 = true := dT (jbn _ 1 1 rfl) (by omega)
   refine jaf Tryz.func149 rfl rfl (nbl rfl) ?_
   simp only [go_sem, Tryz.ntmps149]
   repeat (refine jaa rfl ?_; (try simp only [go_sem, ls, jae, e1]); fail_if_success refine stk ?_)
   exact jad ⟨rfl, .tuple #[.slice none 0 0, .int .i64 13], by simp only [go_sem, Tryz.results149], .slice none 0 0, 0, 13, rfl, fun h => by omega, fun _ => rfl, Rd.nil _, Grow.refl _⟩
  have e1 : ilt (.ofNat (bys s).length) 1 = false := dF (jbn _ 1 1 rfl) (by omega)
  have e7 : ilt 700 (.ofNat (bys s).length) = false := dF (jao 700 _) (by omega)
  have hR0 : Rd ⟨μ.obs.set μ.next ob0, Nat.add μ.next 1⟩ (.slice (some ⟨μ.next, 0, none⟩) 0 0) 0 := (Lim.empty μ).rd
  have hG0 : Grow μ ⟨μ.obs.set μ.next ob0, Nat.add μ.next 1⟩ := ja5 μ _
  refine jaf Tryz.func149 rfl rfl (nbl rfl) ?_
  simp only [go_sem, Tryz.ntmps149]
  repeat (refine jaa rfl ?_; (try simp only [go_sem, ls, jae, e1, e7, bs0]); fail_if_success refine stk ?_)
  rw [(by omega : k + 89994 = (k + 89954 - (bys s).length) + (bys s).length + 40)]
  refine rzM (rp_check hl (bys s).length 0 (rzT _) (v := .slice (some ⟨μ.next, 0, none⟩) 0 0) (by simp only [go_sem]) (by simp only [go_sem]) (by simp only [go_sem]) (by simp only [go_sem]) (by simp only [go_sem]; try rfl)) ?_
  rintro x r μ' ⟨rfl, tm', rfl, ⟨ha, rfl, h0', h2, h3, h4⟩ | ⟨ha, rfl, h2, h3⟩⟩
  ·have ha0 := ha
   rw [List.drop_zero] at ha
   simp only [go_sem]
   repeat (refine jaa rfl ?_; (try simp only [go_sem]); fail_if_success refine stk ?_)
   rw [(by omega : k + 89993 = (k + 9993 - (bys s).length) + (bys s).length + 80000)]
   refine rzM (rp_loop hl (bys s).length 0 (rzT _) ha0 (n := 0) (v := .slice (some ⟨μ.next, 0, none⟩) 0 0) (rzY _) hR0 hG0 (by simp only [go_sem, h0']) (by simp only [go_sem, h2]) (by simp only [go_sem, h3]) (by simp only [go_sem, h4]) (by simp only [go_sem]; try rfl)) ?_
   rintro x r μ1 ⟨rfl, hG, tm1, v', n', rfl, hn', hR, h4⟩
   simp only [go_sem]
   obtain ⟨b, μ2, hr, hG2⟩ := bigR_ex (X := X) (g := k + 89992) hR (by omega) (by omega)
   cases b with
   | true =>
     repeat (refine jaa rfl ?_; (try simp only [go_sem, h4, hr]); fail_if_success refine stk ?_)
     exact jad ⟨rfl, .tuple #[.slice none 0 0, .int .i64 11], by simp only [go_sem, Tryz.results149], .slice none 0 0, 0, 11, rfl, fun _ => .inr rfl, fun h => absurd ⟨by omega, ha⟩ h, Rd.nil _, hG.trans hG2⟩
   | false =>
     repeat (refine jaa rfl ?_; (try simp only [go_sem, h4, hr]); fail_if_success refine stk ?_)
     exact jad ⟨rfl, .tuple #[v', .int .i64 0], by simp only [go_sem, Tryz.results149], v', n', 0, rfl, fun _ => .inl rfl, fun h => absurd ⟨by omega, ha⟩ h, hR.grow hG2, hG.trans hG2⟩
  ·rw [List.drop_zero] at ha
   simp only [jbi]
   refine ⟨rfl, .tuple #[.slice none 0 0, .int .i64 13], ?_, .slice none 0 0, 0, 13, rfl, fun h => absurd h.2 ha, fun _ => rfl, Rd.nil _, hG0⟩
   simp only [go_sem, Tryz.results149]
   rw [h2, h3]
 obtain ⟨w, μ', h1, v, n, e, rfl, h2, h3, h4, h5⟩ := key
 exact ⟨v, n, e, μ', h1, h2, h3, h4, h5⟩
theorem made_ex {X : XT} {g n : Nat} {v : Value} {b : Bool} {μ : Mem} (h : Rd μ v n) (hg : 20 ≤ g) : ∃ b' v' μ', aFun pZ (jaj pZ X S0 g) 150 [.bool b, v] μ = some (.agg #[.bool b', v'], μ') ∧ one v' = true ∧ Grow μ μ' := by
 obtain ⟨k, rfl⟩ := gle hg
 have lv := (h.grow (ja5 μ obI)).len
 have hG := ja5 μ obI
 have key : EndsF (aFun pZ (jaj pZ X S0 (k + 20)) 150 [.bool b, v] μ) fun w μ' => ∃ b' v', w = .agg #[.bool b', v'] ∧ one v' = true ∧ Grow μ μ' := by
  by_cases hz : n = 0
  ·have e1 : ieq (.ofNat n) 0 = true := dT (jaB _ 0 0 rfl) hz
   have hs := st_I (x := .bool false) (y := .slice none 0 0) (blkI (μ := μ)) rfl rfl
   refine jaf Tryz.func150 rfl rfl (nbl rfl) ?_
   simp only [go_sem, Tryz.ntmps150]
   repeat (refine jaa rfl ?_; (try simp only [go_sem, lv, jae, e1, jgK, hs]); fail_if_success refine stk ?_)
   refine jad ?_
   refine ⟨rfl, .agg #[.bool false, .slice none 0 0], ?_, _, _, rfl, rfl, hG.put_new (rzN _)⟩
   simp only [go_sem, Tryz.results150]
   rw [ld_I blkI]
  ·have e1 : ieq (.ofNat n) 0 = false := dF (jaB _ 0 0 rfl) hz
   have hs := st_I (x := .bool b) (y := v) (blkI (μ := μ)) rfl h.one
   have hb : ∀ r x y, aev pZ r x = .bool b → aev pZ r y = v → jb0 pZ (aev pZ r) 40 #[(0, x), (1, y)] = some (.agg #[.bool b, v]) := fun r x y g1 g2 => build_I g1 g2 rfl h.one
   refine jaf Tryz.func150 rfl rfl (nbl rfl) ?_
   simp only [go_sem, Tryz.ntmps150]
   repeat (refine jaa rfl ?_; (try simp only [go_sem, lv, jae, e1, hb, hs]); fail_if_success refine stk ?_)
   refine jad ?_
   refine ⟨rfl, .agg #[.bool b, v], ?_, _, _, rfl, h.one, hG.put_new (rzN _)⟩
   simp only [go_sem, Tryz.results150]
   rw [ld_I blkI]
 obtain ⟨w, μ', h1, b', v', rfl, h2, h3⟩ := key
 exact ⟨b', v', μ', h1, h2, h3⟩
end
noncomputable section
open Go.Proofs.YtlkenchibdeinaaGreatDoor.NumText (dig unsg isS)
theorem sf0 : (jau Tryz.f115) = .seq (jaM 0 (jau Tryz.f115)) (.seq (jaM 1 (jau Tryz.f115)) (.seq (jaM 2 (jau Tryz.f115)) (jaS 3 (jau Tryz.f115)))) := by kernel_rfl
theorem sf3 : jaS 3 (jau Tryz.f115) = .seq (jaM 3 (jau Tryz.f115)) (.seq (jaM 4 (jau Tryz.f115)) (.seq (jaM 5 (jau Tryz.f115)) (jaS 6 (jau Tryz.f115)))) := by kernel_rfl
theorem sf6 : jaS 6 (jau Tryz.f115) = .ret := by kernel_rfl
attribute [local irreducible] jaS
theorem rp3 {s : ByteArray} (hl : (bys s).length ≤ 700) {X : XT} {k i : Nat} {b : Bool} {tm : T Value} {μ0 μ : Mem} (hG0 : Grow μ0 μ) (hi : μ0.next ≤ i) (hi2 : i < μ.next) (hb : Blk μ i 2 40) (h0 : jac tm 0 = .string (jeo s)) (h2 : jac tm 2 = .pointer (some ⟨i, 0, none⟩)) (h4 : jac tm 4 = .bool b) :
  EndsC (jaj pZ X S0 (k + 92000) (jaS 3 (jau Tryz.f115)) ⟨37, tm, [], none⟩ μ) (FinE s μ0 i) := by
 have hb1 : bys (jeo s) = unsg (bys s) := unsgS_bys s
 have hl1 : (bys (jeo s)).length ≤ 700 := by rw [hb1]; have := unsg_len (bys s); omega
 obtain ⟨v, n, e, μ1, hr, he1, he2, hR, hG⟩ := jjV hl1 (X := X) (g := k + 91998) (μ := μ) (by omega)
 rw [hb1] at he1 he2
 have hB1 : Blk μ1 i 2 40 := hb.of_get (hG.2 i hi2)
 by_cases hI : isInt s
 ·rcases he1 hI with rfl | rfl
  ·have z1 : ieq 0 0 = true := rfl
   obtain ⟨b', v', μ2, hr2, hv', hG2⟩ := made_ex (b := b) (X := X) (g := k + 91996) hR (by omega)
   have hi1 : i < μ1.next := rzO hi2 hG.1
   have hB2 : Blk μ2 i 2 40 := hB1.of_get (hG2.2 i hi1)
   have hst := st_I (x := .bool b') (y := v') hB2 rfl hv'
   rw [sf3]
   repeat (refine jaa rfl ?_; (try simp only [go_sem, h0, h2, h4, hr, z1, hr2, hst]); fail_if_success refine stk ?_)
   rw [sf6]
   refine jad ?_
   exact ⟨by trivial, ((hG0.trans hG).trans hG2).put_new hi, _, b', v', 0, rfl, (by simp only [go_sem, h2]), (by simp only [go_sem]), ld_I hB2, fun _ => .inl rfl, fun h => absurd hI h, hv'⟩
  ·have z1 : ieq 11 0 = false := rfl
   have hst := st_I (x := .bool false) (y := .slice none 0 0) hB1 rfl rfl
   rw [sf3]
   repeat (refine jaa rfl ?_; (try simp only [go_sem, h0, h2, h4, hr, z1, jgK, hst]); fail_if_success refine stk ?_)
   refine jad ?_
   exact ⟨by trivial, (hG0.trans hG).put_new hi, _, false, .slice none 0 0, 11, rfl, (by simp only [go_sem, h2]), (by simp only [go_sem]), ld_I hB1, fun _ => .inr rfl, fun h => absurd hI h, rfl⟩
 ·obtain rfl := he2 hI
  have z1 : ieq 13 0 = false := rfl
  have hst := st_I (x := .bool false) (y := .slice none 0 0) hB1 rfl rfl
  rw [sf3]
  repeat (refine jaa rfl ?_; (try simp only [go_sem, h0, h2, h4, hr, z1, jgK, hst]); fail_if_success refine stk ?_)
  refine jad ?_
  exact ⟨by trivial, (hG0.trans hG).put_new hi, _, false, .slice none 0 0, 13, rfl, (by simp only [go_sem, h2]), (by simp only [go_sem]), ld_I hB1, fun h => absurd h hI, fun _ => rfl, rfl⟩
theorem refInt_ex {s : ByteArray} (hl : (bys s).length ≤ 700) {X : XT} {g : Nat} {μ : Mem} (hg : 92500 ≤ g) : ∃ b v e μ', aFun pZ (jaj pZ X S0 g) 115 [.string s] μ = some (.tuple #[.agg #[.bool b, v], .int .i64 e], μ') ∧ (isInt s → e = 0 ∨ e = 11) ∧ (¬ isInt s → e = 13) ∧ one v = true ∧ Grow μ μ' := by
 obtain ⟨k, rfl⟩ := gle hg
 have ls := jaU s
 have hG1 : Grow μ ⟨μ.obs.set μ.next obI, μ.next + 1⟩ := ja5 μ obI
 have key : EndsF (aFun pZ (jaj pZ X S0 (k + 92500)) 115 [.string s] μ) fun w μ' => ∃ b v e, w = .tuple #[.agg #[.bool b, v], .int .i64 e] ∧ (isInt s → e = 0 ∨ e = 11) ∧ (¬ isInt s → e = 13) ∧ one v = true ∧ Grow μ μ' := by
  have fin : ∀ x r μ', FinE s μ μ.next x r μ' → retQ pZ Tryz.f115 (fun w μ' => ∃ b v e, w = .tuple #[.agg #[.bool b, v], .int .i64 e] ∧ (isInt s → e = 0 ∨ e = 11) ∧ (¬ isInt s → e = 13) ∧ one v = true ∧ Grow μ μ') x r μ' := by
   rintro x r μ' ⟨rfl, g1, tm, b, v, e, rfl, g2, g3, g4, g5, g6, g7⟩
   refine ⟨rfl, .tuple #[.agg #[.bool b, v], .int .i64 e], ?_, b, v, e, rfl, g5, g6, g7, g1⟩
   simp only [go_sem, Tryz.results115]
   simp only [g2, g3, g4]
  refine jaf Tryz.func115 rfl rfl (nbl rfl) ?_
  simp only [go_sem, Tryz.ntmps115]
  change EndsC (jaj pZ X S0 _ (jau Tryz.f115) _ _) _
  rw [sf0]
  refine jag ?_
  refine jaD ?_ ?_
  ·rfl
  simp only [go_sem, al_I, Nat.add_eq]
  refine jag ?_
  refine jaD ?_ ?_
  ·rfl
  simp only [go_sem]
  cases h : bys s with
  | nil =>
    have hu : jeo s = s := by unfold jeo; rw [h]
    have e1 : ilt 0 (.ofNat (bys s).length) = false := dF (jao 0 _) (by rw [h]; decide)
    refine jag ?_
    refine jag ?_
    refine jab rfl ?_
    repeat (refine jam rfl ?_; (try simp only [go_sem, ls, jae, e1]); fail_if_success refine stk ?_)
    refine jax ?_ ?_
    ·simp only [go_sem]
    refine jbo ?_
    simp only [jai]
    refine rzM (rp3 hl (k := k + 497) (b := false) hG1 (rzN _) (rzQ _) blkI (by rw [hu]; simp only [go_sem]) (by simp only [go_sem]) (by simp only [go_sem])) fin
  | cons c l =>
    have e1 : ilt 0 (.ofNat (bys s).length) = true := dT (jao 0 _) (by rw [h]; exact rzW _)
    have hx : ∀ r x, aev pZ r x = .string s → jaX pZ (aev pZ r) 9 x (.const (.int .i64 0)) = some (.int .u8 (.ofNat c)) := fun r x h1 => at0 (kd := .i64) h h1 rfl
    have hsl : ∀ r x, aev pZ r x = .string s → ja0 pZ (aev pZ r) 9 x (some (.const (.int .i64 1))) none none = some (.string (jc6 s 1)) := fun r x h1 => jds (k := 1) (kd := .i64) h1 rfl (by rw [h]; exact Nat.succ_le_succ (rzY _))
    by_cases h43 : c = 43
    ·have s1 : ieq (.ofNat c) 43 = true := dT (jaB _ 43 43 rfl) h43
     have hu : jeo s = jc6 s 1 := by unfold jeo; rw [h]; simp only; rw [if_pos (by rw [h43]; decide)]
     have e45 : ieq (.ofNat c) 45 = false := (jaB _ 45 45 rfl).trans (by rw [h43]; rfl)
     refine jag ?_
     refine jag ?_
     refine jab rfl ?_
     repeat (refine jam rfl ?_; (try simp only [go_sem, ls, jae, e1, hx, s1]); fail_if_success refine stk ?_)
     refine jbl ?_ ?_
     ·simp only [go_sem]
     repeat (refine jaa rfl ?_; (try simp only [go_sem, hx, e45, hsl]); fail_if_success refine stk ?_)
     refine rzM (rp3 hl (k := k + 497) (b := false) hG1 (rzN _) (rzQ _) blkI (by rw [hu]; simp only [go_sem]) (by simp only [go_sem]) (by simp only [go_sem])) fin
    have s1 : ieq (.ofNat c) 43 = false := dF (jaB _ 43 43 rfl) h43
    by_cases h45 : c = 45
    ·have s2 : ieq (.ofNat c) 45 = true := dT (jaB _ 45 45 rfl) h45
     have hu : jeo s = jc6 s 1 := by unfold jeo; rw [h]; simp only; rw [if_pos (by rw [h45]; decide)]
     have e45 : ieq (.ofNat c) 45 = true := (jaB _ 45 45 rfl).trans (by rw [h45]; rfl)
     refine jag ?_
     refine jag ?_
     refine jab rfl ?_
     repeat (refine jam rfl ?_; (try simp only [go_sem, ls, jae, e1, hx, s1, s2]); fail_if_success refine stk ?_)
     refine jbl ?_ ?_
     ·simp only [go_sem]
     repeat (refine jaa rfl ?_; (try simp only [go_sem, hx, e45, hsl]); fail_if_success refine stk ?_)
     refine rzM (rp3 hl (k := k + 497) (b := true) hG1 (rzN _) (rzQ _) blkI (by rw [hu]; simp only [go_sem]) (by simp only [go_sem]) (by simp only [go_sem])) fin
    have s2 : ieq (.ofNat c) 45 = false := dF (jaB _ 45 45 rfl) h45
    have hu : jeo s = s := by unfold jeo; rw [h]; simp only; rw [if_neg (by simp [isS, h43, h45])]
    refine jag ?_
    refine jag ?_
    refine jab rfl ?_
    repeat (refine jam rfl ?_; (try simp only [go_sem, ls, jae, e1, hx, s1, s2]); fail_if_success refine stk ?_)
    refine jax ?_ ?_
    ·simp only [go_sem]
    refine jbo ?_
    simp only [jai]
    refine rzM (rp3 hl (k := k + 497) (b := false) hG1 (rzN _) (rzQ _) blkI (by rw [hu]; simp only [go_sem]) (by simp only [go_sem]) (by simp only [go_sem])) fin
 obtain ⟨w, μ', h1, b, v, e, rfl, h2, h3, h4, h5⟩ := key
 exact ⟨b, v, e, μ', h1, h2, h3, h4, h5⟩
end
noncomputable section
theorem out_ex {X : XT} {g : Nat} {p x : Value} {e : Int} {μ : Mem} (hp : one p = true) (hx : one x = true) (he : e = 0 ∨ e = 11) (hg : 20 ≤ g) : ∃ a b c d μ', aFun pZ (jaj pZ X S0 g) 116 [.agg #[p, x], .int .i64 e] μ = some (.tuple #[.agg #[a, b, c, d], .int .i64 e], μ') ∧ (one a = true ∧ one b = true ∧ one c = true ∧ one d = true) ∧ Grow μ μ' := by
 obtain ⟨k, rfl⟩ := gle hg
 obtain ⟨μ1, hμ1⟩ := exq (⟨μ.obs.set μ.next (obIv p x), μ.next + 1⟩ : Mem)
 have hN : Blk ⟨μ1.obs.set μ1.next obN, μ1.next + 1⟩ μ1.next 4 42 := blkN
 have hst := st_N (a := .bool false) (b := .float .f64 0) hN rfl rfl hp hx
 have hst0 := st_N (a := .bool false) (b := .float .f64 0) (x := .bool false) (y := .slice none 0 0) hN rfl rfl rfl rfl
 have hld := ld_N (a := .bool false) (b := .float .f64 0) (x := p) (y := x) hN
 have hld0 := ld_N (a := .bool false) (b := .float .f64 0) (x := .bool false) (y := .slice none 0 0) hN
 have hi : jcq pZ ⟨μ1.obs.set μ1.next obN, μ1.next + 1⟩ 40 (.pointer (some ⟨μ.next, 0, none⟩)) = some (.agg #[p, x]) := by
  have h0 : μ1.obs.get μ.next = some (obIv p x) := by rw [hμ1]; show T.get _ _ = _; rw [T.get_set, if_pos rfl]
  have h1 : (⟨μ1.obs.set μ1.next obN, μ1.next + 1⟩ : Mem).obs.get μ.next = some (obIv p x) := by
   show T.get (T.set _ _ _) _ = _
   rw [T.get_set, if_neg (by rw [hμ1]; show μ.next ≠ μ.next + 1; omega), h0]
  exact (Has.new (l := [p, x]) h1).load Tryz.underlying40 i_Int rfl
 have hG : Grow μ μ1 := by rw [hμ1]; exact ja5 _ _
 have hb : ∀ r y, aev pZ r y = .agg #[p, x] → jb0 pZ (aev pZ r) 42 #[(2, y)] = some (.agg #[.bool false, .float .f64 0, p, x]) := fun r y g => build_N2 g
 rcases he with rfl | rfl
 ·refine ⟨.bool false, .float .f64 0, p, x, _, jaF ?_, ⟨rfl, rfl, hp, hx⟩, (hG.trans (ja5 μ1 obN)).put_new (o := 0) (vs := [.bool false, .float .f64 0, p, x]) hG.1⟩
  have z1 : ieq 0 0 = true := rfl
  rw [hμ1] at hst hld hi ⊢
  refine jaf Tryz.func116 rfl rfl (nbl rfl) ?_
  simp only [go_sem, Tryz.ntmps116]
  repeat (refine jaa rfl ?_; (try simp only [go_sem, box_I, z1, hi, hb, hst]); fail_if_success refine stk ?_)
  refine jad ?_
  refine ⟨rfl, _, ?_, rfl, rfl⟩
  simp only [go_sem, Tryz.results116]
  rw [hld]
 ·refine ⟨.bool false, .float .f64 0, .bool false, .slice none 0 0, _, jaF ?_, ⟨rfl, rfl, rfl, rfl⟩, (hG.trans (ja5 μ1 obN)).put_new (o := 0) (vs := [.bool false, .float .f64 0, .bool false, .slice none 0 0]) hG.1⟩
  have z1 : ieq 11 0 = false := rfl
  rw [hμ1] at hst0 hld0 ⊢
  refine jaf Tryz.func116 rfl rfl (nbl rfl) ?_
  simp only [go_sem, Tryz.ntmps116]
  repeat (refine jaa rfl ?_; (try simp only [go_sem, box_I, z1, jgJ, hst0]); fail_if_success refine stk ?_)
  refine jad ?_
  refine ⟨rfl, _, ?_, rfl, rfl⟩
  simp only [go_sem, Tryz.results116]
  rw [hld0]
theorem jig {s : ByteArray} (hl : (bys s).length ≤ 700) {X : XT} {g : Nat} {μ : Mem} (hX : jbc X) (hX2 : ja7 X) (hL : Lay μ) (hg : 95000 ≤ g) :
  ∃ a b c d e μ', aFun pZ (jaj pZ X S0 g) 86 [.string s] μ = some (.tuple #[.agg #[a, b, c, d], .int .i64 e], μ') ∧ (one a = true ∧ one b = true ∧ one c = true ∧ one d = true) ∧ (isInt s → e = 0 ∨ e = 11) ∧ (¬ isInt s → e = if jgw s then 0 else 13) ∧ Grow μ μ' := by
 obtain ⟨k, rfl⟩ := gle hg
 have hG1 : Grow μ ⟨μ.obs.set μ.next obN, μ.next + 1⟩ := ja5 μ obN
 obtain ⟨b, v, e, μ2, hr, he1, he2, hv, hG2⟩ := refInt_ex hl (X := X) (g := k + 94997) (μ := ⟨μ.obs.set μ.next obN, μ.next + 1⟩) (by omega)
 have hB2 : Blk μ2 μ.next 4 42 := blkN.of_get (hG2.2 μ.next (rzQ _))
 have hst1 := st_I (x := .bool b) (y := v) (blkI (μ := μ2)) rfl hv
 have hld1 := ld_I (x := .bool b) (y := v) (blkI (μ := μ2))
 obtain ⟨μ4, hμ4⟩ := exq (putL ⟨μ2.obs.set μ2.next obI, μ2.next + 1⟩ μ2.next 0 [.bool b, v])
 have hG4 : Grow μ2 μ4 := by rw [hμ4]; exact (ja5 μ2 obI).put_new (rzN _)
 have hlt2 : μ.next < μ2.next := rzO (rzQ _) hG2.1
 have hB4 : Blk μ4 μ.next 4 42 := hB2.of_get (hG4.2 μ.next hlt2)
 have hlt4 : μ.next < μ4.next := rzO hlt2 hG4.1
 rw [← hμ4] at hst1 hld1
 have hGa : Grow μ μ4 := (hG1.trans hG2).trans hG4
 have key : EndsF (aFun pZ (jaj pZ X S0 (k + 95000)) 86 [.string s] μ) fun w μ' => ∃ a b c d e, w = .tuple #[.agg #[a, b, c, d], .int .i64 e] ∧ (one a = true ∧ one b = true ∧ one c = true ∧ one d = true) ∧ (isInt s → e = 0 ∨ e = 11) ∧ (¬ isInt s → e = if jgw s then 0 else 13) ∧ Grow μ μ' := by
  by_cases hI : isInt s
  ·obtain ⟨a, b', c, d, μ5, hr5, ⟨o1, o2, o3, o4⟩, hG5⟩ := out_ex (p := .bool b) (x := v) (e := e) (X := X) (g := k + 94993) (μ := μ4) rfl hv (he1 hI) (by omega)
   have hB5 : Blk μ5 μ.next 4 42 := hB4.of_get (hG5.2 μ.next hlt4)
   have hst := st_N hB5 o1 o2 o3 o4
   rcases he1 hI with rfl | rfl
   ·have z1 : ieq 0 0 = true := rfl
    refine jaf Tryz.func86 rfl rfl (nbl rfl) ?_
    simp only [go_sem, Tryz.ntmps86]
    repeat (refine jaa rfl ?_; (try simp only [go_sem, hr, hst1, z1, hld1, hr5, hst]); fail_if_success refine stk ?_)
    refine jad ?_
    refine ⟨rfl, .tuple #[.agg #[a, b', c, d], .int .i64 0], ?_, _, _, _, _, _, rfl, ⟨o1, o2, o3, o4⟩, fun _ => .inl rfl, fun h => absurd hI h, (hGa.trans hG5).put_new (rzN _)⟩
    simp only [go_sem, Tryz.results86]
    rw [ld_N hB5]
   ·have z1 : ieq 11 0 = false := rfl
    have z2 : ieq 11 11 = true := rfl
    refine jaf Tryz.func86 rfl rfl (nbl rfl) ?_
    simp only [go_sem, Tryz.ntmps86]
    repeat (refine jaa rfl ?_; (try simp only [go_sem, hr, hst1, z1, z2, hld1, hr5, hst]); fail_if_success refine stk ?_)
    refine jad ?_
    refine ⟨rfl, .tuple #[.agg #[a, b', c, d], .int .i64 11], ?_, _, _, _, _, _, rfl, ⟨o1, o2, o3, o4⟩, fun _ => .inr rfl, fun h => absurd hI h, (hGa.trans hG5).put_new (rzN _)⟩
    simp only [go_sem, Tryz.results86]
    rw [ld_N hB5]
  ·obtain rfl := he2 hI
   have z1 : ieq 13 0 = false := rfl
   have z2 : ieq 13 11 = false := rfl
   obtain ⟨f, μ5, hr5, hG5⟩ := refFlo_ex hl (X := X) (g := k + 94995) (μ := μ4) hX hX2 (hL.grow hGa) (by omega)
   cases hf : jgw s with
   | true =>
     rw [hf, if_pos rfl] at hr5
     have z3 : ieq 0 0 = true := rfl
     obtain ⟨μ6, hr6, hG6⟩ := flo_numR (f := f) (X := X) (g := k + 94993) (μ := μ5) (by omega)
     have hB6 : Blk μ6 μ.next 4 42 := hB4.of_get ((hG5.trans hG6).2 μ.next hlt4)
     have hst := st_N (a := .bool true) (b := .float .f64 f) (x := .bool false) (y := .slice none 0 0) hB6 rfl rfl rfl rfl
     refine jaf Tryz.func86 rfl rfl (nbl rfl) ?_
     simp only [go_sem, Tryz.ntmps86]
     repeat (refine jaa rfl ?_; (try simp only [go_sem, hr, hst1, z1, z2, hr5, z3, hr6, hst]); fail_if_success refine stk ?_)
     refine jad ?_
     refine ⟨rfl, .tuple #[.agg #[.bool true, .float .f64 f, .bool false, .slice none 0 0], .int .i64 0], ?_, _, _, _, _, _, rfl, ⟨rfl, rfl, rfl, rfl⟩, fun h => absurd h hI, fun _ => rfl, ((hGa.trans hG5).trans hG6).put_new (rzN _)⟩
     simp only [go_sem, Tryz.results86]
     rw [ld_N hB6]
   | false =>
     rw [hf, if_neg (by decide)] at hr5
     have z3 : ieq 31 0 = false := rfl
     have hB5 : Blk μ5 μ.next 4 42 := hB4.of_get (hG5.2 μ.next hlt4)
     have hst := st_N (a := .bool false) (b := .float .f64 0) (x := .bool false) (y := .slice none 0 0) hB5 rfl rfl rfl rfl
     refine jaf Tryz.func86 rfl rfl (nbl rfl) ?_
     simp only [go_sem, Tryz.ntmps86]
     repeat (refine jaa rfl ?_; (try simp only [go_sem, hr, hst1, z1, z2, hr5, z3, jgJ, hst]); fail_if_success refine stk ?_)
     refine jad ?_
     refine ⟨rfl, .tuple #[.agg #[.bool false, .float .f64 0, .bool false, .slice none 0 0], .int .i64 13], ?_, _, _, _, _, _, rfl, ⟨rfl, rfl, rfl, rfl⟩, fun h => absurd h hI, fun _ => rfl, (hGa.trans hG5).put_new (rzN _)⟩
     simp only [go_sem, Tryz.results86]
     rw [ld_N hB5]
 obtain ⟨w, μ', h1, a, b, c, d, e, rfl, h2, h3, h4, h5⟩ := key
 exact ⟨a, b, c, d, e, μ', h1, h2, h3, h4, h5⟩
def jio (s : ByteArray) : Bool := by
 classical exact if isInt s then false else !jgw s
theorem jkd {s : ByteArray} {e : Int} (h1 : isInt s → e = 0 ∨ e = 11) (h2 : ¬ isInt s → e = if jgw s then 0 else 13) : ieq e 13 = jio s := by
 unfold jio
 by_cases hI : isInt s
 ·rw [if_pos hI]
  rcases h1 hI with rfl | rfl <;> rfl
 ·rw [if_neg hI]
  have h2 := h2 hI
  cases hf : jgw s with
  | true => rw [hf, if_pos rfl] at h2; subst h2; rfl
  | false => rw [hf, if_neg (by decide)] at h2; subst h2; rfl
theorem rn_yes {s : ByteArray} (h : Head s ∧ jem s) {X : XT} {g : Nat} {μ : Mem} (hX : jbc X) (hX2 : ja7 X) (hL : Lay μ) (hg : 100000 ≤ g) : ∃ μ', aFun pZ (jaj pZ X S0 g) 65 [.string s] μ = some (.bool (jio s), μ') ∧ Grow μ μ' := by
 obtain ⟨k, rfl⟩ := gle hg
 obtain ⟨⟨z1, z2, z3⟩, hp⟩ := h
 have ls := jaU s
 have e1 : ilt (.ofNat (bys s).length) 1 = false := dF (jbn _ 1 1 rfl) (by omega)
 have e2 : ilt 40 (.ofNat (bys s).length) = false := dF (jao 40 _) (by omega)
 have e3 : aStr .eql s ⟨List.toArray [46]⟩ = some (.bool false) := (str_eq s dotS).trans (by rw [rzV z3])
 obtain ⟨a, b, c, d, e, μ1, hr, ⟨o1, o2, o3, o4⟩, he1, he2, hG⟩ := jig (s := s) (by omega) (X := X) (g := k + 99995) (μ := μ) hX hX2 hL (by omega)
 have hst := st_N (blkN (μ := μ1)) o1 o2 o3 o4
 have hq := jkd he1 he2
 have key : EndsF (aFun pZ (jaj pZ X S0 (k + 100000)) 65 [.string s] μ) fun w μ' => w = .bool (jio s) ∧ Grow μ μ' := by
  refine jaf Tryz.func65 rfl rfl (nbl rfl) ?_
  simp only [go_sem, Tryz.ntmps65]
  refine jag ?_
  refine jaD ?_ ?_
  ·rfl
  simp only [go_sem]
  refine jag ?_
  refine jag ?_
  refine jab rfl ?_
  repeat (refine jam rfl ?_; (try simp only [go_sem, ls, jae, e1, e2, e3]); fail_if_success refine stk ?_)
  repeat (refine jaa rfl ?_; (try simp only [go_sem, ls, jae]); fail_if_success refine stk ?_)
  rw [(by omega : k + 99995 = (k + 99965 - (bys s).length) + (bys s).length + 30)]
  refine rzM (rn_loop (by omega) (bys s).length 0 (rzT _) (by simp only [go_sem]) (by simp only [go_sem]) (by simp only [go_sem]; try rfl)) ?_
  rintro x r μ' ⟨rfl, tm', rfl, h0, h2, ⟨h5, rfl⟩ | ⟨⟨c', hc1, hc2⟩, -⟩⟩
  ·simp only [go_sem]
   repeat (refine jaa rfl ?_; (try simp only [go_sem, h0, hr, hst, hq]); fail_if_success refine stk ?_)
   exact jad ⟨rfl, .bool (jio s), by simp only [go_sem, Tryz.results65], rfl, (hG.trans (ja5 μ1 obN)).put_new hG.1⟩
  ·rw [List.drop_zero] at hc1
   rw [hp c' hc1] at hc2
   cases hc2
 obtain ⟨w, μ', h1, rfl, h2⟩ := key
 exact ⟨μ', h1, h2⟩
end
end Go.Proofs.YtlkenchibdeinaaGreatDoor.ce
