/-
  distafflaw10.CodeEffects, part Qa: its walk and its law. No conditions.
-/
import Derived.Test.YtlkenchibdeinaaGreatDoorDwP
set_option linter.all false
set_option maxRecDepth 20000
set_option maxHeartbeats 8000000
namespace Go.Proofs.YtlkenchibdeinaaGreatDoor.ce
open YtlkenchibdeinaaGreatDoor.Ev
noncomputable section
open Go.Proofs.YtlkenchibdeinaaGreatDoor.DecM (val Dg)
theorem Only.obs {μ : Mem} {i m : Nat} (h : μ.next ≤ m) : Only μ ⟨μ.obs, m⟩ i := ⟨h, fun _ _ _ => rfl⟩
theorem jdw {a : Option Addr} {n c : Nat} : aLen pZ 87 (.slice a n c) = some n := by
 unfold aLen
 simp only [Tryz.underlying87]
theorem jjd : ∀ q, q < 9 → 1 ≤ powts.getD q 0 ∧ powts.getD q 0 ≤ 26 := by decide
theorem neg_lit {n : Nat} (hn : n < 1000000) (ρ : Operand → Value) (d : Option Tmp) (t ty : TypeId) (a : Operand) (ps : String) (af : Array Edge) (gd : Option (Nat × Bool)) (h : ρ a = .int .i64 (.ofNat n)) : jaH pZ ρ ⟨d, .unOp .neg t a, ty, ps, af, gd⟩ = some (.int .i64 (-(n : Int))) :=
 jbC (n := (n : Int)) h (by omega) (by omega)
theorem fr_exit {D : Nat → Nat} {n : Nat} {tr : Bool} {dp e : Int} (hz : dp ≤ 0) {X : XT} {k i : Nat} {tm : T Value} {μ : Mem} {neg : Bool} (h : Dec μ i D n dp neg tr) (h0 : jac tm 0 = .pointer (some ⟨i, 0, none⟩)) (h1 : jac tm 1 = .pointer (some ⟨11, 0, none⟩)) (h5 : jac tm 5 = .bool false) (h6 : jac tm 6 = .int .i64 e) :
  LpC X (k + 6000) Tryz.f275 0 243 tm μ fun x r μ' => x = .exit 0 ∧ Dec μ' i D n dp neg tr ∧ Only μ μ' i ∧ ∃ tm', r = ⟨243, tm', [], none⟩ ∧ jac tm' 0 = .pointer (some ⟨i, 0, none⟩) ∧ jac tm' 1 = .pointer (some ⟨11, 0, none⟩) ∧ jac tm' 5 = .bool false ∧ jac tm' 6 = .int .i64 e := by
 have hp := h.p
 have e1 : ilt 0 dp = false := dF (jaZ _ _) (by omega)
 refine jah ?_
 repeat (refine jaa rfl ?_; (try simp only [go_sem, h0, h1, h5, h6, hp, e1]); fail_if_success refine stk ?_)
 exact ⟨by trivial, h, Only.refl _ _, _, rfl, (by simp only [go_sem, h0]), (by simp only [go_sem, h1]), (by simp only [go_sem, h5]), (by simp only [go_sem, h6])⟩
theorem fr_loop : ∀ (m : Nat) (D : Nat → Nat) (n : Nat) (tr : Bool) (dp e : Int), Good D n → (dp ≤ 0 ∨ 10 * dp + ((D 0 - 48 : Nat) : Int) ≤ m) → dp ≤ 310 → -330 ≤ dp → -200000 < e → e + 27 * m < 200000 →
  ∃ (D' : Nat → Nat) (n' : Nat) (tr' : Bool) (dp' e' : Int), Good D' n' ∧ dp' ≤ 0 ∧ -330 ≤ dp' ∧ e ≤ e' ∧ e' ≤ e + 27 * m ∧ ∀ {X : XT} {k i : Nat} {tm : T Value} {μ0 μ : Mem} {neg : Bool}, Lay μ0 → Grow μ0 μ → μ0.next ≤ i → Dec μ i D n dp neg tr → jac tm 0 = .pointer (some ⟨i, 0, none⟩) → jac tm 1 = .pointer (some ⟨11, 0, none⟩) → jac tm 5 = .bool false → jac tm 6 = .int .i64 e →
  LpC X (k + m + 6000) Tryz.f275 0 243 tm μ fun x r μ' => x = .exit 0 ∧ Dec μ' i D' n' dp' neg tr' ∧ Only μ μ' i ∧ ∃ tm', r = ⟨243, tm', [], none⟩ ∧ jac tm' 0 = .pointer (some ⟨i, 0, none⟩) ∧ jac tm' 1 = .pointer (some ⟨11, 0, none⟩) ∧ jac tm' 5 = .bool false ∧ jac tm' 6 = .int .i64 e' := by
 intro m
 induction m with
 | zero =>
   intro D n tr dp e G hm hdp hdp2 he he2
   have hz : dp ≤ 0 := by have := G.lead; omega
   exact ⟨D, n, tr, dp, e, G, hz, hdp2, Int.le_refl _, by omega, fun {X k i tm μ0 μ neg} hL hG hi h h0 h1 h5 h6 => fr_exit (k := k) hz h h0 h1 h5 h6⟩
 | succ m ih =>
   intro D n tr dp e G hm hdp hdp2 he he2
   by_cases hz : dp ≤ 0
   ·exact ⟨D, n, tr, dp, e, G, hz, hdp2, Int.le_refl _, by omega, fun {X k i tm μ0 μ neg} hL hG hi h h0 h1 h5 h6 => fr_exit (k := k + (m + 1)) hz h h0 h1 h5 h6⟩
   have hm := hm.resolve_left hz
   have hlead := G.lead
   have hdg0 := G.dg 0 G.pos
   obtain ⟨q, hq⟩ : ∃ q : Nat, dp = .ofNat q := ⟨dp.toNat, by show dp = ((dp.toNat : Nat) : Int); omega⟩
   have hqd : dp = (q : Int) := hq
   obtain ⟨K, hK⟩ := exq ((if 9 ≤ q then 27 else powts.getD q 0))
   have hKb : 1 ≤ K ∧ K ≤ 27 := by
    rw [hK]; split
    ·omega
    ·have := jjd q (by omega); omega
   obtain ⟨D1, n1, s, tr1, G1, b1, b2, hsh⟩ := jg9 (k := K) (tr := tr) G hKb.1 (by omega)
   have hs : s ≤ 19 := by omega
   have hlead1 := G1.dg 0 G1.pos
   obtain ⟨D', n', tr', dp', e', c1, c2, c3, c4, c5, hih⟩ := ih D1 n1 tr1 (dp - (s : Int)) (e + (K : Int)) G1 (by
    by_cases hd' : dp - (s : Int) ≤ 0
    ·exact .inl hd'
    ·refine .inr ?_
     by_cases hs0 : s = 0
     ·have := b2 (by omega) hs0; omega
     ·omega) (by omega) (by omega) (by omega) (by omega)
   refine ⟨D', n', tr', dp', e', c1, c2, c3, by omega, by omega, fun {X k i tm μ0 μ neg} hL hG hi h h0 h1 h5 h6 => ?_⟩
   have e1 : ilt 0 dp = true := dT (jaZ _ _) (by omega)
   have np := fun ρ d t ty a ps af gd => neg_lit (n := K) (by omega) ρ d t ty a ps af gd
   have q2 : jak .i64 (Int.add e (.ofNat K)) = e + (K : Int) := jcJ e (K : Int) (by omega) (by omega)
   have hpd := h.p
   have hp := fun z => (h.up z).p
   have hd0 := fun z => (h.up z).d 0 (by omega)
   obtain ⟨pb, po, pc, p1, p2, p3⟩ := (hL.grow hG).pw
   have p1 : ∀ z, jal ⟨μ.obs, z⟩ 15 0 = some (.slice (some ⟨pb, po, none⟩) 9 pc) := fun z => p1
   by_cases h9 : 9 ≤ q
   ·have e2 : ilt dp (.ofNat 9) = false := dF (jaZ _ _) (by show ¬ dp < 9; omega)
    rw [if_pos h9] at hK
    subst hK
    have np27 : ∀ (ρ : Operand → Value) (d : Option Tmp) (t ty : TypeId) (a : Operand) (ps : String) (af : Array Edge) (gd : Option (Nat × Bool)), ρ a = .int .i64 27 → jaH pZ ρ ⟨d, .unOp .neg t a, ty, ps, af, gd⟩ = some (.int .i64 (-((27 : Nat) : Int))) := np
    have q27 : jak .i64 (Int.add e 27) = e + ((27 : Nat) : Int) := q2
    obtain ⟨μ1, hr, z1, z2⟩ := hsh (X := X) (g := k + (m + 1) + 5993) (i := i) (x := -((27 : Nat) : Int)) (μ := ⟨μ.obs, μ.next + 7⟩) (dp := dp) (neg := neg) (by omega) rfl (by omega) (by omega) (h.up _)
    have hG1 : Grow μ0 μ1 := (hG.only (Only.obs (by omega)) hi).only z2 hi
    refine jah ?_
    repeat (refine jaa rfl ?_; (try simp only [go_sem, h0, h1, h5, h6, hpd, e1]); fail_if_success refine stk ?_)
    refine jaz (n := 7) (ms := [0, 1, 3, 7, 0, 16, 63]) (ord := [0, 1, 2, 3, 4, 5, 6]) (ds := ?_) ?_ ?_ ?_ ?_ ?_ ?_
    rotate_left
    ·kernel_rfl
    ·kernel_rfl
    ·kernel_rfl
    ·rfl
    ·rfl
    iterate 7 (refine jay (by first | rfl | (simp only [go_sem, h0, h1, h5, h6, nW, jba, jaW, jbO, jaT, jb8, jdx, jdw, jae, jbd, hp, p1, e2])) (by simp only [jaC, heavy, jaO, jar, go_sem, h0, h1, h5, h6, nW, jba, jaW, jbO, jaT, jb8, jdx, jdw, jae, jbd, hp, p1, e2]; try exact rfl) rfl ?_)
    simp only [dRun, jat, jai]
    repeat (refine jaa rfl ?_; (try simp only [go_sem, h0, h1, h5, h6, np27, hr, q27]); fail_if_success refine stk ?_)
    rw [(by omega : k + (m + 1) + 5999 = k + m + 6000)]
    refine rzM (hih hL hG1 hi z1 (by simp only [go_sem, h0]) (by simp only [go_sem, h1]) (by simp only [go_sem, h5]) (by simp only [go_sem])) ?_
    rintro x r μ' ⟨hx, g1, g2, g3⟩
    exact ⟨hx, g1, (Only.obs (by omega)).trans (z2.trans g2), g3⟩
   ·have e2 : ilt dp (.ofNat 9) = true := dT (jaZ _ _) (by show dp < 9; omega)
    rw [if_neg h9] at hK
    have p4 : ∀ z, jal ⟨μ.obs, z⟩ pb (po + q) = some (.int .i64 (.ofNat (powts.getD q 0))) := fun z => p3 q (by omega)
    have hix : ∀ rg a b, aev pZ rg a = .slice (some ⟨pb, po, none⟩) 9 pc → aev pZ rg b = .int .i64 (.ofNat q) → jan pZ (aev pZ rg) 87 a b = some (.pointer (some ⟨pb, po + q, none⟩)) := fun rg a b g1 g2 => jaL (P := pZ) Tryz.underlying87 jcg rfl g1 g2 (by omega)
    have p4 : ∀ z, jal ⟨μ.obs, z⟩ pb (po + q) = some (.int .i64 (.ofNat K)) := fun z => by rw [hK]; exact p4 z
    rw [hq] at hp e2
    obtain ⟨μ1, hr, z1, z2⟩ := hsh (X := X) (g := k + (m + 1) + 5993) (i := i) (x := -(K : Int)) (μ := ⟨μ.obs, μ.next + 7 + 8⟩) (dp := dp) (neg := neg) (by omega) rfl (by omega) (by omega) (h.up _)
    have hG1 : Grow μ0 μ1 := (hG.only (Only.obs (by omega)) hi).only z2 hi
    refine jah ?_
    repeat (refine jaa rfl ?_; (try simp only [go_sem, h0, h1, h5, h6, hpd, e1]); fail_if_success refine stk ?_)
    refine jaz (n := 7) (ms := [0, 1, 3, 7, 0, 16, 63]) (ord := [0, 1, 2, 3, 4, 5, 6]) (ds := ?_) ?_ ?_ ?_ ?_ ?_ ?_
    rotate_left
    ·kernel_rfl
    ·kernel_rfl
    ·kernel_rfl
    ·rfl
    ·rfl
    iterate 7 (refine jay (by first | rfl | (simp only [go_sem, h0, h1, h5, h6, nW, jba, jaW, jbO, jaT, jb8, jdx, jdw, jae, jbd, hp, p1, e2])) (by simp only [jaC, heavy, jaO, jar, go_sem, h0, h1, h5, h6, nW, jba, jaW, jbO, jaT, jb8, jdx, jdw, jae, jbd, hp, p1, e2]; try exact rfl) rfl ?_)
    simp only [dRun, jat, jai]
    repeat (refine jaa rfl ?_; (try simp only [go_sem, h0, h1, h5, h6]); fail_if_success refine stk ?_)
    refine jaz (n := 8) (ms := [0, 0, 2, 6, 14, 31, 63, 127]) (ord := [0, 1, 2, 3, 4, 5, 6, 7]) (ds := ?_) ?_ ?_ ?_ ?_ ?_ ?_
    rotate_left
    ·kernel_rfl
    ·kernel_rfl
    ·kernel_rfl
    ·rfl
    ·rfl
    iterate 8 (refine jay (by first | rfl | (simp only [go_sem, h0, h1, h5, h6, nW, jba, jaW, jbO, jaT, jb8, jdx, jdw, jae, jbd, hp, p1, hix, p4])) (by simp only [jaC, heavy, jaO, jar, go_sem, h0, h1, h5, h6, nW, jba, jaW, jbO, jaT, jb8, jdx, jdw, jae, jbd, hp, p1, hix, p4]; try exact rfl) rfl ?_)
    simp only [dRun, jat, jai]
    repeat (refine jaa rfl ?_; (try simp only [go_sem, h0, h1, h5, h6, np, hr, q2]); fail_if_success refine stk ?_)
    rw [(by omega : k + (m + 1) + 5999 = k + m + 6000)]
    refine rzM (hih hL hG1 hi z1 (by simp only [go_sem, h0]) (by simp only [go_sem, h1]) (by simp only [go_sem, h5]) (by simp only [go_sem])) ?_
    rintro x r μ' ⟨hx, g1, g2, g3⟩
    exact ⟨hx, g1, (Only.obs (by omega)).trans (z2.trans g2), g3⟩
theorem fl_exit {D : Nat → Nat} {n : Nat} {tr : Bool} {dp e : Int} (G : Good D n) (hz : 0 < dp ∨ (dp = 0 ∧ 53 ≤ D 0)) {X : XT} {k i : Nat} {tm : T Value} {μ : Mem} {neg : Bool} (h : Dec μ i D n dp neg tr) (h0 : jac tm 0 = .pointer (some ⟨i, 0, none⟩)) (h1 : jac tm 1 = .pointer (some ⟨11, 0, none⟩)) (h5 : jac tm 5 = .bool false) (h6 : jac tm 6 = .int .i64 e) :
  LpC X (k + 6000) Tryz.f275 1 243 tm μ fun x r μ' => x = .exit 2 ∧ Dec μ' i D n dp neg tr ∧ Only μ μ' i ∧ ∃ tm', r = ⟨243, tm', [], none⟩ ∧ jac tm' 0 = .pointer (some ⟨i, 0, none⟩) ∧ jac tm' 1 = .pointer (some ⟨11, 0, none⟩) ∧ jac tm' 5 = .bool false ∧ jac tm' 6 = .int .i64 e := by
 have hp := h.p
 have hd0 := h.d 0 (by omega)
 have hix0 : ∀ rg a, aev pZ rg a = .pointer (some ⟨i, 0, none⟩) → jan pZ (aev pZ rg) 211 a (.const (.int .i64 0)) = some (.pointer (some ⟨i, 0, none⟩)) := fun rg a g1 => jcW (m := 0) (by omega) g1 rfl
 have e1 : ilt dp 0 = false := dF (jaZ _ _) (by omega)
 rcases hz with hz | ⟨hz, hz2⟩
 ·have e2 : ieq dp 0 = false := by rw [jc5]; exact rzV (by omega)
  refine jah ?_
  refine jag ?_
  refine jag ?_
  refine jab rfl ?_
  repeat (refine jam rfl ?_; (try simp only [go_sem, h0, h1, h5, h6, hp, hd0, hix0, e1, e2]); fail_if_success refine stk ?_)
  refine jax ?_ ?_
  ·simp only [go_sem]
  refine jbw ?_
  simp only [jbv]
  exact ⟨by trivial, h, Only.refl _ _, _, rfl, (by simp only [go_sem, h0]), (by simp only [go_sem, h1]), (by simp only [go_sem, h5]), (by simp only [go_sem, h6])⟩
 ·have e2 : ieq dp 0 = true := by rw [jc5]; exact rzU hz
  have e3 : ilt (.ofNat (D 0)) 53 = false := dF (jbn _ 53 53 rfl) (by omega)
  refine jah ?_
  refine jag ?_
  refine jag ?_
  refine jab rfl ?_
  repeat (refine jam rfl ?_; (try simp only [go_sem, h0, h1, h5, h6, hp, hd0, hix0, e1, e2, e3]); fail_if_success refine stk ?_)
  refine jax ?_ ?_
  ·simp only [go_sem]
  refine jbw ?_
  simp only [jbv]
  exact ⟨by trivial, h, Only.refl _ _, _, rfl, (by simp only [go_sem, h0]), (by simp only [go_sem, h1]), (by simp only [go_sem, h5]), (by simp only [go_sem, h6])⟩
theorem fl_loop : ∀ (m : Nat) (D : Nat → Nat) (n : Nat) (tr : Bool) (dp e : Int), Good D n → ((0 < dp ∨ (dp = 0 ∧ 53 ≤ D 0)) ∨ 10 * (-dp) + ((57 - D 0 : Nat) : Int) ≤ m) → dp ≤ 20 → -330 ≤ dp → -200000 < e - 27 * m → e < 200000 →
  ∃ (D' : Nat → Nat) (n' : Nat) (tr' : Bool) (dp' e' : Int), Good D' n' ∧ 0 ≤ dp' ∧ dp' ≤ 20 ∧ e' ≤ e ∧ e - 27 * m ≤ e' ∧ ∀ {X : XT} {k i : Nat} {tm : T Value} {μ0 μ : Mem} {neg : Bool}, Lay μ0 → Grow μ0 μ → μ0.next ≤ i → Dec μ i D n dp neg tr → jac tm 0 = .pointer (some ⟨i, 0, none⟩) → jac tm 1 = .pointer (some ⟨11, 0, none⟩) → jac tm 5 = .bool false → jac tm 6 = .int .i64 e →
  LpC X (k + m + 6000) Tryz.f275 1 243 tm μ fun x r μ' => x = .exit 2 ∧ Dec μ' i D' n' dp' neg tr' ∧ Only μ μ' i ∧ ∃ tm', r = ⟨243, tm', [], none⟩ ∧ jac tm' 0 = .pointer (some ⟨i, 0, none⟩) ∧ jac tm' 1 = .pointer (some ⟨11, 0, none⟩) ∧ jac tm' 5 = .bool false ∧ jac tm' 6 = .int .i64 e' := by
 intro m
 induction m with
 | zero =>
   intro D n tr dp e G hm hdp hdp2 he he2
   have hz : 0 < dp ∨ (dp = 0 ∧ 53 ≤ D 0) := by have := G.dg 0 G.pos; omega
   exact ⟨D, n, tr, dp, e, G, by omega, hdp, Int.le_refl _, by omega, fun {X k i tm μ0 μ neg} hL hG hi h h0 h1 h5 h6 => fl_exit (k := k) G hz h h0 h1 h5 h6⟩
 | succ m ih =>
   intro D n tr dp e G hm hdp hdp2 he he2
   by_cases hz : 0 < dp ∨ (dp = 0 ∧ 53 ≤ D 0)
   ·exact ⟨D, n, tr, dp, e, G, by omega, hdp, Int.le_refl _, by omega, fun {X k i tm μ0 μ neg} hL hG hi h h0 h1 h5 h6 => fl_exit (k := k + (m + 1)) G hz h h0 h1 h5 h6⟩
   have hm := hm.resolve_left hz
   have hlead := G.lead
   have hdg0 := G.dg 0 G.pos
   obtain ⟨q, hqd⟩ : ∃ q : Nat, dp = -(q : Int) := ⟨(-dp).toNat, by omega⟩
   obtain ⟨K, hK⟩ := exq ((if 9 ≤ q then 27 else powts.getD q 0))
   have hKb : 1 ≤ K ∧ K ≤ 27 := by
    rw [hK]; split
    ·omega
    ·have := jjd q (by omega); omega
   obtain ⟨D1, n1, s, tr1, G1, b1, b2, hsh⟩ := jha (k := K) (tr := tr) G hKb.1 (by omega)
   have hlead1 := G1.dg 0 G1.pos
   obtain ⟨D', n', tr', dp', e', c1, c2, c3, c4, c5, hih⟩ := ih D1 n1 tr1 (dp + (s : Int)) (e - (K : Int)) G1 (by
    by_cases hd' : 0 < dp + (s : Int) ∨ (dp + (s : Int) = 0 ∧ 53 ≤ D1 0)
    ·exact .inl hd'
    ·refine .inr ?_
     by_cases hs0 : s = 0
     ·have := b2 hs0
      have := G1.lead
      omega
     ·have := G1.lead
      omega) (by omega) (by omega) (by omega) (by omega)
   refine ⟨D', n', tr', dp', e', c1, c2, c3, by omega, by omega, fun {X k i tm μ0 μ neg} hL hG hi h h0 h1 h5 h6 => ?_⟩
   have np : ∀ (ρ : Operand → Value) (d : Option Tmp) (t ty : TypeId) (a : Operand) (ps : String) (af : Array Edge) (gd : Option (Nat × Bool)), ρ a = .int .i64 dp → jaH pZ ρ ⟨d, .unOp .neg t a, ty, ps, af, gd⟩ = some (.int .i64 (.ofNat q)) := fun ρ d t ty a ps af gd g => by
    have := jbC (d := d) (t := t) (ty := ty) (ps := ps) (af := af) (gd := gd) g (by omega) (by omega)
    rw [this, hqd, Int.neg_neg]; rfl
   have q2 : jak .i64 (Int.sub e (.ofNat K)) = e - (K : Int) := jbU e (K : Int) (by omega) (by omega)
   have hpd := h.p
   have hdd := h.d 0 (by omega)
   have hix0 : ∀ rg a, aev pZ rg a = .pointer (some ⟨i, 0, none⟩) → jan pZ (aev pZ rg) 211 a (.const (.int .i64 0)) = some (.pointer (some ⟨i, 0, none⟩)) := fun rg a g1 => jcW (m := 0) (by omega) g1 rfl
   have hp := fun z => (h.up z).p
   have hd0 := fun z => (h.up z).d 0 (by omega)
   obtain ⟨pb, po, pc, p1, p2, p3⟩ := (hL.grow hG).pw
   have p1 : ∀ z, jal ⟨μ.obs, z⟩ 15 0 = some (.slice (some ⟨pb, po, none⟩) 9 pc) := fun z => p1
   by_cases hneg : dp < 0
   ·have e1 : ilt dp 0 = true := dT (jaZ _ _) hneg
    by_cases h9 : 9 ≤ q
    ·have e2 : ilt (.ofNat q) (.ofNat 9) = false := dF (jao _ _) (by omega)
     rw [if_pos h9] at hK
     subst hK
     have q27 : jak .i64 (Int.sub e 27) = e - ((27 : Nat) : Int) := q2
     obtain ⟨μ1, hr, z1, z2⟩ := hsh (X := X) (g := k + (m + 1) + 5993) (i := i) (μ := ⟨μ.obs, μ.next + 8⟩) (dp := dp) (neg := neg) (by omega) (hL.grow (hG.only (Only.obs (by omega)) hi)) (by omega) (by omega) (h.up _)
     have hG1 : Grow μ0 μ1 := (hG.only (Only.obs (by omega)) hi).only z2 hi
     have hr27 : aFun pZ (jaj pZ X S0 (k + (m + 1) + 5993)) 165 [.pointer (some ⟨i, 0, none⟩), .int .i64 27] ⟨μ.obs, μ.next + 8⟩ = some (.tuple #[], μ1) := hr
     refine jah ?_
     refine jag ?_
     refine jag ?_
     refine jab rfl ?_
     repeat (refine jam rfl ?_; (try simp only [go_sem, h0, h1, h5, h6, hpd, hdd, hix0, e1]); fail_if_success refine stk ?_)
     repeat (refine jaa rfl ?_; (try simp only [go_sem, h0, h1, h5, h6]); fail_if_success refine stk ?_)
     refine jaz (n := 8) (ms := [0, 1, 3, 7, 15, 0, 32, 127]) (ord := [0, 1, 2, 3, 4, 5, 6, 7]) (ds := ?_) ?_ ?_ ?_ ?_ ?_ ?_
     rotate_left
     ·kernel_rfl
     ·kernel_rfl
     ·kernel_rfl
     ·rfl
     ·rfl
     iterate 8 (refine jay (by first | rfl | (simp only [go_sem, h0, h1, h5, h6, nW, jba, jaW, jbO, jaT, jb8, jdx, jdw, jae, jbd, hp, p1, np, e2])) (by simp only [jaC, heavy, jaO, jar, go_sem, h0, h1, h5, h6, nW, jba, jaW, jbO, jaT, jb8, jdx, jdw, jae, jbd, hp, p1, np, e2]; try exact rfl) rfl ?_)
     simp only [dRun, jat, jai]
     repeat (refine jaa rfl ?_; (try simp only [go_sem, h0, h1, h5, h6, hr27, q27, hr, q2]); fail_if_success refine stk ?_)
     rw [(by omega : k + (m + 1) + 5999 = k + m + 6000)]
     refine rzM (hih hL hG1 hi z1 (by simp only [go_sem, h0]) (by simp only [go_sem, h1]) (by simp only [go_sem, h5]) (by simp only [go_sem])) ?_
     rintro x r μ' ⟨hx, g1, g2, g3⟩
     exact ⟨hx, g1, (Only.obs (by omega)).trans (z2.trans g2), g3⟩
    ·have e2 : ilt (.ofNat q) (.ofNat 9) = true := dT (jao _ _) (by omega)
     rw [if_neg h9] at hK
     have p4 : ∀ z, jal ⟨μ.obs, z⟩ pb (po + q) = some (.int .i64 (.ofNat (powts.getD q 0))) := fun z => p3 q (by omega)
     have hix : ∀ rg a b, aev pZ rg a = .slice (some ⟨pb, po, none⟩) 9 pc → aev pZ rg b = .int .i64 (.ofNat q) → jan pZ (aev pZ rg) 87 a b = some (.pointer (some ⟨pb, po + q, none⟩)) := fun rg a b g1 g2 => jaL (P := pZ) Tryz.underlying87 jcg rfl g1 g2 (by omega)
     have p4 : ∀ z, jal ⟨μ.obs, z⟩ pb (po + q) = some (.int .i64 (.ofNat K)) := fun z => by rw [hK]; exact p4 z
     obtain ⟨μ1, hr, z1, z2⟩ := hsh (X := X) (g := k + (m + 1) + 5993) (i := i) (μ := ⟨μ.obs, μ.next + 8 + 9⟩) (dp := dp) (neg := neg) (by omega) (hL.grow (hG.only (Only.obs (by omega)) hi)) (by omega) (by omega) (h.up _)
     have hG1 : Grow μ0 μ1 := (hG.only (Only.obs (by omega)) hi).only z2 hi
     refine jah ?_
     refine jag ?_
     refine jag ?_
     refine jab rfl ?_
     repeat (refine jam rfl ?_; (try simp only [go_sem, h0, h1, h5, h6, hpd, hdd, hix0, e1]); fail_if_success refine stk ?_)
     repeat (refine jaa rfl ?_; (try simp only [go_sem, h0, h1, h5, h6]); fail_if_success refine stk ?_)
     refine jaz (n := 8) (ms := [0, 1, 3, 7, 15, 0, 32, 127]) (ord := [0, 1, 2, 3, 4, 5, 6, 7]) (ds := ?_) ?_ ?_ ?_ ?_ ?_ ?_
     rotate_left
     ·kernel_rfl
     ·kernel_rfl
     ·kernel_rfl
     ·rfl
     ·rfl
     iterate 8 (refine jay (by first | rfl | (simp only [go_sem, h0, h1, h5, h6, nW, jba, jaW, jbO, jaT, jb8, jdx, jdw, jae, jbd, hp, p1, np, e2])) (by simp only [jaC, heavy, jaO, jar, go_sem, h0, h1, h5, h6, nW, jba, jaW, jbO, jaT, jb8, jdx, jdw, jae, jbd, hp, p1, np, e2]; try exact rfl) rfl ?_)
     simp only [dRun, jat, jai]
     repeat (refine jaa rfl ?_; (try simp only [go_sem, h0, h1, h5, h6]); fail_if_success refine stk ?_)
     refine jaz (n := 9) (ms := [0, 0, 2, 6, 14, 30, 63, 127, 255]) (ord := [0, 1, 2, 3, 4, 5, 6, 7, 8]) (ds := ?_) ?_ ?_ ?_ ?_ ?_ ?_
     rotate_left
     ·kernel_rfl
     ·kernel_rfl
     ·kernel_rfl
     ·rfl
     ·rfl
     iterate 9 (refine jay (by first | rfl | (simp only [go_sem, h0, h1, h5, h6, nW, jba, jaW, jbO, jaT, jb8, jdx, jdw, jae, jbd, hp, p1, np, hix, p4])) (by simp only [jaC, heavy, jaO, jar, go_sem, h0, h1, h5, h6, nW, jba, jaW, jbO, jaT, jb8, jdx, jdw, jae, jbd, hp, p1, np, hix, p4]; try exact rfl) rfl ?_)
     simp only [dRun, jat, jai]
     repeat (refine jaa rfl ?_; (try simp only [go_sem, h0, h1, h5, h6, hr, q2]); fail_if_success refine stk ?_)
     rw [(by omega : k + (m + 1) + 5999 = k + m + 6000)]
     refine rzM (hih hL hG1 hi z1 (by simp only [go_sem, h0]) (by simp only [go_sem, h1]) (by simp only [go_sem, h5]) (by simp only [go_sem])) ?_
     rintro x r μ' ⟨hx, g1, g2, g3⟩
     exact ⟨hx, g1, (Only.obs (by omega)).trans (z2.trans g2), g3⟩
   ·have e1 : ilt dp 0 = false := dF (jaZ _ _) hneg
    have e0 : ieq dp 0 = true := by rw [jc5]; exact rzU (by omega)
    have e3 : ilt (.ofNat (D 0)) 53 = true := dT (jbn _ 53 53 rfl) (by omega)
    have h9 : ¬ 9 ≤ q := by omega
    have e2 : ilt (.ofNat q) (.ofNat 9) = true := dT (jao _ _) (by omega)
    rw [if_neg h9] at hK
    have p4 : ∀ z, jal ⟨μ.obs, z⟩ pb (po + q) = some (.int .i64 (.ofNat (powts.getD q 0))) := fun z => p3 q (by omega)
    have hix : ∀ rg a b, aev pZ rg a = .slice (some ⟨pb, po, none⟩) 9 pc → aev pZ rg b = .int .i64 (.ofNat q) → jan pZ (aev pZ rg) 87 a b = some (.pointer (some ⟨pb, po + q, none⟩)) := fun rg a b g1 g2 => jaL (P := pZ) Tryz.underlying87 jcg rfl g1 g2 (by omega)
    have p4 : ∀ z, jal ⟨μ.obs, z⟩ pb (po + q) = some (.int .i64 (.ofNat K)) := fun z => by rw [hK]; exact p4 z
    obtain ⟨μ1, hr, z1, z2⟩ := hsh (X := X) (g := k + (m + 1) + 5993) (i := i) (μ := ⟨μ.obs, μ.next + 8 + 9⟩) (dp := dp) (neg := neg) (by omega) (hL.grow (hG.only (Only.obs (by omega)) hi)) (by omega) (by omega) (h.up _)
    have hG1 : Grow μ0 μ1 := (hG.only (Only.obs (by omega)) hi).only z2 hi
    refine jah ?_
    refine jag ?_
    refine jag ?_
    refine jab rfl ?_
    repeat (refine jam rfl ?_; (try simp only [go_sem, h0, h1, h5, h6, hpd, hdd, hix0, e1, e0, e3]); fail_if_success refine stk ?_)
    repeat (refine jaa rfl ?_; (try simp only [go_sem, h0, h1, h5, h6]); fail_if_success refine stk ?_)
    refine jaz (n := 8) (ms := [0, 1, 3, 7, 15, 0, 32, 127]) (ord := [0, 1, 2, 3, 4, 5, 6, 7]) (ds := ?_) ?_ ?_ ?_ ?_ ?_ ?_
    rotate_left
    ·kernel_rfl
    ·kernel_rfl
    ·kernel_rfl
    ·rfl
    ·rfl
    iterate 8 (refine jay (by first | rfl | (simp only [go_sem, h0, h1, h5, h6, nW, jba, jaW, jbO, jaT, jb8, jdx, jdw, jae, jbd, hp, p1, np, e2])) (by simp only [jaC, heavy, jaO, jar, go_sem, h0, h1, h5, h6, nW, jba, jaW, jbO, jaT, jb8, jdx, jdw, jae, jbd, hp, p1, np, e2]; try exact rfl) rfl ?_)
    simp only [dRun, jat, jai]
    repeat (refine jaa rfl ?_; (try simp only [go_sem, h0, h1, h5, h6]); fail_if_success refine stk ?_)
    refine jaz (n := 9) (ms := [0, 0, 2, 6, 14, 30, 63, 127, 255]) (ord := [0, 1, 2, 3, 4, 5, 6, 7, 8]) (ds := ?_) ?_ ?_ ?_ ?_ ?_ ?_
    rotate_left
    ·kernel_rfl
    ·kernel_rfl
    ·kernel_rfl
    ·rfl
    ·rfl
    iterate 9 (refine jay (by first | rfl | (simp only [go_sem, h0, h1, h5, h6, nW, jba, jaW, jbO, jaT, jb8, jdx, jdw, jae, jbd, hp, p1, np, hix, p4])) (by simp only [jaC, heavy, jaO, jar, go_sem, h0, h1, h5, h6, nW, jba, jaW, jbO, jaT, jb8, jdx, jdw, jae, jbd, hp, p1, np, hix, p4]; try exact rfl) rfl ?_)
    simp only [dRun, jat, jai]
    repeat (refine jaa rfl ?_; (try simp only [go_sem, h0, h1, h5, h6, hr, q2]); fail_if_success refine stk ?_)
    rw [(by omega : k + (m + 1) + 5999 = k + m + 6000)]
    refine rzM (hih hL hG1 hi z1 (by simp only [go_sem, h0]) (by simp only [go_sem, h1]) (by simp only [go_sem, h5]) (by simp only [go_sem])) ?_
    rintro x r μ' ⟨hx, g1, g2, g3⟩
    exact ⟨hx, g1, (Only.obs (by omega)).trans (z2.trans g2), g3⟩
end
noncomputable section
open Go.Proofs.YtlkenchibdeinaaGreatDoor.DecM (val Dg)
attribute [local irreducible] jaS
theorem fb14 (m : Nat) (e : Int) (he : -1023 ≤ e) : ∃ e', -1023 ≤ e' ∧ (e' = e ∨ e' = -1023) ∧ ∀ {X : XT} {k i n : Nat} {tm : T Value} {μ0 μ : Mem} {D : Nat → Nat} {dp : Int} {tr neg : Bool}, Lay μ0 → Grow μ0 μ → μ0.next ≤ i → Dec μ i D n dp neg tr → jac tm 0 = .pointer (some ⟨i, 0, none⟩) → jac tm 1 = .pointer (some ⟨11, 0, none⟩) → jac tm 5 = .bool false → jac tm 6 = .int .i64 e → jac tm 7 = u m →
  EndsC (jaj pZ X S0 (k + 40) (jaS 14 (jaJ Tryz.f275)) ⟨243, tm, [], none⟩ μ) (Mid (some (m, e')) neg i μ) := by
 by_cases hz : W (W m &&& 4503599627370496) = 0
 ·have e1 : ieq (.ofNat (W (W m &&& 4503599627370496))) 0 = true := dT (jaB _ 0 0 rfl) hz
  refine ⟨-1023, Int.le_refl _, .inr rfl, fun {X k i n tm μ0 μ D dp tr neg} hL hG hi h h0 h1 h5 h6 h7 => ?_⟩
  have hLm := hL.grow hG
  have f0 : ∀ z, jal ⟨μ.obs, z⟩ 11 0 = some (.int .u64 52) := fun z => hLm.fi0
  have f1 : ∀ z, jal ⟨μ.obs, z⟩ 11 1 = some (.int .u64 11) := fun z => hLm.fi1
  have f2 : ∀ z, jal ⟨μ.obs, z⟩ 11 2 = some (.int .i64 (-1023)) := fun z => hLm.fi2
  have g0 := hLm.fi0
  have g1 := hLm.fi1
  have g2 := hLm.fi2
  rw [fs14]
  repeat (refine jaa rfl ?_; (try simp only [go_sem, h0, h1, h5, h6, h7, g0, g2, jfS, wAndH, e1]); fail_if_success refine stk ?_)
  refine jcy ?_
  simp only [jct]
  exact ⟨Only.refl _ _, ⟨D, n, dp, tr, h⟩, _, rfl, (by simp only [go_sem, h0]), (by simp only [go_sem, h1]), by trivial, (by simp only [go_sem, h5]), (by simp only [go_sem]), (by simp only [go_sem, h7])⟩
 ·have e1 : ieq (.ofNat (W (W m &&& 4503599627370496))) 0 = false := dF (jaB _ 0 0 rfl) hz
  refine ⟨e, he, .inl rfl, fun {X k i n tm μ0 μ D dp tr neg} hL hG hi h h0 h1 h5 h6 h7 => ?_⟩
  have hLm := hL.grow hG
  have f0 : ∀ z, jal ⟨μ.obs, z⟩ 11 0 = some (.int .u64 52) := fun z => hLm.fi0
  have f1 : ∀ z, jal ⟨μ.obs, z⟩ 11 1 = some (.int .u64 11) := fun z => hLm.fi1
  have f2 : ∀ z, jal ⟨μ.obs, z⟩ 11 2 = some (.int .i64 (-1023)) := fun z => hLm.fi2
  have g0 := hLm.fi0
  have g1 := hLm.fi1
  have g2 := hLm.fi2
  rw [fs14]
  repeat (refine jaa rfl ?_; (try simp only [go_sem, h0, h1, h5, h6, h7, g0, g2, jfS, wAndH, e1]); fail_if_success refine stk ?_)
  refine jcy ?_
  simp only [jct]
  exact ⟨Only.refl _ _, ⟨D, n, dp, tr, h⟩, _, rfl, (by simp only [go_sem, h0]), (by simp only [go_sem, h1]), by trivial, (by simp only [go_sem, h5]), (by simp only [go_sem, h6]), (by simp only [go_sem, h7])⟩
theorem Mid.up {o : Option (Nat × Int)} {neg : Bool} {i : Nat} {μ μ1 : Mem} {y : Option (Ax × Rg × Mem)} (g : Only μ μ1 i) (h : EndsC y (Mid o neg i μ1)) : EndsC y (Mid o neg i μ) :=
 rzM h fun x r μ' ⟨h1, h2⟩ => ⟨g.trans h1, h2⟩
theorem Dec.any {μ : Mem} {i n : Nat} {D : Nat → Nat} {dp : Int} {neg tr : Bool} (h : Dec μ i D n dp neg tr) : ∃ D n dp tr, Dec μ i D n dp neg tr := ⟨_, _, _, _, h⟩
theorem fb13 (m : Nat) (e : Int) (he : -1022 ≤ e) (he2 : e < 2000) : ∃ o, (∀ m' e', o = some (m', e') → -1023 ≤ e' ∧ e' < 100000) ∧ ∀ {X : XT} {k i n : Nat} {tm : T Value} {μ0 μ : Mem} {D : Nat → Nat} {dp : Int} {tr neg : Bool}, Lay μ0 → Grow μ0 μ → μ0.next ≤ i → Dec μ i D n dp neg tr → jac tm 0 = .pointer (some ⟨i, 0, none⟩) → jac tm 1 = .pointer (some ⟨11, 0, none⟩) → jac tm 5 = .bool false → jac tm 6 = .int .i64 e → jac tm 7 = u m →
  EndsC (jaj pZ X S0 (k + 80) (jaS 13 (jaJ Tryz.f275)) ⟨243, tm, [], none⟩ μ) (Mid o neg i μ) := by
 have qe : jak .i64 (Int.add e 1) = e + 1 := jcJ e 1 (by omega) (by omega)
 have qe2 : jak .i64 (Int.sub (e + 1) (-1023)) = e + 1 - (-1023) := jbU (e + 1) (-1023) (by omega) (by omega)
 by_cases hm : W m = 9007199254740992
 rotate_left
 ·have e1 : ieq (.ofNat (W m)) 9007199254740992 = false := dF (jaB _ 9007199254740992 9007199254740992 rfl) hm
  obtain ⟨e', b1, b2, h14⟩ := fb14 m e (by omega)
  refine ⟨some (m, e'), fun m' e'' h => by cases h; omega, fun {X k i n tm μ0 μ D dp tr neg} hL hG hi h h0 h1 h5 h6 h7 => ?_⟩
  have hLm := hL.grow hG
  have f0 : ∀ z, jal ⟨μ.obs, z⟩ 11 0 = some (.int .u64 52) := fun z => hLm.fi0
  have f1 : ∀ z, jal ⟨μ.obs, z⟩ 11 1 = some (.int .u64 11) := fun z => hLm.fi1
  have f2 : ∀ z, jal ⟨μ.obs, z⟩ 11 2 = some (.int .i64 (-1023)) := fun z => hLm.fi2
  have g0 := hLm.fi0
  have g1 := hLm.fi1
  have g2 := hLm.fi2
  rw [fs13]
  repeat (refine jaa rfl ?_; (try simp only [go_sem, h0, h1, h5, h6, h7, g0, g2, sh52_2, e1]); fail_if_success refine stk ?_)
  exact h14 (k := k + 39) hL hG hi h (by simp only [go_sem, h0]) (by simp only [go_sem, h1]) (by simp only [go_sem, h5]) (by simp only [go_sem, h6]) (by simp only [go_sem, h7])
 have e1 : ieq (.ofNat (W m)) 9007199254740992 = true := dT (jaB _ 9007199254740992 9007199254740992 rfl) hm
 by_cases ho : 2047 ≤ e + 1 - (-1023)
 ·have e2 : ilt (e + 1 - (-1023)) 2047 = false := dF (jaZ _ _) (by omega)
  refine ⟨none, fun m' e'' h => (by cases h), fun {X k i n tm μ0 μ D dp tr neg} hL hG hi h h0 h1 h5 h6 h7 => ?_⟩
  have hLm := hL.grow hG
  have f0 : ∀ z, jal ⟨μ.obs, z⟩ 11 0 = some (.int .u64 52) := fun z => hLm.fi0
  have f1 : ∀ z, jal ⟨μ.obs, z⟩ 11 1 = some (.int .u64 11) := fun z => hLm.fi1
  have f2 : ∀ z, jal ⟨μ.obs, z⟩ 11 2 = some (.int .i64 (-1023)) := fun z => hLm.fi2
  have g0 := hLm.fi0
  have g1 := hLm.fi1
  have g2 := hLm.fi2
  rw [fs13]
  repeat (refine jaa rfl ?_; (try simp only [go_sem, h0, h1, h5, h6, h7, g0, g2, sh52_2, e1, wShr1, qe]); fail_if_success refine stk ?_)
  refine jaz (n := 13) (ms := [0, 0, 2, 6, 14, 31, 0, 64, 192, 448, 960, 1984, 4095]) (ord := [0, 1, 2, 3, 4, 5, 6, 7, 8, 9, 10, 11, 12]) (ds := ?_) ?_ ?_ ?_ ?_ ?_ ?_
  rotate_left
  ·kernel_rfl
  ·kernel_rfl
  ·kernel_rfl
  ·rfl
  ·rfl
  iterate 13 (refine jay (by first | rfl | (simp only [go_sem, h0, h1, h5, h6, h7, jcn, jcm, jcl, jbN, jaT, f0, f1, f2, qe2, jcC, qs1, e2])) (by simp only [jaC, heavy, jaO, jar, go_sem, h0, h1, h5, h6, h7, jcn, jcm, jcl, jbN, jaT, f0, f1, f2, qe2, jcC, qs1, e2]; try exact rfl) rfl ?_)
  simp only [dRun, jat, jai]
  repeat (refine jaa rfl ?_; (try simp only [go_sem, h0, h1]); fail_if_success refine stk ?_)
  refine jcy ?_
  simp only [jct]
  exact ⟨Only.up _ _ _, (h.up _).any, _, rfl, (by simp only [go_sem, h0]), (by simp only [go_sem, h1]), by trivial⟩
 ·have e2 : ilt (e + 1 - (-1023)) 2047 = true := dT (jaZ _ _) (by omega)
  obtain ⟨e', b1, b2, h14⟩ := fb14 (W m / 2 ^ 1) (e + 1) (by omega)
  refine ⟨some (W m / 2 ^ 1, e'), fun m' e'' h => by cases h; omega, fun {X k i n tm μ0 μ D dp tr neg} hL hG hi h h0 h1 h5 h6 h7 => ?_⟩
  have hLm := hL.grow hG
  have f0 : ∀ z, jal ⟨μ.obs, z⟩ 11 0 = some (.int .u64 52) := fun z => hLm.fi0
  have f1 : ∀ z, jal ⟨μ.obs, z⟩ 11 1 = some (.int .u64 11) := fun z => hLm.fi1
  have f2 : ∀ z, jal ⟨μ.obs, z⟩ 11 2 = some (.int .i64 (-1023)) := fun z => hLm.fi2
  have g0 := hLm.fi0
  have g1 := hLm.fi1
  have g2 := hLm.fi2
  rw [fs13]
  repeat (refine jaa rfl ?_; (try simp only [go_sem, h0, h1, h5, h6, h7, g0, g2, sh52_2, e1, wShr1, qe]); fail_if_success refine stk ?_)
  refine jaz (n := 13) (ms := [0, 0, 2, 6, 14, 31, 0, 64, 192, 448, 960, 1984, 4095]) (ord := [0, 1, 2, 3, 4, 5, 6, 7, 8, 9, 10, 11, 12]) (ds := ?_) ?_ ?_ ?_ ?_ ?_ ?_
  rotate_left
  ·kernel_rfl
  ·kernel_rfl
  ·kernel_rfl
  ·rfl
  ·rfl
  iterate 13 (refine jay (by first | rfl | (simp only [go_sem, h0, h1, h5, h6, h7, jcn, jcm, jcl, jbN, jaT, f0, f1, f2, qe2, jcC, qs1, e2])) (by simp only [jaC, heavy, jaO, jar, go_sem, h0, h1, h5, h6, h7, jcn, jcm, jcl, jbN, jaT, f0, f1, f2, qe2, jcC, qs1, e2]; try exact rfl) rfl ?_)
  simp only [dRun, jat, jai]
  repeat (refine jaa rfl ?_; (try simp only [go_sem, h0, h1]); fail_if_success refine stk ?_)
  exact Mid.up (Only.up _ _ _) (h14 (k := k + 39) hL (hG.only (Only.up _ _ _) hi) hi (h.up _) (by simp only [go_sem, h0]) (by simp only [go_sem, h1]) (by simp only [go_sem, h5]) (by simp only [go_sem]) (by simp only [go_sem]))
theorem fb10 {D : Nat → Nat} {n : Nat} {tr : Bool} {dp e : Int} (G : Good D n) (hp1 : -490000 < dp) (hp2 : dp < 490000) (he : -1022 ≤ e) (he2 : e < 100000) : ∃ o, (∀ m' e', o = some (m', e') → -1023 ≤ e' ∧ e' < 100000) ∧ ∀ {X : XT} {k i : Nat} {tm : T Value} {μ0 μ : Mem} {neg : Bool}, Lay μ0 → Grow μ0 μ → μ0.next ≤ i → Dec μ i D n dp neg tr → jac tm 0 = .pointer (some ⟨i, 0, none⟩) → jac tm 1 = .pointer (some ⟨11, 0, none⟩) → jac tm 5 = .bool false → jac tm 6 = .int .i64 e →
  EndsC (jaj pZ X S0 (k + 6000) (jaS 10 (jaJ Tryz.f275)) ⟨243, tm, [], none⟩ μ) (Mid o neg i μ) := by
 have qe2 : jak .i64 (Int.sub e (-1023)) = e - (-1023) := jbU e (-1023) (by omega) (by omega)
 by_cases ho : 2047 ≤ e - (-1023)
 ·have e2 : ilt (e - (-1023)) 2047 = false := dF (jaZ _ _) (by omega)
  refine ⟨none, fun m' e'' h => (by cases h), fun {X k i tm μ0 μ neg} hL hG hi h h0 h1 h5 h6 => ?_⟩
  have hLm := hL.grow hG
  have f0 : ∀ z, jal ⟨μ.obs, z⟩ 11 0 = some (.int .u64 52) := fun z => hLm.fi0
  have f1 : ∀ z, jal ⟨μ.obs, z⟩ 11 1 = some (.int .u64 11) := fun z => hLm.fi1
  have f2 : ∀ z, jal ⟨μ.obs, z⟩ 11 2 = some (.int .i64 (-1023)) := fun z => hLm.fi2
  have g0 := hLm.fi0
  have g1 := hLm.fi1
  have g2 := hLm.fi2
  rw [fs10]
  refine jag ?_
  refine jag ?_
  refine jaz (n := 13) (ms := [0, 0, 2, 6, 14, 31, 0, 64, 192, 448, 960, 1984, 4095]) (ord := [0, 1, 2, 3, 4, 5, 6, 7, 8, 9, 10, 11, 12]) (ds := ?_) ?_ ?_ ?_ ?_ ?_ ?_
  rotate_left
  ·kernel_rfl
  ·kernel_rfl
  ·kernel_rfl
  ·rfl
  ·rfl
  iterate 13 (refine jay (by first | rfl | (simp only [go_sem, h0, h1, h5, h6, jcn, jcm, jcl, jbN, jaT, f0, f1, f2, qe2, jcC, qs1, e2])) (by simp only [jaC, heavy, jaO, jar, go_sem, h0, h1, h5, h6, jcn, jcm, jcl, jbN, jaT, f0, f1, f2, qe2, jcC, qs1, e2]; try exact rfl) rfl ?_)
  simp only [dRun, jat, jai]
  repeat (refine jaa rfl ?_; (try simp only [go_sem, h0, h1]); fail_if_success refine stk ?_)
  refine jcy ?_
  simp only [jct]
  exact ⟨Only.up _ _ _, (h.up _).any, _, rfl, (by simp only [go_sem, h0]), (by simp only [go_sem, h1]), by trivial⟩
 ·have e2 : ilt (e - (-1023)) 2047 = true := dT (jaZ _ _) (by omega)
  obtain ⟨D1, n1, s, tr1, G1, b1, b2, hsh⟩ := jha (k := 53) (tr := tr) G (by decide) (by decide)
  obtain ⟨m, hri⟩ := ri_ex (tr := tr1) (dp := dp + (s : Int)) G1.dg G1.le (by omega)
  obtain ⟨o, c1, h13⟩ := fb13 m e he (by omega)
  refine ⟨o, c1, fun {X k i tm μ0 μ neg} hL hG hi h h0 h1 h5 h6 => ?_⟩
  have hLm := hL.grow hG
  have f0 : ∀ z, jal ⟨μ.obs, z⟩ 11 0 = some (.int .u64 52) := fun z => hLm.fi0
  have f1 : ∀ z, jal ⟨μ.obs, z⟩ 11 1 = some (.int .u64 11) := fun z => hLm.fi1
  have f2 : ∀ z, jal ⟨μ.obs, z⟩ 11 2 = some (.int .i64 (-1023)) := fun z => hLm.fi2
  have g0 := hLm.fi0
  have g1 := hLm.fi1
  have g2 := hLm.fi2
  obtain ⟨μ1, hr, z1, z2⟩ := hsh (X := X) (g := k + 5997) (i := i) (μ := ⟨μ.obs, μ.next + 13⟩) (dp := dp) (neg := neg) (by omega) (hL.grow (hG.only (Only.up μ i _) hi)) (by omega) (by omega) (h.up _)
  have hr : aFun pZ (jaj pZ X S0 (k + 5997)) 165 [.pointer (some ⟨i, 0, none⟩), .int .i64 53] ⟨μ.obs, μ.next + 13⟩ = some (.tuple #[], μ1) := hr
  have hri := hri (X := X) (g := k + 5996) (i := i) (μ := μ1) (neg := neg) (by omega) z1
  rw [fs10]
  refine jag ?_
  refine jag ?_
  refine jaz (n := 13) (ms := [0, 0, 2, 6, 14, 31, 0, 64, 192, 448, 960, 1984, 4095]) (ord := [0, 1, 2, 3, 4, 5, 6, 7, 8, 9, 10, 11, 12]) (ds := ?_) ?_ ?_ ?_ ?_ ?_ ?_
  rotate_left
  ·kernel_rfl
  ·kernel_rfl
  ·kernel_rfl
  ·rfl
  ·rfl
  iterate 13 (refine jay (by first | rfl | (simp only [go_sem, h0, h1, h5, h6, jcn, jcm, jcl, jbN, jaT, f0, f1, f2, qe2, jcC, qs1, e2])) (by simp only [jaC, heavy, jaO, jar, go_sem, h0, h1, h5, h6, jcn, jcm, jcl, jbN, jaT, f0, f1, f2, qe2, jcC, qs1, e2]; try exact rfl) rfl ?_)
  simp only [dRun, jat, jai]
  repeat (refine jaa rfl ?_; (try simp only [go_sem, h0, h1, f0, qs4, conv_wi, qs5, hr, hri]); fail_if_success refine stk ?_)
  exact Mid.up ((Only.up _ _ _).trans z2) (h13 (k := k + 5917) hL ((hG.only (Only.up μ i _) hi).only z2 hi) hi z1 (by simp only [go_sem, h0]) (by simp only [go_sem, h1]) (by simp only [go_sem, h5]) (by simp only [go_sem, h6]) (by simp only [go_sem]))
theorem fb8 {D : Nat → Nat} {n : Nat} {tr : Bool} {dp e : Int} (G : Good D n) (hp1 : -400 < dp) (hp2 : dp < 400) (he : -98000 ≤ e) (he2 : e < 98000) : ∃ o, (∀ m' e', o = some (m', e') → -1023 ≤ e' ∧ e' < 100000) ∧ ∀ {X : XT} {k i : Nat} {tm : T Value} {μ0 μ : Mem} {neg : Bool}, Lay μ0 → Grow μ0 μ → μ0.next ≤ i → Dec μ i D n dp neg tr → jac tm 0 = .pointer (some ⟨i, 0, none⟩) → jac tm 1 = .pointer (some ⟨11, 0, none⟩) → jac tm 5 = .bool false → jac tm 6 = .int .i64 e →
  EndsC (jaj pZ X S0 (k + 6100) (jaS 8 (jaJ Tryz.f275)) ⟨243, tm, [], none⟩ μ) (Mid o neg i μ) := by
 have qe : jak .i64 (Int.sub e 1) = e - 1 := jbU e 1 (by omega) (by omega)
 by_cases hb : e - 1 < -1022
 rotate_left
 ·have e1 : ilt (e - 1) (-1022) = false := dF (jaZ _ _) hb
  obtain ⟨o, c1, h10⟩ := fb10 (tr := tr) (dp := dp) (e := e - 1) G (by omega) (by omega) (by omega) (by omega)
  refine ⟨o, c1, fun {X k i tm μ0 μ neg} hL hG hi h h0 h1 h5 h6 => ?_⟩
  have hLm := hL.grow hG
  have f0 : ∀ z, jal ⟨μ.obs, z⟩ 11 0 = some (.int .u64 52) := fun z => hLm.fi0
  have f1 : ∀ z, jal ⟨μ.obs, z⟩ 11 1 = some (.int .u64 11) := fun z => hLm.fi1
  have f2 : ∀ z, jal ⟨μ.obs, z⟩ 11 2 = some (.int .i64 (-1023)) := fun z => hLm.fi2
  have g0 := hLm.fi0
  have g1 := hLm.fi1
  have g2 := hLm.fi2
  rw [fs8]
  repeat (refine jaa rfl ?_; (try simp only [go_sem, h0, h1, h5, h6, g2, qe, qs3, e1]); fail_if_success refine stk ?_)
  exact h10 (k := k + 98) hL hG hi h (by simp only [go_sem, h0]) (by simp only [go_sem, h1]) (by simp only [go_sem, h5]) (by simp only [go_sem])
 ·have e1 : ilt (e - 1) (-1022) = true := dT (jaZ _ _) hb
  obtain ⟨K, hK⟩ : ∃ K : Nat, -1022 - (e - 1) = .ofNat K := ⟨(-1022 - (e - 1)).toNat, by show -1022 - (e - 1) = (((-1022 - (e - 1)).toNat : Nat) : Int); omega⟩
  have hKd : -1022 - (e - 1) = (K : Int) := hK
  obtain ⟨D1, n1, s, tr1, G1, b1, b2, hsh⟩ := jg9 (k := K) (tr := tr) G (by omega) (by omega)
  obtain ⟨o, c1, h10⟩ := fb10 (tr := tr1) (dp := dp - (s : Int)) (e := -1022) G1 (by omega) (by omega) (by decide) (by decide)
  have q1 : jak .i64 (Int.sub (-1022) (e - 1)) = .ofNat K := by rw [← hK]; exact jbU (-1022) (e - 1) (by omega) (by omega)
  have q2 : jak .i64 (Int.add (e - 1) (.ofNat K)) = -1022 := (jcJ (e - 1) (K : Int) (by omega) (by omega)).trans (by omega)
  have np := fun ρ d t ty a ps af gd => neg_lit (n := K) (by omega) ρ d t ty a ps af gd
  refine ⟨o, c1, fun {X k i tm μ0 μ neg} hL hG hi h h0 h1 h5 h6 => ?_⟩
  have hLm := hL.grow hG
  have f0 : ∀ z, jal ⟨μ.obs, z⟩ 11 0 = some (.int .u64 52) := fun z => hLm.fi0
  have f1 : ∀ z, jal ⟨μ.obs, z⟩ 11 1 = some (.int .u64 11) := fun z => hLm.fi1
  have f2 : ∀ z, jal ⟨μ.obs, z⟩ 11 2 = some (.int .i64 (-1023)) := fun z => hLm.fi2
  have g0 := hLm.fi0
  have g1 := hLm.fi1
  have g2 := hLm.fi2
  obtain ⟨μ1, hr, z1, z2⟩ := hsh (X := X) (g := k + 6093) (i := i) (x := -(K : Int)) (μ := μ) (dp := dp) (neg := neg) (by omega) rfl (by omega) (by omega) h
  rw [fs8]
  repeat (refine jaa rfl ?_; (try simp only [go_sem, h0, h1, h5, h6, g2, qe, qs3, e1, q1, np, hr, q2]); fail_if_success refine stk ?_)
  exact Mid.up z2 (h10 (k := k + 98) hL (hG.only z2 hi) hi z1 (by simp only [go_sem, h0]) (by simp only [go_sem, h1]) (by simp only [go_sem, h5]) (by simp only [go_sem]))
theorem fb6 {D : Nat → Nat} {n : Nat} {tr : Bool} {dp : Int} (G : Good D n) (hp1 : -330 ≤ dp) (hp2 : dp ≤ 310) : ∃ o, (∀ m' e', o = some (m', e') → -1023 ≤ e' ∧ e' < 100000) ∧ ∀ {X : XT} {k i : Nat} {tm : T Value} {μ0 μ : Mem} {neg : Bool} {e : Int}, e = 0 → Lay μ0 → Grow μ0 μ → μ0.next ≤ i → Dec μ i D n dp neg tr → jac tm 0 = .pointer (some ⟨i, 0, none⟩) → jac tm 1 = .pointer (some ⟨11, 0, none⟩) → jac tm 5 = .bool false → jac tm 6 = .int .i64 e →
  EndsC (jaj pZ X S0 (k + 10000) (jaS 6 (jaJ Tryz.f275)) ⟨243, tm, [], none⟩ μ) (Mid o neg i μ) := by
 have hd0 := G.dg 0 G.pos
 obtain ⟨D1, n1, tr1, dp1, e1, G1, a1, a2, a3, a4, hlp1⟩ := fr_loop 3200 D n tr dp 0 G (by by_cases h : dp ≤ 0; exact .inl h; exact .inr (by omega)) hp2 hp1 (by decide) (by decide)
 have hd1 := G1.dg 0 G1.pos
 obtain ⟨D2, n2, tr2, dp2, e2, G2, b1, b2, b3, b4, hlp2⟩ := fl_loop 3310 D1 n1 tr1 dp1 e1 G1 (.inr (by omega)) (by omega) (by omega) (by omega) (by omega)
 obtain ⟨o, c1, h8⟩ := fb8 (tr := tr2) (dp := dp2) (e := e2) G2 (by omega) (by omega) (by omega) (by omega)
 refine ⟨o, c1, fun {X k i tm μ0 μ neg e} he hL hG hi h h0 h1 h5 h6 => ?_⟩
 subst he
 rw [fs6]
 repeat (refine jaa rfl ?_; (try simp only [go_sem]); fail_if_success refine stk ?_)
 rw [(by omega : k + 9998 = (k + 798) + 3200 + 6000)]
 refine rzM (hlp1 hL hG hi h h0 h1 h5 h6) ?_
 rintro x r μ1 ⟨rfl, g1, g2, tm1, rfl, h0, h1, h5, h6⟩
 simp only [go_sem]
 rw [fs7]
 have hG1 := hG.only g2 hi
 repeat (refine jaa rfl ?_; (try simp only [go_sem]); fail_if_success refine stk ?_)
 rw [(by omega : k + 9997 = (k + 687) + 3310 + 6000)]
 refine rzM (hlp2 hL hG1 hi g1 h0 h1 h5 h6) ?_
 rintro x r μ2 ⟨rfl, k1, k2, tm2, rfl, h0, h1, h5, h6⟩
 simp only [go_sem]
 exact Mid.up (g2.trans k2) (h8 (k := k + 3898) hL (hG1.only k2 hi) hi k1 h0 h1 h5 h6)
theorem jhA {D : Nat → Nat} {n : Nat} {tr neg : Bool} {dp : Int} (G : n = 0 ∨ Good D n) (hp1 : -200000 < dp) (hp2 : dp < 200000) : ∃ b ovf, ∀ {X : XT} {g i : Nat} {μ0 μ : Mem}, 11000 ≤ g → Lay μ0 → Grow μ0 μ → μ0.next ≤ i → Dec μ i D n dp neg tr →
  ∃ μ', aFun pZ (jaj pZ X S0 g) 275 [.pointer (some ⟨i, 0, none⟩), .pointer (some ⟨11, 0, none⟩)] μ = some (.tuple #[u b, .bool ovf], μ') ∧ Only μ μ' i := by
 have mid : ∃ o, (∀ m' e', o = some (m', e') → -1023 ≤ e' ∧ e' < 100000) ∧ ∀ {X : XT} {k i : Nat} {tm : T Value} {μ0 μ : Mem}, Lay μ0 → Grow μ0 μ → μ0.next ≤ i → Dec μ i D n dp neg tr → jac tm 0 = .pointer (some ⟨i, 0, none⟩) → jac tm 1 = .pointer (some ⟨11, 0, none⟩) → jac tm 5 = .bool false →
   EndsC (jaj pZ X S0 (k + 10100) (jaJ Tryz.f275) ⟨243, tm, [], none⟩ μ) (Mid o neg i μ) := by
  by_cases hn : n = 0
  ·subst hn
   refine ⟨some (0, -1023), fun m' e' h => by cases h; decide, fun {X k i tm μ0 μ} hL hG hi h h0 h1 h5 => ?_⟩
   have hLm := hL.grow hG
   have f0 : ∀ z, jal ⟨μ.obs, z⟩ 11 0 = some (.int .u64 52) := fun z => hLm.fi0
   have f1 : ∀ z, jal ⟨μ.obs, z⟩ 11 1 = some (.int .u64 11) := fun z => hLm.fi1
   have f2 : ∀ z, jal ⟨μ.obs, z⟩ 11 2 = some (.int .i64 (-1023)) := fun z => hLm.fi2
   have g0 := hLm.fi0
   have g1 := hLm.fi1
   have g2 := hLm.fi2
   have hc := h.n
   have z1 : ieq (.ofNat 0) 0 = true := rfl
   rw [fs0]
   repeat (refine jaa rfl ?_; (try simp only [go_sem, h0, h1, h5, hc, g2, z1]); fail_if_success refine stk ?_)
   refine jcy ?_
   simp only [jct]
   exact ⟨Only.refl _ _, h.any, _, rfl, (by simp only [go_sem, h0]), (by simp only [go_sem, h1]), by trivial, (by simp only [go_sem, h5]), (by simp only [go_sem]), (by simp only [go_sem]; exact u_of (n := 0) (by decide))⟩
  have G := G.resolve_left hn
  have z1 : ieq (.ofNat n) 0 = false := dF (jaB _ 0 0 rfl) hn
  by_cases hbig : 310 < dp
  ·have z2 : ilt 310 dp = true := dT (jaZ _ _) hbig
   refine ⟨none, fun m' e' h => (by cases h), fun {X k i tm μ0 μ} hL hG hi h h0 h1 h5 => ?_⟩
   have hc := h.n
   have hp := h.p
   rw [fs0]
   repeat (refine jaa rfl ?_; (try simp only [go_sem, h0, h1, h5, hc, hp, z1, z2]); fail_if_success refine stk ?_)
   refine jcy ?_
   simp only [jct]
   exact ⟨Only.refl _ _, h.any, _, rfl, (by simp only [go_sem, h0]), (by simp only [go_sem, h1]), by trivial⟩
  have z2 : ilt 310 dp = false := dF (jaZ _ _) hbig
  by_cases hsm : dp < -330
  ·have z3 : ilt dp (-330) = true := dT (jaZ _ _) hsm
   refine ⟨some (0, -1023), fun m' e' h => by cases h; decide, fun {X k i tm μ0 μ} hL hG hi h h0 h1 h5 => ?_⟩
   have hLm := hL.grow hG
   have f0 : ∀ z, jal ⟨μ.obs, z⟩ 11 0 = some (.int .u64 52) := fun z => hLm.fi0
   have f1 : ∀ z, jal ⟨μ.obs, z⟩ 11 1 = some (.int .u64 11) := fun z => hLm.fi1
   have f2 : ∀ z, jal ⟨μ.obs, z⟩ 11 2 = some (.int .i64 (-1023)) := fun z => hLm.fi2
   have g0 := hLm.fi0
   have g1 := hLm.fi1
   have g2 := hLm.fi2
   have hc := h.n
   have hp := h.p
   rw [fs0]
   repeat (refine jaa rfl ?_; (try simp only [go_sem, h0, h1, h5, hc, hp, g2, z1, z2, z3]); fail_if_success refine stk ?_)
   refine jcy ?_
   simp only [jct]
   exact ⟨Only.refl _ _, h.any, _, rfl, (by simp only [go_sem, h0]), (by simp only [go_sem, h1]), by trivial, (by simp only [go_sem, h5]), (by simp only [go_sem]), (by simp only [go_sem]; exact u_of (n := 0) (by decide))⟩
  have z3 : ilt dp (-330) = false := dF (jaZ _ _) hsm
  obtain ⟨o, c1, h6⟩ := fb6 (tr := tr) (dp := dp) G (by omega) (by omega)
  refine ⟨o, c1, fun {X k i tm μ0 μ} hL hG hi h h0 h1 h5 => ?_⟩
  have hc := h.n
  have hp := h.p
  rw [fs0]
  repeat (refine jaa rfl ?_; (try simp only [go_sem, h0, h1, h5, hc, hp, z1, z2, z3]); fail_if_success refine stk ?_)
  exact h6 (k := k + 94) rfl hL hG hi h (by simp only [go_sem, h0]) (by simp only [go_sem, h1]) (by simp only [go_sem, h5]) (by simp only [go_sem])
 obtain ⟨o, ho, hmid⟩ := mid
 obtain ⟨b, ovf, hfin⟩ := fb_fin o neg ho
 refine ⟨b, ovf, fun {X g i μ0 μ} hg hL hG hi h => ?_⟩
 obtain ⟨f, rfl⟩ := gle hg
 have key : EndsF (aFun pZ (jaj pZ X S0 (f + 11000)) 275 [.pointer (some ⟨i, 0, none⟩), .pointer (some ⟨11, 0, none⟩)] μ) fun v μ' => v = .tuple #[u b, .bool ovf] ∧ Only μ μ' i := by
  refine jaf Tryz.func275 rfl rfl (nbl rfl) ?_
  simp only [go_sem, Tryz.ntmps275]
  refine jag ?_
  refine jaD ?_ ?_
  ·rfl
  simp only [go_sem]
  refine jdv ?_
  change EndsC (jaj pZ X S0 _ (jaJ Tryz.f275) _ _) _
  have fin : ∀ x r μ', FinB b ovf i μ x r μ' → retQ pZ Tryz.f275 (fun v μ' => v = .tuple #[u b, .bool ovf] ∧ Only μ μ' i) x r μ' := by
   rintro x r μ' ⟨rfl, g, tm', rfl, h4, h5⟩
   refine ⟨rfl, _, ?_, rfl, g⟩
   simp only [go_sem, Tryz.results275]
   simp only [h4, h5]
  refine rzM (hfin (X := X) (k := f + 10898) hL hG hi (hmid (k := f + 898) hL hG hi h (by simp only [go_sem]) (by simp only [go_sem]) (by simp only [go_sem]))) ?_
  intro x r μ' hx
  cases x with
  | goto l =>
    obtain ⟨rest, hr, he⟩ := hx
    refine ⟨rest, hr, rzM he ?_⟩
    intro x r μ' hx
    cases x with
    | goto l => exact hx
    | normal => exact fin _ _ _ hx
    | ret => exact fin _ _ _ hx
    | exit id => exact fin _ _ _ hx
  | normal => exact fin _ _ _ hx
  | ret => exact fin _ _ _ hx
  | exit id => exact fin _ _ _ hx
 obtain ⟨v, μ', h1, rfl, h2⟩ := key
 exact ⟨μ', h1, h2⟩
end
noncomputable section
open Go.Proofs.YtlkenchibdeinaaGreatDoor.DecM (val Dg)
structure RegS (tm : T Value) (s : ByteArray) (bi i : Nat) (sd sg : Bool) : Prop where
 r0 : jac tm 0 = .pointer (some ⟨bi, 0, none⟩)
 r1 : jac tm 1 = .string s
 r4 : jac tm 4 = .bool false
 r5 : jac tm 5 = .int .i64 (.ofNat i)
 r6 : jac tm 6 = .bool sd
 r7 : jac tm 7 = .bool sg
theorem RegS.z {tm : T Value} {s : ByteArray} {bi i : Nat} {sd sg : Bool} (h : RegS tm s bi i sd sg) : jac tm 0 = .pointer (some ⟨bi, 0, none⟩) ∧ jac tm 1 = .string s ∧ jac tm 4 = .bool false ∧ jac tm 5 = .int .i64 (.ofNat i) ∧ jac tm 6 = .bool sd ∧ jac tm 7 = .bool sg := ⟨h.r0, h.r1, h.r4, h.r5, h.r6, h.r7⟩
def Fit (D : Nat → Nat) (n : Nat) : Prop := n = 0 ∨ Good D n
theorem Fit.le {D : Nat → Nat} {n : Nat} (h : Fit D n) : n ≤ 800 := by
 rcases h with rfl | h
 ·omega
 ·exact h.le
theorem Fit.put {D : Nat → Nat} {n c : Nat} (h : Fit D n) (hn : n < 800) (h1 : 48 ≤ c) (h2 : c ≤ 57) (h3 : n = 0 → c ≠ 48) : Fit (put1 D n c) (n + 1) := by
 refine .inr ⟨fun k hk => ?_, rzW n, hn, ?_⟩
 ·unfold put1
  by_cases e : k = n
  ·rw [if_pos e]; exact ⟨h1, h2⟩
  ·rw [if_neg e]
   exact (h.resolve_left (by omega)).dg k (by omega)
 ·unfold put1
  by_cases e : 0 = n
  ·rw [if_pos e]; have := h3 e.symm; omega
  ·rw [if_neg e]; exact (h.resolve_left (by omega)).lead
def outS (ret : Bool) : Ax := if ret then .ret else .exit 1
set_option maxHeartbeats 16000000 in
theorem set_loop {s : ByteArray} (hs : ∀ c ∈ bys s, c ∈ nums) (hl : (bys s).length ≤ 1000) : ∀ (m i n : Nat) (D : Nat → Nat) (dp : Int) (tr sd sg : Bool), i + m = (bys s).length → Fit D n → n ≤ i → -(i : Int) ≤ dp → dp ≤ 800 →
  ∃ (ret : Bool) (i' n' : Nat) (D' : Nat → Nat) (dp' : Int) (tr' sd' sg' : Bool), i ≤ i' ∧ i' ≤ (bys s).length ∧ Fit D' n' ∧ n' ≤ i' ∧ -(i' : Int) ≤ dp' ∧ dp' ≤ 800 ∧ ∀ {X : XT} {e bi : Nat} {tm : T Value} {μ : Mem} {neg : Bool}, Dec μ bi D n dp neg tr → RegS tm s bi i sd sg →
   LpC X (e + m + 60) Tryz.f274 0 224 tm μ fun x r μ' => x = outS ret ∧ Dec μ' bi D' n' dp' neg tr' ∧ Only μ μ' bi ∧ ∃ tm', r = ⟨224, tm', [], none⟩ ∧ RegS tm' s bi i' sd' sg' := by
 have ls := jaU s
 intro m
 induction m with
 | zero =>
   intro i n D dp tr sd sg hi hf hni hd1 hd2
   have hi : i = (bys s).length := hi
   have e1 : ilt (.ofNat i) (.ofNat (bys s).length) = false := dF (jao _ _) (by omega)
   refine ⟨false, i, n, D, dp, tr, sd, sg, rzN _, by omega, hf, hni, hd1, hd2, fun {X e bi tm μ neg} hd h => ?_⟩
   refine jah ?_
   repeat (refine jaa rfl ?_; (try simp only [go_sem, h.z, ls, jae, e1]); fail_if_success refine stk ?_)
   exact ⟨by trivial, hd, Only.refl _ _, _, rfl, (by constructor <;> simp only [go_sem, h.z])⟩
 | succ m ih =>
   intro i n D dp tr sd sg hi hf hni hd1 hd2
   have hlt : i < (bys s).length := by omega
   obtain ⟨c, hc⟩ := exq ((bys s)[i]'hlt)
   have hcn : c ∈ nums := by rw [hc]; exact hs _ (List.getElem_mem hlt)
   have hc256 := jgo c hcn
   have hx : ∀ r x y, aev pZ r x = .string s → aev pZ r y = .int .i64 (.ofNat i) → jaX pZ (aev pZ r) 9 x y = some (.int .u8 (.ofNat c)) := fun r x y h1 h2 => by rw [hc]; exact jbB hlt h1 h2
   have e1 : ilt (.ofNat i) (.ofNat (bys s).length) = true := dT (jao _ _) hlt
   have e95 : ieq (.ofNat c) 95 = false := (jaB c 95 95 rfl).trans (rzV (jd4 c hcn).2.2.2.2)
   have a1 : jak .i64 (Int.add (.ofNat i) 1) = .ofNat (i + 1) := jaE i 1 (by omega)
   have hn8 := hf.le
   clear hc
   by_cases h46 : c = 46
   ·have e46 : ieq (.ofNat c) 46 = true := dT (jaB c 46 46 rfl) h46
    cases sd with
    | true =>
      refine ⟨true, i, n, D, dp, tr, true, sg, rzN _, by omega, hf, hni, hd1, hd2, fun {X e bi tm μ neg} hd h => ?_⟩
      refine jah ?_
      repeat (refine jaa rfl ?_; (try simp only [go_sem, h.z, ls, jae, e1, hx, e95, e46]); fail_if_success refine stk ?_)
      refine jad ?_
      exact ⟨by trivial, hd, Only.refl _ _, _, rfl, (by constructor <;> simp only [go_sem, h.z])⟩
    | false =>
      obtain ⟨ret, i', n', D', dp', tr', sd', sg', b1, b2, b3, b4, b5, b6, hih⟩ := ih (i + 1) n D (.ofNat n) tr true sg (by omega) hf (by omega) (by show -((i + 1 : Nat) : Int) ≤ (n : Int); omega) (by show (n : Int) ≤ 800; omega)
      refine ⟨ret, i', n', D', dp', tr', sd', sg', by omega, b2, b3, b4, b5, b6, fun {X e bi tm μ neg} hd h => ?_⟩
      have hcn := hd.n
      have hst := st_p (v := .ofNat n) hd.blk
      refine jah ?_
      repeat (refine jaa rfl ?_; (try simp only [go_sem, h.z, ls, jae, e1, hx, e95, e46, hcn, hst, a1]); fail_if_success refine stk ?_)
      rw [(by omega : e + (m + 1) + 59 = e + m + 60)]
      refine rzM (hih (hd.setP (.ofNat n)) (by constructor <;> simp only [go_sem, h.z])) ?_
      rintro x r μ' ⟨g1, g2, g3, g4⟩
      exact ⟨g1, g2, (Only.put _ _ _ _).trans g3, g4⟩
   have e46 : ieq (.ofNat c) 46 = false := dF (jaB c 46 46 rfl) h46
   by_cases hdg : 48 ≤ c ∧ c ≤ 57
   rotate_left
   ·refine ⟨false, i, n, D, dp, tr, sd, sg, rzN _, by omega, hf, hni, hd1, hd2, fun {X e bi tm μ neg} hd h => ?_⟩
    by_cases h48 : c < 48
    ·have d1 : ilt (.ofNat c) 48 = true := dT (jbn c 48 48 rfl) h48
     refine jah ?_
     repeat (refine jaa rfl ?_; (try simp only [go_sem, h.z, ls, jae, e1, hx, e95, e46, d1]); fail_if_success refine stk ?_)
     exact ⟨by trivial, hd, Only.refl _ _, _, rfl, (by constructor <;> simp only [go_sem, h.z])⟩
    ·have d1 : ilt (.ofNat c) 48 = false := dF (jbn c 48 48 rfl) h48
     have d2 : ilt 57 (.ofNat c) = true := dT (jcp c 57 57 rfl) (by omega)
     refine jah ?_
     repeat (refine jaa rfl ?_; (try simp only [go_sem, h.z, ls, jae, e1, hx, e95, e46, d1, d2]); fail_if_success refine stk ?_)
     exact ⟨by trivial, hd, Only.refl _ _, _, rfl, (by constructor <;> simp only [go_sem, h.z])⟩
   have d1 : ilt (.ofNat c) 48 = false := dF (jbn c 48 48 rfl) (by omega)
   have d2 : ilt 57 (.ofNat c) = false := dF (jcp c 57 57 rfl) (by omega)
   by_cases hz : c = 48
   ·have z1 : ieq (.ofNat c) 48 = true := dT (jaB c 48 48 rfl) hz
    by_cases hn0 : n = 0
    ·subst hn0
     obtain ⟨ret, i', n', D', dp', tr', sd', sg', b1, b2, b3, b4, b5, b6, hih⟩ := ih (i + 1) 0 D (dp - 1) tr sd true (by omega) hf (by omega) (by omega) (by omega)
     refine ⟨ret, i', n', D', dp', tr', sd', sg', by omega, b2, b3, b4, b5, b6, fun {X e bi tm μ neg} hd h => ?_⟩
     have hcn := hd.n
     have hp := hd.p
     have n0 : ieq (.ofNat 0) 0 = true := rfl
     have q1 : jak .i64 (Int.sub dp 1) = dp - 1 := jbU dp 1 (by omega) (by omega)
     have hst := st_p (v := dp - 1) hd.blk
     refine jah ?_
     repeat (refine jaa rfl ?_; (try simp only [go_sem, h.z, ls, jae, e1, hx, e95, e46, d1, d2, z1, hcn, hp, n0, q1, hst, a1]); fail_if_success refine stk ?_)
     rw [(by omega : e + (m + 1) + 59 = e + m + 60)]
     refine rzM (hih (hd.setP (dp - 1)) (by constructor <;> simp only [go_sem, h.z])) ?_
     rintro x r μ' ⟨g1, g2, g3, g4⟩
     exact ⟨g1, g2, (Only.put _ _ _ _).trans g3, g4⟩
    ·have n0 : ieq (.ofNat n) 0 = false := dF (jaB n 0 0 rfl) hn0
     by_cases h8 : n < 800
     ·have l8 : ilt (.ofNat n) 800 = true := dT (jbn n 800 800 rfl) h8
      obtain ⟨ret, i', n', D', dp', tr', sd', sg', b1, b2, b3, b4, b5, b6, hih⟩ := ih (i + 1) (n + 1) (put1 D n c) dp tr sd true (by omega) (hf.put h8 hdg.1 hdg.2 (by omega)) (by omega) (by omega) (by omega)
      refine ⟨ret, i', n', D', dp', tr', sd', sg', by omega, b2, b3, b4, b5, b6, fun {X e bi tm μ neg} hd h => ?_⟩
      have hcn := hd.n
      have hcz := (hd.up (μ.next + 12)).n
      have hu := (hd.up (μ.next + 12))
      have hst := st_d (v := c) hu.blk h8
      have hu2 := hu.setD (v := c) h8
      have hcn2 := hu2.n
      have hst2 := st_n (v := .ofNat (n + 1)) hu2.blk
      have q1 : jak .i64 (Int.add (.ofNat n) 1) = .ofNat (n + 1) := jaE n 1 (by omega)
      have hix : ∀ rg a b, aev pZ rg a = .pointer (some ⟨bi, 0, none⟩) → aev pZ rg b = .int .i64 (.ofNat n) → jan pZ (aev pZ rg) 211 a b = some (.pointer (some ⟨bi, n, none⟩)) := fun rg a b g1 g2 => jcW h8 g1 g2
      refine jah ?_
      repeat (refine jaa rfl ?_; (try simp only [go_sem, h.z, ls, jae, e1, hx, e95, e46, d1, d2, hcn, l8, z1, n0]); fail_if_success refine stk ?_)
      refine jaz (n := 12) (ms := [0, 0, 2, 6, 14, 0, 0, 96, 1, 257, 1023, 2047]) (ord := [0, 1, 2, 3, 4, 5, 6, 7, 8, 9, 10, 11]) (ds := ?_) ?_ ?_ ?_ ?_ ?_ ?_
      rotate_left
      ·kernel_rfl
      ·kernel_rfl
      ·kernel_rfl
      ·rfl
      ·rfl
      iterate 12 (refine jay (by first | rfl | (simp only [go_sem, h.z, hx, jba, jaW, jaT, hcz, hix, hst])) (by simp only [jaC, heavy, jaO, jar, go_sem, h.z, hx, jba, jaW, jaT, hcz, hix, hst]; try exact rfl) rfl ?_)
      simp only [dRun, jat, jai]
      repeat (refine jaa rfl ?_; (try simp only [go_sem, h.z, hcn2, q1, hst2, a1]); fail_if_success refine stk ?_)
      rw [(by omega : e + (m + 1) + 59 = e + m + 60)]
      refine rzM (hih (hu2.setN (n + 1)) (by constructor <;> simp only [go_sem, h.z])) ?_
      rintro x r μ' ⟨g1, g2, g3, g4⟩
      exact ⟨g1, g2, (Only.up _ _ _).trans ((Only.put _ _ _ _).trans ((Only.put _ _ _ _).trans g3)), g4⟩
     ·have l8 : ilt (.ofNat n) 800 = false := dF (jbn n 800 800 rfl) h8
      obtain ⟨ret, i', n', D', dp', tr', sd', sg', b1, b2, b3, b4, b5, b6, hih⟩ := ih (i + 1) n D dp tr sd true (by omega) hf (by omega) (by omega) (by omega)
      refine ⟨ret, i', n', D', dp', tr', sd', sg', by omega, b2, b3, b4, b5, b6, fun {X e bi tm μ neg} hd h => ?_⟩
      have hcn := hd.n
      refine jah ?_
      repeat (refine jaa rfl ?_; (try simp only [go_sem, h.z, ls, jae, e1, hx, e95, e46, d1, d2, z1, hcn, n0, l8, a1]); fail_if_success refine stk ?_)
      rw [(by omega : e + (m + 1) + 59 = e + m + 60)]
      exact hih hd (by constructor <;> simp only [go_sem, h.z])
   ·have z1 : ieq (.ofNat c) 48 = false := dF (jaB c 48 48 rfl) hz
    by_cases h8 : n < 800
    ·have l8 : ilt (.ofNat n) 800 = true := dT (jbn n 800 800 rfl) h8
     obtain ⟨ret, i', n', D', dp', tr', sd', sg', b1, b2, b3, b4, b5, b6, hih⟩ := ih (i + 1) (n + 1) (put1 D n c) dp tr sd true (by omega) (hf.put h8 hdg.1 hdg.2 (by omega)) (by omega) (by omega) (by omega)
     refine ⟨ret, i', n', D', dp', tr', sd', sg', by omega, b2, b3, b4, b5, b6, fun {X e bi tm μ neg} hd h => ?_⟩
     have hcn := hd.n
     have hcz := (hd.up (μ.next + 12)).n
     have hu := (hd.up (μ.next + 12))
     have hst := st_d (v := c) hu.blk h8
     have hu2 := hu.setD (v := c) h8
     have hcn2 := hu2.n
     have hst2 := st_n (v := .ofNat (n + 1)) hu2.blk
     have q1 : jak .i64 (Int.add (.ofNat n) 1) = .ofNat (n + 1) := jaE n 1 (by omega)
     have hix : ∀ rg a b, aev pZ rg a = .pointer (some ⟨bi, 0, none⟩) → aev pZ rg b = .int .i64 (.ofNat n) → jan pZ (aev pZ rg) 211 a b = some (.pointer (some ⟨bi, n, none⟩)) := fun rg a b g1 g2 => jcW h8 g1 g2
     refine jah ?_
     repeat (refine jaa rfl ?_; (try simp only [go_sem, h.z, ls, jae, e1, hx, e95, e46, d1, d2, hcn, l8, z1]); fail_if_success refine stk ?_)
     refine jaz (n := 12) (ms := [0, 0, 2, 6, 14, 0, 0, 96, 1, 257, 1023, 2047]) (ord := [0, 1, 2, 3, 4, 5, 6, 7, 8, 9, 10, 11]) (ds := ?_) ?_ ?_ ?_ ?_ ?_ ?_
     rotate_left
     ·kernel_rfl
     ·kernel_rfl
     ·kernel_rfl
     ·rfl
     ·rfl
     iterate 12 (refine jay (by first | rfl | (simp only [go_sem, h.z, hx, jba, jaW, jaT, hcz, hix, hst])) (by simp only [jaC, heavy, jaO, jar, go_sem, h.z, hx, jba, jaW, jaT, hcz, hix, hst]; try exact rfl) rfl ?_)
     simp only [dRun, jat, jai]
     repeat (refine jaa rfl ?_; (try simp only [go_sem, h.z, hcn2, q1, hst2, a1]); fail_if_success refine stk ?_)
     rw [(by omega : e + (m + 1) + 59 = e + m + 60)]
     refine rzM (hih (hu2.setN (n + 1)) (by constructor <;> simp only [go_sem, h.z])) ?_
     rintro x r μ' ⟨g1, g2, g3, g4⟩
     exact ⟨g1, g2, (Only.up _ _ _).trans ((Only.put _ _ _ _).trans ((Only.put _ _ _ _).trans g3)), g4⟩
    ·have l8 : ilt (.ofNat n) 800 = false := dF (jbn n 800 800 rfl) h8
     obtain ⟨ret, i', n', D', dp', tr', sd', sg', b1, b2, b3, b4, b5, b6, hih⟩ := ih (i + 1) n D dp true sd true (by omega) hf (by omega) (by omega) (by omega)
     refine ⟨ret, i', n', D', dp', tr', sd', sg', by omega, b2, b3, b4, b5, b6, fun {X e bi tm μ neg} hd h => ?_⟩
     have hcn := hd.n
     have hst := st_t (v := true) hd.blk
     refine jah ?_
     repeat (refine jaa rfl ?_; (try simp only [go_sem, h.z, ls, jae, e1, hx, e95, e46, d1, d2, z1, hcn, l8, hst, a1]); fail_if_success refine stk ?_)
     rw [(by omega : e + (m + 1) + 59 = e + m + 60)]
     refine rzM (hih (hd.setT true) (by constructor <;> simp only [go_sem, h.z])) ?_
     rintro x r μ' ⟨g1, g2, g3, g4⟩
     exact ⟨g1, g2, (Only.put _ _ _ _).trans g3, g4⟩
set_option maxHeartbeats 4000000 in
theorem set_exp {s : ByteArray} (hs : ∀ c ∈ bys s, c ∈ nums) (hl : (bys s).length ≤ 1000) (sd sg : Bool) : ∀ (m i v : Nat), i + m = (bys s).length → v < 110000 →
  ∃ i' v', i ≤ i' ∧ i' ≤ (bys s).length ∧ v' < 110000 ∧ ∀ {X : XT} {e bi : Nat} {tm : T Value} {μ : Mem} {es : Value}, RegS tm s bi i sd sg → jac tm 9 = .int .i64 (.ofNat v) → jac tm 8 = es →
   LpC X (e + m + 30) Tryz.f274 1 224 tm μ fun x r μ' => x = .exit 5 ∧ μ' = μ ∧ ∃ tm', r = ⟨224, tm', [], none⟩ ∧ RegS tm' s bi i' sd sg ∧ jac tm' 9 = .int .i64 (.ofNat v') ∧ jac tm' 8 = es := by
 have ls := jaU s
 intro m
 induction m with
 | zero =>
   intro i v hi hv
   have hi : i = (bys s).length := hi
   have e1 : ilt (.ofNat i) (.ofNat (bys s).length) = false := dF (jao _ _) (by omega)
   refine ⟨i, v, rzN _, by omega, hv, fun {X e bi tm μ es} h h20 h19 => ?_⟩
   refine jah ?_
   refine jag ?_
   refine jag ?_
   refine jab rfl ?_
   repeat (refine jam rfl ?_; (try simp only [go_sem, h.z, ls, jae, e1]); fail_if_success refine stk ?_)
   repeat (refine jaa rfl ?_; (try simp only [go_sem, h.z, ls, jae, e1]); fail_if_success refine stk ?_)
   exact ⟨by trivial, by trivial, _, rfl, (by constructor <;> simp only [go_sem, h.z]), by simp only [go_sem, h20], by simp only [go_sem, h19]⟩
 | succ m ih =>
   intro i v hi hv
   have hlt : i < (bys s).length := by omega
   obtain ⟨c, hc⟩ := exq ((bys s)[i]'hlt)
   have hcn : c ∈ nums := by rw [hc]; exact hs _ (List.getElem_mem hlt)
   have hc256 := jgo c hcn
   have hx : ∀ r x y, aev pZ r x = .string s → aev pZ r y = .int .i64 (.ofNat i) → jaX pZ (aev pZ r) 9 x y = some (.int .u8 (.ofNat c)) := fun r x y h1 h2 => by rw [hc]; exact jbB hlt h1 h2
   have e1 : ilt (.ofNat i) (.ofNat (bys s).length) = true := dT (jao _ _) hlt
   have e95 : ieq (.ofNat c) 95 = false := (jaB c 95 95 rfl).trans (rzV (jd4 c hcn).2.2.2.2)
   have a1 : jak .i64 (Int.add (.ofNat i) 1) = .ofNat (i + 1) := jaE i 1 (by omega)
   clear hc
   by_cases hd : 48 ≤ c ∧ c ≤ 57
   ·have d1 : ilt (.ofNat c) 48 = false := dF (jbn c 48 48 rfl) (by omega)
    have d2 : ilt 57 (.ofNat c) = false := dF (jcp c 57 57 rfl) (by omega)
    by_cases hv2 : v < 10000
    ·obtain ⟨i', v', b1, b2, b3, hih⟩ := ih (i + 1) (v * 10 + c - 48) (by omega) (by omega)
     have v1 : ilt (.ofNat v) 10000 = true := dT (jbn v 10000 10000 rfl) hv2
     have q1 : jak .i64 (Int.mul (.ofNat v) 10) = .ofNat (v * 10) := jip v 10 (by omega)
     have q2 : jak .i64 (.ofNat c) = .ofNat c := q64 c (by omega)
     have q3 : jak .i64 (Int.add (.ofNat (v * 10)) (.ofNat c)) = .ofNat (v * 10 + c) := jaE _ _ (by omega)
     have q4 : jak .i64 (Int.sub (.ofNat (v * 10 + c)) 48) = .ofNat (v * 10 + c - 48) := jaV (v * 10 + c) 48 (by omega) (by omega)
     refine ⟨i', v', by omega, b2, b3, fun {X e bi tm μ es} h h20 h19 => ?_⟩
     refine jah ?_
     refine jag ?_
     refine jag ?_
     refine jab rfl ?_
     repeat (refine jam rfl ?_; (try simp only [go_sem, h.z, h20, ls, jae, e1, hx, e95, d1, d2, v1, q1, jci, q2, q3, q4, a1]); fail_if_success refine stk ?_)
     repeat (refine jaa rfl ?_; (try simp only [go_sem, h.z, h20, ls, jae, e1, hx, e95, d1, d2, v1, q1, jci, q2, q3, q4, a1]); fail_if_success refine stk ?_)
     rw [(by omega : e + (m + 1) + 29 = e + m + 30)]
     exact hih (by constructor <;> simp only [go_sem, h.z]) (by simp only [go_sem]) (by simp only [go_sem, h19])
    ·obtain ⟨i', v', b1, b2, b3, hih⟩ := ih (i + 1) v (by omega) hv
     have v1 : ilt (.ofNat v) 10000 = false := dF (jbn v 10000 10000 rfl) hv2
     refine ⟨i', v', by omega, b2, b3, fun {X e bi tm μ es} h h20 h19 => ?_⟩
     refine jah ?_
     refine jag ?_
     refine jag ?_
     refine jab rfl ?_
     repeat (refine jam rfl ?_; (try simp only [go_sem, h.z, h20, ls, jae, e1, hx, e95, d1, d2, v1, a1]); fail_if_success refine stk ?_)
     repeat (refine jaa rfl ?_; (try simp only [go_sem, h.z, h20, ls, jae, e1, hx, e95, d1, d2, v1, a1]); fail_if_success refine stk ?_)
     rw [(by omega : e + (m + 1) + 29 = e + m + 30)]
     exact hih (by constructor <;> simp only [go_sem, h.z]) (by simp only [go_sem, h20]) (by simp only [go_sem, h19])
   ·refine ⟨i, v, rzN _, by omega, hv, fun {X e bi tm μ es} h h20 h19 => ?_⟩
    by_cases h48 : c < 48
    ·have d1 : ilt (.ofNat c) 48 = true := dT (jbn c 48 48 rfl) h48
     refine jah ?_
     refine jag ?_
     refine jag ?_
     refine jab rfl ?_
     repeat (refine jam rfl ?_; (try simp only [go_sem, h.z, ls, jae, e1, hx, e95, d1]); fail_if_success refine stk ?_)
     repeat (refine jaa rfl ?_; (try simp only [go_sem, h.z, ls, jae, e1, hx, e95, d1]); fail_if_success refine stk ?_)
     exact ⟨by trivial, by trivial, _, rfl, (by constructor <;> simp only [go_sem, h.z]), by simp only [go_sem, h20], by simp only [go_sem, h19]⟩
    ·have d1 : ilt (.ofNat c) 48 = false := dF (jbn c 48 48 rfl) h48
     have d2 : ilt 57 (.ofNat c) = true := dT (jcp c 57 57 rfl) (by omega)
     refine jah ?_
     refine jag ?_
     refine jag ?_
     refine jab rfl ?_
     repeat (refine jam rfl ?_; (try simp only [go_sem, h.z, ls, jae, e1, hx, e95, d1, d2]); fail_if_success refine stk ?_)
     repeat (refine jaa rfl ?_; (try simp only [go_sem, h.z, ls, jae, e1, hx, e95, d1, d2]); fail_if_success refine stk ?_)
     exact ⟨by trivial, by trivial, _, rfl, (by constructor <;> simp only [go_sem, h.z]), by simp only [go_sem, h20], by simp only [go_sem, h19]⟩
end
noncomputable section
open Go.Proofs.YtlkenchibdeinaaGreatDoor.DecM (val Dg)
def thenS : Code → Code
 | .seq _ (.cond _ a _) => a
 | _ => .skip
def itemA : Code → Code
 | .seq a _ => a
 | c => c
def elseS : Code → Code
 | .seq _ (.cond _ _ b) => b
 | _ => .skip
def outE (done : Bool) : Ax := if done then .normal else .ret
theorem ss0 : (jau Tryz.f274) = .seq (jaM 0 (jau Tryz.f274)) (.seq (jaM 1 (jau Tryz.f274)) (.seq (jaM 2 (jau Tryz.f274)) (.seq (jaM 3 (jau Tryz.f274)) (.seq (jaM 4 (jau Tryz.f274)) (.seq (jaM 5 (jau Tryz.f274)) (jaS 6 (jau Tryz.f274))))))) := by kernel_rfl
theorem ss6 : jaS 6 (jau Tryz.f274) = .seq (jaM 6 (jau Tryz.f274)) (.seq (jaM 7 (jau Tryz.f274)) (.seq (jaM 8 (jau Tryz.f274)) (jaS 9 (jau Tryz.f274)))) := by kernel_rfl
theorem ss9 : jaS 9 (jau Tryz.f274) = .seq (jaM 9 (jau Tryz.f274)) (.seq (jaM 10 (jau Tryz.f274)) (jaS 11 (jau Tryz.f274))) := by kernel_rfl
theorem ss11 : jaS 11 (jau Tryz.f274) = .seq (jaM 11 (jau Tryz.f274)) (jaS 12 (jau Tryz.f274)) := by kernel_rfl
theorem si11 : jaM 11 (jau Tryz.f274) = .seq (itemA (jaM 11 (jau Tryz.f274))) (.cond (.tmp 138) (.seq (jaM 0 (thenS (jaM 11 (jau Tryz.f274)))) (.seq (jaM 1 (thenS (jaM 11 (jau Tryz.f274)))) (.seq (jaM 2 (thenS (jaM 11 (jau Tryz.f274)))) (.seq (jaM 3 (thenS (jaM 11 (jau Tryz.f274)))) (jaS 4 (thenS (jaM 11 (jau Tryz.f274)))))))) (elseS (jaM 11 (jau Tryz.f274)))) := by kernel_rfl
def FinS (ok : Bool) (D : Nat → Nat) (n : Nat) (dp : Int) (neg tr : Bool) (bi : Nat) (μ : Mem) : Ax → Rg → Mem → Prop := fun x r μ' => x = .ret ∧ Dec μ' bi D n dp neg tr ∧ Only μ μ' bi ∧ ∃ tm, r = ⟨224, tm, [], none⟩ ∧ jac tm 4 = .bool ok
theorem set12 (s : ByteArray) (hl : (bys s).length ≤ 1000) (i : Nat) (sd sg : Bool) : ∃ ok, ∀ {X : XT} {k bi n : Nat} {D : Nat → Nat} {tm : T Value} {μ : Mem} {dp : Int} {neg tr : Bool}, Dec μ bi D n dp neg tr → RegS tm s bi i sd sg →
  EndsC (jaj pZ X S0 (k + 30) (jaS 12 (jau Tryz.f274)) ⟨224, tm, [], none⟩ μ) (FinS ok D n dp neg tr bi μ) := by
 have ls := jaU s
 by_cases he : i = (bys s).length
 ·have e1 : ieq (.ofNat i) (.ofNat (bys s).length) = true := dT (jbG _ _) he
  refine ⟨true, fun {X k bi n D tm μ dp neg tr} hd h => ?_⟩
  repeat (refine jaa rfl ?_; (try simp only [go_sem, h.z, ls, jae, e1]); fail_if_success refine stk ?_)
  refine jad ?_
  exact ⟨by trivial, hd, Only.refl _ _, _, rfl, (by simp only [go_sem])⟩
 ·have e1 : ieq (.ofNat i) (.ofNat (bys s).length) = false := dF (jbG _ _) he
  refine ⟨false, fun {X k bi n D tm μ dp neg tr} hd h => ?_⟩
  repeat (refine jaa rfl ?_; (try simp only [go_sem, h.z, ls, jae, e1]); fail_if_success refine stk ?_)
  refine jad ?_
  exact ⟨by trivial, hd, Only.refl _ _, _, rfl, (by simp only [go_sem, h.r4])⟩
theorem setE {s : ByteArray} (hs : ∀ c ∈ bys s, c ∈ nums) (hl : (bys s).length ≤ 1000) (i : Nat) (dp : Int) (sd sg : Bool) (es : Int) (hes : es = 1 ∨ es = -1) (hi : i ≤ (bys s).length) (hd1 : -2000 < dp) (hd2 : dp < 2000) : ∃ done i' dp', i' ≤ (bys s).length ∧ -150000 < dp' ∧ dp' < 150000 ∧ ∀ {X : XT} {k bi n : Nat} {D : Nat → Nat} {tm : T Value} {μ : Mem} {neg tr : Bool}, Dec μ bi D n dp neg tr → RegS tm s bi i sd sg → jac tm 8 = .int .i64 es →
  EndsC (jaj pZ X S0 (k + 1100) (jaS 4 (thenS (jaM 11 (jau Tryz.f274)))) ⟨224, tm, [], none⟩ μ) fun x r μ' => x = outE done ∧ Dec μ' bi D n dp' neg tr ∧ Only μ μ' bi ∧ ∃ tm', r = ⟨224, tm', [], none⟩ ∧ RegS tm' s bi i' sd sg := by
 have ls := jaU s
 by_cases hlt : i < (bys s).length
 rotate_left
 ·have e1 : ilt (.ofNat i) (.ofNat (bys s).length) = false := dF (jao _ _) hlt
  refine ⟨false, i, dp, hi, by omega, by omega, fun {X k bi n D tm μ neg tr} hd h h8 => ?_⟩
  refine jag ?_
  refine jag ?_
  refine jab rfl ?_
  repeat (refine jam rfl ?_; (try simp only [go_sem, h.z, ls, jae, e1]); fail_if_success refine stk ?_)
  repeat (refine jaa rfl ?_; (try simp only [go_sem, h.z, ls, jae, e1]); fail_if_success refine stk ?_)
  refine jad ?_
  exact ⟨by trivial, hd, Only.refl _ _, _, rfl, (by constructor <;> simp only [go_sem, h.z])⟩
 have e1 : ilt (.ofNat i) (.ofNat (bys s).length) = true := dT (jao _ _) hlt
 obtain ⟨c, hc⟩ := exq ((bys s)[i]'hlt)
 have hx : ∀ r x y, aev pZ r x = .string s → aev pZ r y = .int .i64 (.ofNat i) → jaX pZ (aev pZ r) 9 x y = some (.int .u8 (.ofNat c)) := fun r x y h1 h2 => by rw [hc]; exact jbB hlt h1 h2
 clear hc
 by_cases h48 : c < 48
 ·have d1 : ilt (.ofNat c) 48 = true := dT (jbn c 48 48 rfl) h48
  refine ⟨false, i, dp, hi, by omega, by omega, fun {X k bi n D tm μ neg tr} hd h h8 => ?_⟩
  refine jag ?_
  refine jag ?_
  refine jab rfl ?_
  repeat (refine jam rfl ?_; (try simp only [go_sem, h.z, ls, jae, e1, hx, d1]); fail_if_success refine stk ?_)
  repeat (refine jaa rfl ?_; (try simp only [go_sem, h.z, ls, jae, e1, hx, d1]); fail_if_success refine stk ?_)
  refine jad ?_
  exact ⟨by trivial, hd, Only.refl _ _, _, rfl, (by constructor <;> simp only [go_sem, h.z])⟩
 have d1 : ilt (.ofNat c) 48 = false := dF (jbn c 48 48 rfl) h48
 by_cases h57 : 57 < c
 ·have d2 : ilt 57 (.ofNat c) = true := dT (jcp c 57 57 rfl) h57
  refine ⟨false, i, dp, hi, by omega, by omega, fun {X k bi n D tm μ neg tr} hd h h8 => ?_⟩
  refine jag ?_
  refine jag ?_
  refine jab rfl ?_
  repeat (refine jam rfl ?_; (try simp only [go_sem, h.z, ls, jae, e1, hx, d1, d2]); fail_if_success refine stk ?_)
  repeat (refine jaa rfl ?_; (try simp only [go_sem, h.z, ls, jae, e1, hx, d1, d2]); fail_if_success refine stk ?_)
  refine jad ?_
  exact ⟨by trivial, hd, Only.refl _ _, _, rfl, (by constructor <;> simp only [go_sem, h.z])⟩
 have d2 : ilt 57 (.ofNat c) = false := dF (jcp c 57 57 rfl) h57
 obtain ⟨i', v', b1, b2, b3, hlp⟩ := set_exp hs hl sd sg ((bys s).length - i) i 0 (by omega) (by decide)
 have q1 : jak .i64 (Int.mul (.ofNat v') es) = (v' : Int) * es := i_mul (v' : Int) es (by rcases hes with rfl | rfl <;> omega) (by rcases hes with rfl | rfl <;> omega)
 obtain ⟨pe, hpe⟩ := exq ((v' : Int) * es)
 have hpe1 : -110000 < pe ∧ pe < 110000 := by rw [hpe]; rcases hes with rfl | rfl <;> omega
 rw [← hpe] at q1
 have q2 : jak .i64 (Int.add dp pe) = dp + pe := jcJ dp pe (by omega) (by omega)
 refine ⟨true, i', dp + pe, b2, by omega, by omega, fun {X k bi n D tm μ neg tr} hd h h8 => ?_⟩
 have hp := hd.p
 have hst := st_p (v := dp + pe) hd.blk
 refine jag ?_
 refine jag ?_
 refine jab rfl ?_
 repeat (refine jam rfl ?_; (try simp only [go_sem, h.z, ls, jae, e1, hx, d1, d2]); fail_if_success refine stk ?_)
 repeat (refine jaa rfl ?_; (try simp only [go_sem, h.z, ls, jae, e1, hx, d1, d2]); fail_if_success refine stk ?_)
 rw [(by omega : k + 1096 = (k + 1066 - ((bys s).length - i)) + ((bys s).length - i) + 30)]
 refine rzM (hlp (bi := bi) (es := .int .i64 es) (by constructor <;> simp only [go_sem, h.z]) (by simp only [go_sem]; try rfl) (by simp only [go_sem, h8])) ?_
 rintro x r μ' ⟨rfl, rfl, tm', rfl, h, h9, h8⟩
 simp only [go_sem]
 repeat (refine jaa rfl ?_; (try simp only [go_sem, h.z, h9, h8, q1, q2, hp, hst]); fail_if_success refine stk ?_)
 exact ⟨by trivial, hd.setP _, Only.put _ _ _ _, _, rfl, (by constructor <;> simp only [go_sem, h.z])⟩
attribute [local irreducible] jaS
theorem set11 {s : ByteArray} (hs : ∀ c ∈ bys s, c ∈ nums) (hl : (bys s).length ≤ 1000) (i : Nat) (dp : Int) (sd sg : Bool) (hi : i ≤ (bys s).length) (hd1 : -2000 < dp) (hd2 : dp < 2000) : ∃ ok dp', -150000 < dp' ∧ dp' < 150000 ∧ ∀ {X : XT} {k bi n : Nat} {D : Nat → Nat} {tm : T Value} {μ : Mem} {neg tr : Bool}, Dec μ bi D n dp neg tr → RegS tm s bi i sd sg →
  EndsC (jaj pZ X S0 (k + 1200) (jaS 11 (jau Tryz.f274)) ⟨224, tm, [], none⟩ μ) (FinS ok D n dp' neg tr bi μ) := by
 have ls := jaU s
 by_cases hlt : i < (bys s).length
 rotate_left
 ·have e1 : ilt (.ofNat i) (.ofNat (bys s).length) = false := dF (jao _ _) hlt
  obtain ⟨ok, h12⟩ := set12 s hl i sd sg
  refine ⟨ok, dp, by omega, by omega, fun {X k bi n D tm μ neg tr} hd h => ?_⟩
  rw [ss11, si11]
  refine jag ?_
  refine jag ?_
  refine jab rfl ?_
  repeat (refine jam rfl ?_; (try simp only [go_sem, h.z, ls, jae, e1]); fail_if_success refine stk ?_)
  repeat (refine jaa rfl ?_; (try simp only [go_sem, h.z, ls, jae, e1]); fail_if_success refine stk ?_)
  exact h12 (k := k + 1169) hd (by constructor <;> simp only [go_sem, h.z])
 have e1 : ilt (.ofNat i) (.ofNat (bys s).length) = true := dT (jao _ _) hlt
 obtain ⟨c, hc⟩ := exq ((bys s)[i]'hlt)
 have hcn : c ∈ nums := by rw [hc]; exact hs _ (List.getElem_mem hlt)
 have hx : ∀ r x y, aev pZ r x = .string s → aev pZ r y = .int .i64 (.ofNat i) → jaX pZ (aev pZ r) 9 x y = some (.int .u8 (.ofNat c)) := fun r x y h1 h2 => by rw [hc]; exact jbB hlt h1 h2
 clear hc
 have lo : ∀ {X : XT} (g : Nat) (μ : Mem), 10 ≤ g → aFun pZ (jaj pZ X S0 g) 200 [.int .u8 (.ofNat c)] μ = some (.int .u8 (.ofNat (lw c)), μ) := fun g μ h => lower_eq h hcn
 by_cases he : lw c = 101
 rotate_left
 ·have l1 : ieq (.ofNat (lw c)) 101 = false := dF (jaB _ 101 101 rfl) he
  obtain ⟨ok, h12⟩ := set12 s hl i sd sg
  refine ⟨ok, dp, by omega, by omega, fun {X k bi n D tm μ neg tr} hd h => ?_⟩
  rw [ss11, si11]
  refine jag ?_
  refine jag ?_
  refine jab rfl ?_
  repeat (refine jam rfl ?_; (try simp only [go_sem, h.z, ls, jae, e1, hx, lo, Nat.reduceLeDiff, l1]); fail_if_success refine stk ?_)
  repeat (refine jaa rfl ?_; (try simp only [go_sem, h.z, ls, jae, e1]); fail_if_success refine stk ?_)
  exact h12 (k := k + 1169) hd (by constructor <;> simp only [go_sem, h.z])
 have l1 : ieq (.ofNat (lw c)) 101 = true := dT (jaB _ 101 101 rfl) he
 have a1 : jak .i64 (Int.add (.ofNat i) 1) = .ofNat (i + 1) := jaE i 1 (by omega)
 by_cases hlt2 : i + 1 < (bys s).length
 rotate_left
 ·have e2 : ilt (.ofNat (i + 1)) (.ofNat (bys s).length) = false := dF (jao _ _) hlt2
  refine ⟨false, dp, by omega, by omega, fun {X k bi n D tm μ neg tr} hd h => ?_⟩
  rw [ss11, si11]
  refine jag ?_
  refine jag ?_
  refine jab rfl ?_
  repeat (refine jam rfl ?_; (try simp only [go_sem, h.z, ls, jae, e1, hx, lo, Nat.reduceLeDiff, l1]); fail_if_success refine stk ?_)
  repeat (refine jaa rfl ?_; (try simp only [go_sem, h.z, ls, jae, a1, e2]); fail_if_success refine stk ?_)
  refine jad ?_
  exact ⟨by trivial, hd, Only.refl _ _, _, rfl, (by simp only [go_sem, h.r4])⟩
 have e2 : ilt (.ofNat (i + 1)) (.ofNat (bys s).length) = true := dT (jao _ _) hlt2
 obtain ⟨c1, hc1⟩ := exq ((bys s)[i + 1]'hlt2)
 have hx1 : ∀ r x y, aev pZ r x = .string s → aev pZ r y = .int .i64 (.ofNat (i + 1)) → jaX pZ (aev pZ r) 9 x y = some (.int .u8 (.ofNat c1)) := fun r x y h1 h2 => by rw [hc1]; exact jbB hlt2 h1 h2
 clear hc1
 have a2 : jak .i64 (Int.add (.ofNat (i + 1)) 1) = .ofNat (i + 2) := jaE (i + 1) 1 (by omega)
 have go : ∀ (i2 : Nat) (es : Int), i2 ≤ (bys s).length → (es = 1 ∨ es = -1) → ∃ ok dp', -150000 < dp' ∧ dp' < 150000 ∧ ∀ {X : XT} {k q bi n : Nat} {D : Nat → Nat} {tm : T Value} {μ : Mem} {neg tr : Bool}, Dec μ bi D n dp neg tr → RegS tm s bi i2 sd sg → jac tm 8 = .int .i64 es →
   EndsC (jaj pZ X S0 (k + 1100) (jaS 4 (thenS (jaM 11 (jau Tryz.f274)))) ⟨224, tm, [], none⟩ μ) (je8 (q + 30) pZ X S0 (jaS 12 (jau Tryz.f274)) (FinS ok D n dp' neg tr bi μ)) := fun i2 es hi2 hes => by
  obtain ⟨done, i', dp', c1, c2, c3, hE⟩ := setE hs hl i2 dp sd sg es hes hi2 hd1 hd2
  obtain ⟨ok, h12⟩ := set12 s hl i' sd sg
  cases done with
  | true =>
    refine ⟨ok, dp', c2, c3, fun {X k q bi n D tm μ neg tr} hd h h8 => ?_⟩
    refine rzM (hE hd h h8) ?_
    rintro x r μ' ⟨rfl, hd, g, tm', rfl, h⟩
    refine rzM (h12 (k := q) hd h) ?_
    rintro x r μ2 ⟨hx, hd, g2, hh⟩
    exact ⟨hx, hd, g.trans g2, hh⟩
  | false =>
    refine ⟨false, dp', c2, c3, fun {X k q bi n D tm μ neg tr} hd h h8 => ?_⟩
    refine rzM (hE hd h h8) ?_
    rintro x r μ' ⟨rfl, hd, g, tm', rfl, h⟩
    exact ⟨by trivial, hd, g, _, rfl, h.r4⟩
 by_cases p1 : c1 = 43
 ·have s1 : ieq (.ofNat c1) 43 = true := dT (jaB _ 43 43 rfl) p1
  obtain ⟨ok, dp', b2, b3, hgo⟩ := go (i + 2) 1 (by omega) (.inl rfl)
  refine ⟨ok, dp', b2, b3, fun {X k bi n D tm μ neg tr} hd h => ?_⟩
  rw [ss11, si11]
  refine jag ?_
  refine jag ?_
  refine jab rfl ?_
  repeat (refine jam rfl ?_; (try simp only [go_sem, h.z, ls, jae, e1, hx, lo, Nat.reduceLeDiff, l1]); fail_if_success refine stk ?_)
  repeat (refine jaa rfl ?_; (try simp only [go_sem, h.z, ls, jae, a1, e2, hx1, s1, a2]); fail_if_success refine stk ?_)
  try simp only [jbi, jai]
  exact hgo (k := k + 93) (q := k + 1169) hd (by constructor <;> simp only [go_sem, h.z]) (by simp only [go_sem])
 ·have s1 : ieq (.ofNat c1) 43 = false := dF (jaB _ 43 43 rfl) p1
  by_cases p2 : c1 = 45
  ·have s2 : ieq (.ofNat c1) 45 = true := dT (jaB _ 45 45 rfl) p2
   obtain ⟨ok, dp', b2, b3, hgo⟩ := go (i + 2) (-1) (by omega) (.inr rfl)
   refine ⟨ok, dp', b2, b3, fun {X k bi n D tm μ neg tr} hd h => ?_⟩
   rw [ss11, si11]
   refine jag ?_
   refine jag ?_
   refine jab rfl ?_
   repeat (refine jam rfl ?_; (try simp only [go_sem, h.z, ls, jae, e1, hx, lo, Nat.reduceLeDiff, l1]); fail_if_success refine stk ?_)
   repeat (refine jaa rfl ?_; (try simp only [go_sem, h.z, ls, jae, a1, e2, hx1, s1, s2, a2]); fail_if_success refine stk ?_)
   try simp only [jbi, jai]
   exact hgo (k := k + 93) (q := k + 1169) hd (by constructor <;> simp only [go_sem, h.z]) (by simp only [go_sem])
  ·have s2 : ieq (.ofNat c1) 45 = false := dF (jaB _ 45 45 rfl) p2
   obtain ⟨ok, dp', b2, b3, hgo⟩ := go (i + 1) 1 (by omega) (.inl rfl)
   refine ⟨ok, dp', b2, b3, fun {X k bi n D tm μ neg tr} hd h => ?_⟩
   rw [ss11, si11]
   refine jag ?_
   refine jag ?_
   refine jab rfl ?_
   repeat (refine jam rfl ?_; (try simp only [go_sem, h.z, ls, jae, e1, hx, lo, Nat.reduceLeDiff, l1]); fail_if_success refine stk ?_)
   repeat (refine jaa rfl ?_; (try simp only [go_sem, h.z, ls, jae, a1, e2, hx1, s1, s2]); fail_if_success refine stk ?_)
   try simp only [jbi, jai]
   exact hgo (k := k + 93) (q := k + 1169) hd (by constructor <;> simp only [go_sem, h.z]) (by simp only [go_sem])
theorem set6 {s : ByteArray} (hs : ∀ c ∈ bys s, c ∈ nums) (hl : (bys s).length ≤ 1000) (i : Nat) (neg : Bool) (hi : i ≤ (bys s).length) : ∃ (ok : Bool) (D' : Nat → Nat) (n' : Nat) (dp' : Int) (tr' : Bool), Fit D' n' ∧ -150000 < dp' ∧ dp' < 150000 ∧ ∀ {X : XT} {k bi : Nat} {tm : T Value} {μ : Mem}, Dec μ bi (fun _ => 0) 0 0 neg false → jac tm 0 = .pointer (some ⟨bi, 0, none⟩) → jac tm 1 = .string s → jac tm 4 = .bool false → jac tm 5 = .int .i64 (.ofNat i) →
  EndsC (jaj pZ X S0 (k + 2400) (jaS 6 (jau Tryz.f274)) ⟨224, tm, [], none⟩ μ) (FinS ok D' n' dp' neg tr' bi μ) := by
 obtain ⟨ret, i', n', D', dp', tr', sd', sg', b1, b2, b3, b4, b5, b6, hlp⟩ := set_loop hs hl ((bys s).length - i) i 0 (fun _ => 0) 0 false false false (by omega) (.inl rfl) (rzY _) (by omega) (by decide)
 have c1 : ∃ (ok : Bool) (dq : Int), -150000 < dq ∧ dq < 150000 ∧ ∀ {X : XT} {k bi : Nat} {tm : T Value} {μ : Mem}, ret = false → Dec μ bi D' n' dp' neg tr' → RegS tm s bi i' sd' sg' →
   EndsC (jaj pZ X S0 (k + 1300) (jaS 9 (jau Tryz.f274)) ⟨224, tm, [], none⟩ μ) (FinS ok D' n' dq neg tr' bi μ) := by
  cases sg' with
  | false =>
    refine ⟨false, dp', by omega, by omega, fun {X k bi tm μ} _ hd h => ?_⟩
    rw [ss9]
    repeat (refine jaa rfl ?_; (try simp only [go_sem, h.z]); fail_if_success refine stk ?_)
    refine jad ?_
    exact ⟨by trivial, hd, Only.refl _ _, _, rfl, (by simp only [go_sem, h.r4])⟩
  | true =>
    cases sd' with
    | true =>
      obtain ⟨ok, dq, e1, e2, h11⟩ := set11 hs hl i' dp' true true b2 (by omega) (by omega)
      refine ⟨ok, dq, e1, e2, fun {X k bi tm μ} _ hd h => ?_⟩
      rw [ss9]
      repeat (refine jaa rfl ?_; (try simp only [go_sem, h.z]); fail_if_success refine stk ?_)
      exact h11 (k := k + 98) hd (by constructor <;> simp only [go_sem, h.z])
    | false =>
      have hn8 := b3.le
      obtain ⟨ok, dq, e1, e2, h11⟩ := set11 hs hl i' (.ofNat n') false true b2 (by show _ < (n' : Int); omega) (by show (n' : Int) < _; omega)
      refine ⟨ok, dq, e1, e2, fun {X k bi tm μ} _ hd h => ?_⟩
      have hcn := hd.n
      have hst := st_p (v := .ofNat n') hd.blk
      rw [ss9]
      repeat (refine jaa rfl ?_; (try simp only [go_sem, h.z, hcn, hst]); fail_if_success refine stk ?_)
      refine rzM (h11 (k := k + 98) (hd.setP (.ofNat n')) (by constructor <;> simp only [go_sem, h.z])) ?_
      rintro x r μ2 ⟨hx, hd, g2, hh⟩
      exact ⟨hx, hd, (Only.put _ _ _ _).trans g2, hh⟩
 obtain ⟨ok, dq, e1, e2, h9⟩ := c1
 cases ret with
 | true =>
   refine ⟨false, D', n', dp', tr', b3, by omega, by omega, fun {X k bi tm μ} hd h0 h1 h4 h5 => ?_⟩
   rw [ss6]
   repeat (refine jaa rfl ?_; (try simp only [go_sem]); fail_if_success refine stk ?_)
   rw [(by omega : k + 2396 = (k + 2336 - ((bys s).length - i)) + ((bys s).length - i) + 60)]
   refine rzM (hlp hd (by constructor <;> simp only [go_sem, h0, h1, h4, h5])) ?_
   rintro x r μ' ⟨rfl, hd, g, tm', rfl, h⟩
   exact ⟨by trivial, hd, g, _, rfl, h.r4⟩
 | false =>
   refine ⟨ok, D', n', dq, tr', b3, e1, e2, fun {X k bi tm μ} hd h0 h1 h4 h5 => ?_⟩
   rw [ss6]
   repeat (refine jaa rfl ?_; (try simp only [go_sem]); fail_if_success refine stk ?_)
   rw [(by omega : k + 2396 = (k + 2336 - ((bys s).length - i)) + ((bys s).length - i) + 60)]
   refine rzM (hlp hd (by constructor <;> simp only [go_sem, h0, h1, h4, h5])) ?_
   rintro x r μ' ⟨rfl, hd, g, tm', rfl, h⟩
   show EndsC _ _
   refine rzM (h9 (k := k + 1097) rfl hd h) ?_
   rintro x r μ2 ⟨hx, hd, g2, hh⟩
   exact ⟨hx, hd, g.trans g2, hh⟩
theorem set_ex {s : ByteArray} (hs : ∀ c ∈ bys s, c ∈ nums) (hl : (bys s).length ≤ 1000) : ∃ (ok : Bool) (D' : Nat → Nat) (n' : Nat) (dp' : Int) (neg' tr' : Bool), Fit D' n' ∧ -150000 < dp' ∧ dp' < 150000 ∧ ∀ {X : XT} {g bi : Nat} {μ : Mem}, 3000 ≤ g → Dec μ bi (fun _ => 0) 0 0 false false →
  ∃ μ', aFun pZ (jaj pZ X S0 g) 274 [.pointer (some ⟨bi, 0, none⟩), .string s] μ = some (.bool ok, μ') ∧ Dec μ' bi D' n' dp' neg' tr' ∧ Only μ μ' bi := by
 have ls := jaU s
 by_cases h0 : 0 < (bys s).length
 rotate_left
 ·have e0 : ilt 0 (.ofNat (bys s).length) = false := dF (jao 0 _) h0
  refine ⟨false, fun _ => 0, 0, 0, false, false, .inl rfl, by decide, by decide, fun {X g bi μ} hg hd => ?_⟩
  obtain ⟨f, rfl⟩ := gle hg
  have s1 := st_g (v := false) hd.blk
  have hd1 := hd.setG false
  have s2 := st_t (v := false) hd1.blk
  have key : EndsF (aFun pZ (jaj pZ X S0 (f + 3000)) 274 [.pointer (some ⟨bi, 0, none⟩), .string s] μ) fun v μ' => v = .bool false ∧ Dec μ' bi (fun _ => 0) 0 0 false false ∧ Only μ μ' bi := by
   refine jaf Tryz.func274 rfl rfl (nbl rfl) ?_
   simp only [go_sem, Tryz.ntmps274]
   change EndsC (jaj pZ X S0 _ (jau Tryz.f274) _ _) _
   rw [ss0]
   repeat (refine jaa rfl ?_; (try simp only [go_sem, s1, s2, ls, jae, e0]); fail_if_success refine stk ?_)
   exact jad ⟨rfl, _, by simp only [go_sem, Tryz.results274], rfl, hd1.setT false, (Only.put _ _ _ _).trans (Only.put _ _ _ _)⟩
  obtain ⟨v, μ', h1, rfl, h2, h3⟩ := key
  exact ⟨μ', h1, h2, h3⟩
 obtain ⟨c, hc⟩ := exq ((bys s)[0]'h0)
 have hx : ∀ r x y, aev pZ r x = .string s → aev pZ r y = .int .i64 0 → jaX pZ (aev pZ r) 9 x y = some (.int .u8 (.ofNat c)) := fun r x y h1 h2 => by rw [hc]; exact jbB (i := 0) h0 h1 h2
 clear hc
 have e0 : ilt 0 (.ofNat (bys s).length) = true := dT (jao 0 _) h0
 have r1 : jak .i64 (Int.add 0 1) = 1 := rfl
 by_cases p1 : c = 43
 ·have s1 : ieq (.ofNat c) 43 = true := dT (jaB _ 43 43 rfl) p1
  obtain ⟨ok, D', n', dp', tr', b1, b2, b3, h6⟩ := set6 hs hl 1 false (by omega)
  refine ⟨ok, D', n', dp', false, tr', b1, b2, b3, fun {X g bi μ} hg hd => ?_⟩
  obtain ⟨f, rfl⟩ := gle hg
  have t1 := st_g (v := false) hd.blk
  have hd1 := hd.setG false
  have t2 := st_t (v := false) hd1.blk
  have hd2 := hd1.setT false
  have key : EndsF (aFun pZ (jaj pZ X S0 (f + 3000)) 274 [.pointer (some ⟨bi, 0, none⟩), .string s] μ) fun v μ' => v = .bool ok ∧ Dec μ' bi D' n' dp' false tr' ∧ Only μ μ' bi := by
   refine jaf Tryz.func274 rfl rfl (nbl rfl) ?_
   simp only [go_sem, Tryz.ntmps274]
   change EndsC (jaj pZ X S0 _ (jau Tryz.f274) _ _) _
   rw [ss0]
   repeat (refine jaa rfl ?_; (try simp only [go_sem, t1, t2, ls, jae, e0, hx, r1, s1]); fail_if_success refine stk ?_)
   try simp only [jbi, jai]
   refine rzM (h6 (k := f + 594) hd2 (by simp only [go_sem]) (by simp only [go_sem]) (by simp only [go_sem]) (by simp only [go_sem]; try rfl)) ?_
   rintro x r μ' ⟨rfl, g1, g2, tm', rfl, g4⟩
   refine ⟨rfl, _, ?_, rfl, g1, (Only.put _ _ _ _).trans ((Only.put _ _ _ _).trans g2)⟩
   simp only [go_sem, Tryz.results274]
   rw [g4]
  obtain ⟨v, μ', h1, rfl, h2, h3⟩ := key
  exact ⟨μ', h1, h2, h3⟩
 ·have s1 : ieq (.ofNat c) 43 = false := dF (jaB _ 43 43 rfl) p1
  by_cases p2 : c = 45
  ·have s2 : ieq (.ofNat c) 45 = true := dT (jaB _ 45 45 rfl) p2
   obtain ⟨ok, D', n', dp', tr', b1, b2, b3, h6⟩ := set6 hs hl 1 true (by omega)
   refine ⟨ok, D', n', dp', true, tr', b1, b2, b3, fun {X g bi μ} hg hd => ?_⟩
   obtain ⟨f, rfl⟩ := gle hg
   have t1 := st_g (v := false) hd.blk
   have hd1 := hd.setG false
   have t2 := st_t (v := false) hd1.blk
   have hd2 := hd1.setT false
   have t3 := st_g (v := true) hd2.blk
   have hd3 := hd2.setG true
   have key : EndsF (aFun pZ (jaj pZ X S0 (f + 3000)) 274 [.pointer (some ⟨bi, 0, none⟩), .string s] μ) fun v μ' => v = .bool ok ∧ Dec μ' bi D' n' dp' true tr' ∧ Only μ μ' bi := by
    refine jaf Tryz.func274 rfl rfl (nbl rfl) ?_
    simp only [go_sem, Tryz.ntmps274]
    change EndsC (jaj pZ X S0 _ (jau Tryz.f274) _ _) _
    rw [ss0]
    repeat (refine jaa rfl ?_; (try simp only [go_sem, t1, t2, t3, ls, jae, e0, hx, r1, s1, s2]); fail_if_success refine stk ?_)
    try simp only [jbi, jai]
    refine rzM (h6 (k := f + 594) hd3 (by simp only [go_sem]) (by simp only [go_sem]) (by simp only [go_sem]) (by simp only [go_sem]; try rfl)) ?_
    rintro x r μ' ⟨rfl, g1, g2, tm', rfl, g4⟩
    refine ⟨rfl, _, ?_, rfl, g1, (Only.put _ _ _ _).trans ((Only.put _ _ _ _).trans ((Only.put _ _ _ _).trans g2))⟩
    simp only [go_sem, Tryz.results274]
    rw [g4]
   obtain ⟨v, μ', h1, rfl, h2, h3⟩ := key
   exact ⟨μ', h1, h2, h3⟩
  ·have s2 : ieq (.ofNat c) 45 = false := dF (jaB _ 45 45 rfl) p2
   obtain ⟨ok, D', n', dp', tr', b1, b2, b3, h6⟩ := set6 hs hl 0 false (by omega)
   refine ⟨ok, D', n', dp', false, tr', b1, b2, b3, fun {X g bi μ} hg hd => ?_⟩
   obtain ⟨f, rfl⟩ := gle hg
   have t1 := st_g (v := false) hd.blk
   have hd1 := hd.setG false
   have t2 := st_t (v := false) hd1.blk
   have hd2 := hd1.setT false
   have key : EndsF (aFun pZ (jaj pZ X S0 (f + 3000)) 274 [.pointer (some ⟨bi, 0, none⟩), .string s] μ) fun v μ' => v = .bool ok ∧ Dec μ' bi D' n' dp' false tr' ∧ Only μ μ' bi := by
    refine jaf Tryz.func274 rfl rfl (nbl rfl) ?_
    simp only [go_sem, Tryz.ntmps274]
    change EndsC (jaj pZ X S0 _ (jau Tryz.f274) _ _) _
    rw [ss0]
    repeat (refine jaa rfl ?_; (try simp only [go_sem, t1, t2, ls, jae, e0, hx, r1, s1, s2]); fail_if_success refine stk ?_)
    try simp only [jbi, jai]
    refine rzM (h6 (k := f + 594) hd2 (by simp only [go_sem]) (by simp only [go_sem]) (by simp only [go_sem]) (by simp only [go_sem]; try rfl)) ?_
    rintro x r μ' ⟨rfl, g1, g2, tm', rfl, g4⟩
    refine ⟨rfl, _, ?_, rfl, g1, (Only.put _ _ _ _).trans ((Only.put _ _ _ _).trans g2)⟩
    simp only [go_sem, Tryz.results274]
    rw [g4]
   obtain ⟨v, μ', h1, rfl, h2, h3⟩ := key
   exact ⟨μ', h1, h2, h3⟩
end
noncomputable section
open Go.Proofs.YtlkenchibdeinaaGreatDoor.DecM (val Dg)
def Err3 (v : Value) : Prop := v = .nilIface ∨ v = .iface 262 (.int .i64 1) ∨ v = .iface 262 (.int .i64 2)
theorem mi1 (r : Rg) : jbq pZ (aev pZ r) 262 (.const (.int .i64 1)) = some (.iface 262 (.int .i64 1)) := by
 unfold jbq
 simp only [Tryz.underlying262]
 rfl
theorem mi2 (r : Rg) : jbq pZ (aev pZ r) 262 (.const (.int .i64 2)) = some (.iface 262 (.int .i64 2)) := by
 unfold jbq
 simp only [Tryz.underlying262]
 rfl
def zD : List Value := List.replicate 800 (.int .u8 0) ++ [.int .i64 0, .int .i64 0, .bool false, .bool false]
def obD : Ob := .cells 804 213 zD.toArray .e 0 0 false false
set_option maxRecDepth 100000 in
@[go_sem] theorem al_dec : jcS pZ 213 = some (obD, fun id => .pointer (some ⟨id, 0, none⟩)) := by kernel_rfl
def isZ : Value → Bool
 | .int .u8 (.ofNat 0) => true
 | _ => false
theorem isZ_eq {v : Value} (h : isZ v = true) : v = .int .u8 0 := by
 unfold isZ at h
 split at h
 ·rfl
 ·cases h
set_option maxRecDepth 100000 in
theorem zD_all : ((List.range 800).all fun k => isZ (cellAt zD.toArray .e k)) = true := by kernel_rfl
theorem zD_at (k : Nat) (hk : k < 800) : cellAt zD.toArray .e k = .int .u8 0 := isZ_eq (List.all_eq_true.1 zD_all k (List.mem_range.2 hk))
theorem jiF (μ : Mem) : Dec ⟨μ.obs.set μ.next obD, μ.next + 1⟩ μ.next (fun _ => 0) 0 0 false false := by
 have hg : (μ.obs.set μ.next obD).get μ.next = some obD := by rw [T.get_set, if_pos rfl]
 have hc : ∀ k (h : k < 804), jal ⟨μ.obs.set μ.next obD, μ.next + 1⟩ μ.next k = some (cellAt zD.toArray .e k) := fun k h => by
  unfold jal
  show (match jb3 ((μ.obs.set μ.next obD).get μ.next) with | some (n, zero, over) => if k < n then some (cellAt zero over k) else none | none => none) = _
  rw [hg]
  show (if k < 804 then some (cellAt zD.toArray .e k) else none) = _
  rw [if_pos h]
 refine ⟨⟨_, _, _, _, hg⟩, fun k hk => ?_, ?_, ?_, ?_, ?_⟩
 ·rw [hc k (by omega)]
  refine congrArg some ?_
  exact zD_at k hk
 ·rw [hc _ (by decide)]; kernel_rfl
 ·rw [hc _ (by decide)]; kernel_rfl
 ·rw [hc _ (by decide)]; kernel_rfl
 ·rw [hc _ (by decide)]; kernel_rfl
theorem sa0 : (jau Tryz.f261) = .seq (jaM 0 (jau Tryz.f261)) (.seq (jaM 1 (jau Tryz.f261)) (jaS 2 (jau Tryz.f261))) := by kernel_rfl
theorem sa2 : jaS 2 (jau Tryz.f261) = .seq (jaM 2 (jau Tryz.f261)) (.seq (jaM 3 (jau Tryz.f261)) (.seq (jaM 4 (jau Tryz.f261)) (jaS 5 (jau Tryz.f261)))) := by kernel_rfl
theorem sa5 : jaS 5 (jau Tryz.f261) = .seq (jaM 5 (jau Tryz.f261)) (jaS 6 (jau Tryz.f261)) := by kernel_rfl
theorem sa6 : jaS 6 (jau Tryz.f261) = .seq (jaM 6 (jau Tryz.f261)) (.seq (jaM 7 (jau Tryz.f261)) (.seq (jaM 8 (jau Tryz.f261)) (.seq (jaM 9 (jau Tryz.f261)) (.seq (jaM 10 (jau Tryz.f261)) (.seq (jaM 11 (jau Tryz.f261)) (jaS 12 (jau Tryz.f261))))))) := by kernel_rfl
def FinA (f n : Nat) (v : Value) (μ : Mem) : Ax → Rg → Mem → Prop := fun x r μ' => x = .ret ∧ Grow μ μ' ∧ ∃ tm, r = ⟨143, tm, [], none⟩ ∧ jac tm 2 = .float .f64 f ∧ jac tm 3 = .int .i64 (.ofNat n) ∧ jac tm 4 = v
theorem nums_head {s : ByteArray} (hs : ∀ c ∈ bys s, c ∈ nums) (n : Nat) : ∀ c ∈ bys (jfK s n), c ∈ nums := fun c hc => hs c (by rw [jgH] at hc; exact List.mem_of_mem_take hc)
theorem slow_ex {s : ByteArray} (hs : ∀ c ∈ bys s, c ∈ nums) (hl : (bys s).length ≤ 1000) (n : Nat) (hn : n ≤ (bys s).length) : ∃ (f : Nat) (v : Value), Err3 v ∧ ∀ {X : XT} {k : Nat} {tm : T Value} {μ : Mem}, jbc X → Lay μ → jac tm 0 = .string s → jac tm 3 = .int .i64 (.ofNat n) → jac tm 4 = .nilIface →
  EndsC (jaj pZ X S0 (k + 12000) (jaS 6 (jau Tryz.f261)) ⟨143, tm, [], none⟩ μ) (FinA f n v μ) := by
 have hl' : (bys (jfK s n)).length ≤ 1000 := by rw [jgH, List.length_take]; omega
 obtain ⟨ok, D, m, dp, neg, tr, b1, b2, b3, hset⟩ := set_ex (nums_head hs n) hl'
 have hsl : ∀ r x y, aev pZ r x = .string s → aev pZ r y = .int .i64 (.ofNat n) → ja0 pZ (aev pZ r) 9 x none (some y) none = some (.string (jfK s n)) := fun r x y h1 h2 => ji6 h1 h2 hn
 cases ok with
 | false =>
   refine ⟨0, .iface 262 (.int .i64 2), .inr (.inr rfl), fun {X k tm μ} hX hL h0 h3 h4 => ?_⟩
   have hd := jiF μ
   obtain ⟨μ1, hr, z1, z2⟩ := hset (X := X) (g := k + 11996) (by omega) hd
   have hG : Grow μ μ1 := (ja5 μ obD).only z2 (rzN _)
   rw [sa6]
   repeat (refine jaa rfl ?_; (try simp only [go_sem, h0, h3, h4, hsl, hr, mi1, mi2]); fail_if_success refine stk ?_)
   refine jad ?_
   exact ⟨by trivial, hG, _, rfl, (by simp only [go_sem]), (by simp only [go_sem, h3]), (by simp only [go_sem])⟩
 | true =>
   obtain ⟨b, ovf, hfb⟩ := jhA (n := m) (tr := tr) (neg := neg) (dp := dp) b1 (by omega) (by omega)
   cases ovf with
   | true =>
     refine ⟨W b, .iface 262 (.int .i64 1), .inr (.inl rfl), fun {X k tm μ} hX hL h0 h3 h4 => ?_⟩
     have hd := jiF μ
     obtain ⟨μ1, hr, z1, z2⟩ := hset (X := X) (g := k + 11996) (by omega) hd
     have hG : Grow μ μ1 := (ja5 μ obD).only z2 (rzN _)
     obtain ⟨μ2, hr2, z3⟩ := hfb (X := X) (g := k + 11996) (by omega) hL hG (rzN _) z1
     have x1' : ∀ a μ, X 276 [u a] μ = some (.float .f64 (W a), μ) := hX
     rw [sa6]
     repeat (refine jaa rfl ?_; (try simp only [go_sem, h0, h3, h4, nI, hsl, hr, hr2, jd7, x1', mi1, mi2]); fail_if_success refine stk ?_)
     refine jad ?_
     exact ⟨by trivial, hG.only z3 (rzN _), _, rfl, (by simp only [go_sem]), (by simp only [go_sem, h3]), (by simp only [go_sem])⟩
   | false =>
     refine ⟨W b, .nilIface, .inl rfl, fun {X k tm μ} hX hL h0 h3 h4 => ?_⟩
     have hd := jiF μ
     obtain ⟨μ1, hr, z1, z2⟩ := hset (X := X) (g := k + 11996) (by omega) hd
     have hG : Grow μ μ1 := (ja5 μ obD).only z2 (rzN _)
     obtain ⟨μ2, hr2, z3⟩ := hfb (X := X) (g := k + 11996) (by omega) hL hG (rzN _) z1
     have x1' : ∀ a μ, X 276 [u a] μ = some (.float .f64 (W a), μ) := hX
     rw [sa6]
     repeat (refine jaa rfl ?_; (try simp only [go_sem, h0, h3, h4, nI, hsl, hr, hr2, jd7, x1']); fail_if_success refine stk ?_)
     refine jad ?_
     exact ⟨by trivial, hG.only z3 (rzN _), _, rfl, (by simp only [go_sem]), (by simp only [go_sem, h3]), (by simp only [go_sem, h4])⟩
end
noncomputable section
open Go.Proofs.YtlkenchibdeinaaGreatDoor.DecM (val Dg)
def feq (a b : Nat) : Bool := Ieee.double.order a b == some .eq
theorem jhk {ρ : Operand → Value} {d : Option Tmp} {t yt ty : TypeId} {x y : Operand} {ps : String} {af : Array Edge} {gd : Option (Nat × Bool)} {a b : Nat} (hx : ρ x = .float .f64 a) (hy : ρ y = .float .f64 b) : jaH pZ ρ ⟨d, .binOp .eql t x y yt, ty, ps, af, gd⟩ = some (.bool (feq a b)) := by
 unfold jaH
 have e : pv pZ (execOp ρ ⟨d, .binOp .eql t x y yt, ty, ps, af, gd⟩) = some (.value (.bool (feq a b))) := by
  simp only [execOp, hx, hy]
  kernel_rfl
 simp only [opsOf, jbJ, hx, hy, jaK, e]
theorem NoErr.three {v : Value} (h : NoErr v) : Err3 v := by
 rcases h with h | h
 ·exact .inl h
 ·exact .inr (.inl h)
attribute [local irreducible] jaS
theorem at5_ex {s : ByteArray} (hs : ∀ c ∈ bys s, c ∈ nums) (hl : (bys s).length ≤ 1000) (a n : Nat) (e : Int) (neg tr : Bool) (hn : n ≤ (bys s).length) (he1 : -200000 < e) (he2 : e < 200000) : ∃ (f : Nat) (v : Value), Err3 v ∧ ∀ {X : XT} {k : Nat} {tm : T Value} {μ : Mem}, jbc X → Lay μ → jac tm 0 = .string s → jac tm 3 = .int .i64 (.ofNat n) → jac tm 4 = .nilIface → jac tm 8 = u a → jac tm 9 = .int .i64 e → jac tm 10 = .bool neg → jac tm 11 = .bool tr →
  EndsC (jaj pZ X S0 (k + 12100) (jaS 5 (jau Tryz.f261)) ⟨143, tm, [], none⟩ μ) (FinA f n v μ) := by
 obtain ⟨sg, hsg⟩ := exq (b2 neg * 2 ^ 63)
 have b1 : ∀ {X : XT} (g : Nat) (μ : Mem), 10 ≤ g → aFun pZ (jaj pZ X S0 g) 243 [.bool neg] μ = some (u (b2 neg), μ) := fun g μ h => jhI h
 have s63 : jaQ true .u64 (.ofNat (W (b2 neg))) 63 = some (.int .u64 (.ofNat (W sg))) := by
  have hb := b2_le neg
  rw [W_of (a := b2 neg) (by omega), hsg]
  exact w_shl (b2 neg) 63 (by decide)
 clear hsg
 by_cases ha : W a = 0
 ·have a0 : ieq (.ofNat (W a)) 0 = true := dT (jaB _ 0 0 rfl) ha
  refine ⟨W (W sg ||| 0), .nilIface, .inl rfl, fun {X k tm μ} hX hL h0 h3 h4 h8 h9 h10 h11 => ?_⟩
  have x1' : ∀ a μ, X 276 [u a] μ = some (.float .f64 (W a), μ) := hX
  have ho := hL.opt
  rw [sa5]
  repeat (refine jaa rfl ?_; (try simp only [go_sem, h0, h3, h4, h8, h9, h10, h11, nO, ho, b1, Nat.reduceLeDiff, s63, a0, wOr0, jd7, x1']); fail_if_success refine stk ?_)
  refine jad ?_
  exact ⟨by trivial, Grow.refl _, _, rfl, (by simp only [go_sem]), (by simp only [go_sem, h3]), (by simp only [go_sem])⟩
 have a0 : ieq (.ofNat (W a)) 0 = false := dF (jaB _ 0 0 rfl) ha
 by_cases hb1 : 310 < e
 ·have e1 : ilt 310 e = true := dT (jaZ _ _) hb1
  refine ⟨W (W sg ||| 9218868437227405312), .iface 262 (.int .i64 1), .inr (.inl rfl), fun {X k tm μ} hX hL h0 h3 h4 h8 h9 h10 h11 => ?_⟩
  have x1' : ∀ a μ, X 276 [u a] μ = some (.float .f64 (W a), μ) := hX
  have ho := hL.opt
  rw [sa5]
  repeat (refine jaa rfl ?_; (try simp only [go_sem, h0, h3, h4, h8, h9, h10, h11, nO, ho, b1, Nat.reduceLeDiff, s63, a0, e1, wOrI, jd7, x1', mi1, mi2]); fail_if_success refine stk ?_)
  refine jad ?_
  exact ⟨by trivial, Grow.refl _, _, rfl, (by simp only [go_sem]), (by simp only [go_sem, h3]), (by simp only [go_sem])⟩
 have e1 : ilt 310 e = false := dF (jaZ _ _) hb1
 by_cases hb2 : e < -345
 ·have e2 : ilt e (-345) = true := dT (jaZ _ _) hb2
  refine ⟨W (W sg ||| 0), .nilIface, .inl rfl, fun {X k tm μ} hX hL h0 h3 h4 h8 h9 h10 h11 => ?_⟩
  have x1' : ∀ a μ, X 276 [u a] μ = some (.float .f64 (W a), μ) := hX
  have ho := hL.opt
  rw [sa5]
  repeat (refine jaa rfl ?_; (try simp only [go_sem, h0, h3, h4, h8, h9, h10, h11, nO, ho, b1, Nat.reduceLeDiff, s63, a0, e1, e2, wOr0, jd7, x1']); fail_if_success refine stk ?_)
  refine jad ?_
  exact ⟨by trivial, Grow.refl _, _, rfl, (by simp only [go_sem]), (by simp only [go_sem, h3]), (by simp only [go_sem])⟩
 have e2 : ilt e (-345) = false := dF (jaZ _ _) hb2
 obtain ⟨f1, v1, nv1, hp1⟩ := jfW a sg e (by omega) (by omega)
 cases tr with
 | false =>
   obtain ⟨fx, ok, hex⟩ := exact_ex a e neg (by omega) (by omega)
   cases ok with
   | true =>
     refine ⟨fx, .nilIface, .inl rfl, fun {X k tm μ} hX hL h0 h3 h4 h8 h9 h10 h11 => ?_⟩
     have hx1 : ∀ g, 60 ≤ g → aFun pZ (jaj pZ X S0 g) 277 [u a, .int .i64 e, .bool neg] μ = some (.tuple #[.float .f64 fx, .bool true], μ) := fun g h => hex hL h
     have ho := hL.opt
     rw [sa5]
     repeat (refine jaa rfl ?_; (try simp only [go_sem, h0, h3, h4, h8, h9, h10, h11, nO, ho, b1, Nat.reduceLeDiff, s63, a0, e1, e2, hx1]); fail_if_success refine stk ?_)
     refine jad ?_
     exact ⟨by trivial, Grow.refl _, _, rfl, (by simp only [go_sem]), (by simp only [go_sem, h3]), (by simp only [go_sem])⟩
   | false =>
     refine ⟨f1, v1, nv1.three, fun {X k tm μ} hX hL h0 h3 h4 h8 h9 h10 h11 => ?_⟩
     have hx1 : ∀ g, 60 ≤ g → aFun pZ (jaj pZ X S0 g) 277 [u a, .int .i64 e, .bool neg] μ = some (.tuple #[.float .f64 fx, .bool false], μ) := fun g h => hex hL h
     obtain ⟨μ1, hr, hG⟩ := hp1 (X := X) (g := k + 12090) (μ := μ) hX hL (by omega)
     have ho := hL.opt
     rw [sa5]
     repeat (refine jaa rfl ?_; (try simp only [go_sem, h0, h3, h4, h8, h9, h10, h11, nO, ho, b1, Nat.reduceLeDiff, s63, a0, e1, e2, hx1, hr]); fail_if_success refine stk ?_)
     refine jad ?_
     exact ⟨by trivial, hG, _, rfl, (by simp only [go_sem]), (by simp only [go_sem, h3]), (by simp only [go_sem])⟩
 | true =>
   obtain ⟨f2, v2, nv2, hp2⟩ := jfW (W a + 1) sg e (by omega) (by omega)
   obtain ⟨fe, hfe⟩ := eqx (feq f1 f2)
   have pq : ∀ (ρ : Operand → Value) (d : Option Tmp) (t yt ty : TypeId) (x y : Operand) (ps : String) (af : Array Edge) (gd : Option (Nat × Bool)), ρ x = .float .f64 f1 → ρ y = .float .f64 f2 → jaH pZ ρ ⟨d, .binOp .eql t x y yt, ty, ps, af, gd⟩ = some (.bool fe) := fun ρ d t yt ty x y ps af gd h1 h2 => by rw [← hfe]; exact jhk h1 h2
   cases fe with
   | true =>
     refine ⟨f1, v1, nv1.three, fun {X k tm μ} hX hL h0 h3 h4 h8 h9 h10 h11 => ?_⟩
     obtain ⟨μ1, hr, hG⟩ := hp1 (X := X) (g := k + 12090) (μ := μ) hX hL (by omega)
     obtain ⟨μ2, hr2, hG2⟩ := hp2 (X := X) (g := k + 12088) (μ := μ1) hX (hL.grow hG) (by omega)
     have ho := hL.opt
     rw [sa5]
     repeat (refine jaa rfl ?_; (try simp only [go_sem, h0, h3, h4, h8, h9, h10, h11, nO, ho, b1, Nat.reduceLeDiff, s63, a0, e1, e2, hr, wAdd1, hr2, anf, pq]); fail_if_success refine stk ?_)
     refine jad ?_
     exact ⟨by trivial, hG.trans hG2, _, rfl, (by simp only [go_sem]), (by simp only [go_sem, h3]), (by simp only [go_sem])⟩
   | false =>
     obtain ⟨f, v, hv, hslow⟩ := slow_ex hs hl n hn
     refine ⟨f, v, hv, fun {X k tm μ} hX hL h0 h3 h4 h8 h9 h10 h11 => ?_⟩
     obtain ⟨μ1, hr, hG⟩ := hp1 (X := X) (g := k + 12090) (μ := μ) hX hL (by omega)
     obtain ⟨μ2, hr2, hG2⟩ := hp2 (X := X) (g := k + 12088) (μ := μ1) hX (hL.grow hG) (by omega)
     have ho := hL.opt
     rw [sa5]
     repeat (refine jaa rfl ?_; (try simp only [go_sem, h0, h3, h4, h8, h9, h10, h11, nO, ho, b1, Nat.reduceLeDiff, s63, a0, e1, e2, hr, wAdd1, hr2, anf, pq]); fail_if_success refine stk ?_)
     refine rzM (hslow (k := k + 99) hX (hL.grow (hG.trans hG2)) (by simp only [go_sem, h0]) (by simp only [go_sem, h3]) (by simp only [go_sem, h4])) ?_
     rintro x r μ3 ⟨hx, g, gg⟩
     exact ⟨hx, (hG.trans hG2).trans g, gg⟩
theorem atof64_ex {s : ByteArray} (hs : ∀ c ∈ bys s, c ∈ nums) (hl : (bys s).length ≤ 1000) (h0 : 0 < (bys s).length) : ∃ (f n : Nat) (v : Value), Err3 v ∧ ∀ {X : XT} {g : Nat} {μ : Mem}, jbc X → Lay μ → 13000 ≤ g →
  ∃ μ', aFun pZ (jaj pZ X S0 g) 261 [.string s] μ = some (.tuple #[.float .f64 f, .int .i64 (.ofNat n), v], μ') ∧ Grow μ μ' := by
 obtain ⟨a, e, neg, tr, n, ok, c1, c2, c3, hrf⟩ := jhf hs hl h0
 have key : ∃ (f : Nat) (v : Value), Err3 v ∧ ∀ {X : XT} {k : Nat} {tm : T Value} {μ : Mem}, jbc X → Lay μ → jac tm 0 = .string s → jac tm 4 = .nilIface →
   EndsC (jaj pZ X S0 (k + 12200) (jaS 2 (jau Tryz.f261)) ⟨143, tm, [], none⟩ μ) (FinA f n v μ) := by
  cases ok with
  | false =>
    refine ⟨0, .iface 262 (.int .i64 2), .inr (.inr rfl), fun {X k tm μ} hX hL h0 h4 => ?_⟩
    have hr : ∀ g, 2000 ≤ g → aFun pZ (jaj pZ X S0 g) 268 [.string s] μ = some (.tuple #[u a, .int .i64 e, .bool neg, .bool tr, .bool false, .int .i64 (.ofNat n), .bool false], μ) := fun g h => hrf h
    rw [sa2]
    repeat (refine jaa rfl ?_; (try simp only [go_sem, h0, h4, hr, Nat.reduceLeDiff, mi1, mi2]); fail_if_success refine stk ?_)
    refine jad ?_
    exact ⟨by trivial, Grow.refl _, _, rfl, (by simp only [go_sem]), (by simp only [go_sem]), (by simp only [go_sem])⟩
  | true =>
    obtain ⟨f, v, hv, h5⟩ := at5_ex hs hl a n e neg tr c3 c1 c2
    refine ⟨f, v, hv, fun {X k tm μ} hX hL h0 h4 => ?_⟩
    have hr : ∀ g, 2000 ≤ g → aFun pZ (jaj pZ X S0 g) 268 [.string s] μ = some (.tuple #[u a, .int .i64 e, .bool neg, .bool tr, .bool false, .int .i64 (.ofNat n), .bool true], μ) := fun g h => hrf h
    rw [sa2]
    repeat (refine jaa rfl ?_; (try simp only [go_sem, h0, h4, hr, Nat.reduceLeDiff]); fail_if_success refine stk ?_)
    exact h5 (k := k + 97) hX hL (by simp only [go_sem, h0]) (by simp only [go_sem]) (by simp only [go_sem, h4]) (by simp only [go_sem]) (by simp only [go_sem]) (by simp only [go_sem]) (by simp only [go_sem])
 obtain ⟨f, v, hv, h2⟩ := key
 refine ⟨f, n, v, hv, fun {X g μ} hX hL hg => ?_⟩
 obtain ⟨k, rfl⟩ := gle hg
 have hsp : ∀ g μ, 100 ≤ g → aFun pZ (jaj pZ X S0 g) 267 [.string s] μ = some (.tuple #[.float .f64 0, .int .i64 0, .bool false], μ) := fun g μ h => jjM h hs h0
 have key : EndsF (aFun pZ (jaj pZ X S0 (k + 13000)) 261 [.string s] μ) fun w μ' => w = .tuple #[.float .f64 f, .int .i64 (.ofNat n), v] ∧ Grow μ μ' := by
  refine jaf Tryz.func261 rfl rfl (nbl rfl) ?_
  simp only [go_sem, Tryz.ntmps261]
  change EndsC (jaj pZ X S0 _ (jau Tryz.f261) _ _) _
  rw [sa0]
  repeat (refine jaa rfl ?_; (try simp only [go_sem, hsp, Nat.reduceLeDiff]); fail_if_success refine stk ?_)
  refine rzM (h2 (k := k + 798) hX hL (by simp only [go_sem]) (by simp only [go_sem])) ?_
  rintro x r μ' ⟨rfl, g, tm', rfl, g2, g3, g4⟩
  refine ⟨rfl, _, ?_, rfl, g⟩
  simp only [go_sem, Tryz.results261]
  simp only [g2, g3, g4]
 obtain ⟨w, μ', h1, rfl, h2⟩ := key
 exact ⟨μ', h1, h2⟩
end
noncomputable section
@[go_sem] def gg261 {X ev} := gC X ev Tryz.func261 rfl rfl
@[go_sem] def gg241 {X ev} := gC X ev Tryz.func241 rfl rfl
@[go_sem] def gg197 {X ev} := gC X ev Tryz.func197 rfl rfl
@[go_sem] def gg175 {X ev} := gC X ev Tryz.func175 rfl rfl
@[go_sem] def gg223 {X ev} := gC X ev Tryz.func223 rfl rfl
@[go_sem] def gg224 {X ev} := gC X ev Tryz.func224 rfl rfl
@[go_sem] def gg251 {X ev} := gC X ev Tryz.func251 rfl rfl
@[go_sem] def gg152 {X ev} := gC X ev Tryz.func152 rfl rfl
theorem jik {s : ByteArray} (hs : ∀ c ∈ bys s, c ∈ nums) (hl : (bys s).length ≤ 1000) (h0 : 0 < (bys s).length) : ∃ (f : Nat) (v : Value), Err3 v ∧ ∀ {X : XT} {g : Nat} {μ : Mem}, jbc X → Lay μ → 13100 ≤ g →
  ∃ μ', aFun pZ (jaj pZ X S0 g) 197 [.string s, .int .i64 64] μ = some (.tuple #[.float .f64 f, v], μ') ∧ Grow μ μ' := by
 obtain ⟨f, n, v, hv, hat⟩ := atof64_ex hs hl h0
 have ls := jaU s
 have e32 : ieq 64 32 = false := rfl
 have pre : ∀ {X : XT} {g : Nat} {μ : Mem}, jbc X → Lay μ → 13050 ≤ g →
   ∃ μ', aFun pZ (jaj pZ X S0 g) 241 [.string s, .int .i64 64] μ = some (.tuple #[.float .f64 f, .int .i64 (.ofNat n), v], μ') ∧ Grow μ μ' := fun {X g μ} hX hL hg => by
  obtain ⟨k, rfl⟩ := gle hg
  obtain ⟨μ1, hr, hG⟩ := hat (X := X) (g := k + 13046) (μ := μ) hX hL (by omega)
  have key : EndsF (aFun pZ (jaj pZ X S0 (k + 13050)) 241 [.string s, .int .i64 64] μ) fun w μ' => w = .tuple #[.float .f64 f, .int .i64 (.ofNat n), v] ∧ μ' = μ1 := by
   refine jaf Tryz.func241 rfl rfl (nbl rfl) ?_
   simp only [go_sem, Tryz.ntmps241]
   repeat (refine jaa rfl ?_; (try simp only [go_sem, e32, hr]); fail_if_success refine stk ?_)
   exact jad ⟨rfl, _, by simp only [go_sem, Tryz.results241], rfl, rfl⟩
  obtain ⟨w, μ', h1, rfl, rfl⟩ := key
  exact ⟨_, h1, hG⟩
 by_cases hn : n = (bys s).length
 ·have e1 : ieq (.ofNat n) (.ofNat (bys s).length) = true := dT (jbG _ _) hn
  refine ⟨f, v, hv, fun {X g μ} hX hL hg => ?_⟩
  obtain ⟨k, rfl⟩ := gle hg
  obtain ⟨μ1, hr, hG⟩ := pre (X := X) (g := k + 13097) (μ := μ) hX hL (by omega)
  have key : EndsF (aFun pZ (jaj pZ X S0 (k + 13100)) 197 [.string s, .int .i64 64] μ) fun w μ' => w = .tuple #[.float .f64 f, v] ∧ μ' = μ1 := by
   refine jaf Tryz.func197 rfl rfl (nbl rfl) ?_
   simp only [go_sem, Tryz.ntmps197]
   repeat (refine jaa rfl ?_; (try simp only [go_sem, hr, ls, jae, e1]); fail_if_success refine stk ?_)
   exact jad ⟨rfl, _, by simp only [go_sem, Tryz.results197], rfl, rfl⟩
  obtain ⟨w, μ', h1, rfl, rfl⟩ := key
  exact ⟨_, h1, hG⟩
 ·have e1 : ieq (.ofNat n) (.ofNat (bys s).length) = false := dF (jbG _ _) hn
  refine ⟨0, .iface 262 (.int .i64 2), .inr (.inr rfl), fun {X g μ} hX hL hg => ?_⟩
  obtain ⟨k, rfl⟩ := gle hg
  obtain ⟨μ1, hr, hG⟩ := pre (X := X) (g := k + 13097) (μ := μ) hX hL (by omega)
  have key : EndsF (aFun pZ (jaj pZ X S0 (k + 13100)) 197 [.string s, .int .i64 64] μ) fun w μ' => w = .tuple #[.float .f64 0, .iface 262 (.int .i64 2)] ∧ μ' = μ1 := by
   refine jaf Tryz.func197 rfl rfl (nbl rfl) ?_
   simp only [go_sem, Tryz.ntmps197]
   repeat (refine jaa rfl ?_; (try simp only [go_sem, hr, ls, jae, e1, mi2]); fail_if_success refine stk ?_)
   exact jad ⟨rfl, _, by simp only [go_sem, Tryz.results197], rfl, rfl⟩
  obtain ⟨w, μ', h1, rfl, rfl⟩ := key
  exact ⟨_, h1, hG⟩
def bysV (s : ByteArray) : List Value := s.data.toList.map fun b => .int .u8 b.toNat
theorem jgI (s : ByteArray) : (bysV s).length = (bys s).length := by unfold bysV bys; simp
theorem jhG (l : List UInt8) : jcZ (l.map fun b => Value.int .u8 b.toNat) = some l := by
 induction l with
 | nil => rfl
 | cons b l ih =>
   show jcZ (.int .u8 (.ofNat b.toNat) :: l.map _) = _
   unfold jcZ
   rw [show Nat.blt b.toNat 256 = true from by have := b.toNat_lt; simpa using this]
   rw [ih]
   simp
theorem z_u8 : ja6 pZ 5 = some (.int .u8 0) := by unfold ja6; rw [i_u8]; rfl
def obB (m : Nat) : Ob := .cells m 5 #[.int .u8 0] .e 0 0 false false
theorem ms_bs {m : Nat} (hm : m ≤ 1000) : jbZ pZ 45 (.int .i64 (.ofNat m)) (.int .i64 (.ofNat m)) = some (obB m, fun id => .slice (some ⟨id, 0, none⟩) m (2 * m)) := by
 unfold jbZ
 have e1 : Nat.ble m m = true := rzP (rzN _)
 have e2 : Nat.ble m 1073741824 = true := rzP (by omega)
 have e3 : Nat.ble (Nat.mul m Tryz.t5.bytes) 1099511627776 = true := rzP (by show m * 1 ≤ _; omega)
 simp only [Tryz.underlying45, i_u8, e1, e2, e3, z_u8]
 show some (Ob.cells (Nat.mul m 1) _ _ _ _ _ _ _, _) = _
 rw [show Nat.mul m 1 = m from Nat.mul_one m]
 rfl
theorem copy_bs {μ : Mem} {s : ByteArray} {i : Nat} (h0 : 0 < (bys s).length) (hg : μ.obs.get i = some (obB (bys s).length)) (c : Nat) : jkr pZ μ 45 (.slice (some ⟨i, 0, none⟩) (bys s).length c) (.string s) = some (.int .i64 (.ofNat (bys s).length), ⟨μ.obs.set i (.cells (bys s).length 5 #[.int .u8 0] ((T.e).lay 0 (bysV s)) 0 0 false false), μ.next⟩) := by
 unfold jkr
 have el : s.data.toList.length = (bys s).length := (jb5 s).symm
 have e0 : lenV (.string s) = some (bys s).length := by
  show some s.data.toList.length = _
  rw [el]
 have e1 : Nat.min (bys s).length (bys s).length = (bys s).length := Nat.min_self _
 simp only [Tryz.underlying45, i_u8, e0, e1, jaP]
 have e2 : (s.data.toList.take (bys s).length).map (fun b => Value.int .u8 b.toNat) = bysV s := by rw [List.take_of_length_le (by rw [el]; exact rzN _)]; rfl
 rw [e2]
 have e3 : ∃ v l, bysV s = v :: l := by
  cases h : bysV s with
  | nil => have := jgI s; rw [h] at this; simp at this; omega
  | cons v l => exact ⟨v, l, rfl⟩
 obtain ⟨v, l, e3⟩ := e3
 have e4 : jbH (bys s).length 0 0 0 (bysV s).length = true := by
  unfold jbH
  rw [jgI, show Nat.ble (Nat.add 0 (bys s).length) (bys s).length = true from rzP (by show 0 + _ ≤ _; omega)]
  rfl
 have e5 : scalars (bysV s) = true := jdE _ (by unfold bysV; rw [List.all_map]; exact List.all_eq_true.2 fun x _ => rfl)
 rw [e3] at e4 e5 ⊢
 simp only [hg, obB, e4, e5]
 rfl
theorem us_bs {μ : Mem} {s : ByteArray} {i : Nat} (h0 : 0 < (bys s).length) (hl : (bys s).length ≤ 1000) (hg : μ.obs.get i = some (.cells (bys s).length 5 #[.int .u8 0] ((T.e).lay 0 (bysV s)) 0 0 false false)) : ∃ o, jb6 pZ μ 184 (.pointer (some ⟨i, 0, none⟩)) (.int .i64 (.ofNat (bys s).length)) = some (.string ⟨s.data.toList.toArray⟩, ⟨μ.obs.set i o, μ.next⟩) := by
 unfold jb6
 obtain ⟨m, hm⟩ : ∃ m, (bys s).length = m + 1 := ⟨(bys s).length - 1, by omega⟩
 have ec : jas #[.int .u8 0] ((T.e).lay 0 (bysV s)) 0 (bys s).length = bysV s := jbm _ _ _ (jgI s) fun k hk => by
  rw [jbV, dif_pos (by omega)]
  simp
 have e1 : Nat.ble (bys s).length (bys s).length = true := rzP (rzN _)
 have e2 : Nat.ble (bys s).length 1073741824 = true := rzP (by omega)
 have e3 : jcZ (bysV s) = some s.data.toList := jhG _
 have e4 : Nat.beq (pZ.cellsOf 5) 1 = true := by kernel_rfl
 rw [← ec] at e3
 rw [hm] at e1 e2 e3 hg ⊢
 simp only [hg, Tryz.underlying184, Nat.beq_refl, e4, e1, e2, e3]
 exact ⟨_, rfl⟩
theorem jjr {s : ByteArray} (h0 : 0 < (bys s).length) (hl : (bys s).length ≤ 1000) {X : XT} {g : Nat} {μ : Mem} (hg : 40 ≤ g) : ∃ (x : ByteArray) (μ' : Mem), aFun pZ (jaj pZ X S0 g) 251 [.string s] μ = some (.string x, μ') ∧ Grow μ μ' := by
 obtain ⟨k, rfl⟩ := gle hg
 have ls := jaU s
 have e0 : ieq (.ofNat (bys s).length) 0 = false := dF (jaB _ 0 0 rfl) (by omega)
 have ms := ms_bs hl
 have g1 : (μ.obs.set μ.next (obB (bys s).length)).get μ.next = some (obB (bys s).length) := by rw [T.get_set, if_pos rfl]
 have cp := copy_bs (μ := ⟨μ.obs.set μ.next (obB (bys s).length), μ.next + 1⟩) h0 g1 (2 * (bys s).length)
 obtain ⟨μ2, hμ2⟩ := exq (⟨(μ.obs.set μ.next (obB (bys s).length)).set μ.next (.cells (bys s).length 5 #[.int .u8 0] ((T.e).lay 0 (bysV s)) 0 0 false false), μ.next + 1⟩ : Mem)
 have g2 : μ2.obs.get μ.next = some (.cells (bys s).length 5 #[.int .u8 0] ((T.e).lay 0 (bysV s)) 0 0 false false) := by rw [hμ2]; show T.get _ _ = _; rw [T.get_set, if_pos rfl]
 obtain ⟨o, us⟩ := us_bs h0 hl g2
 have cp : jkr pZ ⟨μ.obs.set μ.next (obB (bys s).length), μ.next + 1⟩ 45 (.slice (some ⟨μ.next, 0, none⟩) (bys s).length (2 * (bys s).length)) (.string s) = some (.int .i64 (.ofNat (bys s).length), μ2) := by rw [hμ2]; exact cp
 have hix : ∀ r a, aev pZ r a = .slice (some ⟨μ.next, 0, none⟩) (bys s).length (2 * (bys s).length) → jan pZ (aev pZ r) 45 a (.const (.int .i64 0)) = some (.pointer (some ⟨μ.next, 0, none⟩)) := fun r a h => by
  rw [jaL (P := pZ) (m := 0) (kd := .i64) Tryz.underlying45 i_u8 rfl h rfl h0]
 have hG : Grow μ ⟨μ2.obs.set μ.next o, μ2.next⟩ := by
  rw [hμ2]
  refine ⟨Nat.le_succ _, fun i hi => ?_⟩
  show (T.set (T.set (T.set _ _ _) _ _) _ _).get i = _
  rw [T.get_set, if_neg (by omega), T.get_set, if_neg (by omega), T.get_set, if_neg (by omega)]
 refine ⟨⟨s.data.toList.toArray⟩, _, ?_, hG⟩
 refine jaF ?_
 refine jaf Tryz.func251 rfl rfl (nbl rfl) ?_
 simp only [go_sem, Tryz.ntmps251]
 repeat (refine jaa rfl ?_; (try simp only [go_sem, ls, jhu, jae, e0, ms, cp, hix, us]); fail_if_success refine stk ?_)
 exact jad ⟨rfl, _, by simp only [go_sem, Tryz.results251], rfl, rfl⟩
theorem an1 (a : TypeId) (b : Value) : aNil pZ 153 (.iface a b) .nilIface = true := by
 unfold aNil
 simp only [Tryz.underlying153]
theorem an2 : aNil pZ 153 .nilIface .nilIface = false := rfl
theorem an3 (a c : TypeId) (b d : Value) : aNil pZ 153 (.iface a b) (.iface c d) = false := rfl
theorem p_nn (r : Rg) {d : Option Tmp} {yt ty : TypeId} {x : Operand} {ps : String} {af : Array Edge} {gd : Option (Nat × Bool)} (hx : aev pZ r x = .nilIface) : jaH pZ (aev pZ r) ⟨d, .binOp .neq 153 x (.const .nilIface) yt, ty, ps, af, gd⟩ = some (.bool false) := by
 have hy : aev pZ r (.const .nilIface) = .nilIface := rfl
 unfold jaH
 have e : pv pZ (execOp (aev pZ r) ⟨d, .binOp .neq 153 x (.const .nilIface) yt, ty, ps, af, gd⟩) = some (.value (.bool false)) := by
  simp only [execOp, hx, hy]
  cases x <;> kernel_rfl
 simp only [opsOf, jbJ, hx, hy, jaK, e]
theorem p_ee (a b : Nat) (hab : a = 1 ∨ a = 2) (hb : b = 1 ∨ b = 2) {ρ : Operand → Value} {d : Option Tmp} {yt ty : TypeId} {x y : Operand} {ps : String} {af : Array Edge} {gd : Option (Nat × Bool)} (hx : ρ x = .iface 262 (.int .i64 (.ofNat a))) (hy : ρ y = .iface 262 (.int .i64 (.ofNat b))) : jaH pZ ρ ⟨d, .binOp .eql 153 x y yt, ty, ps, af, gd⟩ = some (.bool (decide (a = b))) := by
 unfold jaH
 have e : pv pZ (execOp ρ ⟨d, .binOp .eql 153 x y yt, ty, ps, af, gd⟩) = some (.value (.bool (decide (a = b)))) := by
  simp only [execOp, hx, hy]
  rcases hab with rfl | rfl <;> rcases hb with rfl | rfl <;> kernel_rfl
 simp only [opsOf, jbJ, hx, hy, jaK, e]
theorem z_ne : ja6 pZ 293 = some (.agg #[.string ⟨#[]⟩, .string ⟨#[]⟩, .nilIface]) := by kernel_rfl
theorem jjw {ρ : Operand → Value} {a b c : Operand} {p x v : Value} (ha : ρ a = p) (hb : ρ b = x) (hc : ρ c = v) (hp : one p = true) (hx : one x = true) (hv : one v = true) : jb0 pZ ρ 293 #[(0, a), (1, b), (2, c)] = some (.agg #[p, x, v]) := by
 have hpl : ∃ f, pZ.underlying 293 = some (.struct f) ∧ jcA pZ f.toList = some [(0, 1), (1, 1), (2, 1)] := ⟨_, Tryz.underlying293, by kernel_rfl⟩
 obtain ⟨f, h1, h2⟩ := hpl
 refine jbY (cs := [p, x, v]) z_ne h1 h2 ?_
 simp only [List.map_cons, List.map_nil, ha, hb, hc]
 show jcR _ [.string ⟨#[]⟩, .string ⟨#[]⟩, .nilIface] [(0, p), (1, x), (2, v)] = _
 rw [jdq (off := 0) rfl hp (by decide)]
 show jcR _ [p, .string ⟨#[]⟩, .nilIface] [(1, x), (2, v)] = _
 rw [jdq (off := 1) rfl hx (by simp)]
 show jcR _ [p, x, .nilIface] [(2, v)] = _
 rw [jdq (off := 2) rfl hv (by simp)]
 rfl
theorem synErr_ex {pf s : ByteArray} (h0 : 0 < (bys s).length) (hl : (bys s).length ≤ 1000) {X : XT} {g : Nat} {μ : Mem} (hL : Lay μ) (hg : 60 ≤ g) : ∃ (a : Nat) (μ' : Mem), aFun pZ (jaj pZ X S0 g) 223 [.string pf, .string s] μ = some (.pointer (some ⟨a, 0, none⟩), μ') ∧ Grow μ μ' := by
 obtain ⟨k, rfl⟩ := gle hg
 obtain ⟨x, μ1, hc, hG⟩ := jjr h0 hl (X := X) (g := k + 57) (μ := ⟨μ.obs, μ.next + 7⟩) (by omega)
 obtain ⟨v, v1, v2⟩ := hL.es
 have v3 : jal μ1 8 0 = some v := (jbF ((jez μ 7).trans hG) (Nat.lt_of_le_of_lt (by decide) hL.lt) 0).trans v1
 have v4 : ∀ z, jal ⟨μ.obs, z⟩ 8 0 = some v := fun z => v1
 have hb : ∀ r a b c, aev pZ r a = .string pf → aev pZ r b = .string x → aev pZ r c = v → jb0 pZ (aev pZ r) 293 #[(0, a), (1, b), (2, c)] = some (.agg #[.string pf, .string x, v]) := fun r a b c g1 g2 g3 => jjw g1 g2 g3 rfl rfl v2
 have key : EndsF (aFun pZ (jaj pZ X S0 (k + 60)) 223 [.string pf, .string s] μ) fun w μ' => ∃ a, w = .pointer (some ⟨a, 0, none⟩) ∧ Grow μ μ' := by
  refine jaf Tryz.func223 rfl rfl (nbl rfl) ?_
  simp only [go_sem, Tryz.ntmps223]
  refine jag ?_
  refine jaD ?_ ?_
  ·rfl
  simp only [go_sem]
  refine jag ?_
  refine jaz (n := 7) (ms := [0, 0, 2, 0, 15, 31, 63]) (ord := [1, 2, 0, 3, 4, 5, 6]) (ds := ?_) ?_ ?_ ?_ ?_ ?_ ?_
  rotate_left
  ·kernel_rfl
  ·kernel_rfl
  ·kernel_rfl
  ·rfl
  ·rfl
  iterate 7 (refine jay (by first | rfl | (simp only [go_sem, nS, jeX, gg251, hc, v3, v4, hb, aBox, jaR, jde, (show bef [0, 0, 2, 0, 15, 31, 63] 2 3 = false from by kernel_rfl)])) (by simp only [jaC, heavy, jaO, jar, go_sem, nS, jeX, gg251, hc, v3, v4, hb, aBox, jaR, jde, (show bef [0, 0, 2, 0, 15, 31, 63] 2 3 = false from by kernel_rfl)]; try exact rfl) rfl ?_)
  simp only [dRun, jat, jai]
  refine jad ?_
  refine ⟨rfl, _, ?_, μ.next + 5, rfl, ?_⟩
  ·skip
   simp only [go_sem, Tryz.results223]
  ·refine ⟨rzS (Nat.le_add_right _ 7) hG.1, fun j hj => ?_⟩
   show T.get (T.set _ _ _) j = _
   rw [T.get_set, if_neg (by show j ≠ μ.next + 5; omega)]
   exact hG.2 j (rzO hj (Nat.le_add_right _ 7))
 obtain ⟨w, μ', h1, a, rfl, h2⟩ := key
 exact ⟨a, μ', h1, h2⟩
theorem rngErr_ex {pf s : ByteArray} (h0 : 0 < (bys s).length) (hl : (bys s).length ≤ 1000) {X : XT} {g : Nat} {μ : Mem} (hL : Lay μ) (hg : 60 ≤ g) : ∃ (a : Nat) (μ' : Mem), aFun pZ (jaj pZ X S0 g) 224 [.string pf, .string s] μ = some (.pointer (some ⟨a, 0, none⟩), μ') ∧ Grow μ μ' := by
 obtain ⟨k, rfl⟩ := gle hg
 obtain ⟨x, μ1, hc, hG⟩ := jjr h0 hl (X := X) (g := k + 57) (μ := ⟨μ.obs, μ.next + 7⟩) (by omega)
 obtain ⟨v, v1, v2⟩ := hL.er
 have v3 : jal μ1 9 0 = some v := (jbF ((jez μ 7).trans hG) (Nat.lt_of_le_of_lt (by decide) hL.lt) 0).trans v1
 have v4 : ∀ z, jal ⟨μ.obs, z⟩ 9 0 = some v := fun z => v1
 have hb : ∀ r a b c, aev pZ r a = .string pf → aev pZ r b = .string x → aev pZ r c = v → jb0 pZ (aev pZ r) 293 #[(0, a), (1, b), (2, c)] = some (.agg #[.string pf, .string x, v]) := fun r a b c g1 g2 g3 => jjw g1 g2 g3 rfl rfl v2
 have key : EndsF (aFun pZ (jaj pZ X S0 (k + 60)) 224 [.string pf, .string s] μ) fun w μ' => ∃ a, w = .pointer (some ⟨a, 0, none⟩) ∧ Grow μ μ' := by
  refine jaf Tryz.func224 rfl rfl (nbl rfl) ?_
  simp only [go_sem, Tryz.ntmps224]
  refine jag ?_
  refine jaD ?_ ?_
  ·rfl
  simp only [go_sem]
  refine jag ?_
  refine jaz (n := 7) (ms := [0, 0, 2, 0, 15, 31, 63]) (ord := [1, 2, 0, 3, 4, 5, 6]) (ds := ?_) ?_ ?_ ?_ ?_ ?_ ?_
  rotate_left
  ·kernel_rfl
  ·kernel_rfl
  ·kernel_rfl
  ·rfl
  ·rfl
  iterate 7 (refine jay (by first | rfl | (simp only [go_sem, nR, jeX, gg251, hc, v3, v4, hb, aBox, jaR, jde, (show bef [0, 0, 2, 0, 15, 31, 63] 2 3 = false from by kernel_rfl)])) (by simp only [jaC, heavy, jaO, jar, go_sem, nR, jeX, gg251, hc, v3, v4, hb, aBox, jaR, jde, (show bef [0, 0, 2, 0, 15, 31, 63] 2 3 = false from by kernel_rfl)]; try exact rfl) rfl ?_)
  simp only [dRun, jat, jai]
  refine jad ?_
  refine ⟨rfl, _, ?_, μ.next + 5, rfl, ?_⟩
  ·skip
   simp only [go_sem, Tryz.results224]
  ·refine ⟨rzS (Nat.le_add_right _ 7) hG.1, fun j hj => ?_⟩
   show T.get (T.set _ _ _) j = _
   rw [T.get_set, if_neg (by show j ≠ μ.next + 5; omega)]
   exact hG.2 j (rzO hj (Nat.le_add_right _ 7))
 obtain ⟨w, μ', h1, a, rfl, h2⟩ := key
 exact ⟨a, μ', h1, h2⟩
theorem pe22 (r : Rg) {d : Option Tmp} {yt ty : TypeId} {x y : Operand} {ps : String} {af : Array Edge} {gd : Option (Nat × Bool)} (hx : aev pZ r x = .iface 262 (.int .i64 2)) (hy : aev pZ r y = .iface 262 (.int .i64 2)) : jaH pZ (aev pZ r) ⟨d, .binOp .eql 153 x y yt, ty, ps, af, gd⟩ = some (.bool true) := p_ee 2 2 (.inr rfl) (.inr rfl) hx hy
theorem pe12 (r : Rg) {d : Option Tmp} {yt ty : TypeId} {x y : Operand} {ps : String} {af : Array Edge} {gd : Option (Nat × Bool)} (hx : aev pZ r x = .iface 262 (.int .i64 1)) (hy : aev pZ r y = .iface 262 (.int .i64 2)) : jaH pZ (aev pZ r) ⟨d, .binOp .eql 153 x y yt, ty, ps, af, gd⟩ = some (.bool false) := p_ee 1 2 (.inl rfl) (.inr rfl) hx hy
theorem pe11 (r : Rg) {d : Option Tmp} {yt ty : TypeId} {x y : Operand} {ps : String} {af : Array Edge} {gd : Option (Nat × Bool)} (hx : aev pZ r x = .iface 262 (.int .i64 1)) (hy : aev pZ r y = .iface 262 (.int .i64 1)) : jaH pZ (aev pZ r) ⟨d, .binOp .eql 153 x y yt, ty, ps, af, gd⟩ = some (.bool true) := p_ee 1 1 (.inl rfl) (.inl rfl) hx hy
theorem miP (r : Rg) (x : Operand) (i : Nat) (h : aev pZ r x = .pointer (some ⟨i, 0, none⟩)) : jbq pZ (aev pZ r) 265 x = some (.iface 265 (.pointer (some ⟨i, 0, none⟩))) := by
 unfold jbq
 simp only [Tryz.underlying265, h]
theorem toErr_ex {pf s : ByteArray} {v : Value} (hv : v = .iface 262 (.int .i64 1) ∨ v = .iface 262 (.int .i64 2)) (h0 : 0 < (bys s).length) (hl : (bys s).length ≤ 1000) {X : XT} {g : Nat} {μ : Mem} (hL : Lay μ) (hg : 100 ≤ g) : ∃ (a : Nat) (μ' : Mem), aFun pZ (jaj pZ X S0 g) 175 [.string pf, .string s, .int .i64 0, .int .i64 64, v] μ = some (.iface 265 (.pointer (some ⟨a, 0, none⟩)), μ') ∧ Grow μ μ' := by
 obtain ⟨k, rfl⟩ := gle hg
 rcases hv with rfl | rfl
 ·obtain ⟨a, μ1, hr, hG⟩ := rngErr_ex (pf := pf) h0 hl (X := X) (g := k + 90) hL (by omega)
  have mp := fun r x => miP r x a
  have key : EndsF (aFun pZ (jaj pZ X S0 (k + 100)) 175 [.string pf, .string s, .int .i64 0, .int .i64 64, .iface 262 (.int .i64 1)] μ) fun w μ' => w = .iface 265 (.pointer (some ⟨a, 0, none⟩)) ∧ μ' = μ1 := by
   refine jaf Tryz.func175 rfl rfl (nbl rfl) ?_
   simp only [go_sem, Tryz.ntmps175]
   repeat (refine jaa rfl ?_; (try simp only [go_sem, mi1, mi2, an3, pe12, pe11, hr, mp]); fail_if_success refine stk ?_)
   exact jad ⟨rfl, _, by simp only [go_sem, Tryz.results175], rfl, rfl⟩
  obtain ⟨w, μ', h1, rfl, rfl⟩ := key
  exact ⟨a, _, h1, hG⟩
 ·obtain ⟨a, μ1, hr, hG⟩ := synErr_ex (pf := pf) h0 hl (X := X) (g := k + 92) hL (by omega)
  have mp := fun r x => miP r x a
  have key : EndsF (aFun pZ (jaj pZ X S0 (k + 100)) 175 [.string pf, .string s, .int .i64 0, .int .i64 64, .iface 262 (.int .i64 2)] μ) fun w μ' => w = .iface 265 (.pointer (some ⟨a, 0, none⟩)) ∧ μ' = μ1 := by
   refine jaf Tryz.func175 rfl rfl (nbl rfl) ?_
   simp only [go_sem, Tryz.ntmps175]
   repeat (refine jaa rfl ?_; (try simp only [go_sem, mi1, mi2, an3, pe22, hr, mp]); fail_if_success refine stk ?_)
   exact jad ⟨rfl, _, by simp only [go_sem, Tryz.results175], rfl, rfl⟩
  obtain ⟨w, μ', h1, rfl, rfl⟩ := key
  exact ⟨a, _, h1, hG⟩
theorem parseF_ex {s : ByteArray} (hs : ∀ c ∈ bys s, c ∈ nums) (hl : (bys s).length ≤ 1000) (h0 : 0 < (bys s).length) : ∃ (f : Nat), ∀ {X : XT} {g : Nat} {μ : Mem}, jbc X → Lay μ → 14000 ≤ g →
  ∃ w μ', aFun pZ (jaj pZ X S0 g) 152 [.string s, .int .i64 64] μ = some (.tuple #[.float .f64 f, w], μ') ∧ one w = true ∧ Grow μ μ' := by
 obtain ⟨f, v, hv, hp⟩ := jik hs hl h0
 refine ⟨f, fun {X g μ} hX hL hg => ?_⟩
 obtain ⟨k, rfl⟩ := gle hg
 obtain ⟨μ1, hr, hG⟩ := hp (X := X) (g := k + 13997) (μ := μ) hX hL (by omega)
 by_cases hn : v = .nilIface
 ·subst hn
  have key : EndsF (aFun pZ (jaj pZ X S0 (k + 14000)) 152 [.string s, .int .i64 64] μ) fun w μ' => w = .tuple #[.float .f64 f, .nilIface] ∧ μ' = μ1 := by
   refine jaf Tryz.func152 rfl rfl (nbl rfl) ?_
   simp only [go_sem, Tryz.ntmps152]
   repeat (refine jaa rfl ?_; (try simp only [go_sem, hr, an2, p_nn]); fail_if_success refine stk ?_)
   exact jad ⟨rfl, _, by simp only [go_sem, Tryz.results152], rfl, rfl⟩
  obtain ⟨w, μ', h1, rfl, rfl⟩ := key
  exact ⟨_, _, h1, rfl, hG⟩
 ·have hv : v = .iface 262 (.int .i64 1) ∨ v = .iface 262 (.int .i64 2) := hv.resolve_left hn
  have te := fun (pf : ByteArray) => toErr_ex (pf := pf) hv h0 hl (X := X) (g := k + 13993) (hL.grow hG) (by omega)
  obtain ⟨a, μ2, hr2, hG2⟩ := te ⟨List.toArray [80, 97, 114, 115, 101, 70, 108, 111, 97, 116]⟩
  have hnil : ∀ t, aNil pZ t v .nilIface = (match pZ.underlying t with | some (.interface _) => true | _ => false) := fun t => by rcases hv with rfl | rfl <;> rfl
  have key : EndsF (aFun pZ (jaj pZ X S0 (k + 14000)) 152 [.string s, .int .i64 64] μ) fun w μ' => w = .tuple #[.float .f64 f, .iface 265 (.pointer (some ⟨a, 0, none⟩))] ∧ μ' = μ2 := by
   rcases hv with rfl | rfl
   ·skip
    refine jaf Tryz.func152 rfl rfl (nbl rfl) ?_
    simp only [go_sem, Tryz.ntmps152]
    repeat (refine jaa rfl ?_; (try simp only [go_sem, hr, an1, hr2]); fail_if_success refine stk ?_)
    exact jad ⟨rfl, _, by simp only [go_sem, Tryz.results152], rfl, rfl⟩
   ·skip
    refine jaf Tryz.func152 rfl rfl (nbl rfl) ?_
    simp only [go_sem, Tryz.ntmps152]
    repeat (refine jaa rfl ?_; (try simp only [go_sem, hr, an1, hr2]); fail_if_success refine stk ?_)
    exact jad ⟨rfl, _, by simp only [go_sem, Tryz.results152], rfl, rfl⟩
  obtain ⟨w, μ', h1, rfl, rfl⟩ := key
  exact ⟨_, _, h1, rfl, hG.trans hG2⟩
@[go_sem] def gg162 {X ev} := gC X ev Tryz.func162 rfl rfl
@[go_sem] def gg201 {X ev} := gC X ev Tryz.func201 rfl rfl
@[go_sem] def gg205 {X ev} := gC X ev Tryz.func205 rfl rfl
@[go_sem] def gg206 {X ev} := gC X ev Tryz.func206 rfl rfl
@[go_sem] def gg207 {X ev} := gC X ev Tryz.func207 rfl rfl
theorem shr_neg (v : Int) (k : Int) (h : v < 0) : jaQ false .i64 v k = none := by
 cases v with
 | ofNat m => exact absurd h (by simp only [Int.ofNat_eq_natCast]; omega)
 | negSucc m => cases k <;> rfl
theorem shr18_any (v : Int) : pv pZ (Op.shift .shr .i64 v .u64 18) = some (.int .i64 (v / 262144)) := by
 show some (Value.int .i64 (Int.fdiv v (2 ^ 18))) = _
 rw [Int.fdiv_eq_ediv_of_nonneg _ (by decide)]; rfl
theorem shr18_pos (v : Int) (h : 0 ≤ v) : jaQ false .i64 v 18 = some (.int .i64 (v / 262144)) := by
 cases v with
 | ofNat m =>
   unfold jaQ
   simp only [jcB]
   rfl
 | negSucc m => omega
theorem shr21_any (v : Int) : pv pZ (Op.shift .shr .i64 v .u64 21) = some (.int .i64 (v / 2097152)) := by
 show some (Value.int .i64 (Int.fdiv v (2 ^ 21))) = _
 rw [Int.fdiv_eq_ediv_of_nonneg _ (by decide)]; rfl
theorem shr21_pos (v : Int) (h : 0 ≤ v) : jaQ false .i64 v 21 = some (.int .i64 (v / 2097152)) := by
 cases v with
 | ofNat m =>
   unfold jaQ
   simp only [jcB]
   rfl
 | negSucc m => omega
set_option maxHeartbeats 4000000 in
theorem jgs {X : XT} {g : Nat} {p : Int} {μ : Mem} (hg : 20 ≤ g) (h1 : -100000 < p) (h2 : p < 100000) : aFun pZ (jaj pZ X S0 g) 162 [.int .i64 p] μ = some (.int .i64 (p * 78913 / 262144), μ) := by
 obtain ⟨k, rfl⟩ := gle hg
 refine jaF ?_
 have e1 : jak .i64 (Int.mul p 78913) = p * 78913 := i_mul p 78913 (by omega) (by omega)
 obtain ⟨v, hv⟩ := exq (p * 78913)
 rw [← hv] at e1 ⊢
 by_cases h0 : v < 0
 ·have e2 := shr_neg v 18 h0
  have e3 := shr18_any v
  refine jaf Tryz.func162 rfl rfl (nbl rfl) ?_
  simp only [go_sem, Tryz.ntmps162]
  repeat (refine jaa rfl ?_; (try simp only [go_sem, e1, e2, e3]); fail_if_success refine stk ?_)
  exact jad ⟨rfl, _, by simp only [go_sem, Tryz.results162], rfl, rfl⟩
 ·have e2 := shr18_pos v (by omega)
  refine jaf Tryz.func162 rfl rfl (nbl rfl) ?_
  simp only [go_sem, Tryz.ntmps162]
  repeat (refine jaa rfl ?_; (try simp only [go_sem, e1, e2]); fail_if_success refine stk ?_)
  exact jad ⟨rfl, _, by simp only [go_sem, Tryz.results162], rfl, rfl⟩
set_option maxHeartbeats 4000000 in
theorem skewed_eq {X : XT} {g : Nat} {p : Int} {μ : Mem} (hg : 20 ≤ g) (h1 : -100000 < p) (h2 : p < 100000) : aFun pZ (jaj pZ X S0 g) 201 [.int .i64 p] μ = some (.int .i64 ((p * 631305 - 261663) / 2097152), μ) := by
 obtain ⟨k, rfl⟩ := gle hg
 refine jaF ?_
 have e0 : jak .i64 (Int.mul p 631305) = p * 631305 := i_mul p 631305 (by omega) (by omega)
 have e1 : jak .i64 (Int.sub (p * 631305) 261663) = p * 631305 - 261663 := jbU _ _ (by omega) (by omega)
 obtain ⟨v, hv⟩ := exq (p * 631305 - 261663)
 rw [← hv] at e1 ⊢
 by_cases h0 : v < 0
 ·have e2 := shr_neg v 21 h0
  have e3 := shr21_any v
  refine jaf Tryz.func201 rfl rfl (nbl rfl) ?_
  simp only [go_sem, Tryz.ntmps201]
  repeat (refine jaa rfl ?_; (try simp only [go_sem, e0, e1, e2, e3]); fail_if_success refine stk ?_)
  exact jad ⟨rfl, _, by simp only [go_sem, Tryz.results201], rfl, rfl⟩
 ·have e2 := shr21_pos v (by omega)
  refine jaf Tryz.func201 rfl rfl (nbl rfl) ?_
  simp only [go_sem, Tryz.ntmps201]
  repeat (refine jaa rfl ?_; (try simp only [go_sem, e0, e1, e2]); fail_if_success refine stk ?_)
  exact jad ⟨rfl, _, by simp only [go_sem, Tryz.results201], rfl, rfl⟩
theorem conv_iun (n : Int) : jaG pZ 3 250 (.int .i64 n) = some (.int .u64 (jak .u64 n)) := by
 simp only [jaG, Tryz.underlying3, Tryz.underlying250]
theorem jdl (n : Int) : jaG pZ 110 3 (.int .u64 n) = some (.int .i64 (jak .i64 n)) := by
 simp only [jaG, Tryz.underlying3, Tryz.underlying110]
theorem wrapW (n : Int) : ∃ w, jak .u64 n = .ofNat (W w) := ⟨(n % 18446744073709551616).toNat, by rw [wrap_u64, W_of]; omega⟩
theorem wAdd3 (a : Nat) : jak .u64 (Int.add (.ofNat (W a)) 3) = .ofNat (W (W a + 3)) := jh4 _ 3
theorem wAddz (a : Nat) : jak .u64 (Int.add (.ofNat (W a)) 0) = .ofNat (W (W a + 0)) := jh4 _ 0
set_option maxHeartbeats 4000000 in
theorem jje (a : Nat) (n : Int) : ∃ r, ∀ {X : XT} {g : Nat} {μ : Mem}, 10 ≤ g → aFun pZ (jaj pZ X S0 g) 205 [u a, .int .i64 n] μ = some (u r, μ) := by
 obtain ⟨w, hw⟩ := wrapW n
 refine ⟨?_, fun {X g μ} hg => ?_⟩
 rotate_left 1
 ·obtain ⟨k, rfl⟩ := gle hg
  refine jaF ?_
  refine jaf Tryz.func205 rfl rfl (nbl rfl) ?_
  simp only [go_sem, Tryz.ntmps205]
  repeat (refine jaa rfl ?_; (try simp only [go_sem, conv_iun, hw, wAdd]); fail_if_success refine stk ?_)
  refine jad ?_
  refine ⟨rfl, _, ?_, rfl, rfl⟩
  simp only [go_sem, Tryz.results205]
  rfl
set_option maxHeartbeats 4000000 in
theorem ceil_ex (a : Nat) : ∃ r, ∀ {X : XT} {g : Nat} {μ : Mem}, 10 ≤ g → aFun pZ (jaj pZ X S0 g) 206 [u a] μ = some (u r, μ) := by
 refine ⟨?_, fun {X g μ} hg => ?_⟩
 rotate_left 1
 ·obtain ⟨k, rfl⟩ := gle hg
  refine jaF ?_
  refine jaf Tryz.func206 rfl rfl (nbl rfl) ?_
  simp only [go_sem, Tryz.ntmps206]
  repeat (refine jaa rfl ?_; (try simp only [go_sem, wAdd3, wShr2]); fail_if_success refine stk ?_)
  refine jad ?_
  refine ⟨rfl, _, ?_, rfl, rfl⟩
  simp only [go_sem, Tryz.results206]
  rfl
set_option maxHeartbeats 4000000 in
theorem floor_ex (a : Nat) : ∃ r, ∀ {X : XT} {g : Nat} {μ : Mem}, 10 ≤ g → aFun pZ (jaj pZ X S0 g) 207 [u a] μ = some (u r, μ) := by
 refine ⟨?_, fun {X g μ} hg => ?_⟩
 rotate_left 1
 ·obtain ⟨k, rfl⟩ := gle hg
  refine jaF ?_
  refine jaf Tryz.func207 rfl rfl (nbl rfl) ?_
  simp only [go_sem, Tryz.ntmps207]
  repeat (refine jaa rfl ?_; (try simp only [go_sem, wAddz, wShr2]); fail_if_success refine stk ?_)
  refine jad ?_
  refine ⟨rfl, _, ?_, rfl, rfl⟩
  simp only [go_sem, Tryz.results207]
  rfl
end
end Go.Proofs.YtlkenchibdeinaaGreatDoor.ce
