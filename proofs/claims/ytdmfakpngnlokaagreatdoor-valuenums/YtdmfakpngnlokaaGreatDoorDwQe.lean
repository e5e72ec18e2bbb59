/-
  distafflaw18.ValueNums, part Qe: its walk and its law. No conditions.
-/
import Derived.Test.YtdmfakpngnlokaaGreatDoorDwQd
set_option linter.all false
set_option maxRecDepth 20000
set_option maxHeartbeats 8000000
namespace Go.Proofs.YtdmfakpngnlokaaGreatDoor.nu
open YtdmfakpngnlokaaGreatDoor.Ev
noncomputable section
theorem jfr {μ : Mem} {n : Nat} (h : μ.next ≤ n) : Grow μ ⟨μ.obs, n⟩ := ⟨h, fun _ _ => rfl⟩
theorem and1 (a : Nat) (h : a < 9223372036854775808) : jbm Nat.land .i64 .i64 (.ofNat a) 1 = some (.int .i64 (.ofNat (a &&& 1))) := by
 unfold jbm
 simp only [decide_true, jbH]
 rw [show Nat.blt a 18446744073709551616 = true from by simp; omega]
 show some (Value.int .i64 (jak .i64 (.ofNat (a &&& 1)))) = _
 rw [q64 _ (Nat.lt_of_le_of_lt Nat.and_le_right (by decide))]
theorem jg8 (a : Nat) : aDiv false .u64 .u64 (.ofNat (W a)) 10 = some (.int .u64 (.ofNat (W (W a / 10)))) := by
 rw [jiv (W_lt a), W_of (Nat.lt_of_le_of_lt (Nat.div_le_self _ _) (W_lt a))]
theorem big_eq (a : Nat) : ieq (.ofNat (W a)) 9223372036854775808 = decide (W a = 9223372036854775808) := jbo _ _ 9223372036854775808 rfl
def ShA (m : Nat) (e p : Int) (mn mx od : Nat) : Prop := W m = 9223372036854775808 ∧ -1085 < e ∧ p = -(((e + 11) * 631305 - 261663) / 2097152) ∧ mn = W m + 18446744073709551104 ∧ mx = W m + 1024 ∧ od = W (W m / 2 ^ 11) &&& 1
def ShB (m : Nat) (e p : Int) (mn mx od : Nat) : Prop := ¬ (W m = 9223372036854775808 ∧ -1085 < e) ∧ -1085 ≤ e ∧ p = -((e + 11) * 78913 / 262144) ∧ mn = W m + 18446744073709550592 ∧ mx = W m + 1024 ∧ od = W (W m / 2 ^ 11) &&& 1
def ShC (m : Nat) (e p : Int) (mn mx od : Nat) : Prop := e < -1085 ∧ p = 324 ∧ ∃ z : Nat, (z : Int) = -1074 - e ∧ mn = W m + (18446744073709551616 - W (1 * 2 ^ (z - 1))) ∧ mx = W m + W (1 * 2 ^ (z - 1)) ∧ od = W (W m / 2 ^ z) &&& 1
theorem sh_ways (m : Nat) (e : Int) (h1 : -1138 ≤ e) (h2 : e ≤ 980) : ∃ p mn mx od, (ShA m e p mn mx od ∨ ShB m e p mn mx od ∨ ShC m e p mn mx od) ∧ -340 ≤ p ∧ p ≤ 340 ∧ e + p * 108853 / 32768 + 3 ≤ 0 := by
 by_cases ha : W m = 9223372036854775808 ∧ -1085 < e
 ·exact ⟨_, _, _, _, .inl ⟨ha.1, ha.2, rfl, rfl, rfl, rfl⟩, by omega, by omega, by omega⟩
 ·by_cases hb : -1085 ≤ e
  ·exact ⟨_, _, _, _, .inr (.inl ⟨ha, hb, rfl, rfl, rfl, rfl⟩), by omega, by omega, by omega⟩
  ·exact ⟨_, _, _, _, .inr (.inr ⟨by omega, rfl, (-1074 - e).toNat, by omega, rfl, rfl, rfl⟩), by omega, by omega, by omega⟩
theorem short_ex (m : Nat) (e : Int) (h1 : -1138 ≤ e) (h2 : e ≤ 980) : ∃ (d : Nat) (p : Int), -400 ≤ p ∧ p ≤ 400 ∧ ∀ {X : XT} {g : Nat} {μ : Mem}, Lay μ → 300 ≤ g →
  ∃ μ', aFun pZ (jai pZ X S0 g) 186 [u m, .int .i64 e] μ = some (.tuple #[u d, .int .i64 p], μ') ∧ Grow μ μ' := by
 obtain ⟨p, mn, mx, od, hway, hp1, hp2, hlp0⟩ := sh_ways m e h1 h2
 obtain ⟨lp, hlp⟩ := exq (p * 108853 / 32768)
 rw [← hlp] at hlp0
 have hl1 : -1200 < lp ∧ lp < 1200 := by omega
 obtain ⟨sn, hsn⟩ : ∃ sn : Nat, -(e + lp + 3) = .ofNat sn := Int.eq_ofNat_of_zero_le (by omega)
 have hsn1 : sn < 1000000 := by have : ((sn : Nat) : Int) = -(e + lp + 3) := hsn.symm; omega
 obtain ⟨k, hk⟩ : ∃ k : Nat, p - (-348) = .ofNat k := Int.eq_ofNat_of_zero_le (by omega)
 have hk1 : k < 696 := by have : ((k : Nat) : Int) = p - (-348) := hk.symm; omega
 have hodl : od ≤ 1 := by
  rcases hway with h | h | h
  ·rw [h.2.2.2.2.2]; exact Nat.and_le_right
  ·rw [h.2.2.2.2.2]; exact Nat.and_le_right
  ·obtain ⟨_, _, z, _, _, _, h⟩ := h
   rw [h]; exact Nat.and_le_right
 obtain ⟨r1, d1, u1⟩ := je9 mn (hiT k) (loT k) sn hsn1
 obtain ⟨r2, n1⟩ := jjw r1 (.ofNat od)
 obtain ⟨dmin, ce⟩ := ceil_ex r2
 obtain ⟨r3, d3, u3⟩ := je9 mx (hiT k) (loT k) sn hsn1
 obtain ⟨r4, n3⟩ := jjw r3 (-(od : Int))
 obtain ⟨dmax, fl⟩ := floor_ex r4
 obtain ⟨r5, d5, u5⟩ := je9 m (hiT k) (loT k) sn hsn1
 obtain ⟨r6, ro⟩ := round_ex r5
 obtain ⟨t1, ht1⟩ := eqx (ilt (.ofNat (W (W (W dmax / 10) * 10))) (.ofNat (W dmin)))
 obtain ⟨t2, ht2⟩ := eqx (ilt (.ofNat (W dmin)) (.ofNat (W dmax)))
 refine ⟨(if t1 = false then W dmax / 10 else if t2 = true then r6 else dmin), (if t1 = false then -(p - 1) else -p), by split <;> omega, by split <;> omega, fun {X g μ} hL hg => ?_⟩
 obtain ⟨n, rfl⟩ := gle hg
 have hb : Blk ⟨μ.obs.set μ.next obS, μ.next + 1⟩ μ.next 3 279 := ⟨_, _, _, _, by show T.get _ _ = _; rw [T.get_set, if_pos rfl]; rfl⟩
 obtain ⟨c0, c1, c2⟩ := three (a := u (hiT k)) (b := u (loT k)) (c := .int .i64 (.ofNat sn)) hb
 obtain ⟨μ2, hμ2⟩ := exq (putL (putL (putL ⟨μ.obs.set μ.next obS, μ.next + 1⟩ μ.next 0 [u (hiT k)]) μ.next 1 [u (loT k)]) μ.next 2 [.int .i64 (.ofNat sn)] : Mem)
 have hpre : ∀ g, 40 ≤ g → aFun pZ (jai pZ X S0 g) 216 [.pointer (some ⟨μ.next, 0, none⟩), .int .i64 e, .int .i64 p, .int .i64 lp] ⟨μ.obs.set μ.next obS, μ.next + 1⟩ = some (.tuple #[], μ2) := fun g hg => by rw [hμ2]; exact jis hg (hL.grow (jbc μ obS)) hb hL.lt hk1 hk (by omega) (by omega) (by omega) (by omega) hsn
 have g2 : Grow μ μ2 := by rw [hμ2]; exact ((((jbc μ obS).put_new (rzN _)).put_new (rzN _)).put_new (rzN _))
 rw [← hμ2] at c0 c1 c2
 have cc : ∀ y o, jad ⟨μ2.obs, y⟩ μ.next o = jad μ2 μ.next o := fun y o => rfl
 have a1 : ∀ g μ, 20 ≤ g → aFun pZ (jai pZ X S0 g) 217 [.int .i64 p] μ = some (.int .i64 lp, μ) := fun g μ h => by rw [hlp]; exact log2_eq h (by omega) (by omega)
 have a2 : ∀ g, 80 ≤ g → aFun pZ (jai pZ X S0 g) 218 [u mn, .pointer (some ⟨μ.next, 0, none⟩)] μ2 = some (u r1, ⟨μ2.obs, μ2.next + d1⟩) := fun g h => u1 h c0 c1 c2
 have a3 : ∀ g μ, 10 ≤ g → aFun pZ (jai pZ X S0 g) 219 [u r1, .int .i64 (.ofNat od)] μ = some (u r2, μ) := fun g μ h => n1 h
 have a4 : ∀ g μ, 10 ≤ g → aFun pZ (jai pZ X S0 g) 220 [u r2] μ = some (u dmin, μ) := fun g μ h => ce h
 have a5 : ∀ g, 80 ≤ g → aFun pZ (jai pZ X S0 g) 218 [u mx, .pointer (some ⟨μ.next, 0, none⟩)] ⟨μ2.obs, μ2.next + d1⟩ = some (u r3, ⟨μ2.obs, μ2.next + d1 + d3⟩) := fun g h => u3 (μ := ⟨μ2.obs, μ2.next + d1⟩) h c0 c1 c2
 have a6 : ∀ g μ, 10 ≤ g → aFun pZ (jai pZ X S0 g) 219 [u r3, .int .i64 (-(od : Int))] μ = some (u r4, μ) := fun g μ h => n3 h
 have a7 : ∀ g μ, 10 ≤ g → aFun pZ (jai pZ X S0 g) 221 [u r4] μ = some (u dmax, μ) := fun g μ h => fl h
 have a8 : ∀ g, 80 ≤ g → aFun pZ (jai pZ X S0 g) 218 [u m, .pointer (some ⟨μ.next, 0, none⟩)] ⟨μ2.obs, μ2.next + d1 + d3⟩ = some (u r5, ⟨μ2.obs, μ2.next + d1 + d3 + d5⟩) := fun g h => u5 (μ := ⟨μ2.obs, μ2.next + d1 + d3⟩) h c0 c1 c2
 have a9 : ∀ g μ, 10 ≤ g → aFun pZ (jai pZ X S0 g) 222 [u r5] μ = some (u r6, μ) := fun g μ h => ro h
 have np1 : ∀ (ρ : Operand → Value) (d : Option Tmp) (t ty : TypeId) (a : Operand) (ps : String) (af : Array Edge) (gd : Option (Nat × Bool)), ρ a = .int .i64 (.ofNat od) → jaC pZ ρ ⟨d, .unOp .neg t a, ty, ps, af, gd⟩ = some (.int .i64 (-(od : Int))) := fun ρ d t ty a ps af gd h => jce h (by have : (Int.ofNat od) = (od : Int) := rfl; omega) (by have : (Int.ofNat od) = (od : Int) := rfl; omega)
 obtain ⟨lq, hlq⟩ := exq (-p : Int)
 have np2 : ∀ (ρ : Operand → Value) (d : Option Tmp) (t ty : TypeId) (a : Operand) (ps : String) (af : Array Edge) (gd : Option (Nat × Bool)), ρ a = .int .i64 lq → jaC pZ ρ ⟨d, .unOp .neg t a, ty, ps, af, gd⟩ = some (.int .i64 p) := fun ρ d t ty a ps af gd h => by rw [jce h (by omega) (by omega)]; congr 2; omega
 have np3 : ∀ (ρ : Operand → Value) (d : Option Tmp) (t ty : TypeId) (a : Operand) (ps : String) (af : Array Edge) (gd : Option (Nat × Bool)), ρ a = .int .i64 p → jaC pZ ρ ⟨d, .unOp .neg t a, ty, ps, af, gd⟩ = some (.int .i64 (-p)) := fun ρ d t ty a ps af gd h => jce h (by omega) (by omega)
 have np4 : ∀ (ρ : Operand → Value) (d : Option Tmp) (t ty : TypeId) (a : Operand) (ps : String) (af : Array Edge) (gd : Option (Nat × Bool)), ρ a = .int .i64 (p - 1) → jaC pZ ρ ⟨d, .unOp .neg t a, ty, ps, af, gd⟩ = some (.int .i64 (-(p - 1))) := fun ρ d t ty a ps af gd h => jce h (by omega) (by omega)
 have qp : jak .i64 (Int.sub p 1) = p - 1 := jdO p 1 (by omega) (by omega)
 have z0 : jak .u64 (Int.mul 8 8) = 64 := rfl
 have k1 : ieq 64 32 = false := rfl
 have k2 : ieq 64 64 = true := rfl
 have z1 : jak .i64 (Int.sub 63 52) = 11 := rfl
 have z2 : jak .i64 (Int.sub 11 2) = 9 := rfl
 have z3 : jak .i64 (Int.sub 11 1) = 10 := rfl
 have s1 : jaH true .u64 1 9 = some (.int .u64 512) := rfl
 have s2 : jaH true .u64 1 10 = some (.int .u64 1024) := rfl
 have s3 := wShr m 11 (by decide)
 have s3' : jaH false .u64 (.ofNat (W m)) 11 = some (.int .u64 (.ofNat (W (W m / 2 ^ 11)))) := s3
 have y1 : jak .u64 (Int.sub (.ofNat (W m)) 512) = .ofNat (W (W m + 18446744073709551104)) := w_sub _ 512 (by decide)
 have y2 : jak .u64 (Int.sub (.ofNat (W m)) 1024) = .ofNat (W (W m + 18446744073709550592)) := w_sub _ 1024 (by decide)
 have y3 : jak .u64 (Int.add (.ofNat (W m)) 1024) = .ofNat (W (W m + 1024)) := jie _ 1024
 have hm64 := W_lt m
 have hsm : ∀ z, 11 ≤ z → W (W m / 2 ^ z) < 9223372036854775808 := fun z hz => by
  have h2 : (2 : Nat) ^ 11 ≤ 2 ^ z := Nat.pow_le_pow_right (by decide) hz
  have h3 : W m / 2 ^ z ≤ W m / 2 ^ 11 := Nat.div_le_div_left h2 (by decide)
  have h4 : W m / 2 ^ 11 < 9223372036854775808 := by omega
  rw [W_of (by omega)]
  omega
 have v1 : jak .i64 (.ofNat (W (W m / 2 ^ 11))) = .ofNat (W (W m / 2 ^ 11)) := q64 _ (hsm 11 (rzN _))
 have v2 := and1 (W (W m / 2 ^ 11)) (hsm 11 (rzN _))
 have b1 := big_eq m
 have i1 : ilt (-1085) e = decide (-1085 < e) := jfo _ _
 have i2 : ilt e (-1085) = decide (e < -1085) := jfo _ _
 have key : EndsF (aFun pZ (jai pZ X S0 (n + 300)) 186 [u m, .int .i64 e] μ) fun r μ' => r = .tuple #[u (if t1 = false then W dmax / 10 else if t2 = true then r6 else dmin), .int .i64 (if t1 = false then -(p - 1) else -p)] ∧ Grow μ μ' := by
  rcases hway with ⟨w1, w2, w3, w4, w5, w6⟩ | ⟨w1, w2, w3, w4, w5, w6⟩ | ⟨w1, w3, z, w2, w4, w5, w6⟩
  ·have lk : ∀ g μ, 20 ≤ g → aFun pZ (jai pZ X S0 g) 215 [.int .i64 (e + 11)] μ = some (.int .i64 lq, μ) := fun g μ h => by rw [hlq, w3, Int.neg_neg]; exact skewed_eq h (by omega) (by omega)
   have q1 : jak .i64 (Int.add e 11) = e + 11 := jeO e 11 (by omega) (by omega)
   rw [← w4] at y1
   rw [← w5] at y3
   rw [← w6] at v2
   rw [rzU w1] at b1
   rw [rzU w2] at i1
   cases t1 <;> cases t2
   all_goals
    refine jac Tryz.func186 rfl rfl (nbl rfl) ?_
    simp only [go_sem, Tryz.ntmps186]
    repeat ((first | refine jaa rfl ?_ | refine jaj rfl ?_); (try simp only [go_sem, z0, k1, k2, z1, z2, z3, s1, s2, s3', y1, y2, y3, v1, v2, b1, i1, i2, q1, jcL, lk, np1, np2, np3, np4, qp, a1, hpre, a2, a3, a4, a5, a6, a7, jg8, jg7, ht1, ht2, a8, a9, Nat.reduceLeDiff]); fail_if_success refine stk ?_)
    refine jae ?_
    refine ⟨rfl, ?_⟩
    simp only [go_sem, Tryz.results186]
    exact ⟨_, rfl, rfl, g2.trans (jfr (by omega))⟩
  ·have lk : ∀ g μ, 20 ≤ g → aFun pZ (jai pZ X S0 g) 181 [.int .i64 (e + 11)] μ = some (.int .i64 lq, μ) := fun g μ h => by rw [hlq, w3, Int.neg_neg]; exact jgC h (by omega) (by omega)
   have q1 : jak .i64 (Int.add e 11) = e + 11 := jeO e 11 (by omega) (by omega)
   rw [← w4] at y2
   rw [← w5] at y3
   rw [← w6] at v2
   rw [rzV (by omega : ¬ e < -1085)] at i2
   by_cases hbig : W m = 9223372036854775808
   ·rw [rzU hbig] at b1
    rw [rzV (fun h => w1 ⟨hbig, h⟩)] at i1
    cases t1 <;> cases t2
    all_goals
     refine jac Tryz.func186 rfl rfl (nbl rfl) ?_
     simp only [go_sem, Tryz.ntmps186]
     repeat ((first | refine jaa rfl ?_ | refine jaj rfl ?_); (try simp only [go_sem, z0, k1, k2, z1, z2, z3, s1, s2, s3', y1, y2, y3, v1, v2, b1, i1, i2, q1, jcL, lk, np1, np2, np3, np4, qp, a1, hpre, a2, a3, a4, a5, a6, a7, jg8, jg7, ht1, ht2, a8, a9, Nat.reduceLeDiff]); fail_if_success refine stk ?_)
     refine jae ?_
     refine ⟨rfl, ?_⟩
     simp only [go_sem, Tryz.results186]
     exact ⟨_, rfl, rfl, g2.trans (jfr (by omega))⟩
   ·rw [rzV hbig] at b1
    cases t1 <;> cases t2
    all_goals
     refine jac Tryz.func186 rfl rfl (nbl rfl) ?_
     simp only [go_sem, Tryz.ntmps186]
     repeat ((first | refine jaa rfl ?_ | refine jaj rfl ?_); (try simp only [go_sem, z0, k1, k2, z1, z2, z3, s1, s2, s3', y1, y2, y3, v1, v2, b1, i1, i2, q1, jcL, lk, np1, np2, np3, np4, qp, a1, hpre, a2, a3, a4, a5, a6, a7, jg8, jg7, ht1, ht2, a8, a9, Nat.reduceLeDiff]); fail_if_success refine stk ?_)
     refine jae ?_
     refine ⟨rfl, ?_⟩
     simp only [go_sem, Tryz.results186]
     exact ⟨_, rfl, rfl, g2.trans (jfr (by omega))⟩
  ·have lk : ∀ g μ, 20 ≤ g → aFun pZ (jai pZ X S0 g) 181 [.int .i64 (-1074)] μ = some (.int .i64 lq, μ) := fun g μ h => by rw [hlq, w3]; exact jgC h (by omega) (by omega)
   have q1 : jak .i64 (Int.sub (-1085) e) = -1085 - e := jdO _ _ (by omega) (by omega)
   have q2 : jak .i64 (Int.add 11 (-1085 - e)) = .ofNat z := by rw [jeO 11 (-1085 - e) (by omega) (by omega)]; show _ = (z : Int); omega
   have q3 : jak .i64 (Int.add e (.ofNat z)) = -1074 := by have h := jeO e (z : Int) (by omega) (by omega); rw [(by omega : e + (z : Int) = -1074)] at h; exact h
   have q4 : jak .i64 (Int.sub (.ofNat z) 1) = .ofNat (z - 1) := jaZ z 1 (by omega) (by omega)
   have s4 : jaH true .u64 1 (.ofNat (z - 1)) = some (.int .u64 (.ofNat (W (1 * 2 ^ (z - 1))))) := w_shl 1 (z - 1) (by omega)
   have y4 := wSub m (1 * 2 ^ (z - 1))
   have y5 := wAdd m (1 * 2 ^ (z - 1))
   have s5 := wShr m z (by omega)
   have v3 : jak .i64 (.ofNat (W (W m / 2 ^ z))) = .ofNat (W (W m / 2 ^ z)) := q64 _ (hsm z (by omega))
   have v4 := and1 (W (W m / 2 ^ z)) (hsm z (by omega))
   rw [← w4] at y4
   rw [← w5] at y5
   rw [← w6] at v4
   rw [rzU w1] at i2
   rw [rzV (by omega : ¬ -1085 < e)] at i1
   by_cases hbig : W m = 9223372036854775808
   ·rw [rzU hbig] at b1
    cases t1 <;> cases t2
    all_goals
     refine jac Tryz.func186 rfl rfl (nbl rfl) ?_
     simp only [go_sem, Tryz.ntmps186]
     repeat ((first | refine jaa rfl ?_ | refine jaj rfl ?_); (try simp only [go_sem, z0, k1, k2, z1, z2, z3, s1, s2, s3', y1, y2, y3, v1, v2, b1, i1, i2, q1, jcL, lk, np1, np2, np3, np4, qp, a1, hpre, a2, a3, a4, a5, a6, a7, jg8, jg7, ht1, ht2, a8, a9, Nat.reduceLeDiff, q2, q3, q4, s4, y4, y5, s5, v3, v4]); fail_if_success refine stk ?_)
     refine jae ?_
     refine ⟨rfl, ?_⟩
     simp only [go_sem, Tryz.results186]
     exact ⟨_, rfl, rfl, g2.trans (jfr (by omega))⟩
   ·rw [rzV hbig] at b1
    cases t1 <;> cases t2
    all_goals
     refine jac Tryz.func186 rfl rfl (nbl rfl) ?_
     simp only [go_sem, Tryz.ntmps186]
     repeat ((first | refine jaa rfl ?_ | refine jaj rfl ?_); (try simp only [go_sem, z0, k1, k2, z1, z2, z3, s1, s2, s3', y1, y2, y3, v1, v2, b1, i1, i2, q1, jcL, lk, np1, np2, np3, np4, qp, a1, hpre, a2, a3, a4, a5, a6, a7, jg8, jg7, ht1, ht2, a8, a9, Nat.reduceLeDiff, q2, q3, q4, s4, y4, y5, s5, v3, v4]); fail_if_success refine stk ?_)
     refine jae ?_
     refine ⟨rfl, ?_⟩
     simp only [go_sem, Tryz.results186]
     exact ⟨_, rfl, rfl, g2.trans (jfr (by omega))⟩
 obtain ⟨r, μ', h1, rfl, h2⟩ := key
 exact ⟨μ', h1, h2⟩
end
end Go.Proofs.YtdmfakpngnlokaaGreatDoor.nu
