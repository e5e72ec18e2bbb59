/-
  distafflaw10.CodeEffects, part Qi: its walk and its law. No conditions.
-/
import Derived.Test.YtlkenchibdeinaaGreatDoorDwQg
import Derived.Test.YtlkenchibdeinaaGreatDoorDwQh
set_option linter.all false
set_option maxRecDepth 20000
set_option maxHeartbeats 8000000
namespace Go.Proofs.YtlkenchibdeinaaGreatDoor.ce
open YtlkenchibdeinaaGreatDoor.Ev
noncomputable section
def jb7 (X : XT) : Prop := ∀ a μ, X 154 [.float .f64 a] μ = some (.int .u64 (.ofNat a), μ)
theorem go_bits2 {X : XT} {ev : ET} (args : List Value) (μ : Mem) : aGo pZ X (jbj pZ ev S0) 154 args μ = X 154 args μ := by
 unfold aGo
 rw [Tryz.func154]
 rfl
def zB32 : List Value := List.replicate 32 (.int .u8 0)
def obZ : Ob := .cells 32 203 zB32.toArray .e 0 0 false false
set_option maxRecDepth 100000 in
@[go_sem] theorem al_32 : jcS pZ 203 = some (obZ, fun id => .pointer (some ⟨id, 0, none⟩)) := by kernel_rfl
set_option maxRecDepth 100000 in
theorem zB_all : ((List.range 32).all fun k => isZ (cellAt zB32.toArray .e k)) = true := by kernel_rfl
theorem Bu.new (μ : Mem) : Bu ⟨μ.obs.set μ.next obZ, Nat.add μ.next 1⟩ μ.next (fun _ => 0) := by
 have hg : (μ.obs.set μ.next obZ).get μ.next = some obZ := by rw [T.get_set, if_pos rfl]
 refine ⟨⟨_, _, _, _, hg⟩, fun j hj => ?_⟩
 unfold jal
 show (match jb3 ((μ.obs.set μ.next obZ).get μ.next) with | some (n, zero, over) => if j < n then some (cellAt zero over j) else none | none => none) = _
 rw [hg]
 show (if j < 32 then some (cellAt zB32.toArray .e j) else none) = _
 rw [if_pos hj, isZ_eq (List.all_eq_true.1 zB_all j (List.mem_range.2 hj))]
 rfl
theorem sl32 (r : Rg) (x : Operand) {i : Nat} (h : aev pZ r x = .pointer (some ⟨i, 0, none⟩)) : ja0 pZ (aev pZ r) 203 x none none none = some (.slice (some ⟨i, 0, none⟩) 32 64) := by
 unfold ja0
 simp only [h, Tryz.underlying203, i_u8, jbb, jbD]
 rfl
theorem and2047 (a : Nat) (h : a < 9223372036854775808) : jbA Nat.land .i64 .i64 (.ofNat a) 2047 = some (.int .i64 (.ofNat (a &&& 2047))) := by
 unfold jbA
 simp only [decide_true, jcB]
 rw [show Nat.blt a 18446744073709551616 = true from by simp; omega]
 show some (Value.int .i64 (jak .i64 (.ofNat (a &&& 2047)))) = _
 rw [q64 _ (Nat.lt_of_le_of_lt Nat.and_le_right (by decide))]
theorem wShr63 (a : Nat) : jaQ false .u64 (.ofNat (W a)) 63 = some (.int .u64 (.ofNat (W (W a / 2 ^ 63)))) := wShr a 63 (by decide)
theorem wOrH (a : Nat) : jbA Nat.lor .u64 .u64 (.ofNat (W a)) 4503599627370496 = some (.int .u64 (.ofNat (W (W a ||| 4503599627370496)))) := w_or _ 4503599627370496 (W_lt a) (by decide)
theorem wAndL52 (a : Nat) : jbA Nat.land .u64 .u64 (.ofNat (W a)) 4503599627370495 = some (.int .u64 (.ofNat (W (W a &&& 4503599627370495)))) := jfJ _ 4503599627370495 (W_lt a) (by decide)
theorem wShr52d (a : Nat) : jaQ false .u64 (.ofNat (W a)) 52 = some (.int .u64 (.ofNat (W (W a / 2 ^ 52)))) := wShr a 52 (by decide)
def EfgOk (c : Int) (neg : Bool) (F : Nat → Nat) (nd : Nat) (dp prec : Int) (s : List Nat) : Prop := ∀ {X : XT} {g b : Nat} {μ : Mem} {v sv : Value} {xs : List Nat}, (0 < nd ∨ 0 < dp → sv = .slice (some ⟨b, 0, none⟩) 32 64 ∧ Bu μ b F ∧ b < μ.next ∧ ¬ SlAt v b) → Bf μ v xs → xs.length ≤ 1000 → 9000 ≤ g →
  ∃ v' μ', aFun pZ (jaj pZ X S0 g) 157 [v, .bool neg, sv, .int .i64 dp, .int .i64 (.ofNat nd), .int .i64 prec, .int .u8 c, .bool true] μ = some (v', μ') ∧ Bf μ' v' (xs ++ s) ∧ Fr μ μ' v v'
def Fin1 (f : Nat) : Prop := W (W f / 2 ^ 52) &&& 2047 ≠ 2047
theorem Bf.not_new {μ : Mem} {v : Value} {xs : List Nat} (h : Bf μ v xs) : ¬ SlAt v μ.next := by
 obtain ⟨i, m, z, ov, fx, sh, c, rfl, _, _, hi, _⟩ := h
 intro hs
 have := jdS hs
 omega
def StL (v : Value) (μ : Mem) (c : Int) (neg : Bool) (e1 : Int) (M : Nat) (x : Ax) (r : Rg) (m : Mem) : Prop := x = .normal ∧ m = μ ∧ ∃ tm', r = ⟨298, tm', [], none⟩ ∧ jac tm' 0 = v ∧ jac tm' 2 = .int .u8 c ∧ jac tm' 3 = .int .i64 (-1) ∧ jac tm' 11 = .int .i64 52 ∧ jac tm' 12 = .int .i64 (-1023) ∧ jac tm' 13 = .bool neg ∧ jac tm' 14 = .int .i64 e1 ∧ jac tm' 15 = u M
theorem ftoa_c {c : Int} {PR : Nat → Int → Int} (hcc : (c = 102 ∧ PR = fun (nd : Nat) (dp : Int) => if (nd : Int) - dp > 0 then (nd : Int) - dp else 0) ∨ (c = 101 ∧ PR = fun (nd : Nat) (_ : Int) => if (nd : Int) - 1 > 0 then (nd : Int) - 1 else 0)) (f : Nat) (hf : f < 18446744073709551616) (hfin : Fin1 f) {Q : List Nat → Prop} (hE : ∀ (neg : Bool) (F : Nat → Nat) (nd : Nat) (dp prec : Int), nd ≤ 20 → -900 ≤ dp → dp ≤ 900 → (prec = PR nd dp ∨ (prec = -1 ∧ nd = 0 ∧ dp = 0)) → ∃ s, Q s ∧ EfgOk c neg F nd dp prec s) :
  ∃ s, Q s ∧ ∀ {X : XT} {g : Nat} {μ : Mem} {v : Value} {xs : List Nat}, jb7 X → Lay μ → LayP μ → Bf μ v xs → xs.length ≤ 1000 → 9400 ≤ g →
  ∃ v' μ', aFun pZ (jaj pZ X S0 g) 120 [v, .float .f64 f, .int .u8 c, .int .i64 (-1)] μ = some (v', μ') ∧ Bf μ' v' (xs ++ s) ∧ Fr μ μ' v v' := by
 have hfu : W f = f := W_of hf
 obtain ⟨neg, hneg⟩ := eqx ((!ieq (.ofNat (W (W f / 2 ^ 63))) 0))
 obtain ⟨p, hp⟩ := exq (W (W f / 2 ^ 52) &&& 2047)
 have hpl : p ≤ 2047 := by rw [hp]; exact Nat.and_le_right
 have hpn : p ≠ 2047 := by rw [hp]; exact hfin
 obtain ⟨m0, hm0⟩ := exq (W f &&& 4503599627370495)
 obtain ⟨e1, he1⟩ := exq (if p = 0 then 1 else (p : Int) : Int)
 have he1l : 1 ≤ e1 ∧ e1 ≤ 2046 := by split at he1 <;> omega
 obtain ⟨M, hM⟩ := exq (if p = 0 then m0 else W m0 ||| 4503599627370496 : Nat)
 obtain ⟨b, hb, _, hlen⟩ := jgu M
 obtain ⟨dd, pp, hp1, hp2, hsh⟩ := short_ex (Sh (W M) (64 - b)) (e1 + -1023 - (64 - b : Nat) - 52) (by omega) (by omega)
 obtain ⟨nd, hnd, hndg⟩ := ndig_ex dd
 obtain ⟨G, nz, hnz, hsd⟩ := setd_ex dd nd pp hnd (by omega) (by omega)
 obtain ⟨dp, hdp⟩ := exq ((nd : Int) + pp : Int)
 rw [← hdp] at hsd
 obtain ⟨prec, hprec⟩ := exq (PR nz dp : Int)
 obtain ⟨s1, q1, E1⟩ := hE neg (rg 0 nd G fun _ => 0) nz dp prec (by omega) (by omega) (by omega) (.inl hprec)
 obtain ⟨s0, q0, E0⟩ := hE neg (fun _ => 0) 0 0 (-1) (by omega) (by omega) (by omega) (.inr ⟨rfl, rfl, rfl⟩)
 refine ⟨if W M = 0 then s0 else s1, by split <;> assumption, fun {X g μ v xs} hX hL hP hB hx hg => ?_⟩
 obtain ⟨k, rfl⟩ := gle hg
 have hc : ∀ μ', aGo pZ X (jbj pZ (jaj pZ X S0 (k + 9389)) S0) 154 [.float .f64 f] μ' = some (u f, μ') := fun μ' => (go_bits2 _ _).trans ((hX f μ').trans (by rw [u_of hf]))
 have k1 : ieq 64 32 = false := rfl
 have k2 : ieq 64 64 = true := rfl
 have k3 : jak .i64 (Int.add 11 52) = 63 := rfl
 have s63 := wShr63 f
 have s52 := wShr52d f
 have hq : jak .i64 (.ofNat (W (W f / 2 ^ 52))) = .ofNat (W (W f / 2 ^ 52)) := by
  have h1 : W f / 2 ^ 52 < 4096 := by have := W_lt f; omega
  rw [W_of (by omega)]
  exact q64 _ (by omega)
 have a52 : jbA Nat.land .i64 .i64 (.ofNat (W (W f / 2 ^ 52))) 2047 = some (.int .i64 (.ofNat p)) := by
  have h1 : W f / 2 ^ 52 < 4096 := by have := W_lt f; omega
  rw [hp]
  exact and2047 _ (by rw [W_of (by omega)]; omega)
 have k4 : jaQ true .i64 1 11 = some (.int .i64 2048) := rfl
 have k5 : jak .i64 (Int.sub 2048 1) = 2047 := rfl
 have k6 : jaQ true .u64 1 52 = some (.int .u64 4503599627370496) := rfl
 have k7 : jak .u64 (Int.sub 4503599627370496 1) = 4503599627370495 := rfl
 have aM := wAndL52 f
 rw [← hm0] at aM
 have t1 : ieq (.ofNat p) 2047 = false := dF (jaB p 2047 2047 rfl) hpn
 have t0 : ieq (.ofNat p) 0 = decide (p = 0) := jaB p 0 0 rfl
 have key : EndsF (aFun pZ (jaj pZ X S0 (k + 9400)) 120 [v, .float .f64 f, .int .u8 c, .int .i64 (-1)] μ) fun v' μ' => Bf μ' v' (xs ++ if W M = 0 then s0 else s1) ∧ Fr μ μ' v v' := by
  refine jaf Tryz.func120 rfl rfl (nbl rfl) ?_
  simp only [go_sem, Tryz.ntmps120]
  repeat ((first | refine jab rfl ?_ | refine jam rfl ?_); (try simp only [go_sem, k1, k2, k3, hc, s63, hneg]); fail_if_success refine stk ?_)
  refine jaz (n := 9) (ms := [0, 0, 3, 7, 0, 16, 48, 127, 255]) (ord := [0, 1, 2, 3, 4, 5, 6, 7, 8]) (ds := ?_) ?_ ?_ ?_ ?_ ?_ ?_
  rotate_left
  ·kernel_rfl
  ·kernel_rfl
  ·kernel_rfl
  ·rfl
  ·rfl
  repeat (first | (refine ja8 ?_ rfl ?_; (solve | simp only [go_sem, s52, jdl, hq, k4, k5, a52])) | (refine jay (v := ?_) (μ' := ?_) (sn' := ?_) ?_ ?_ rfl ?_; rotate_left 3; (solve | rfl | simp only [go_sem, s52, jdl, hq, k4, k5, a52]); (solve | simp only [jaC, heavy, jaO, jar, go_sem, s52, jdl, hq, k4, k5, a52]; try exact rfl)))
  simp only [dRun, jat, jai]
  repeat ((first | refine jab rfl ?_ | refine jam rfl ?_); (try simp only [go_sem, k6, k7, aM, k4, k5, t1]); fail_if_success refine stk ?_)
  refine rzM (?_ : EndsC _ (StL v ⟨μ.obs, μ.next + 9⟩ c neg e1 M)) ?_
  ·by_cases h0 : p = 0
   ·rw [rzU h0] at t0
    rw [if_pos h0] at he1 hM
    have q1 : jak .i64 (Int.add (.ofNat p) 1) = e1 := by rw [h0, he1]; rfl
    repeat ((first | refine jab rfl ?_ | refine jam rfl ?_); (try simp only [go_sem, t0, q1]); fail_if_success refine stk ?_)
    exact ⟨by trivial, by trivial, _, rfl, by simp only [go_sem], by simp only [go_sem], by simp only [go_sem], by simp only [go_sem], by simp only [go_sem], by simp only [go_sem], by simp only [go_sem], by rw [hM]; simp only [go_sem]⟩
   ·rw [rzV h0] at t0
    rw [if_neg h0] at he1 hM
    have q1 := wOrH m0
    rw [← hM] at q1
    repeat ((first | refine jab rfl ?_ | refine jam rfl ?_); (try simp only [go_sem, t0, k6, q1]); fail_if_success refine stk ?_)
    exact ⟨by trivial, by trivial, _, rfl, by simp only [go_sem], by simp only [go_sem], by simp only [go_sem], by simp only [go_sem], by simp only [go_sem], by simp only [go_sem], by rw [he1]; simp only [go_sem]; rfl, by simp only [go_sem]⟩
  rintro x r m ⟨rfl, hm9, tm1, rfl, z0, z2, z3, z11, z12, z13, z14, z15⟩
  simp only [jai]
  have g9 : Grow μ m := by rw [hm9]; exact jeO (Nat.le_add_right _ _)
  have hL := hL.grow g9
  have hP := hP.grow g9
  have hB := hB.grow g9
  clear hm9
  have q2 : jak .i64 (Int.add e1 (-1023)) = e1 + -1023 := jcJ e1 (-1023) (by omega) (by omega)
  have c1 : ieq c 98 = false := by rcases hcc with ⟨rfl, _⟩ | ⟨rfl, _⟩ <;> rfl
  have c2 : ieq c 120 = false := by rcases hcc with ⟨rfl, _⟩ | ⟨rfl, _⟩ <;> rfl
  have c3 : ieq c 88 = false := by rcases hcc with ⟨rfl, _⟩ | ⟨rfl, _⟩ <;> rfl
  have n1 : ilt (-1) 0 = true := rfl
  have tM : ieq (.ofNat (W M)) 0 = decide (W M = 0) := jaB _ 0 0 rfl
  by_cases hM0 : W M = 0
  ·rw [rzU hM0] at tM
   rw [if_pos hM0]
   obtain ⟨v', μ', r1, B1, F1⟩ := E0 (X := X) (g := k + 9383) (b := 0) (sv := .slice none 0 0) (fun h => by omega) hB hx (by omega)
   have r1 : aFun pZ (jaj pZ X S0 (k + 9383)) 157 [v, .bool neg, .slice none 0 0, .int .i64 0, .int .i64 0, .int .i64 (-1), .int .u8 c, .bool true] m = some (v', μ') := r1
   repeat ((first | refine jab rfl ?_ | refine jam rfl ?_); (try simp only [go_sem, z0, z2, z3, z11, z12, z13, z14, z15, q2, c1, c2, c3, n1, tM, r1]); fail_if_success refine stk ?_)
   exact jad ⟨rfl, _, by simp only [go_sem, Tryz.results120], B1, (Fr.of_grow v g9).trans F1⟩
  ·rw [rzV hM0] at tM
   rw [if_neg hM0]
   have hb64 : ∀ μ, aFun pZ (jaj pZ X S0 (k + 9381)) 158 [u M] μ = some (.int .i64 (.ofNat b), μ) := fun μ => hlen (by omega)
   have q3 : jak .i64 (Int.sub 64 (.ofNat b)) = .ofNat (64 - b) := by
    have h := jbU 64 (b : Int) (by omega) (by omega)
    rw [(by omega : (64 : Int) - (b : Int) = ((64 - b : Nat) : Int))] at h
    exact h
   have q4 : jaQ true .u64 (.ofNat (W M)) (.ofNat (64 - b)) = some (.int .u64 (.ofNat (W (Sh (W M) (64 - b))))) := wShl M (64 - b) (by omega)
   have q5 : jak .i64 (Int.sub (e1 + -1023) (.ofNat (64 - b))) = e1 + -1023 - (64 - b : Nat) := jbU _ ((64 - b : Nat) : Int) (by omega) (by omega)
   have q6 : jak .i64 (Int.sub (e1 + -1023 - (64 - b : Nat)) 52) = e1 + -1023 - (64 - b : Nat) - 52 := jbU _ 52 (by omega) (by omega)
   have g1 := ja5 m obZ
   have hsl : ∀ r x, aev pZ r x = .pointer (some ⟨m.next, 0, none⟩) → ja0 pZ (aev pZ r) 203 x none none none = some (.slice (some ⟨m.next, 0, none⟩) 32 64) := fun r x h => sl32 r x h
   obtain ⟨μ2, r2, g2⟩ := hsh (X := X) (g := k + 9378) (hL.grow g1) (by omega)
   have r2 : aFun pZ (jaj pZ X S0 (k + 9378)) 167 [u (Sh (W M) (64 - b)), .int .i64 (e1 + -1023 - (64 - b : Nat) - 52)] ⟨m.obs.set m.next obZ, Nat.add m.next 1⟩ = some (.tuple #[u dd, .int .i64 pp], μ2) := r2
   have hU2 : Bu μ2 m.next (fun _ => 0) := by
    have h := Bu.new m
    have hlt : m.next < m.next + 1 := rzQ _
    exact ⟨by obtain ⟨z, ov, fx, sh, e⟩ := h.blk; exact ⟨z, ov, fx, sh, (g2.2 _ hlt).trans e⟩, fun j hj => (jbF g2 hlt j).trans (h.d j hj)⟩
   have hnd2 : ∀ j, aFun pZ (jaj pZ X S0 (k + 9377)) 161 [u dd] ⟨μ2.obs, μ2.next + j⟩ = some (.int .i64 (.ofNat nd), ⟨μ2.obs, μ2.next + j⟩) := fun j => hndg (((hP.grow g1).grow g2).grow (jeO (Nat.le_add_right _ _))) (by omega)
   obtain ⟨μ3, r3, U3, O3⟩ := hsd (X := X) (g := k + 9377) (hU2.up (μ2.next + 11)) (by omega)
   have O4 : μ2.next ≤ μ3.next := rzS (Nat.le_add_right _ _) O3.1
   have g3 : Grow m μ3 := ⟨rzS (rzS g1.1 g2.1) O4, fun j hj => by
    rw [O3.2 j (by have h1 := rzS g1.1 g2.1; show j < μ2.next + 11; omega) (by omega)]
    exact (g1.trans g2).2 j hj⟩
   have hb3 : m.next < μ3.next := rzO (rzO (rzQ _) g2.1) O4
   obtain ⟨v', μ', r4, B4, F4⟩ := E1 (X := X) (g := k + 9375) (b := m.next) (sv := .slice (some ⟨m.next, 0, none⟩) 32 64) (fun h => ⟨rfl, U3, hb3, hB.not_new⟩) (hB.grow g3) hx (by omega)
   have hw1 : jak .i64 (Int.sub (.ofNat nz) dp) = (nz : Int) - dp := jbU (nz : Int) dp (by omega) (by omega)
   have hw2 : jak .i64 (Int.sub (.ofNat nz) 1) = (nz : Int) - 1 := jbU (nz : Int) 1 (by omega) (by omega)
   repeat ((first | refine jab rfl ?_ | refine jam rfl ?_); (try simp only [go_sem, z0, z2, z3, z11, z12, z13, z14, z15, q2, q3, q4, q5, q6, c1, c2, c3, n1, tM, hb64, r2]); fail_if_success refine stk ?_)
   refine jaz (n := 11) (ms := [0, 0, 0, 0, 8, 31, 63, 127, 127, 255, 1023]) (ord := [3, 4, 0, 1, 2, 5, 6, 7, 8, 9, 10]) (ds := ?_) ?_ ?_ ?_ ?_ ?_ ?_
   rotate_left
   ·kernel_rfl
   ·kernel_rfl
   ·kernel_rfl
   ·rfl
   ·rfl
   skip
   repeat (first | (refine ja8 ?_ rfl ?_; (solve | simp only [go_sem, hsl, hnd2, r3])) | (refine jay (v := ?_) (μ' := ?_) (sn' := ?_) ?_ ?_ rfl ?_; rotate_left 3; (solve | rfl | simp only [go_sem, hsl, hnd2, r3]); (solve | simp only [jaC, heavy, jaO, jar, go_sem, hsl, hnd2, r3]; try exact rfl)))
   simp only [dRun, jat, jai]
   rcases hcc with ⟨rfl, rfl⟩ | ⟨rfl, rfl⟩
   ·have hw3 : (if 0 > (nz : Int) - dp then 0 else (nz : Int) - dp) = prec := by rw [hprec]; simp only; split <;> split <;> omega
    have c4 : ieq 102 102 = true := rfl
    have c5 : ieq 102 69 = false := rfl
    have c7 : ieq 102 101 = false := rfl
    repeat ((first | refine jab rfl ?_ | refine jam rfl ?_); (try simp only [go_sem, z0, z13, z2, c1, c4, c5, c7, hw1, hw3, hsl, r4]); fail_if_success refine stk ?_)
    exact jad ⟨rfl, _, by simp only [go_sem, Tryz.results120], B4, (Fr.of_grow v (g9.trans g3)).trans F4⟩
   ·have hw3 : (if 0 > (nz : Int) - 1 then 0 else (nz : Int) - 1) = prec := by rw [hprec]; simp only; split <;> split <;> omega
    have c4 : ieq 101 101 = true := rfl
    repeat ((first | refine jab rfl ?_ | refine jam rfl ?_); (try simp only [go_sem, z0, z13, z2, c1, c4, hw2, hw3, hsl, r4]); fail_if_success refine stk ?_)
    exact jad ⟨rfl, _, by simp only [go_sem, Tryz.results120], B4, (Fr.of_grow v (g9.trans g3)).trans F4⟩
 exact key
theorem ftoa_f (f : Nat) (hf : f < 18446744073709551616) (hfin : Fin1 f) {Q : List Nat → Prop} (hE : ∀ (neg : Bool) (F : Nat → Nat) (nd : Nat) (dp prec : Int), nd ≤ 20 → -900 ≤ dp → dp ≤ 900 → (prec = (if (nd : Int) - dp > 0 then (nd : Int) - dp else 0) ∨ (prec = -1 ∧ nd = 0 ∧ dp = 0)) → ∃ s, Q s ∧ EfgOk 102 neg F nd dp prec s) :
  ∃ s, Q s ∧ ∀ {X : XT} {g : Nat} {μ : Mem} {v : Value} {xs : List Nat}, jb7 X → Lay μ → LayP μ → Bf μ v xs → xs.length ≤ 1000 → 9400 ≤ g →
  ∃ v' μ', aFun pZ (jaj pZ X S0 g) 120 [v, .float .f64 f, .int .u8 102, .int .i64 (-1)] μ = some (v', μ') ∧ Bf μ' v' (xs ++ s) ∧ Fr μ μ' v v' := ftoa_c (.inl ⟨rfl, rfl⟩) f hf hfin hE
theorem ftoa_e (f : Nat) (hf : f < 18446744073709551616) (hfin : Fin1 f) {Q : List Nat → Prop} (hE : ∀ (neg : Bool) (F : Nat → Nat) (nd : Nat) (dp prec : Int), nd ≤ 20 → -900 ≤ dp → dp ≤ 900 → (prec = (if (nd : Int) - 1 > 0 then (nd : Int) - 1 else 0) ∨ (prec = -1 ∧ nd = 0 ∧ dp = 0)) → ∃ s, Q s ∧ EfgOk 101 neg F nd dp prec s) :
  ∃ s, Q s ∧ ∀ {X : XT} {g : Nat} {μ : Mem} {v : Value} {xs : List Nat}, jb7 X → Lay μ → LayP μ → Bf μ v xs → xs.length ≤ 1000 → 9400 ≤ g →
  ∃ v' μ', aFun pZ (jaj pZ X S0 g) 120 [v, .float .f64 f, .int .u8 101, .int .i64 (-1)] μ = some (v', μ') ∧ Bf μ' v' (xs ++ s) ∧ Fr μ μ' v v' := ftoa_c (.inr ⟨rfl, rfl⟩) f hf hfin hE
@[go_sem] def gg88 {X ev} := gC X ev Tryz.func88 rfl rfl
@[go_sem] def gg68 {X ev} := gC X ev Tryz.func68 rfl rfl
def strOf (s : List Nat) : ByteArray := ⟨(s.map UInt8.ofNat).toArray⟩
theorem jf3 : ∀ l : List Nat, bytesOf (vB l) = some (l.map UInt8.ofNat)
 | [] => rfl
 | b :: l => by
   show bytesOf (.int .u8 (.ofNat b) :: vB l) = _
   unfold bytesOf
   rw [jf3 l]
   rfl
theorem Bf.str {μ : Mem} {v : Value} {xs : List Nat} (h : Bf μ v xs) : ∃ i l c, v = .slice (some ⟨i, 0, none⟩) l c ∧ ja3 pZ μ 45 9 (.slice (some ⟨i, 0, none⟩) l c) = some (.string (strOf xs)) := by
 obtain ⟨i, m, z, ov, fx, sh, c, rfl, hg, hm, hi, hc, _⟩ := h
 refine ⟨i, _, c, rfl, ?_⟩
 unfold ja3
 have e1 : Nat.ble (Nat.add 0 xs.length) m = true := rzP (by show 0 + xs.length ≤ m; omega)
 have e2 : jas z ov 0 xs.length = vB xs := jbm _ _ _ (jbP xs) fun k hk => by rw [rzT]; exact hc k hk
 simp only [Tryz.underlying45, Tryz.underlying9, Tryz.underlying5, hg, e1, e2, jf3]
 rfl
theorem cv_b1 (a : Addr) (l c : Nat) : jaG pZ 45 9 (.slice (some a) l c) = none := by
 simp only [jaG]
theorem cv_b2 (μ : Mem) (a : Addr) (l c : Nat) : jdI pZ μ 45 9 (.slice (some a) l c) = none := by
 simp only [jdI]
theorem pl_b {i l c : Nat} (ρ : Operand → Value) (d : Option Tmp) (ty : TypeId) (x : Operand) (ps : String) (af : Array Edge) (gd : Option (Nat × Bool)) (h : ρ x = .slice (some ⟨i, 0, none⟩) l c) : jaH pZ ρ ⟨d, .convert 45 9 x, ty, ps, af, gd⟩ = none := by
 unfold jaH
 show (match jbJ ρ [x] with | true => _ | false => none) = _
 have e : jbJ ρ [x] = false := by
  unfold jbJ
  rw [h]
  rfl
 rw [e]
theorem ms_24 : jbZ pZ 45 (.int .i64 0) (.int .i64 24) = some (obB 24, fun id => .slice (some ⟨id, 0, none⟩) 0 48) := by
 show jbZ pZ 45 (.int .i64 (.ofNat 0)) (.int .i64 (.ofNat 24)) = _
 unfold jbZ
 simp only [Tryz.underlying45, i_u8, z_u8]
 rfl
theorem Bf.none (μ : Mem) : Bf ⟨μ.obs.set μ.next (obB 24), Nat.add μ.next 1⟩ (.slice (some ⟨μ.next, 0, none⟩) 0 48) [] :=
 ⟨μ.next, 24, _, _, _, _, 48, rfl, by show T.get _ _ = _; rw [T.get_set, if_pos rfl]; rfl, rzY _, rzQ _, fun k h => absurd h (by simp [vB]), .inl ⟨rfl, by decide, by decide⟩⟩
def FtOk (f : Nat) (c : Int) (s : List Nat) : Prop := ∀ {X : XT} {g : Nat} {μ : Mem} {v : Value} {xs : List Nat}, jb7 X → Lay μ → LayP μ → Bf μ v xs → xs.length ≤ 1000 → 9400 ≤ g →
  ∃ v' μ', aFun pZ (jaj pZ X S0 g) 120 [v, .float .f64 f, .int .u8 c, .int .i64 (-1)] μ = some (v', μ') ∧ Bf μ' v' (xs ++ s) ∧ Fr μ μ' v v'
def FfOk (f : Nat) (c : Int) (s : List Nat) : Prop := ∀ {X : XT} {g : Nat} {μ : Mem}, jb7 X → Lay μ → LayP μ → 9600 ≤ g →
  ∃ μ', aFun pZ (jaj pZ X S0 g) 68 [.float .f64 f, .int .u8 c, .int .i64 (-1), .int .i64 64] μ = some (.string (strOf s), μ') ∧ Grow μ μ'
theorem ff_of {f : Nat} {c : Int} {s : List Nat} (H : FtOk f c s) : FfOk f c s := by
 intro X g μ hX hL hP hg
 obtain ⟨k, rfl⟩ := gle hg
 have in1 : ∃ μ', aFun pZ (jaj pZ X S0 (k + 9597)) 88 [.float .f64 f, .int .u8 c, .int .i64 (-1), .int .i64 64] μ = some (.string (strOf s), μ') ∧ Grow μ μ' := by
  have g1 := ja5 μ (obB 24)
  obtain ⟨v', μ', r1, B1, F1⟩ := H (X := X) (g := k + 9590) (xs := []) hX (hL.grow g1) (hP.grow g1) (Bf.none μ) (by decide) (by omega)
  have r1 : aFun pZ (jaj pZ X S0 (k + 9590)) 120 [.slice (some ⟨μ.next, 0, none⟩) 0 48, .float .f64 f, .int .u8 c, .int .i64 (-1)] ⟨μ.obs.set μ.next (obB 24), Nat.add μ.next 1⟩ = some (v', μ') := r1
  obtain ⟨i, l, cc, rfl, hst⟩ := B1.str
  have k1 : ieq 64 32 = false := rfl
  have k2 : ieq 64 64 = true := rfl
  have k3 : jak .i64 (Int.add (-1) 4) = 3 := rfl
  have k4 : (if (24 : Int) > 3 then (24 : Int) else 3) = 24 := rfl
  have plb : ∀ (ρ : Operand → Value) (d : Option Tmp) (ty : TypeId) (x : Operand) (ps : String) (af : Array Edge) (gd : Option (Nat × Bool)), ρ x = .slice (some ⟨i, 0, none⟩) l cc → jaH pZ ρ ⟨d, .convert 45 9 x, ty, ps, af, gd⟩ = none := fun ρ d ty x ps af gd h => pl_b ρ d ty x ps af gd h
  have gg : Grow μ μ' := ⟨rzS g1.1 F1.1, fun j hj => (F1.2.1 j (rzO hj g1.1) (fun h => by have := jdS h; omega)).trans (g1.2 j hj)⟩
  have key : EndsF (aFun pZ (jaj pZ X S0 (k + 9597)) 88 [.float .f64 f, .int .u8 c, .int .i64 (-1), .int .i64 64] μ) fun v m => v = .string (strOf s) ∧ Grow μ m := by
   refine jaf Tryz.func88 rfl rfl (nbl rfl) ?_
   simp only [go_sem, Tryz.ntmps88]
   repeat ((first | refine jab rfl ?_ | refine jam rfl ?_); (try simp only [go_sem, k1, k2, k3, k4, ms_24, r1, cv_b1, cv_b2, plb, hst]); fail_if_success refine stk ?_)
   exact jad ⟨rfl, _, by simp only [go_sem, Tryz.results88], rfl, gg⟩
  obtain ⟨v, m, h1, rfl, h2⟩ := key
  exact ⟨m, h1, h2⟩
 obtain ⟨μ', r1, gg⟩ := in1
 have key : EndsF (aFun pZ (jaj pZ X S0 (k + 9600)) 68 [.float .f64 f, .int .u8 c, .int .i64 (-1), .int .i64 64] μ) fun v m => v = .string (strOf s) ∧ Grow μ m := by
  refine jaf Tryz.func68 rfl rfl (nbl rfl) ?_
  simp only [go_sem, Tryz.ntmps68]
  repeat ((first | refine jab rfl ?_ | refine jam rfl ?_); (try simp only [go_sem, r1]); fail_if_success refine stk ?_)
  exact jad ⟨rfl, _, by simp only [go_sem, Tryz.results68], rfl, gg⟩
 obtain ⟨v, m, h1, rfl, h2⟩ := key
 exact ⟨m, h1, h2⟩
theorem ffF_ex (f : Nat) (hf : f < 18446744073709551616) (hfin : Fin1 f) : ∃ s, s.length ≤ 9000 ∧ FfOk f 102 s := by
 obtain ⟨s, h1, h2⟩ := ftoa_f f hf hfin (Q := fun s => s.length ≤ 9000) fun neg F nd dp prec h1 h2 h3 h4 => efgF_ex neg F nd dp prec h1 (by omega) (by omega) (by rcases h4 with h | h; (split at h <;> omega); omega) (by rcases h4 with h | h; (split at h <;> omega); omega)
 exact ⟨s, h1, ff_of h2⟩
def ExpS (s : List Nat) : Prop := ∃ (front ds : List Nat) (sgn : Nat), s = front ++ [101, sgn] ++ ds ∧ (sgn = 43 ∨ sgn = 45) ∧ 2 ≤ ds.length ∧ ds.length ≤ 3 ∧ (∀ x ∈ ds, x ≤ 57) ∧ front.length ≤ 100
theorem ffE_ex (f : Nat) (hf : f < 18446744073709551616) (hfin : Fin1 f) : ∃ s, ExpS s ∧ FfOk f 101 s := by
 obtain ⟨s, h1, h2⟩ := ftoa_e f hf hfin (Q := ExpS) fun neg F nd dp prec h1 h2 h3 h4 => by
  obtain ⟨front, ds, sgn, a1, a2, a3, a4, a5, a6⟩ := efgE_ex neg F nd dp prec h1 h2 h3 (by
   rcases h4 with h | h
   ·split at h <;> omega
   ·omega)
  exact ⟨_, ⟨front, ds, sgn, rfl, a1, a2, a3, a4, a5⟩, fun hU hB hx hg => a6 (fun h => hU (.inl h)) hB hx hg⟩
 exact ⟨s, h1, ff_of h2⟩
end
end Go.Proofs.YtlkenchibdeinaaGreatDoor.ce
