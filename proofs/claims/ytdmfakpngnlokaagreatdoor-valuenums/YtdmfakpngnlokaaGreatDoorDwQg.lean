/-
  distafflaw18.ValueNums, part Qg: its walk and its law. No conditions.
-/
import Derived.Test.YtdmfakpngnlokaaGreatDoorDwQe
import Derived.Test.YtdmfakpngnlokaaGreatDoorDwQf
set_option linter.all false
set_option maxRecDepth 20000
set_option maxHeartbeats 8000000
namespace Go.Proofs.YtdmfakpngnlokaaGreatDoor.nu
open YtdmfakpngnlokaaGreatDoor.Ev
noncomputable section
def jcA (X : XT) : Prop := ∀ a μ, X 173 [.float .f64 a] μ = some (.int .u64 (.ofNat a), μ)
theorem go_bits2 {X : XT} {ev : ET} (args : List Value) (μ : Mem) : aGo pZ X (jbs pZ ev S0) 173 args μ = X 173 args μ := by
 unfold aGo
 rw [Tryz.func173]
 rfl
def zB32 : List Value := List.replicate 32 (.int .u8 0)
def obZ : Ob := .cells 32 238 zB32.toArray .e 0 0 false false
set_option maxRecDepth 100000 in
@[go_sem] theorem al_32 : jb4 pZ 238 = some (obZ, fun id => .pointer (some ⟨id, 0, none⟩)) := by kernel_rfl
set_option maxRecDepth 100000 in
theorem zB_all : ((List.range 32).all fun k => isZ (cellAt zB32.toArray .e k)) = true := by kernel_rfl
theorem Bu.new (μ : Mem) : Bu ⟨μ.obs.set μ.next obZ, Nat.add μ.next 1⟩ μ.next (fun _ => 0) := by
 have hg : (μ.obs.set μ.next obZ).get μ.next = some obZ := by rw [T.get_set, if_pos rfl]
 refine ⟨⟨_, _, _, _, hg⟩, fun j hj => ?_⟩
 unfold jad
 show (match jbk ((μ.obs.set μ.next obZ).get μ.next) with | some (n, zero, over) => if j < n then some (cellAt zero over j) else none | none => none) = _
 rw [hg]
 show (if j < 32 then some (cellAt zB32.toArray .e j) else none) = _
 rw [if_pos hj, isZ_eq (List.all_eq_true.1 zB_all j (List.mem_range.2 hj))]
 rfl
theorem sl32 (r : Rg) (x : Operand) {i : Nat} (h : aev pZ r x = .pointer (some ⟨i, 0, none⟩)) : jaJ pZ (aev pZ r) 238 x none none none = some (.slice (some ⟨i, 0, none⟩) 32 64) := by
 unfold jaJ
 simp only [h, Tryz.underlying238, i_u8, ja2, jbl]
 rfl
theorem and2047 (a : Nat) (h : a < 9223372036854775808) : jbm Nat.land .i64 .i64 (.ofNat a) 2047 = some (.int .i64 (.ofNat (a &&& 2047))) := by
 unfold jbm
 simp only [decide_true, jbH]
 rw [show Nat.blt a 18446744073709551616 = true from by simp; omega]
 show some (Value.int .i64 (jak .i64 (.ofNat (a &&& 2047)))) = _
 rw [q64 _ (Nat.lt_of_le_of_lt Nat.and_le_right (by decide))]
theorem wShr63 (a : Nat) : jaH false .u64 (.ofNat (W a)) 63 = some (.int .u64 (.ofNat (W (W a / 2 ^ 63)))) := wShr a 63 (by decide)
theorem wOrH (a : Nat) : jbm Nat.lor .u64 .u64 (.ofNat (W a)) 4503599627370496 = some (.int .u64 (.ofNat (W (W a ||| 4503599627370496)))) := w_or _ 4503599627370496 (W_lt a) (by decide)
theorem wAndL52 (a : Nat) : jbm Nat.land .u64 .u64 (.ofNat (W a)) 4503599627370495 = some (.int .u64 (.ofNat (W (W a &&& 4503599627370495)))) := jj6 _ 4503599627370495 (W_lt a) (by decide)
theorem wShr52d (a : Nat) : jaH false .u64 (.ofNat (W a)) 52 = some (.int .u64 (.ofNat (W (W a / 2 ^ 52)))) := wShr a 52 (by decide)
def EfgOk (c : Int) (neg : Bool) (F : Nat → Nat) (nd : Nat) (dp prec : Int) (s : List Nat) : Prop := ∀ {X : XT} {g b : Nat} {μ : Mem} {v sv : Value} {xs : List Nat}, (0 < nd ∨ 0 < dp → sv = .slice (some ⟨b, 0, none⟩) 32 64 ∧ Bu μ b F ∧ b < μ.next ∧ ¬ SlAt v b) → Bf μ v xs → xs.length ≤ 1000 → 9000 ≤ g →
  ∃ v' μ', aFun pZ (jai pZ X S0 g) 176 [v, .bool neg, sv, .int .i64 dp, .int .i64 (.ofNat nd), .int .i64 prec, .int .u8 c, .bool true] μ = some (v', μ') ∧ Bf μ' v' (xs ++ s) ∧ Fr μ μ' v v'
def Fin1 (f : Nat) : Prop := W (W f / 2 ^ 52) &&& 2047 ≠ 2047
theorem Bf.not_new {μ : Mem} {v : Value} {xs : List Nat} (h : Bf μ v xs) : ¬ SlAt v μ.next := by
 obtain ⟨i, m, z, ov, fx, sh, c, rfl, _, _, hi, _⟩ := h
 intro hs
 have := jdY hs
 omega
def StL (v : Value) (μ : Mem) (c : Int) (neg : Bool) (e1 : Int) (M : Nat) (x : Ax) (r : Rg) (m : Mem) : Prop := x = .normal ∧ m = μ ∧ ∃ tm', r = ⟨298, tm', [], none⟩ ∧ jah tm' 0 = v ∧ jah tm' 2 = .int .u8 c ∧ jah tm' 3 = .int .i64 (-1) ∧ jah tm' 11 = .int .i64 52 ∧ jah tm' 12 = .int .i64 (-1023) ∧ jah tm' 13 = .bool neg ∧ jah tm' 14 = .int .i64 e1 ∧ jah tm' 15 = u M
theorem ftoa_c {c : Int} {PR : Nat → Int → Int} (hcc : (c = 102 ∧ PR = fun (nd : Nat) (dp : Int) => if (nd : Int) - dp > 0 then (nd : Int) - dp else 0) ∨ (c = 101 ∧ PR = fun (nd : Nat) (_ : Int) => if (nd : Int) - 1 > 0 then (nd : Int) - 1 else 0)) (f : Nat) (hf : f < 18446744073709551616) (hfin : Fin1 f) {Q : List Nat → Prop} (hE : ∀ (neg : Bool) (F : Nat → Nat) (nd : Nat) (dp prec : Int), (∀ j, F j ≤ 57) → nd ≤ 20 → -900 ≤ dp → dp ≤ 900 → (prec = PR nd dp ∨ (prec = -1 ∧ nd = 0 ∧ dp = 0)) → ∃ s, Q s ∧ EfgOk c neg F nd dp prec s) :
  ∃ s, Q s ∧ ∀ {X : XT} {g : Nat} {μ : Mem} {v : Value} {xs : List Nat}, jcA X → Lay μ → LayP μ → Bf μ v xs → xs.length ≤ 1000 → 9400 ≤ g →
  ∃ v' μ', aFun pZ (jai pZ X S0 g) 147 [v, .float .f64 f, .int .u8 c, .int .i64 (-1)] μ = some (v', μ') ∧ Bf μ' v' (xs ++ s) ∧ Fr μ μ' v v' := by
 have hfu : W f = f := W_of hf
 obtain ⟨neg, hneg⟩ := eqx ((!ieq (.ofNat (W (W f / 2 ^ 63))) 0))
 obtain ⟨p, hp⟩ := exq (W (W f / 2 ^ 52) &&& 2047)
 have hpl : p ≤ 2047 := by rw [hp]; exact Nat.and_le_right
 have hpn : p ≠ 2047 := by rw [hp]; exact hfin
 obtain ⟨m0, hm0⟩ := exq (W f &&& 4503599627370495)
 obtain ⟨e1, he1⟩ := exq (if p = 0 then 1 else (p : Int) : Int)
 have he1l : 1 ≤ e1 ∧ e1 ≤ 2046 := by split at he1 <;> omega
 obtain ⟨M, hM⟩ := exq (if p = 0 then m0 else W m0 ||| 4503599627370496 : Nat)
 obtain ⟨b, hb, _, hlen⟩ := jjF M
 obtain ⟨dd, pp, hp1, hp2, hsh⟩ := short_ex (Sh (W M) (64 - b)) (e1 + -1023 - (64 - b : Nat) - 52) (by omega) (by omega)
 obtain ⟨nd, hnd, ⟨hndw, _⟩, hndg⟩ := ndig_ex dd
 obtain ⟨G, nz, hnz, hDr, hsd⟩ := setd_ex dd nd pp hnd hndw (by omega) (by omega)
 have h57 : ∀ j, rg 0 nd G (fun _ => 0) j ≤ 57 := fun j => by
  unfold rg
  split
  ·rename_i h; exact hDr.le j h.1 h.2
  ·exact rzY _
 obtain ⟨dp, hdp⟩ := exq ((nd : Int) + pp : Int)
 rw [← hdp] at hsd
 obtain ⟨prec, hprec⟩ := exq (PR nz dp : Int)
 obtain ⟨s1, q1, E1⟩ := hE neg (rg 0 nd G fun _ => 0) nz dp prec h57 (by omega) (by omega) (by omega) (.inl hprec)
 obtain ⟨s0, q0, E0⟩ := hE neg (fun _ => 0) 0 0 (-1) (fun _ => rzY _) (by omega) (by omega) (by omega) (.inr ⟨rfl, rfl, rfl⟩)
 refine ⟨if W M = 0 then s0 else s1, by split <;> assumption, fun {X g μ v xs} hX hL hP hB hx hg => ?_⟩
 obtain ⟨k, rfl⟩ := gle hg
 have hc : ∀ μ', aGo pZ X (jbs pZ (jai pZ X S0 (k + 9389)) S0) 173 [.float .f64 f] μ' = some (u f, μ') := fun μ' => (go_bits2 _ _).trans ((hX f μ').trans (by rw [u_of hf]))
 have k1 : ieq 64 32 = false := rfl
 have k2 : ieq 64 64 = true := rfl
 have k3 : jak .i64 (Int.add 11 52) = 63 := rfl
 have s63 := wShr63 f
 have s52 := wShr52d f
 have hq : jak .i64 (.ofNat (W (W f / 2 ^ 52))) = .ofNat (W (W f / 2 ^ 52)) := by
  have h1 : W f / 2 ^ 52 < 4096 := by have := W_lt f; omega
  rw [W_of (by omega)]
  exact q64 _ (by omega)
 have a52 : jbm Nat.land .i64 .i64 (.ofNat (W (W f / 2 ^ 52))) 2047 = some (.int .i64 (.ofNat p)) := by
  have h1 : W f / 2 ^ 52 < 4096 := by have := W_lt f; omega
  rw [hp]
  exact and2047 _ (by rw [W_of (by omega)]; omega)
 have k4 : jaH true .i64 1 11 = some (.int .i64 2048) := rfl
 have k5 : jak .i64 (Int.sub 2048 1) = 2047 := rfl
 have k6 : jaH true .u64 1 52 = some (.int .u64 4503599627370496) := rfl
 have k7 : jak .u64 (Int.sub 4503599627370496 1) = 4503599627370495 := rfl
 have aM := wAndL52 f
 rw [← hm0] at aM
 have t1 : ieq (.ofNat p) 2047 = false := dF (jbo p 2047 2047 rfl) hpn
 have t0 : ieq (.ofNat p) 0 = decide (p = 0) := jbo p 0 0 rfl
 have key : EndsF (aFun pZ (jai pZ X S0 (k + 9400)) 147 [v, .float .f64 f, .int .u8 c, .int .i64 (-1)] μ) fun v' μ' => Bf μ' v' (xs ++ if W M = 0 then s0 else s1) ∧ Fr μ μ' v v' := by
  refine jac Tryz.func147 rfl rfl (nbl rfl) ?_
  simp only [go_sem, Tryz.ntmps147]
  repeat ((first | refine jaa rfl ?_ | refine jaj rfl ?_); (try simp only [go_sem, k1, k2, k3, hc, s63, hneg]); fail_if_success refine stk ?_)
  refine jaY (n := 9) (ms := [0, 0, 3, 7, 0, 16, 48, 127, 255]) (ord := [0, 1, 2, 3, 4, 5, 6, 7, 8]) (ds := ?_) ?_ ?_ ?_ ?_ ?_ ?_
  rotate_left
  ·kernel_rfl
  ·kernel_rfl
  ·kernel_rfl
  ·rfl
  ·rfl
  repeat (first | (refine ja0 ?_ rfl ?_; (solve | simp only [go_sem, s52, jcL, hq, k4, k5, a52])) | (refine ja5 (v := ?_) (μ' := ?_) (sn' := ?_) ?_ ?_ rfl ?_; rotate_left 3; (solve | rfl | simp only [go_sem, s52, jcL, hq, k4, k5, a52]); (solve | simp only [jaV, heavy, jbg, jaQ, go_sem, s52, jcL, hq, k4, k5, a52]; try exact rfl)))
  simp only [dRun, jaK, jag]
  repeat ((first | refine jaa rfl ?_ | refine jaj rfl ?_); (try simp only [go_sem, k6, k7, aM, k4, k5, t1]); fail_if_success refine stk ?_)
  refine rzM (?_ : EndsC _ (StL v ⟨μ.obs, μ.next + 9⟩ c neg e1 M)) ?_
  ·by_cases h0 : p = 0
   ·rw [rzU h0] at t0
    rw [if_pos h0] at he1 hM
    have q1 : jak .i64 (Int.add (.ofNat p) 1) = e1 := by rw [h0, he1]; rfl
    repeat ((first | refine jaa rfl ?_ | refine jaj rfl ?_); (try simp only [go_sem, t0, q1]); fail_if_success refine stk ?_)
    exact ⟨by trivial, by trivial, _, rfl, by simp only [go_sem], by simp only [go_sem], by simp only [go_sem], by simp only [go_sem], by simp only [go_sem], by simp only [go_sem], by simp only [go_sem], by rw [hM]; simp only [go_sem]⟩
   ·rw [rzV h0] at t0
    rw [if_neg h0] at he1 hM
    have q1 := wOrH m0
    rw [← hM] at q1
    repeat ((first | refine jaa rfl ?_ | refine jaj rfl ?_); (try simp only [go_sem, t0, k6, q1]); fail_if_success refine stk ?_)
    exact ⟨by trivial, by trivial, _, rfl, by simp only [go_sem], by simp only [go_sem], by simp only [go_sem], by simp only [go_sem], by simp only [go_sem], by simp only [go_sem], by rw [he1]; simp only [go_sem]; rfl, by simp only [go_sem]⟩
  rintro x r m ⟨rfl, hm9, tm1, rfl, z0, z2, z3, z11, z12, z13, z14, z15⟩
  simp only [jag]
  have g9 : Grow μ m := by rw [hm9]; exact jfr (Nat.le_add_right _ _)
  have hL := hL.grow g9
  have hP := hP.grow g9
  have hB := hB.grow g9
  clear hm9
  have q2 : jak .i64 (Int.add e1 (-1023)) = e1 + -1023 := jeO e1 (-1023) (by omega) (by omega)
  have c1 : ieq c 98 = false := by rcases hcc with ⟨rfl, _⟩ | ⟨rfl, _⟩ <;> rfl
  have c2 : ieq c 120 = false := by rcases hcc with ⟨rfl, _⟩ | ⟨rfl, _⟩ <;> rfl
  have c3 : ieq c 88 = false := by rcases hcc with ⟨rfl, _⟩ | ⟨rfl, _⟩ <;> rfl
  have n1 : ilt (-1) 0 = true := rfl
  have tM : ieq (.ofNat (W M)) 0 = decide (W M = 0) := jbo _ 0 0 rfl
  by_cases hM0 : W M = 0
  ·rw [rzU hM0] at tM
   rw [if_pos hM0]
   obtain ⟨v', μ', r1, B1, F1⟩ := E0 (X := X) (g := k + 9383) (b := 0) (sv := .slice none 0 0) (fun h => by omega) hB hx (by omega)
   have r1 : aFun pZ (jai pZ X S0 (k + 9383)) 176 [v, .bool neg, .slice none 0 0, .int .i64 0, .int .i64 0, .int .i64 (-1), .int .u8 c, .bool true] m = some (v', μ') := r1
   repeat ((first | refine jaa rfl ?_ | refine jaj rfl ?_); (try simp only [go_sem, z0, z2, z3, z11, z12, z13, z14, z15, q2, c1, c2, c3, n1, tM, r1]); fail_if_success refine stk ?_)
   exact jae ⟨rfl, _, by simp only [go_sem, Tryz.results147], B1, (Fr.of_grow v g9).trans F1⟩
  ·rw [rzV hM0] at tM
   rw [if_neg hM0]
   have hb64 : ∀ μ, aFun pZ (jai pZ X S0 (k + 9381)) 177 [u M] μ = some (.int .i64 (.ofNat b), μ) := fun μ => hlen (by omega)
   have q3 : jak .i64 (Int.sub 64 (.ofNat b)) = .ofNat (64 - b) := by
    have h := jdO 64 (b : Int) (by omega) (by omega)
    rw [(by omega : (64 : Int) - (b : Int) = ((64 - b : Nat) : Int))] at h
    exact h
   have q4 : jaH true .u64 (.ofNat (W M)) (.ofNat (64 - b)) = some (.int .u64 (.ofNat (W (Sh (W M) (64 - b))))) := wShl M (64 - b) (by omega)
   have q5 : jak .i64 (Int.sub (e1 + -1023) (.ofNat (64 - b))) = e1 + -1023 - (64 - b : Nat) := jdO _ ((64 - b : Nat) : Int) (by omega) (by omega)
   have q6 : jak .i64 (Int.sub (e1 + -1023 - (64 - b : Nat)) 52) = e1 + -1023 - (64 - b : Nat) - 52 := jdO _ 52 (by omega) (by omega)
   have g1 := jbc m obZ
   have hsl : ∀ r x, aev pZ r x = .pointer (some ⟨m.next, 0, none⟩) → jaJ pZ (aev pZ r) 238 x none none none = some (.slice (some ⟨m.next, 0, none⟩) 32 64) := fun r x h => sl32 r x h
   obtain ⟨μ2, r2, g2⟩ := hsh (X := X) (g := k + 9378) (hL.grow g1) (by omega)
   have r2 : aFun pZ (jai pZ X S0 (k + 9378)) 186 [u (Sh (W M) (64 - b)), .int .i64 (e1 + -1023 - (64 - b : Nat) - 52)] ⟨m.obs.set m.next obZ, Nat.add m.next 1⟩ = some (.tuple #[u dd, .int .i64 pp], μ2) := r2
   have hU2 : Bu μ2 m.next (fun _ => 0) := by
    have h := Bu.new m
    have hlt : m.next < m.next + 1 := rzQ _
    exact ⟨by obtain ⟨z, ov, fx, sh, e⟩ := h.blk; exact ⟨z, ov, fx, sh, (g2.2 _ hlt).trans e⟩, fun j hj => (jb8 g2 hlt j).trans (h.d j hj)⟩
   have hnd2 : ∀ j, aFun pZ (jai pZ X S0 (k + 9377)) 180 [u dd] ⟨μ2.obs, μ2.next + j⟩ = some (.int .i64 (.ofNat nd), ⟨μ2.obs, μ2.next + j⟩) := fun j => hndg (((hP.grow g1).grow g2).grow (jfr (Nat.le_add_right _ _))) (by omega)
   obtain ⟨μ3, r3, U3, O3⟩ := hsd (X := X) (g := k + 9377) (hU2.up (μ2.next + 11)) (by omega)
   have O4 : μ2.next ≤ μ3.next := rzS (Nat.le_add_right _ _) O3.1
   have g3 : Grow m μ3 := ⟨rzS (rzS g1.1 g2.1) O4, fun j hj => by
    rw [O3.2 j (by have h1 := rzS g1.1 g2.1; show j < μ2.next + 11; omega) (by omega)]
    exact (g1.trans g2).2 j hj⟩
   have hb3 : m.next < μ3.next := rzO (rzO (rzQ _) g2.1) O4
   obtain ⟨v', μ', r4, B4, F4⟩ := E1 (X := X) (g := k + 9375) (b := m.next) (sv := .slice (some ⟨m.next, 0, none⟩) 32 64) (fun h => ⟨rfl, U3, hb3, hB.not_new⟩) (hB.grow g3) hx (by omega)
   have hw1 : jak .i64 (Int.sub (.ofNat nz) dp) = (nz : Int) - dp := jdO (nz : Int) dp (by omega) (by omega)
   have hw2 : jak .i64 (Int.sub (.ofNat nz) 1) = (nz : Int) - 1 := jdO (nz : Int) 1 (by omega) (by omega)
   repeat ((first | refine jaa rfl ?_ | refine jaj rfl ?_); (try simp only [go_sem, z0, z2, z3, z11, z12, z13, z14, z15, q2, q3, q4, q5, q6, c1, c2, c3, n1, tM, hb64, r2]); fail_if_success refine stk ?_)
   refine jaY (n := 11) (ms := [0, 0, 0, 0, 8, 31, 63, 127, 127, 255, 1023]) (ord := [3, 4, 0, 1, 2, 5, 6, 7, 8, 9, 10]) (ds := ?_) ?_ ?_ ?_ ?_ ?_ ?_
   rotate_left
   ·kernel_rfl
   ·kernel_rfl
   ·kernel_rfl
   ·rfl
   ·rfl
   skip
   repeat (first | (refine ja0 ?_ rfl ?_; (solve | simp only [go_sem, hsl, hnd2, r3])) | (refine ja5 (v := ?_) (μ' := ?_) (sn' := ?_) ?_ ?_ rfl ?_; rotate_left 3; (solve | rfl | simp only [go_sem, hsl, hnd2, r3]); (solve | simp only [jaV, heavy, jbg, jaQ, go_sem, hsl, hnd2, r3]; try exact rfl)))
   simp only [dRun, jaK, jag]
   rcases hcc with ⟨rfl, rfl⟩ | ⟨rfl, rfl⟩
   ·have hw3 : (if 0 > (nz : Int) - dp then 0 else (nz : Int) - dp) = prec := by rw [hprec]; simp only; split <;> split <;> omega
    have c4 : ieq 102 102 = true := rfl
    have c5 : ieq 102 69 = false := rfl
    have c7 : ieq 102 101 = false := rfl
    repeat ((first | refine jaa rfl ?_ | refine jaj rfl ?_); (try simp only [go_sem, z0, z13, z2, c1, c4, c5, c7, hw1, hw3, hsl, r4]); fail_if_success refine stk ?_)
    exact jae ⟨rfl, _, by simp only [go_sem, Tryz.results147], B4, (Fr.of_grow v (g9.trans g3)).trans F4⟩
   ·have hw3 : (if 0 > (nz : Int) - 1 then 0 else (nz : Int) - 1) = prec := by rw [hprec]; simp only; split <;> split <;> omega
    have c4 : ieq 101 101 = true := rfl
    repeat ((first | refine jaa rfl ?_ | refine jaj rfl ?_); (try simp only [go_sem, z0, z13, z2, c1, c4, hw2, hw3, hsl, r4]); fail_if_success refine stk ?_)
    exact jae ⟨rfl, _, by simp only [go_sem, Tryz.results147], B4, (Fr.of_grow v (g9.trans g3)).trans F4⟩
 exact key
theorem ftoa_f (f : Nat) (hf : f < 18446744073709551616) (hfin : Fin1 f) {Q : List Nat → Prop} (hE : ∀ (neg : Bool) (F : Nat → Nat) (nd : Nat) (dp prec : Int), (∀ j, F j ≤ 57) → nd ≤ 20 → -900 ≤ dp → dp ≤ 900 → (prec = (if (nd : Int) - dp > 0 then (nd : Int) - dp else 0) ∨ (prec = -1 ∧ nd = 0 ∧ dp = 0)) → ∃ s, Q s ∧ EfgOk 102 neg F nd dp prec s) :
  ∃ s, Q s ∧ ∀ {X : XT} {g : Nat} {μ : Mem} {v : Value} {xs : List Nat}, jcA X → Lay μ → LayP μ → Bf μ v xs → xs.length ≤ 1000 → 9400 ≤ g →
  ∃ v' μ', aFun pZ (jai pZ X S0 g) 147 [v, .float .f64 f, .int .u8 102, .int .i64 (-1)] μ = some (v', μ') ∧ Bf μ' v' (xs ++ s) ∧ Fr μ μ' v v' := ftoa_c (.inl ⟨rfl, rfl⟩) f hf hfin hE
theorem ftoa_e (f : Nat) (hf : f < 18446744073709551616) (hfin : Fin1 f) {Q : List Nat → Prop} (hE : ∀ (neg : Bool) (F : Nat → Nat) (nd : Nat) (dp prec : Int), (∀ j, F j ≤ 57) → nd ≤ 20 → -900 ≤ dp → dp ≤ 900 → (prec = (if (nd : Int) - 1 > 0 then (nd : Int) - 1 else 0) ∨ (prec = -1 ∧ nd = 0 ∧ dp = 0)) → ∃ s, Q s ∧ EfgOk 101 neg F nd dp prec s) :
  ∃ s, Q s ∧ ∀ {X : XT} {g : Nat} {μ : Mem} {v : Value} {xs : List Nat}, jcA X → Lay μ → LayP μ → Bf μ v xs → xs.length ≤ 1000 → 9400 ≤ g →
  ∃ v' μ', aFun pZ (jai pZ X S0 g) 147 [v, .float .f64 f, .int .u8 101, .int .i64 (-1)] μ = some (v', μ') ∧ Bf μ' v' (xs ++ s) ∧ Fr μ μ' v v' := ftoa_c (.inr ⟨rfl, rfl⟩) f hf hfin hE
@[go_sem] def gg111 {X ev} := gC X ev Tryz.func111 rfl rfl
@[go_sem] def gg73 {X ev} := gC X ev Tryz.func73 rfl rfl
def strOf (s : List Nat) : ByteArray := ⟨(s.map UInt8.ofNat).toArray⟩
theorem jey : ∀ l : List Nat, bytesOf (vB l) = some (l.map UInt8.ofNat)
 | [] => rfl
 | b :: l => by
   show bytesOf (.int .u8 (.ofNat b) :: vB l) = _
   unfold bytesOf
   rw [jey l]
   rfl
theorem Bf.str {μ : Mem} {v : Value} {xs : List Nat} (h : Bf μ v xs) : ∃ i l c, v = .slice (some ⟨i, 0, none⟩) l c ∧ jbd pZ μ 54 9 (.slice (some ⟨i, 0, none⟩) l c) = some (.string (strOf xs)) := by
 obtain ⟨i, m, z, ov, fx, sh, c, rfl, hg, hm, hi, hc, _⟩ := h
 refine ⟨i, _, c, rfl, ?_⟩
 unfold jbd
 have e1 : Nat.ble (Nat.add 0 xs.length) m = true := rzP (by show 0 + xs.length ≤ m; omega)
 have e2 : jat z ov 0 xs.length = vB xs := jbe _ _ _ (jby xs) fun k hk => by rw [rzT]; exact hc k hk
 simp only [Tryz.underlying54, Tryz.underlying9, Tryz.underlying5, hg, e1, e2, jey]
 rfl
theorem cv_b1 (a : Addr) (l c : Nat) : jay pZ 54 9 (.slice (some a) l c) = none := by
 simp only [jay]
theorem cv_b2 (μ : Mem) (a : Addr) (l c : Nat) : jcN pZ μ 54 9 (.slice (some a) l c) = none := by
 simp only [jcN]
theorem pl_b {i l c : Nat} (ρ : Operand → Value) (d : Option Tmp) (ty : TypeId) (x : Operand) (ps : String) (af : Array Edge) (gd : Option (Nat × Bool)) (h : ρ x = .slice (some ⟨i, 0, none⟩) l c) : jaC pZ ρ ⟨d, .convert 54 9 x, ty, ps, af, gd⟩ = none := by
 unfold jaC
 show (match jbn ρ [x] with | true => _ | false => none) = _
 have e : jbn ρ [x] = false := by
  unfold jbn
  rw [h]
  rfl
 rw [e]
theorem ms_24 : jbh pZ 54 (.int .i64 0) (.int .i64 24) = some (obB 24, fun id => .slice (some ⟨id, 0, none⟩) 0 48) := by
 show jbh pZ 54 (.int .i64 (.ofNat 0)) (.int .i64 (.ofNat 24)) = _
 unfold jbh
 simp only [Tryz.underlying54, i_u8, z_u8]
 rfl
theorem Bf.none (μ : Mem) : Bf ⟨μ.obs.set μ.next (obB 24), Nat.add μ.next 1⟩ (.slice (some ⟨μ.next, 0, none⟩) 0 48) [] :=
 ⟨μ.next, 24, _, _, _, _, 48, rfl, by show T.get _ _ = _; rw [T.get_set, if_pos rfl]; rfl, rzY _, rzQ _, fun k h => absurd h (by simp [vB]), .inl ⟨rfl, by decide, by decide⟩⟩
def FtOk (f : Nat) (c : Int) (s : List Nat) : Prop := ∀ {X : XT} {g : Nat} {μ : Mem} {v : Value} {xs : List Nat}, jcA X → Lay μ → LayP μ → Bf μ v xs → xs.length ≤ 1000 → 9400 ≤ g →
  ∃ v' μ', aFun pZ (jai pZ X S0 g) 147 [v, .float .f64 f, .int .u8 c, .int .i64 (-1)] μ = some (v', μ') ∧ Bf μ' v' (xs ++ s) ∧ Fr μ μ' v v'
def FfOk (f : Nat) (c : Int) (s : List Nat) : Prop := ∀ {X : XT} {g : Nat} {μ : Mem}, jcA X → Lay μ → LayP μ → 9600 ≤ g →
  ∃ μ', aFun pZ (jai pZ X S0 g) 73 [.float .f64 f, .int .u8 c, .int .i64 (-1), .int .i64 64] μ = some (.string (strOf s), μ') ∧ Grow μ μ'
theorem ff_of {f : Nat} {c : Int} {s : List Nat} (H : FtOk f c s) : FfOk f c s := by
 intro X g μ hX hL hP hg
 obtain ⟨k, rfl⟩ := gle hg
 have in1 : ∃ μ', aFun pZ (jai pZ X S0 (k + 9597)) 111 [.float .f64 f, .int .u8 c, .int .i64 (-1), .int .i64 64] μ = some (.string (strOf s), μ') ∧ Grow μ μ' := by
  have g1 := jbc μ (obB 24)
  obtain ⟨v', μ', r1, B1, F1⟩ := H (X := X) (g := k + 9590) (xs := []) hX (hL.grow g1) (hP.grow g1) (Bf.none μ) (by decide) (by omega)
  have r1 : aFun pZ (jai pZ X S0 (k + 9590)) 147 [.slice (some ⟨μ.next, 0, none⟩) 0 48, .float .f64 f, .int .u8 c, .int .i64 (-1)] ⟨μ.obs.set μ.next (obB 24), Nat.add μ.next 1⟩ = some (v', μ') := r1
  obtain ⟨i, l, cc, rfl, hst⟩ := B1.str
  have k1 : ieq 64 32 = false := rfl
  have k2 : ieq 64 64 = true := rfl
  have k3 : jak .i64 (Int.add (-1) 4) = 3 := rfl
  have k4 : (if (24 : Int) > 3 then (24 : Int) else 3) = 24 := rfl
  have plb : ∀ (ρ : Operand → Value) (d : Option Tmp) (ty : TypeId) (x : Operand) (ps : String) (af : Array Edge) (gd : Option (Nat × Bool)), ρ x = .slice (some ⟨i, 0, none⟩) l cc → jaC pZ ρ ⟨d, .convert 54 9 x, ty, ps, af, gd⟩ = none := fun ρ d ty x ps af gd h => pl_b ρ d ty x ps af gd h
  have gg : Grow μ μ' := ⟨rzS g1.1 F1.1, fun j hj => (F1.2.1 j (rzO hj g1.1) (fun h => by have := jdY h; omega)).trans (g1.2 j hj)⟩
  have key : EndsF (aFun pZ (jai pZ X S0 (k + 9597)) 111 [.float .f64 f, .int .u8 c, .int .i64 (-1), .int .i64 64] μ) fun v m => v = .string (strOf s) ∧ Grow μ m := by
   refine jac Tryz.func111 rfl rfl (nbl rfl) ?_
   simp only [go_sem, Tryz.ntmps111]
   repeat ((first | refine jaa rfl ?_ | refine jaj rfl ?_); (try simp only [go_sem, k1, k2, k3, k4, ms_24, r1, cv_b1, cv_b2, plb, hst]); fail_if_success refine stk ?_)
   exact jae ⟨rfl, _, by simp only [go_sem, Tryz.results111], rfl, gg⟩
  obtain ⟨v, m, h1, rfl, h2⟩ := key
  exact ⟨m, h1, h2⟩
 obtain ⟨μ', r1, gg⟩ := in1
 have key : EndsF (aFun pZ (jai pZ X S0 (k + 9600)) 73 [.float .f64 f, .int .u8 c, .int .i64 (-1), .int .i64 64] μ) fun v m => v = .string (strOf s) ∧ Grow μ m := by
  refine jac Tryz.func73 rfl rfl (nbl rfl) ?_
  simp only [go_sem, Tryz.ntmps73]
  repeat ((first | refine jaa rfl ?_ | refine jaj rfl ?_); (try simp only [go_sem, r1]); fail_if_success refine stk ?_)
  exact jae ⟨rfl, _, by simp only [go_sem, Tryz.results73], rfl, gg⟩
 obtain ⟨v, m, h1, rfl, h2⟩ := key
 exact ⟨m, h1, h2⟩
theorem ffF_ex (f : Nat) (hf : f < 18446744073709551616) (hfin : Fin1 f) : ∃ s, s.length ≤ 9000 ∧ FfOk f 102 s := by
 obtain ⟨s, h1, h2⟩ := ftoa_f f hf hfin (Q := fun s => s.length ≤ 9000) fun neg F nd dp prec _ h1 h2 h3 h4 => efgF_ex neg F nd dp prec h1 (by omega) (by omega) (by rcases h4 with h | h; (split at h <;> omega); omega) (by rcases h4 with h | h; (split at h <;> omega); omega)
 exact ⟨s, h1, ff_of h2⟩
def ExpS (s : List Nat) : Prop := ∃ (front ds : List Nat) (sgn en : Nat), s = front ++ [101, sgn] ++ ds ∧ (sgn = 43 ∨ (sgn = 45 ∧ 1 ≤ en)) ∧ en ≤ 901 ∧ ds = edig en ∧ (∀ x ∈ front, x ≤ 57) ∧ front.length ≤ 100
theorem ffE_ex (f : Nat) (hf : f < 18446744073709551616) (hfin : Fin1 f) : ∃ s, ExpS s ∧ FfOk f 101 s := by
 obtain ⟨s, h1, h2⟩ := ftoa_e f hf hfin (Q := ExpS) fun neg F nd dp prec h0 h1 h2 h3 h4 => by
  obtain ⟨front, ds, sgn, en, a1, a2, a3, a4, a5, a6⟩ := efgE_ex neg F nd dp prec h1 h0 h2 h3 (by
   rcases h4 with h | h
   ·split at h <;> omega
   ·omega)
  exact ⟨_, ⟨front, ds, sgn, en, rfl, a1, a2, a3, a4, a5⟩, fun hU hB hx hg => a6 (fun h => hU (.inl h)) hB hx hg⟩
 exact ⟨s, h1, ff_of h2⟩
theorem sl_at (s : ByteArray) {k : Nat} (h : k ≤ (bys s).length) (r : Rg) (x y : Operand) (h1 : aev pZ r x = .string s) (h2 : aev pZ r y = .int .i64 (.ofNat k)) : jaJ pZ (aev pZ r) 9 x (some y) none none = some (.string (jch s k)) := jeo h1 h2 h
theorem tail_len (s : ByteArray) (k : Nat) : (bys (jch s k)).length = (bys s).length - k := by rw [jdB, List.length_drop]
@[go_sem] def gg72 {X ev} := gC X ev Tryz.func72 rfl rfl
@[go_sem] def gg37 {X ev} := gC X ev Tryz.func37 rfl rfl
theorem jjL {X : XT} {ev : ET} (args : List Value) (μ : Mem) : aGo pZ X (jbs pZ ev S0) 31 args μ = X 31 args μ := by
 unfold aGo
 rw [Tryz.func31]
 rfl
theorem andn63 (a : Nat) : ∃ r, bits .andNot .u64 (.ofNat a) 9223372036854775808 = .ofNat (W r) := by
 unfold bits
 dsimp only
 generalize BitVec.toNat _ = N
 exact ⟨N, by rw [← jbq]; exact jcn N⟩
def fge (a b : Nat) : Bool := Ieee.double.order a b == some .gt || Ieee.double.order a b == some .eq
theorem jhx {ρ : Operand → Value} {d : Option Tmp} {t yt ty : TypeId} {x y : Operand} {ps : String} {af : Array Edge} {gd : Option (Nat × Bool)} {a b : Nat} (hx : ρ x = .float .f64 a) (hy : ρ y = .float .f64 b) : jaC pZ ρ ⟨d, .binOp .geq t x y yt, ty, ps, af, gd⟩ = some (.bool (fge a b)) := by
 unfold jaC
 have e : pv pZ (execOp ρ ⟨d, .binOp .geq t x y yt, ty, ps, af, gd⟩) = some (.value (.bool (fge a b))) := by
  simp only [execOp, hx, hy]
  kernel_rfl
 simp only [opsOf, jbn, hx, hy, jaw, e]
theorem abs_ex {f : Nat} (hf : f < 18446744073709551616) : ∃ r, ∀ {X : XT} {g : Nat} {μ : Mem}, jcB X → jbC X → 20 ≤ g → aFun pZ (jai pZ X S0 g) 72 [.float .f64 f] μ = some (.float .f64 r, μ) := by
 obtain ⟨n, hn⟩ := andn63 (W f)
 refine ⟨W n, fun {X g μ} hX hY hg => ?_⟩
 obtain ⟨k, rfl⟩ := gle hg
 have hc : ∀ μ', aGo pZ X (jbs pZ (jai pZ X S0 (k + 17)) S0) 19 [.float .f64 f] μ' = some (u f, μ') := fun μ' => (go_bits _ _).trans ((hX f μ').trans (by rw [u_of hf]))
 have hd : ∀ μ', aGo pZ X (jbs pZ (jai pZ X S0 (k + 17)) S0) 31 [.int .u64 (.ofNat (W n))] μ' = some (.float .f64 (W n), μ') := fun μ' => (jjL _ _).trans (hY (W n) μ' (W_lt n))
 refine jau ?_
 refine jac Tryz.func72 rfl rfl (nbl rfl) ?_
 simp only [go_sem, Tryz.ntmps72]
 repeat ((first | refine jaa rfl ?_ | refine jaj rfl ?_); (try simp only [go_sem, hc, hn, pv_pure, hd]); fail_if_success refine stk ?_)
 exact jae ⟨rfl, _, by simp only [go_sem, Tryz.results72], rfl, rfl⟩
theorem jcf (l : List Nat) : bys (strOf l) = l.map fun b => b % 256 := by
 unfold bys strOf
 simp only [List.map_map]
 apply List.map_congr_left
 intro b _
 show (UInt8.ofNat b).toNat = b % 256
 simp
theorem fin_of {f : Nat} (hf : f < 18446744073709551616) (h1 : nb f ≠ 9221120237041090561) (h2 : nb f ≠ 9218868437227405312) (h3 : nb f ≠ 18442240474082181120) : Fin1 f := by
 intro h
 have hW : W f = f := W_of hf
 have hq : W f / 2 ^ 52 < 4096 := by omega
 have e1 : W (W f / 2 ^ 52) = f / 2 ^ 52 := by rw [W_of (by omega), hW]
 have ha : W (W (W f / 2 ^ 52) &&& 2047) = 2047 := by rw [h]; exact W_of (by decide)
 have m1 : f / 2 ^ 52 % 2048 = 2047 := by
  rw [e1, show (2047 : Nat) = 2 ^ 11 - 1 from rfl, Nat.and_two_pow_sub_one_eq_mod] at h
  exact h
 by_cases hm : W (W f &&& 4503599627370495) = 0
 ·have hn : nb f = f := by
   unfold nb
   rw [if_neg (fun h => h.2 hm)]
  have m2 : f % 2 ^ 52 = 0 := by
   rw [hW, show (4503599627370495 : Nat) = 2 ^ 52 - 1 from rfl, Nat.and_two_pow_sub_one_eq_mod, W_of (by omega)] at hm
   exact hm
  rw [hn] at h2 h3
  omega
 ·refine h1 ?_
  unfold nb
  rw [if_pos ⟨ha, hm⟩]
theorem jfy (a b : ByteArray) : (bys ⟨(a.data.toList ++ b.data.toList).toArray⟩).length = (bys a).length + (bys b).length := by
 simp [jcx]
theorem jc2 {a b : ByteArray} (h : (bys a).length + (bys b).length < 4294967296) : aStr .add a b = some (.string ⟨(a.data.toList ++ b.data.toList).toArray⟩) := by
 unfold aStr
 rw [jcx, jcx] at h
 have e : Nat.blt (Nat.add a.data.toList.length b.data.toList.length) 4294967296 = true := by simpa [Nat.blt_eq] using h
 simp only [e]
end
end Go.Proofs.YtdmfakpngnlokaaGreatDoor.nu
