/-
  distafflaw18.ValueNums, part Qc: its walk and its law. No conditions.
-/
import Derived.Test.YtdmfakpngnlokaaGreatDoorDwP
set_option linter.all false
set_option maxRecDepth 20000
set_option maxHeartbeats 8000000
namespace Go.Proofs.YtdmfakpngnlokaaGreatDoor.nu
open YtdmfakpngnlokaaGreatDoor.Ev
noncomputable section
variable {X : XT}
def b2 (t : Bool) : Nat := if t then 1 else 0
theorem b2_le (t : Bool) : b2 t ≤ 1 := by cases t <;> decide
set_option maxHeartbeats 4000000 in
theorem bool2u_eq {g : Nat} {t : Bool} {μ : Mem} (hg : 10 ≤ g) : aFun pZ (jai pZ X S0 g) 257 [.bool t] μ = some (u (b2 t), μ) := by
 obtain ⟨k, rfl⟩ := gle hg
 refine jau ?_
 cases t with
 | true =>
   refine jac Tryz.func257 rfl rfl (nbl rfl) ?_
   simp only [go_sem, Tryz.ntmps257]
   repeat (refine jaz rfl ?_; (try simp only [go_sem]); fail_if_success refine stk ?_)
   refine jae ?_
   refine ⟨rfl, _, ?_, rfl, rfl⟩
   simp only [go_sem, Tryz.results257]
   exact congrArg some (u_of (n := 1) (by decide))
 | false =>
   refine jac Tryz.func257 rfl rfl (nbl rfl) ?_
   simp only [go_sem, Tryz.ntmps257]
   repeat (refine jaz rfl ?_; (try simp only [go_sem]); fail_if_success refine stk ?_)
   refine jae ?_
   refine ⟨rfl, _, ?_, rfl, rfl⟩
   simp only [go_sem, Tryz.results257]
   exact congrArg some (u_of (n := 0) (by decide))
set_option maxHeartbeats 4000000 in
theorem bool2i_eq {g : Nat} {t : Bool} {μ : Mem} (hg : 10 ≤ g) : aFun pZ (jai pZ X S0 g) 224 [.bool t] μ = some (.int .i64 (.ofNat (b2 t)), μ) := by
 obtain ⟨k, rfl⟩ := gle hg
 refine jau ?_
 cases t with
 | true =>
   refine jac Tryz.func224 rfl rfl (nbl rfl) ?_
   simp only [go_sem, Tryz.ntmps224]
   repeat (refine jaz rfl ?_; (try simp only [go_sem]); fail_if_success refine stk ?_)
   refine jae ?_
   refine ⟨rfl, _, ?_, rfl, rfl⟩
   simp only [go_sem, Tryz.results224]
   rfl
 | false =>
   refine jac Tryz.func224 rfl rfl (nbl rfl) ?_
   simp only [go_sem, Tryz.ntmps224]
   repeat (refine jaz rfl ?_; (try simp only [go_sem]); fail_if_success refine stk ?_)
   refine jae ?_
   refine ⟨rfl, _, ?_, rfl, rfl⟩
   simp only [go_sem, Tryz.results224]
   rfl
set_option maxHeartbeats 4000000 in
theorem jjz (a b : Nat) : ∃ h l, ∀ {X : XT} {g : Nat} {μ : Mem}, 30 ≤ g → aFun pZ (jai pZ X S0 g) 256 [u a, u b] μ = some (.tuple #[u h, u l], μ) := by
 refine ⟨?_, ?_, fun {X g μ} hg => ?_⟩
 rotate_left 2
 ·obtain ⟨k, rfl⟩ := gle hg
  refine jau ?_
  refine jac Tryz.func256 rfl rfl (nbl rfl) ?_
  simp only [go_sem, Tryz.ntmps256]
  repeat (refine jaz rfl ?_; (try simp only [go_sem, wAdd, wMul, wAnd, wAndM, wShr32]); fail_if_success refine stk ?_)
  refine jae ?_
  refine ⟨rfl, _, ?_, rfl, rfl⟩
  simp only [go_sem, Tryz.results256]
  rfl
set_option maxHeartbeats 4000000 in
theorem round_ex (a : Nat) : ∃ r, ∀ {X : XT} {g : Nat} {μ : Mem}, 10 ≤ g → aFun pZ (jai pZ X S0 g) 222 [u a] μ = some (u r, μ) := by
 refine ⟨?_, fun {X g μ} hg => ?_⟩
 rotate_left 1
 ·obtain ⟨k, rfl⟩ := gle hg
  refine jau ?_
  refine jac Tryz.func222 rfl rfl (nbl rfl) ?_
  simp only [go_sem, Tryz.ntmps222]
  repeat (refine jaz rfl ?_; (try simp only [go_sem, wShr2, wAdd1, wAnd1, wAdd]); fail_if_success refine stk ?_)
  refine jae ?_
  refine ⟨rfl, _, ?_, rfl, rfl⟩
  simp only [go_sem, Tryz.results222]
  rfl
theorem jd4 {ρ : Operand → Value} {x y : Operand} {s : ByteArray} {kd : IntKind} {m : Nat} {b : UInt8} (hx : ρ x = .string s) (hy : ρ y = .int kd (.ofNat m)) (hb : s.data.toList[m]? = some b) : jb0 pZ ρ 9 x y = some (.int .u8 (.ofNat b.toNat)) := by
 unfold jb0
 simp only [hx, hy, Tryz.underlying9, hb]
 rfl
abbrev len8 : ByteArray := ⟨List.toArray (List.append (List.append [0, 1, 2, 2, 3, 3, 3, 3, 4, 4, 4, 4, 4, 4, 4, 4, 5, 5, 5, 5, 5, 5, 5, 5, 5, 5, 5, 5, 5, 5, 5, 5, 6, 6, 6, 6, 6, 6, 6, 6, 6, 6, 6, 6, 6, 6, 6, 6, 6, 6, 6, 6, 6, 6, 6, 6, 6, 6, 6, 6, 6, 6, 6, 6] [7, 7, 7, 7, 7, 7, 7, 7, 7, 7, 7, 7, 7, 7, 7, 7, 7, 7, 7, 7, 7, 7, 7, 7, 7, 7, 7, 7, 7, 7, 7, 7, 7, 7, 7, 7, 7, 7, 7, 7, 7, 7, 7, 7, 7, 7, 7, 7, 7, 7, 7, 7, 7, 7, 7, 7, 7, 7, 7, 7, 7, 7, 7, 7]) (List.append [8, 8, 8, 8, 8, 8, 8, 8, 8, 8, 8, 8, 8, 8, 8, 8, 8, 8, 8, 8, 8, 8, 8, 8, 8, 8, 8, 8, 8, 8, 8, 8, 8, 8, 8, 8, 8, 8, 8, 8, 8, 8, 8, 8, 8, 8, 8, 8, 8, 8, 8, 8, 8, 8, 8, 8, 8, 8, 8, 8, 8, 8, 8, 8] [8, 8, 8, 8, 8, 8, 8, 8, 8, 8, 8, 8, 8, 8, 8, 8, 8, 8, 8, 8, 8, 8, 8, 8, 8, 8, 8, 8, 8, 8, 8, 8, 8, 8, 8, 8, 8, 8, 8, 8, 8, 8, 8, 8, 8, 8, 8, 8, 8, 8, 8, 8, 8, 8, 8, 8, 8, 8, 8, 8, 8, 8, 8, 8]))⟩
theorem len8_all : ∀ m, m < 256 → ∃ b, len8.data.toList[m]? = some b ∧ b.toNat ≤ 8 ∧ m < 2 ^ b.toNat ∧ (0 < m → 2 ^ (b.toNat - 1) ≤ m) := by
 intro m hm
 have h : ∀ m, m < 256 → (match len8.data.toList[m]? with | some b => decide (b.toNat ≤ 8) && (decide (m < 2 ^ b.toNat) && decide (0 < m → 2 ^ (b.toNat - 1) ≤ m)) | none => false) = true := by decide +kernel
 have := h m hm
 split at this
 ·rename_i b hb
  simp only [Bool.and_eq_true, decide_eq_true_eq] at this
  exact ⟨b, hb, this.1, this.2.1, this.2.2⟩
 ·cases this
theorem jds (n : Int) : jay pZ 32 5 (.int .u64 n) = some (.int .u8 (jak .u8 n)) := by
 simp only [jay, Tryz.underlying32, Tryz.underlying5]
theorem jdb (n : Int) : jay pZ 5 3 (.int .u8 n) = some (.int .i64 (jak .i64 n)) := by
 simp only [jay, Tryz.underlying3, Tryz.underlying5]
theorem qu8 (m : Nat) (h : m < 256) : jak .u8 (.ofNat m) = .ofNat m := by
 rw [jbq]
 show IntKind.wrap .u8 _ = _
 unfold IntKind.wrap
 simp only [IntKind.bits, IntKind.signed]
 simp
 omega
theorem jjF (a : Nat) : ∃ b, b ≤ 64 ∧ (W a < 2 ^ b ∧ (0 < W a → 2 ^ (b - 1) ≤ W a)) ∧ ∀ {X : XT} {g : Nat} {μ : Mem}, 40 ≤ g → aFun pZ (jai pZ X S0 g) 177 [u a] μ = some (.int .i64 (.ofNat b), μ) := by
 have st : ∀ (x c : Nat) (t y : Nat), ∃ (big : Bool) (x' c' : Nat), (decide (x < t) = !big) ∧ (big = true → x' = x / 2 ^ y ∧ c' = c + y) ∧ (big = false → x' = x ∧ c' = c) := fun x c t y => by
  by_cases h : x < t
  ·exact ⟨false, x, c, by simp [h], (fun h => by cases h), fun _ => ⟨rfl, rfl⟩⟩
  ·exact ⟨true, x / 2 ^ y, c + y, by simp [h], (fun _ => ⟨rfl, rfl⟩), fun h => by cases h⟩
 obtain ⟨b1, x1, c1, h1, t1, f1⟩ := st (W a) 0 4294967296 32
 obtain ⟨b2, x2, c2, h2, t2, f2⟩ := st x1 c1 65536 16
 obtain ⟨b3, x3, c3, h3, t3, f3⟩ := st x2 c2 256 8
 have l0 := W_lt a
 have k1 : x1 < 4294967296 ∧ c1 ≤ 32 ∧ W a < (x1 + 1) * 2 ^ c1 ∧ x1 * 2 ^ c1 ≤ W a ∧ (0 < W a → 0 < x1) := by
  cases b1 with
  | true => obtain ⟨rfl, rfl⟩ := t1 rfl; simp at h1; omega
  | false => obtain ⟨rfl, rfl⟩ := f1 rfl; simp at h1; omega
 have up : ∀ (x c y : Nat), W a < (x + 1) * 2 ^ c → W a < (x / 2 ^ y + 1) * 2 ^ (c + y) := fun x c y h => by
  refine rzO h ?_
  rw [Nat.pow_add, Nat.mul_comm (2 ^ c), ← Nat.mul_assoc]
  refine Nat.mul_le_mul_right _ ?_
  have := Nat.lt_div_mul_add (a := x) (b := 2 ^ y) (Nat.pow_pos (by decide))
  rw [Nat.add_mul, Nat.one_mul]; exact this
 have dn : ∀ (x c y : Nat), x * 2 ^ c ≤ W a → x / 2 ^ y * 2 ^ (c + y) ≤ W a := fun x c y h => by
  refine rzS ?_ h
  rw [Nat.pow_add, Nat.mul_comm (2 ^ c), ← Nat.mul_assoc]
  exact Nat.mul_le_mul_right _ (Nat.div_mul_le_self _ _)
 have k2 : x2 < 65536 ∧ c2 ≤ 48 ∧ W a < (x2 + 1) * 2 ^ c2 ∧ x2 * 2 ^ c2 ≤ W a ∧ (0 < W a → 0 < x2) := by
  obtain ⟨p, q, r, z, p0⟩ := k1
  cases b2 with
  | true => obtain ⟨rfl, rfl⟩ := t2 rfl; simp at h2; exact ⟨by omega, by omega, up _ _ _ r, dn _ _ _ z, fun _ => by omega⟩
  | false => obtain ⟨rfl, rfl⟩ := f2 rfl; simp at h2; exact ⟨by omega, by omega, r, z, p0⟩
 have k3 : x3 < 256 ∧ c3 ≤ 56 ∧ W a < (x3 + 1) * 2 ^ c3 ∧ x3 * 2 ^ c3 ≤ W a ∧ (0 < W a → 0 < x3) := by
  obtain ⟨p, q, r, z, p0⟩ := k2
  cases b3 with
  | true => obtain ⟨rfl, rfl⟩ := t3 rfl; simp at h3; exact ⟨by omega, by omega, up _ _ _ r, dn _ _ _ z, fun _ => by omega⟩
  | false => obtain ⟨rfl, rfl⟩ := f3 rfl; simp at h3; exact ⟨by omega, by omega, r, z, p0⟩
 obtain ⟨d, hd, hd8, hdx, hdl⟩ := len8_all x3 k3.1
 refine ⟨c3 + d.toNat, by have := k3.2.1; omega, ⟨?_, fun h0 => ?_⟩, fun {X g μ} hg => ?_⟩
 ·refine rzO k3.2.2.1 ?_
  rw [Nat.pow_add, Nat.mul_comm]
  exact Nat.mul_le_mul_left _ hdx
 ·have hx := k3.2.2.2.2 h0
  have hd1 : 1 ≤ d.toNat := by
   refine Nat.one_le_iff_ne_zero.2 fun e => ?_
   rw [e, Nat.pow_zero] at hdx
   omega
  refine rzS ?_ k3.2.2.2.1
  rw [show c3 + d.toNat - 1 = (d.toNat - 1) + c3 from by omega, Nat.pow_add]
  exact Nat.mul_le_mul_right _ (hdl hx)
 ·obtain ⟨k, rfl⟩ := gle hg
  refine jau ?_
  have e1 : ilt (.ofNat (W a)) 4294967296 = !b1 := (jap _ 4294967296).trans h1
  have e2 : ilt (.ofNat x1) 65536 = !b2 := (jap _ 65536).trans h2
  have e3 : ilt (.ofNat x2) 256 = !b3 := (jap _ 256).trans h3
  have s32 : ∀ m, m < 18446744073709551616 → jaH false .u64 (.ofNat m) 32 = some (.int .u64 (.ofNat (m / 2 ^ 32))) := fun m h => (w_shr m 32 (by decide) h).trans (by rw [W_of (Nat.lt_of_le_of_lt (Nat.div_le_self _ _) h)])
  have s16 : ∀ m, m < 18446744073709551616 → jaH false .u64 (.ofNat m) 16 = some (.int .u64 (.ofNat (m / 2 ^ 16))) := fun m h => (w_shr m 16 (by decide) h).trans (by rw [W_of (Nat.lt_of_le_of_lt (Nat.div_le_self _ _) h)])
  have s8 : ∀ m, m < 18446744073709551616 → jaH false .u64 (.ofNat m) 8 = some (.int .u64 (.ofNat (m / 2 ^ 8))) := fun m h => (w_shr m 8 (by decide) h).trans (by rw [W_of (Nat.lt_of_le_of_lt (Nat.div_le_self _ _) h)])
  have fin : ∀ r p, aev pZ r p = .int .u8 (.ofNat x3) → jb0 pZ (aev pZ r) 9 (.const (.string len8)) p = some (.int .u8 (.ofNat d.toNat)) := fun r p hp => jd4 (s := len8) rfl hp hd
  have q1 := qu8 x3 k3.1
  have q2 : jak .i64 (.ofNat d.toNat) = .ofNat d.toNat := q64 _ (by omega)
  have q3 : jak .i64 (Int.add (.ofNat c3) (.ofNat d.toNat)) = .ofNat (c3 + d.toNat) := jaT _ _ (by have := k3.2.1; omega)
  have lx1 : x1 < 18446744073709551616 := by have := k1.1; omega
  have lx2 : x2 < 18446744073709551616 := by have := k2.1; omega
  have z32 := s32 (W a) l0
  have z16 := s16 x1 lx1
  have z8 := s8 x2 lx2
  have a16 : jak .i64 (Int.add (.ofNat c1) 16) = .ofNat (c1 + 16) := jaT c1 16 (by have := k1.2.1; omega)
  have a8 : jak .i64 (Int.add (.ofNat c2) 8) = .ofNat (c2 + 8) := jaT c2 8 (by have := k2.2.1; omega)
  refine jac Tryz.func177 rfl rfl (nbl rfl) ?_
  simp only [go_sem, Tryz.ntmps177]
  cases b1 with
  | true =>
    obtain ⟨rfl, rfl⟩ := t1 rfl
    rw [show (.ofNat (0 + 32) : Int) = 32 from rfl] at a16
    cases b2 with
    | true =>
      obtain ⟨rfl, rfl⟩ := t2 rfl
      cases b3 with
      | true =>
        obtain ⟨rfl, rfl⟩ := t3 rfl
        repeat (refine jaz rfl ?_; (try simp only [go_sem, e1, e2, e3, z32, z16, z8, a16, a8, jds, q1, fin, jdb, q2, q3]); fail_if_success refine stk ?_)
        exact jae ⟨rfl, _, by simp only [go_sem, Tryz.results177], rfl, rfl⟩
      | false =>
        obtain ⟨rfl, rfl⟩ := f3 rfl
        repeat (refine jaz rfl ?_; (try simp only [go_sem, e1, e2, e3, z32, z16, z8, a16, a8, jds, q1, fin, jdb, q2, q3]); fail_if_success refine stk ?_)
        exact jae ⟨rfl, _, by simp only [go_sem, Tryz.results177], rfl, rfl⟩
    | false =>
      obtain ⟨rfl, rfl⟩ := f2 rfl
      rw [show (.ofNat (0 + 32) : Int) = 32 from rfl] at a8
      cases b3 with
      | true =>
        obtain ⟨rfl, rfl⟩ := t3 rfl
        repeat (refine jaz rfl ?_; (try simp only [go_sem, e1, e2, e3, z32, z16, z8, a16, a8, jds, q1, fin, jdb, q2, q3]); fail_if_success refine stk ?_)
        exact jae ⟨rfl, _, by simp only [go_sem, Tryz.results177], rfl, rfl⟩
      | false =>
        obtain ⟨rfl, rfl⟩ := f3 rfl
        rw [show (.ofNat (0 + 32) : Int) = 32 from rfl] at q3
        repeat (refine jaz rfl ?_; (try simp only [go_sem, e1, e2, e3, z32, z16, z8, a16, a8, jds, q1, fin, jdb, q2, q3]); fail_if_success refine stk ?_)
        exact jae ⟨rfl, _, by simp only [go_sem, Tryz.results177], rfl, rfl⟩
  | false =>
    obtain ⟨rfl, rfl⟩ := f1 rfl
    rw [show (.ofNat 0 : Int) = 0 from rfl] at a16
    cases b2 with
    | true =>
      obtain ⟨rfl, rfl⟩ := t2 rfl
      cases b3 with
      | true =>
        obtain ⟨rfl, rfl⟩ := t3 rfl
        repeat (refine jaz rfl ?_; (try simp only [go_sem, e1, e2, e3, z32, z16, z8, a16, a8, jds, q1, fin, jdb, q2, q3]); fail_if_success refine stk ?_)
        exact jae ⟨rfl, _, by simp only [go_sem, Tryz.results177], rfl, rfl⟩
      | false =>
        obtain ⟨rfl, rfl⟩ := f3 rfl
        repeat (refine jaz rfl ?_; (try simp only [go_sem, e1, e2, e3, z32, z16, z8, a16, a8, jds, q1, fin, jdb, q2, q3]); fail_if_success refine stk ?_)
        exact jae ⟨rfl, _, by simp only [go_sem, Tryz.results177], rfl, rfl⟩
    | false =>
      obtain ⟨rfl, rfl⟩ := f2 rfl
      rw [show (.ofNat 0 : Int) = 0 from rfl] at a8
      cases b3 with
      | true =>
        obtain ⟨rfl, rfl⟩ := t3 rfl
        repeat (refine jaz rfl ?_; (try simp only [go_sem, e1, e2, e3, z32, z16, z8, a16, a8, jds, q1, fin, jdb, q2, q3]); fail_if_success refine stk ?_)
        exact jae ⟨rfl, _, by simp only [go_sem, Tryz.results177], rfl, rfl⟩
      | false =>
        obtain ⟨rfl, rfl⟩ := f3 rfl
        rw [show (.ofNat 0 : Int) = 0 from rfl] at q3
        repeat (refine jaz rfl ?_; (try simp only [go_sem, e1, e2, e3, z32, z16, z8, a16, a8, jds, q1, fin, jdb, q2, q3]); fail_if_success refine stk ?_)
        exact jae ⟨rfl, _, by simp only [go_sem, Tryz.results177], rfl, rfl⟩
end
noncomputable section
theorem shr15_any (v : Int) : pv pZ (Op.shift .shr .i64 v .u64 15) = some (.int .i64 (v / 32768)) := by
 show some (Value.int .i64 (Int.fdiv v (2 ^ 15))) = _
 rw [Int.fdiv_eq_ediv_of_nonneg _ (by decide)]; rfl
theorem shr15_neg (v : Int) (h : v < 0) : jaH false .i64 v 15 = none := by
 cases v with
 | ofNat m => exact absurd h (by simp only [Int.ofNat_eq_natCast]; omega)
 | negSucc m => rfl
theorem shr15_pos (v : Int) (h : 0 ≤ v) : jaH false .i64 v 15 = some (.int .i64 (v / 32768)) := by
 cases v with
 | ofNat m =>
   unfold jaH
   simp only [jbH]
   rfl
 | negSucc m => omega
set_option maxHeartbeats 4000000 in
theorem log2_eq {X : XT} {g : Nat} {p : Int} {μ : Mem} (hg : 20 ≤ g) (h1 : -100000 < p) (h2 : p < 100000) : aFun pZ (jai pZ X S0 g) 217 [.int .i64 p] μ = some (.int .i64 (p * 108853 / 32768), μ) := by
 obtain ⟨k, rfl⟩ := gle hg
 refine jau ?_
 have e1 : jak .i64 (Int.mul p 108853) = p * 108853 := i_mul p 108853 (by omega) (by omega)
 obtain ⟨v, hv⟩ := exq (p * 108853)
 rw [← hv] at e1 ⊢
 by_cases h0 : v < 0
 ·have e2 := shr15_neg v h0
  have e3 := shr15_any v
  refine jac Tryz.func217 rfl rfl (nbl rfl) ?_
  simp only [go_sem, Tryz.ntmps217]
  repeat (refine jaz rfl ?_; (try simp only [go_sem, e1, e2, e3]); fail_if_success refine stk ?_)
  exact jae ⟨rfl, _, by simp only [go_sem, Tryz.results217], rfl, rfl⟩
 ·have e2 := shr15_pos v (by omega)
  refine jac Tryz.func217 rfl rfl (nbl rfl) ?_
  simp only [go_sem, Tryz.ntmps217]
  repeat (refine jaz rfl ?_; (try simp only [go_sem, e1, e2]); fail_if_success refine stk ?_)
  exact jae ⟨rfl, _, by simp only [go_sem, Tryz.results217], rfl, rfl⟩
theorem i_and63 (s : Nat) (h : s < 1000000) : jbm Nat.land .i64 .i64 (.ofNat s) 63 = some (.int .i64 (.ofNat (s &&& 63))) := by
 unfold jbm
 simp only [decide_true, jbH]
 rw [show Nat.blt s 18446744073709551616 = true from by simp; omega]
 show some (Value.int .i64 (jak .i64 (.ofNat (s &&& 63)))) = _
 rw [q64 _ (Nat.lt_of_le_of_lt Nat.and_le_right (by decide))]
theorem je9 (x h l s : Nat) (hs : s < 1000000) : ∃ r d, ∀ {X : XT} {g : Nat} {μ : Mem} {i : Nat}, 80 ≤ g → jad μ i 0 = some (u h) → jad μ i 1 = some (u l) → jad μ i 2 = some (.int .i64 (.ofNat s)) →
  aFun pZ (jai pZ X S0 g) 218 [u x, .pointer (some ⟨i, 0, none⟩)] μ = some (u r, ⟨μ.obs, μ.next + d⟩) := by
 obtain ⟨a, b, hm1⟩ := jjz x h
 obtain ⟨c, e, hm2⟩ := jjz x l
 obtain ⟨t, ht⟩ := exq (s &&& 63)
 have ht64 : t ≤ 64 := by rw [ht]; exact rzS Nat.and_le_right (by decide)
 have ea := i_and63 s hs
 rw [← ht] at ea
 have er := fun m => wShr m t ht64
 have el := fun m => wShl m t ht64
 by_cases hc : W (Sh (W (W a / 2 ^ t)) t) = W a
 ·have ec : ieq (.ofNat (W (Sh (W (W a / 2 ^ t)) t))) (.ofNat (W a)) = true := dT (jbG _ _) hc
  refine ⟨?_, 10, fun {X g μ i} hg c0 c1 c2 => ?_⟩
  rotate_left 1
  ·obtain ⟨k, rfl⟩ := gle hg
   refine jau ?_
   have hm1' : ∀ (g' : Nat) (μ' : Mem), 30 ≤ g' → aFun pZ (jai pZ X S0 g') 256 [u x, u h] μ' = some (.tuple #[u a, u b], μ') := fun g' μ' h => hm1 h
   have hm2' : ∀ (g' : Nat) (μ' : Mem), 30 ≤ g' → aFun pZ (jai pZ X S0 g') 256 [u x, u l] μ' = some (.tuple #[u c, u e], μ') := fun g' μ' h => hm2 h
   have hb : ∀ (g' : Nat) (q : Bool) (μ' : Mem), 10 ≤ g' → aFun pZ (jai pZ X S0 g') 257 [.bool q] μ' = some (u (b2 q), μ') := fun g' q μ' h => bool2u_eq h
   have il := jap (W b) (W c)
   have il2 : ∀ m, ilt 1 (.ofNat (W m)) = decide (1 < W m) := fun m => jap 1 (W m)
   refine jac Tryz.func218 rfl rfl (nbl rfl) ?_
   simp only [go_sem, Tryz.ntmps218]
   repeat (refine jaz rfl ?_; (try simp only [go_sem, c0, c1, c2, hm1', hm2', Nat.reduceLeDiff, ea, er, el, ec, il, hb, wSub]); fail_if_success refine stk ?_)
   refine jaY (n := 10) (ms := [0, 0, 3, 0, 0, 24, 56, 120, 255, 511]) (ord := [3, 4, 5, 6, 7, 0, 1, 2, 8, 9]) (ds := ?_) ?_ ?_ ?_ ?_ ?_ ?_
   rotate_left
   ·kernel_rfl
   ·kernel_rfl
   ·kernel_rfl
   ·rfl
   ·rfl
   iterate 10 (refine ja5 (by first | rfl | (simp only [go_sem, er, wSub, il2, gg257, hb, Nat.reduceLeDiff, wOr])) (by simp only [jaV, heavy, jbg, jaQ, go_sem, er, wSub, il2, gg257, hb, Nat.reduceLeDiff, wOr]; try exact rfl) rfl ?_)
   simp only [dRun, jaK, jag]
   refine jae ?_
   refine ⟨rfl, _, ?_, rfl, rfl⟩
   simp only [go_sem, Tryz.results218]
   rfl
 ·have ec : ieq (.ofNat (W (Sh (W (W a / 2 ^ t)) t))) (.ofNat (W a)) = false := dF (jbG _ _) hc
  refine ⟨?_, 0, fun {X g μ i} hg c0 c1 c2 => ?_⟩
  rotate_left 1
  ·obtain ⟨k, rfl⟩ := gle hg
   refine jau ?_
   have hm1' : ∀ (g' : Nat) (μ' : Mem), 30 ≤ g' → aFun pZ (jai pZ X S0 g') 256 [u x, u h] μ' = some (.tuple #[u a, u b], μ') := fun g' μ' h => hm1 h
   refine jac Tryz.func218 rfl rfl (nbl rfl) ?_
   simp only [go_sem, Tryz.ntmps218]
   repeat (refine jaz rfl ?_; (try simp only [go_sem, c0, c1, c2, hm1', Nat.reduceLeDiff, ea, er, el, ec, wOr1]); fail_if_success refine stk ?_)
   refine jae ?_
   refine ⟨rfl, _, ?_, rfl, rfl⟩
   simp only [go_sem, Tryz.results218]
   rfl
theorem pv_pure (v : Value) : pv pZ (pure v) = some v := rfl
theorem conv_iu (n : Int) : jay pZ 3 32 (.int .i64 n) = some (.int .u64 (jak .u64 n)) := by
 simp only [jay, Tryz.underlying3, Tryz.underlying32]
def natOf : Value → Nat
 | .int _ (.ofNat n) => n
 | _ => 0
def ptab : List Value := (flatL 3 Go.Pinned.pow10Tab).getD []
def hiT (k : Nat) : Nat := natOf (ptab.getD (2 * k) undef)
def loT (k : Nat) : Nat := natOf (ptab.getD (2 * k + 1) undef)
def fpows : List Nat := [4607182418800017408, 4621819117588971520, 4636737291354636288, 4652007308841189376, 4666723172467343360, 4681608360884174848, 4696837146684686336, 4711630319722168320, 4726483295884279808, 4741671816366391296, 4756540486875873280, 4771362005757984768, 4786511204640096256, 4801453603149578240, 4816244402031689728, 4831355200913801216, 4846369599423283200, 4861130398305394688, 4876203697187506176, 4891288408196988160, 4906019910204099648, 4921056587992461136, 4936209963552724370]
def powts : List Nat := [1, 3, 6, 9, 13, 16, 19, 23, 26]
def dlt (k : Nat) : Nat := (Go.Pinned.cheatRows.getD k (0, [])).1
def cut (k : Nat) : ByteArray := ⟨(Go.Pinned.cheatRows.getD k (0, [])).2.toArray⟩
structure Lay (μ : Mem) : Prop where
 opt : jad μ 1 0 = some (.bool true)
 fi0 : jad μ 11 0 = some (.int .u64 52)
 fi1 : jad μ 11 1 = some (.int .u64 11)
 fi2 : jad μ 11 2 = some (.int .i64 (-1023))
 pt : ∀ k, k < 696 → jad μ 6 (2 * k) = some (u (hiT k)) ∧ jad μ 6 (2 * k + 1) = some (u (loT k))
 fp : ∃ b o c, jad μ 16 0 = some (.slice (some ⟨b, o, none⟩) 23 c) ∧ b < μ.next ∧ ∀ k, k < 23 → jad μ b (o + k) = some (.float .f64 (fpows.getD k 0))
 pw : ∃ b o c, jad μ 15 0 = some (.slice (some ⟨b, o, none⟩) 9 c) ∧ b < μ.next ∧ ∀ k, k < 9 → jad μ b (o + k) = some (.int .i64 (.ofNat (powts.getD k 0)))
 lc : ∃ b o c, jad μ 7 0 = some (.slice (some ⟨b, o, none⟩) 61 c) ∧ b < μ.next ∧ ∀ k, k < 61 → jad μ b (o + 2 * k) = some (.int .i64 (.ofNat (dlt k))) ∧ jad μ b (o + 2 * k + 1) = some (.string (cut k))
 er : ∃ v, jad μ 9 0 = some v ∧ one v = true
 es : ∃ v, jad μ 8 0 = some v ∧ one v = true
 lt : 20 < μ.next
theorem jb8 {μ μ' : Mem} {i : Nat} (g : Grow μ μ') (h : i < μ.next) (o : Nat) : jad μ' i o = jad μ i o := by unfold jad; rw [g.2 i h]
theorem Lay.grow {μ μ' : Mem} (h : Lay μ) (g : Grow μ μ') : Lay μ' := by
 have c : ∀ i, i ≤ 20 → ∀ o, jad μ' i o = jad μ i o := fun i hi o => jb8 g (Nat.lt_of_le_of_lt hi h.lt) o
 refine ⟨(c _ (by decide) _).trans h.opt, (c _ (by decide) _).trans h.fi0, (c _ (by decide) _).trans h.fi1, (c _ (by decide) _).trans h.fi2, fun k hk => ?_, ?_, ?_, ?_, ?_, ?_, rzO h.lt g.1⟩
 ·rw [c _ (by decide), c _ (by decide)]; exact h.pt k hk
 ·obtain ⟨b, o, cc, h1, h2, h3⟩ := h.fp
  exact ⟨b, o, cc, (c _ (by decide) _).trans h1, rzO h2 g.1, fun k hk => (jb8 g h2 _).trans (h3 k hk)⟩
 ·obtain ⟨b, o, cc, h1, h2, h3⟩ := h.pw
  exact ⟨b, o, cc, (c _ (by decide) _).trans h1, rzO h2 g.1, fun k hk => (jb8 g h2 _).trans (h3 k hk)⟩
 ·obtain ⟨b, o, cc, h1, h2, h3⟩ := h.lc
  exact ⟨b, o, cc, (c _ (by decide) _).trans h1, rzO h2 g.1, fun k hk => ⟨(jb8 g h2 _).trans (h3 k hk).1, (jb8 g h2 _).trans (h3 k hk).2⟩⟩
 ·obtain ⟨v, h1, h2⟩ := h.er
  exact ⟨v, (c _ (by decide) _).trans h1, h2⟩
 ·obtain ⟨v, h1, h2⟩ := h.es
  exact ⟨v, (c _ (by decide) _).trans h1, h2⟩
theorem glob (g : Nat) (hg : Nat.blt g pZ.globals.size = true) (r : Rg) : aev pZ r (.global g) = .pointer (some ⟨g, 0, none⟩) := by
 show (match Nat.blt g pZ.globals.size with | true => Value.pointer (some ⟨g, 0, none⟩) | false => Value.chan none) = _
 rw [hg]
theorem gP (r : Rg) : aev pZ r (.global 6) = .pointer (some ⟨6, 0, none⟩) := glob _ (by kernel_rfl) r
theorem jis {X : XT} {g i k s : Nat} {x p lp : Int} {μ : Mem} (hg : 40 ≤ g) (hL : Lay μ) (hb : Blk μ i 3 279) (hi : 20 < i) (hk : k < 696) (hp : p - (-348) = .ofNat k) (b1 : -100000 < x) (b2 : x < 100000) (b3 : -100000 < lp) (b4 : lp < 100000) (hs : -(x + lp + 3) = .ofNat s) :
  aFun pZ (jai pZ X S0 g) 216 [.pointer (some ⟨i, 0, none⟩), .int .i64 x, .int .i64 p, .int .i64 lp] μ = some (.tuple #[], putL (putL (putL μ i 0 [u (hiT k)]) i 1 [u (loT k)]) i 2 [.int .i64 (.ofNat s)]) := by
 obtain ⟨f, rfl⟩ := gle hg
 refine jau ?_
 have hp' : p - (-348) = (k : Int) := hp
 have q1 : jak .i64 (Int.sub p (-348)) = .ofNat k := by rw [← hp]; exact jdO p (-348) (by omega) (by omega)
 have q2 : jak .i64 (Int.add x lp) = x + lp := jeO x lp (by omega) (by omega)
 have q3 : jak .i64 (Int.add (x + lp) 3) = x + lp + 3 := jeO (x + lp) 3 (by omega) (by omega)
 obtain ⟨y, hy⟩ := exq (x + lp + 3)
 rw [← hy] at q3 hs
 have np : ∀ (ρ : Operand → Value) (d : Option Tmp) (t ty : TypeId) (a : Operand) (ps : String) (af : Array Edge) (gd : Option (Nat × Bool)), ρ a = .int .i64 y → jaC pZ ρ ⟨d, .unOp .neg t a, ty, ps, af, gd⟩ = some (.int .i64 (.ofNat s)) := fun ρ d t ty a ps af gd h => by rw [← hs]; exact jce h (by omega) (by omega)
 have hix : ∀ (r : Rg) (b' : Operand), aev pZ r b' = .int .i64 (.ofNat k) → jal pZ (aev pZ r) 311 (.global 6) b' = some (.pointer (some ⟨6, 2 * k, none⟩)) := fun r b' g2 => by
  unfold jal
  simp only [g2, gP, Tryz.underlying311, aIdx, i_pm]
  rw [show Nat.blt k 696 = true from by simpa using hk]
  simp only [Addr.add]
  rw [show Nat.mul k Tryz.t310.size = 2 * k from Nat.mul_comm k 2, rzT]
  split
  ·rename_i h; rw [h]
  ·rfl
 have hpt := hL.pt k hk
 have ne : 6 ≠ i := Nat.ne_of_lt (Nat.lt_of_le_of_lt (by decide : 6 ≤ 20) hi)
 have s0 := jaW (P := pZ) (t := 32) (v := u (hiT k)) jiD rfl rfl hb (show 0 < 3 by decide)
 have hb1 := Blk.put (i := i) 0 [u (hiT k)] hb
 have s1 := jaW (P := pZ) (t := 32) (v := u (loT k)) jiD rfl rfl hb1 (show 1 < 3 by decide)
 have hb2 := Blk.put (i := i) 1 [u (loT k)] hb1
 have s2 := jaW (P := pZ) (t := 3) (v := .int .i64 (.ofNat s)) i_int rfl rfl hb2 (show 2 < 3 by decide)
 have c1 : jad (putL μ i 0 [u (hiT k)]) 6 (2 * k + 1) = some (u (loT k)) := (jfx ne).trans hpt.2
 have a1 : ∀ n, Addr.add ⟨6, 2 * k, none⟩ n = ⟨6, 2 * k + n, none⟩ := fun n => by
  unfold Addr.add
  by_cases h : n = 0
  ·subst h; rfl
  ·rw [if_neg h]
 refine jac Tryz.func216 rfl rfl (nbl rfl) ?_
 simp only [go_sem, Tryz.ntmps216]
 repeat (refine jaz rfl ?_; (try simp only [go_sem, q1, q2, q3, np, hix, a1, Nat.add_zero, hpt.1, c1, s0, s1, s2]); fail_if_success refine stk ?_)
 refine ⟨rfl, _, ?_, rfl, rfl⟩
 simp only [go_sem, Tryz.results216]
def obS : Ob := .cells 3 279 #[.int .u64 0, .int .u64 0, .int .i64 0] .e 0 0 false false
theorem z_sc : jaO pZ 279 = some (.agg #[.int .u64 0, .int .u64 0, .int .i64 0]) := by unfold jaO; rw [i_sc]; rfl
@[go_sem] theorem al_sc : jb4 pZ 279 = some (obS, fun id => .pointer (some ⟨id, 0, none⟩)) := by unfold jb4; rw [z_sc]; rfl
theorem three {μ : Mem} {i t : Nat} {a b c : Value} (h : Blk μ i 3 t) : jad (putL (putL (putL μ i 0 [a]) i 1 [b]) i 2 [c]) i 0 = some a ∧ jad (putL (putL (putL μ i 0 [a]) i 1 [b]) i 2 [c]) i 1 = some b ∧ jad (putL (putL (putL μ i 0 [a]) i 1 [b]) i 2 [c]) i 2 = some c := by
 have h1 := Blk.put (i := i) 0 [a] h
 have h2 := Blk.put (i := i) 1 [b] h1
 refine ⟨?_, ?_, ?_⟩
 ·rw [jaP h2 (by simp : 2 + [c].length ≤ 3), dif_neg (by simp), jaP h1 (by simp : 1 + [b].length ≤ 3), dif_neg (by simp), jaP h (by simp : 0 + [a].length ≤ 3), dif_pos (by simp)]; rfl
 ·rw [jaP h2 (by simp : 2 + [c].length ≤ 3), dif_neg (by simp), jaP h1 (by simp : 1 + [b].length ≤ 3), dif_pos (by simp)]; rfl
 ·rw [jaP h2 (by simp : 2 + [c].length ≤ 3), dif_pos (by simp)]; rfl
def NoErr (v : Value) : Prop := v = .nilIface ∨ v = .iface 297 (.int .i64 1)
theorem jkp {ρ : Operand → Value} {d : Option Tmp} {t ty : TypeId} {x : Operand} {ps : String} {af : Array Edge} {gd : Option (Nat × Bool)} {a : Nat} (hx : ρ x = .float .f64 a) : jaC pZ ρ ⟨d, .unOp .neg t x, ty, ps, af, gd⟩ = some (.float .f64 (Op.negFloat .f64 a)) := by
 unfold jaC
 have e : pv pZ (execOp ρ ⟨d, .unOp .neg t x, ty, ps, af, gd⟩) = some (.value (.float .f64 (Op.negFloat .f64 a))) := by
  simp only [execOp, hx]
  kernel_rfl
 simp only [opsOf, jbn, hx, jaw, e]
theorem anf (t : TypeId) (k j : FloatKind) (a b : Nat) : aNil pZ t (.float k a) (.float j b) = false := rfl
def fgt (a b : Nat) : Bool := Ieee.double.order a b == some .gt
def flt (a b : Nat) : Bool := Ieee.double.order a b == some .lt
theorem jhw {ρ : Operand → Value} {d : Option Tmp} {t yt ty : TypeId} {x y : Operand} {ps : String} {af : Array Edge} {gd : Option (Nat × Bool)} {a b : Nat} (hx : ρ x = .float .f64 a) (hy : ρ y = .float .f64 b) : jaC pZ ρ ⟨d, .binOp .gtr t x y yt, ty, ps, af, gd⟩ = some (.bool (fgt a b)) := by
 unfold jaC
 have e : pv pZ (execOp ρ ⟨d, .binOp .gtr t x y yt, ty, ps, af, gd⟩) = some (.value (.bool (fgt a b))) := by
  simp only [execOp, hx, hy]
  kernel_rfl
 simp only [opsOf, jbn, hx, hy, jaw, e]
theorem jhv {ρ : Operand → Value} {d : Option Tmp} {t yt ty : TypeId} {x y : Operand} {ps : String} {af : Array Edge} {gd : Option (Nat × Bool)} {a b : Nat} (hx : ρ x = .float .f64 a) (hy : ρ y = .float .f64 b) : jaC pZ ρ ⟨d, .binOp .lss t x y yt, ty, ps, af, gd⟩ = some (.bool (flt a b)) := by
 unfold jaC
 have e : pv pZ (execOp ρ ⟨d, .binOp .lss t x y yt, ty, ps, af, gd⟩) = some (.value (.bool (flt a b))) := by
  simp only [execOp, hx, hy]
  kernel_rfl
 simp only [opsOf, jbn, hx, hy, jaw, e]
theorem wShr52 (a : Nat) : jaH false .u64 (.ofNat (W a)) 52 = some (.int .u64 (.ofNat (W (W a / 2 ^ 52)))) := wShr a 52 (by decide)
end
noncomputable section
open Go.Proofs.YtdmfakpngnlokaaGreatDoor.NumText (numB dig isE isS)
def bys (s : ByteArray) : List Nat := s.data.toList.map UInt8.toNat
theorem jcx (s : ByteArray) : (bys s).length = s.data.toList.length := List.length_map _
theorem jhh {s : ByteArray} {i : Nat} (h : i < (bys s).length) {ρ : Operand → Value} {x y : Operand} {kd : IntKind} (hx : ρ x = .string s) (hy : ρ y = .int kd (.ofNat i)) : jb0 pZ ρ 9 x y = some (.int .u8 (.ofNat ((bys s)[i]'h))) := by
 have h' : i < s.data.toList.length := by rw [← jcx]; exact h
 have e : (bys s)[i]'h = (s.data.toList[i]'h').toNat := List.getElem_map ..
 rw [jd4 hx hy (rzK h'), e]
theorem jbU (s : ByteArray) : aLen pZ 9 (.string s) = some (bys s).length := by
 unfold aLen
 simp only [Tryz.underlying9, jcx]
def jch (s : ByteArray) (k : Nat) : ByteArray := ⟨(s.data.toList.drop k).toArray⟩
theorem jdB (s : ByteArray) (k : Nat) : bys (jch s k) = (bys s).drop k := by unfold bys jch; simp
theorem jeo {ρ : Operand → Value} {x y : Operand} {s : ByteArray} {k : Nat} {kd : IntKind} (hx : ρ x = .string s) (hy : ρ y = .int kd (.ofNat k)) (hk : k ≤ (bys s).length) : jaJ pZ ρ 9 x (some y) none none = some (.string (jch s k)) := by
 unfold jaJ
 have h' : k ≤ s.data.toList.length := by rw [← jcx]; exact hk
 have e1 : Nat.ble k s.data.toList.length = true := rzP h'
 simp only [hx, Tryz.underlying9, ja2, jbl, hy, e1]
 have e2 : Nat.ble s.data.toList.length s.data.toList.length = true := rzP (rzN _)
 try simp only [e2]
 exact congrArg (fun l : List UInt8 => some (Value.string ⟨l.toArray⟩)) (List.take_of_length_le (by rw [List.length_drop]; exact rzN _))
def jbV (s : ByteArray) (k : Nat) : ByteArray := ⟨(s.data.toList.take k).toArray⟩
theorem jjT (s : ByteArray) (k : Nat) : bys (jbV s k) = (bys s).take k := by unfold bys jbV; simp
theorem jeU {ρ : Operand → Value} {x y : Operand} {s : ByteArray} {k : Nat} {kd : IntKind} (hx : ρ x = .string s) (hy : ρ y = .int kd (.ofNat k)) (hk : k ≤ (bys s).length) : jaJ pZ ρ 9 x none (some y) none = some (.string (jbV s k)) := by
 unfold jaJ
 have h' : k ≤ s.data.toList.length := by rw [← jcx]; exact hk
 have e1 : Nat.ble k s.data.toList.length = true := rzP h'
 simp only [hx, Tryz.underlying9, ja2, jbl, hy, e1]
 rfl
theorem eqb {ρ : Operand → Value} {d : Option Tmp} {ty : TypeId} {x y : Operand} {ps : String} {af : Array Edge} {gd : Option (Nat × Bool)} {a b : Bool} (hx : ρ x = .bool a) (hy : ρ y = .bool b) : jaC pZ ρ ⟨d, .binOp .eql 4 x y 4, ty, ps, af, gd⟩ = some (.bool (a == b)) := by
 unfold jaC
 simp only [opsOf, jbn, hx, hy, jaw, execOp]
 show (_ : Option Value) = _
 kernel_rfl
end
noncomputable section
open Go.Proofs.YtdmfakpngnlokaaGreatDoor.DecM (val Dg low carry less Cheat)
structure Dec (μ : Mem) (i : Nat) (D : Nat → Nat) (nd : Nat) (dp : Int) (neg tr : Bool) : Prop where
 blk : Blk μ i 804 249
 d : ∀ k, k < 800 → jad μ i k = some (.int .u8 (.ofNat (D k)))
 n : jad μ i 800 = some (.int .i64 (.ofNat nd))
 p : jad μ i 801 = some (.int .i64 dp)
 g : jad μ i 802 = some (.bool neg)
 t : jad μ i 803 = some (.bool tr)
def put1 (D : Nat → Nat) (k v : Nat) : Nat → Nat := fun j => if j = k then v else D j
section
variable {μ : Mem} {i : Nat} {D : Nat → Nat} {nd : Nat} {dp : Int} {neg tr : Bool}
theorem jc0 {μ : Mem} {i n t o k : Nat} {v : Value} (h : Blk μ i n t) (ho : o < n) : jad (putL μ i o [v]) i k = if k = o then some v else jad μ i k := by
 rw [jaP h (by show o + 1 ≤ n; omega)]
 by_cases e : k = o
 ·subst e; rw [dif_pos ⟨rfl, rzN _, by simp⟩, if_pos rfl]; simp
 ·rw [dif_neg (by rintro ⟨_, h1, h2⟩; simp at h2; omega), if_neg e]
theorem Dec.setD (h : Dec μ i D nd dp neg tr) {k v : Nat} (hk : k < 800) : Dec (putL μ i k [.int .u8 (.ofNat v)]) i (put1 D k v) nd dp neg tr := by
 have c := fun j => jc0 (k := j) (v := .int .u8 (.ofNat v)) h.blk (show k < 804 by omega)
 refine ⟨h.blk.put _ _, fun j hj => ?_, ?_, ?_, ?_, ?_⟩
 ·rw [c]; unfold put1
  by_cases e : j = k
  ·rw [if_pos e, if_pos e]
  ·rw [if_neg e, if_neg e]; exact h.d j hj
 ·rw [c, if_neg (by omega)]; exact h.n
 ·rw [c, if_neg (by omega)]; exact h.p
 ·rw [c, if_neg (by omega)]; exact h.g
 ·rw [c, if_neg (by omega)]; exact h.t
theorem Dec.up (h : Dec μ i D nd dp neg tr) (m : Nat) : Dec ⟨μ.obs, m⟩ i D nd dp neg tr := ⟨h.blk, h.d, h.n, h.p, h.g, h.t⟩
end
theorem st_d {μ : Mem} {i k v : Nat} (h : Blk μ i 804 249) (hk : k < 800) : jbu pZ μ 5 (.pointer (some ⟨i, k, none⟩)) (.int .u8 (.ofNat v)) = some (undef, putL μ i k [.int .u8 (.ofNat v)]) := jaW i_u8 rfl rfl h (by omega)
theorem ix800 {ρ : Operand → Value} {a b : Operand} {i m : Nat} (hm : m < 800) (h1 : ρ a = .pointer (some ⟨i, 0, none⟩)) (h2 : ρ b = .int .i64 (.ofNat m)) : jal pZ ρ 247 a b = some (.pointer (some ⟨i, m, none⟩)) := by
 unfold jal
 simp only [h1, h2, Tryz.underlying247, aIdx, i_u8]
 rw [show Nat.blt m 800 = true from by simpa using hm]
 simp only [Addr.add]
 rw [show Nat.mul m Tryz.t5.size = m from Nat.mul_one m, rzT]
 split
 ·rename_i h; rw [h]
 ·rfl
def Only (μ μ' : Mem) (i : Nat) : Prop := μ.next ≤ μ'.next ∧ ∀ j, j < μ.next → j ≠ i → μ'.obs.get j = μ.obs.get j
theorem Only.refl (μ : Mem) (i : Nat) : Only μ μ i := ⟨rzN _, fun _ _ _ => rfl⟩
theorem Only.trans {a b c : Mem} {i : Nat} (h : Only a b i) (g : Only b c i) : Only a c i := ⟨rzS h.1 g.1, fun j hj hn => (g.2 j (rzO hj h.1) hn).trans (h.2 j hj hn)⟩
theorem Only.put (μ : Mem) (i o : Nat) (vs : List Value) : Only μ (putL μ i o vs) i := ⟨by rw [jaE]; exact rzN _, fun j _ hn => jaX _ _ _ _ hn⟩
theorem Only.up (μ : Mem) (i d : Nat) : Only μ ⟨μ.obs, μ.next + d⟩ i := ⟨Nat.le_add_right _ _, fun _ _ _ => rfl⟩
theorem Only.grow {a b : Mem} {i : Nat} (h : Grow a b) : Only a b i := ⟨h.1, fun j hj _ => h.2 j hj⟩
end
noncomputable section
open Go.Proofs.YtdmfakpngnlokaaGreatDoor.DecM (val Dg low carry less Cheat)
theorem lenBs {a : Option Addr} {n c : Nat} : aLen pZ 54 (.slice a n c) = some n := by
 unfold aLen
 simp only [Tryz.underlying54]
end
noncomputable section
open Go.Proofs.YtdmfakpngnlokaaGreatDoor.DecM (val Dg low carry less Cheat sumL sumL_lt jjj shifted jjG jgN pow60)
theorem nw {a : Nat} (h : a < 18446744073709551616) : jak .u64 (.ofNat a) = .ofNat a := by rw [jcn, W_of h]
theorem n_add {a b : Nat} (h : a + b < 18446744073709551616) : jak .u64 (Int.add (.ofNat a) (.ofNat b)) = .ofNat (a + b) := nw h
theorem n_mul {a b : Nat} (h : a * b < 18446744073709551616) : jak .u64 (Int.mul (.ofNat a) (.ofNat b)) = .ofNat (a * b) := nw h
theorem n_sub {a b : Nat} (h : b ≤ a) (h2 : a < 18446744073709551616) : jak .u64 (Int.sub (.ofNat a) (.ofNat b)) = .ofNat (a - b) := by
 have e : Int.sub (.ofNat a) (.ofNat b) = .ofNat (a - b) := by show (a : Int) - (b : Int) = ((a - b : Nat) : Int); omega
 rw [e]; exact nw (by omega)
theorem jiv {a : Nat} (ha : a < 18446744073709551616) : aDiv false .u64 .u64 (.ofNat a) 10 = some (.int .u64 (.ofNat (a / 10))) := by
 show some (Value.int .u64 (jak .u64 (.ofNat (a / 10)))) = _
 rw [nw (Nat.lt_of_le_of_lt (Nat.div_le_self _ _) ha)]
theorem conv_w8 (n : Int) : jay pZ 79 5 (.int .u64 n) = some (.int .u8 (jak .u8 n)) := by
 simp only [jay, Tryz.underlying79, Tryz.underlying5]
theorem p10_19 {d : Nat} (h : d ≤ 19) : 10 ^ d < 18446744073709551616 := Nat.lt_of_le_of_lt (Nat.pow_le_pow_right (by decide) h) (by decide)
theorem ls2 : ∀ d, d ≤ 19 → ∀ N, N < 10 ^ d → (1 ≤ d → 10 ^ (d - 1) ≤ N) → ∀ E : Nat → Nat, ∃ E' : Nat → Nat, (∀ p, p < d → 48 ≤ E' p ∧ E' p ≤ 57) ∧ (1 ≤ d → 49 ≤ E' 0) ∧ (∀ p, d ≤ p → E' p = E p) ∧ ∀ {X : XT} {e i n : Nat} {tm : T Value} {v4 : Value} {μ : Mem} {dp : Int} {neg tr : Bool}, Dec μ i E n dp neg tr → jah tm 0 = .pointer (some ⟨i, 0, none⟩) → jah tm 4 = v4 → jah tm 6 = .int .i64 (.ofNat d) → jah tm 7 = .int .u64 (.ofNat N) →
  LpC X (e + d + 40) Tryz.f228 1 137 tm μ fun x r μ' => x = .exit 2 ∧ Dec μ' i E' n dp neg tr ∧ Only μ μ' i ∧ ∃ tm', r = ⟨137, tm', [], none⟩ ∧ jah tm' 0 = .pointer (some ⟨i, 0, none⟩) ∧ jah tm' 4 = v4 := by
 intro d
 induction d with
 | zero =>
   intro _ N hN _ E
   have hN0 : N = 0 := by have : N < 1 := hN; omega
   subst hN0
   refine ⟨E, fun p hp => by omega, fun h => by omega, fun p _ => rfl, fun {X e i n tm v4 μ dp neg tr} h h0 h4 h6 h7 => ?_⟩
   have e1 : ilt 0 (.ofNat 0) = false := rfl
   refine jam ?_
   repeat (refine jaz rfl ?_; (try simp only [go_sem, h0, h4, h6, h7, e1]); fail_if_success refine stk ?_)
   exact ⟨by trivial, h, Only.refl _ _, _, rfl, by simp only [go_sem, h0], by simp only [go_sem, h4]⟩
 | succ d ih =>
   intro hd N hN1 hN2 E
   have hN2 : 10 ^ d ≤ N := hN2 (by omega)
   have hp := Nat.pow_pos (n := d) (show 0 < 10 by decide)
   have h10 := p10_19 hd
   rw [Nat.pow_succ] at hN1
   have hNb : N < 18446744073709551616 := by rw [Nat.pow_succ] at h10; omega
   have e1 : ilt 0 (.ofNat N) = true := dT (jap 0 N) (by omega)
   have q5 : aDiv false .u64 .u64 (.ofNat N) 10 = some (.int .u64 (.ofNat (N / 10))) := jiv hNb
   have q6 : jak .u64 (Int.mul 10 (.ofNat (N / 10))) = .ofNat (10 * (N / 10)) := n_mul (a := 10) (by omega)
   have q7 : jak .u64 (Int.sub (.ofNat N) (.ofNat (10 * (N / 10)))) = .ofNat (N % 10) := by rw [n_sub (by omega) hNb]; exact congrArg Int.ofNat (by omega)
   have q8 : jak .i64 (Int.sub (.ofNat (d + 1)) 1) = .ofNat d := jaZ (d + 1) 1 (by omega) (by omega)
   have q9 : jak .u64 (Int.add (.ofNat (N % 10)) 48) = .ofNat (48 + N % 10) := by rw [Nat.add_comm]; exact n_add (b := 48) (by omega)
   have q10 : jak .u8 (.ofNat (48 + N % 10)) = .ofNat (48 + N % 10) := qu8 _ (by omega)
   have e2 : ilt (.ofNat d) 800 = true := dT (jap _ 800) (by omega)
   have hix2 : ∀ (i : Nat) (rg : Rg) (a b : Operand), aev pZ rg a = .pointer (some ⟨i, 0, none⟩) → aev pZ rg b = .int .i64 (.ofNat d) → jal pZ (aev pZ rg) 247 a b = some (.pointer (some ⟨i, d, none⟩)) := fun i rg a b g1 g2 => ix800 (by omega) g1 g2
   obtain ⟨R, hR⟩ := exq (N % 10)
   obtain ⟨Q, hQ⟩ := exq (N / 10)
   obtain ⟨M2, hM2⟩ : ∃ M, M = 10 * Q := ⟨_, rfl⟩
   rw [← hQ] at q5 q6 q7
   rw [← hM2] at q6 q7
   rw [← hR] at q7 q9 q10
   obtain ⟨E', b1, b2, b3, hih⟩ := ih (by omega) Q (by omega) (fun hd1 => by
    obtain ⟨c, rfl⟩ : ∃ c, d = c + 1 := ⟨d - 1, by omega⟩
    rw [Nat.pow_succ] at hN2
    show 10 ^ c ≤ Q
    omega) (put1 E d (48 + R))
   have hEd : E' d = 48 + R := (b3 d (rzN _)).trans (if_pos rfl)
   refine ⟨E', fun p hp => ?_, fun _ => ?_, fun p hp => ?_, fun {X e i n tm v4 μ dp neg tr} h h0 h4 h6 h7 => ?_⟩
   ·by_cases e : p = d
    ·rw [e, hEd]; omega
    ·exact b1 p (by omega)
   ·by_cases e : d = 0
    ·subst e
     rw [hEd]
     have : N < 10 := by omega
     omega
    ·exact b2 (by omega)
   ·rw [b3 p (by omega)]; exact if_neg (by omega)
   have hs := st_d (v := 48 + R) h.blk (show d < 800 by omega)
   have hix2 := hix2 i
   refine jam ?_
   repeat (refine jaz rfl ?_; (try simp only [go_sem, h0, h4, h6, h7, conv_w8, e1, e2, q5, q6, q7, q8, q9, q10, hix2, hs]); fail_if_success refine stk ?_)
   rw [(by omega : e + (d + 1) + 39 = e + d + 40)]
   refine rzM (hih (v4 := v4) (h.setD (by omega)) (by simp only [go_sem, h0]) (by simp only [go_sem, h4]) (by simp only [go_sem]) (by simp only [go_sem])) ?_
   rintro x r μ' ⟨hx, g1, g2, g3⟩
   exact ⟨hx, g1, (Only.put μ i _ _).trans g2, g3⟩
end
noncomputable section
open Go.Proofs.YtdmfakpngnlokaaGreatDoor.DecM (val Dg low carry less Cheat sumL sumL_lt jjj shifted jjG jgN pow60)
def jb3 (fn : Func) : Code := match fn.body with
 | some c => c
 | _ => .skip
def jiA : Nat → Code → Code
 | n + 1, .seq _ b => jiA n b
 | 0, .seq a _ => a
 | _, c => c
def jcU : Nat → Code → Code
 | n + 1, .seq _ b => jcU n b
 | _, c => c
attribute [local irreducible] jcU
end
noncomputable section
open Go.Proofs.YtdmfakpngnlokaaGreatDoor.NumText (dig isE isS ndig unsg expo jdW jgE right1 jiu)
theorem at0 {s : ByteArray} {c : Nat} {l : List Nat} (h : bys s = c :: l) {ρ : Operand → Value} {x y : Operand} {kd : IntKind} (hx : ρ x = .string s) (hy : ρ y = .int kd 0) : jb0 pZ ρ 9 x y = some (.int .u8 (.ofNat c)) := by
 have h0 : 0 < (bys s).length := by rw [h]; exact rzW _
 have := jhh (kd := kd) (i := 0) h0 hx hy
 rw [this]
 congr 4
 simp only [h, List.getElem_cons_zero]
end
noncomputable section
open Go.Proofs.YtdmfakpngnlokaaGreatDoor.NumText (dig isE isS ndig unsg expo jdW jgE right1 jiu)
attribute [local irreducible] jcU
end
noncomputable section
open Go.Proofs.YtdmfakpngnlokaaGreatDoor.DecM (val Dg pad pad_at pad_off pad_dg jiq mask_step dig_lt dig_pos mask_dvd mask_end pow60)
section
variable {D : Nat → Nat} {n k r0 : Nat}
end
end
noncomputable section
open Go.Proofs.YtdmfakpngnlokaaGreatDoor.DecM (val Dg)
structure Good (D : Nat → Nat) (n : Nat) : Prop where
 dg : Dg D n
 pos : 0 < n
 le : n ≤ 800
 lead : 49 ≤ D 0
theorem _root_.Go.Proofs.YtdmfakpngnlokaaGreatDoor.Ev.Grow.only {a b c : Mem} {i : Nat} (g : Grow a b) (h : Only b c i) (hi : a.next ≤ i) : Grow a c := ⟨rzS g.1 h.1, fun j hj => (h.2 j (rzO hj g.1) (by omega)).trans (g.2 j hj)⟩
end
noncomputable section
open Go.Proofs.YtdmfakpngnlokaaGreatDoor.DecM (val Dg)
section
variable {D : Nat → Nat} {n : Nat} {dp : Int}
def lim (n : Nat) (dp : Int) : Nat := if dp.toNat < n then dp.toNat else n
end
end
noncomputable section
open Go.Proofs.YtdmfakpngnlokaaGreatDoor.DecM (val Dg)
def Mid (o : Option (Nat × Int)) (neg : Bool) (i : Nat) (μ : Mem) : Ax → Rg → Mem → Prop := fun x r μ' => Only μ μ' i ∧ (∃ D n dp tr, Dec μ' i D n dp neg tr) ∧ ∃ tm', r = ⟨243, tm', [], none⟩ ∧ jah tm' 0 = .pointer (some ⟨i, 0, none⟩) ∧ jah tm' 1 = .pointer (some ⟨11, 0, none⟩) ∧
 (match o with
 | none => x = .goto 1
 | some (m, e) => x = .goto 0 ∧ jah tm' 5 = .bool false ∧ jah tm' 6 = .int .i64 e ∧ jah tm' 7 = u m)
attribute [local irreducible] jcU
end
noncomputable section
open Go.Proofs.YtdmfakpngnlokaaGreatDoor.DecM (val Dg)
theorem Only.obs {μ : Mem} {i m : Nat} (h : μ.next ≤ m) : Only μ ⟨μ.obs, m⟩ i := ⟨h, fun _ _ _ => rfl⟩
end
noncomputable section
open Go.Proofs.YtdmfakpngnlokaaGreatDoor.DecM (val Dg)
attribute [local irreducible] jcU
theorem Mid.up {o : Option (Nat × Int)} {neg : Bool} {i : Nat} {μ μ1 : Mem} {y : Option (Ax × Rg × Mem)} (g : Only μ μ1 i) (h : EndsC y (Mid o neg i μ1)) : EndsC y (Mid o neg i μ) :=
 rzM h fun x r μ' ⟨h1, h2⟩ => ⟨g.trans h1, h2⟩
theorem Dec.any {μ : Mem} {i n : Nat} {D : Nat → Nat} {dp : Int} {neg tr : Bool} (h : Dec μ i D n dp neg tr) : ∃ D n dp tr, Dec μ i D n dp neg tr := ⟨_, _, _, _, h⟩
end
noncomputable section
open Go.Proofs.YtdmfakpngnlokaaGreatDoor.DecM (val Dg)
structure RegS (tm : T Value) (s : ByteArray) (bi i : Nat) (sd sg : Bool) : Prop where
 r0 : jah tm 0 = .pointer (some ⟨bi, 0, none⟩)
 r1 : jah tm 1 = .string s
 r4 : jah tm 4 = .bool false
 r5 : jah tm 5 = .int .i64 (.ofNat i)
 r6 : jah tm 6 = .bool sd
 r7 : jah tm 7 = .bool sg
theorem RegS.z {tm : T Value} {s : ByteArray} {bi i : Nat} {sd sg : Bool} (h : RegS tm s bi i sd sg) : jah tm 0 = .pointer (some ⟨bi, 0, none⟩) ∧ jah tm 1 = .string s ∧ jah tm 4 = .bool false ∧ jah tm 5 = .int .i64 (.ofNat i) ∧ jah tm 6 = .bool sd ∧ jah tm 7 = .bool sg := ⟨h.r0, h.r1, h.r4, h.r5, h.r6, h.r7⟩
def Fit (D : Nat → Nat) (n : Nat) : Prop := n = 0 ∨ Good D n
theorem Fit.le {D : Nat → Nat} {n : Nat} (h : Fit D n) : n ≤ 800 := by
 rcases h with rfl | h
 ·omega
 ·exact h.le
theorem Fit.put {D : Nat → Nat} {n c : Nat} (h : Fit D n) (hn : n < 800) (h1 : 48 ≤ c) (h2 : c ≤ 57) (h3 : n = 0 → c ≠ 48) : Fit (put1 D n c) (n + 1) := by
 refine .inr ⟨fun k hk => ?_, rzW n, hn, ?_⟩
 ·unfold put1
  by_cases e : k = n
  ·rw [if_pos e]; exact ⟨h1, h2⟩
  ·rw [if_neg e]
   exact (h.resolve_left (by omega)).dg k (by omega)
 ·unfold put1
  by_cases e : 0 = n
  ·rw [if_pos e]; have := h3 e.symm; omega
  ·rw [if_neg e]; exact (h.resolve_left (by omega)).lead
end
noncomputable section
open Go.Proofs.YtdmfakpngnlokaaGreatDoor.DecM (val Dg)
attribute [local irreducible] jcU
end
noncomputable section
def fromC : Nat → Code → Code
 | n + 1, .seq _ b => fromC n b
 | _, c => c
def jfn (fn : Func) : Code := match fn.body with
 | some (.seq _ (.scope c)) => c
 | _ => .skip
structure RegR (tm : T Value) (s : ByteArray) (i a nd nm : Nat) (dp : Int) (neg tr sd sg : Bool) : Prop where
 r0 : jah tm 0 = .string s
 r2 : jah tm 2 = u a
 r3 : jah tm 3 = .int .i64 0
 r4 : jah tm 4 = .bool neg
 r5 : jah tm 5 = .bool tr
 r6 : jah tm 6 = .bool false
 r7 : jah tm 7 = .int .i64 (.ofNat i)
 r8 : jah tm 8 = .bool false
 r9 : jah tm 9 = .bool false
 r10 : jah tm 10 = .int .u64 10
 r11 : jah tm 11 = .int .i64 19
 r12 : jah tm 12 = .int .u8 101
 r13 : jah tm 13 = .bool sd
 r14 : jah tm 14 = .bool sg
 r15 : jah tm 15 = .int .i64 (.ofNat nd)
 r16 : jah tm 16 = .int .i64 (.ofNat nm)
 r17 : jah tm 17 = .int .i64 dp
theorem RegR.z {tm : T Value} {s : ByteArray} {i a nd nm : Nat} {dp : Int} {neg tr sd sg : Bool} (h : RegR tm s i a nd nm dp neg tr sd sg) : jah tm 0 = .string s ∧ jah tm 2 = u a ∧ jah tm 3 = .int .i64 0 ∧ jah tm 4 = .bool neg ∧ jah tm 5 = .bool tr ∧ jah tm 6 = .bool false ∧ jah tm 7 = .int .i64 (.ofNat i) ∧ jah tm 8 = .bool false ∧ jah tm 9 = .bool false ∧ jah tm 10 = .int .u64 10 ∧ jah tm 11 = .int .i64 19 ∧ jah tm 12 = .int .u8 101 ∧ jah tm 13 = .bool sd ∧ jah tm 14 = .bool sg ∧ jah tm 15 = .int .i64 (.ofNat nd) ∧ jah tm 16 = .int .i64 (.ofNat nm) ∧ jah tm 17 = .int .i64 dp := ⟨h.r0, h.r2, h.r3, h.r4, h.r5, h.r6, h.r7, h.r8, h.r9, h.r10, h.r11, h.r12, h.r13, h.r14, h.r15, h.r16, h.r17⟩
structure RegF (tm : T Value) (a : Nat) (e : Int) (neg tr : Bool) (i : Nat) (ok : Bool) : Prop where
 r2 : jah tm 2 = u a
 r3 : jah tm 3 = .int .i64 e
 r4 : jah tm 4 = .bool neg
 r5 : jah tm 5 = .bool tr
 r6 : jah tm 6 = .bool false
 r7 : jah tm 7 = .int .i64 (.ofNat i)
 r8 : jah tm 8 = .bool ok
theorem RegF.z {tm : T Value} {a : Nat} {e : Int} {neg tr : Bool} {i : Nat} {ok : Bool} (h : RegF tm a e neg tr i ok) : jah tm 2 = u a ∧ jah tm 3 = .int .i64 e ∧ jah tm 4 = .bool neg ∧ jah tm 5 = .bool tr ∧ jah tm 6 = .bool false ∧ jah tm 7 = .int .i64 (.ofNat i) ∧ jah tm 8 = .bool ok := ⟨h.r2, h.r3, h.r4, h.r5, h.r6, h.r7, h.r8⟩
theorem RegR.fin {tm : T Value} {s : ByteArray} {i a nd nm : Nat} {dp : Int} {neg tr sd sg : Bool} (h : RegR tm s i a nd nm dp neg tr sd sg) : RegF tm a 0 neg tr i false := ⟨h.r2, h.r3, h.r4, h.r5, h.r6, h.r7, h.r8⟩
def nthC : Nat → Code → Code
 | n + 1, .seq _ b => nthC n b
 | 0, .seq a _ => a
 | _, c => c
theorem sp0 : jfn Tryz.f278 = .seq (nthC 0 (jfn Tryz.f278)) (.seq (nthC 1 (jfn Tryz.f278)) (.seq (nthC 2 (jfn Tryz.f278)) (fromC 3 (jfn Tryz.f278)))) := by kernel_rfl
attribute [local irreducible] fromC
structure PreR (tm : T Value) (s : ByteArray) (i : Nat) (neg : Bool) : Prop where
 r0 : jah tm 0 = .string s
 r2 : jah tm 2 = .int .u64 0
 r3 : jah tm 3 = .int .i64 0
 r4 : jah tm 4 = .bool neg
 r5 : jah tm 5 = .bool false
 r6 : jah tm 6 = .bool false
 r7 : jah tm 7 = .int .i64 (.ofNat i)
 r8 : jah tm 8 = .bool false
 r9 : jah tm 9 = .bool false
theorem PreR.z {tm : T Value} {s : ByteArray} {i : Nat} {neg : Bool} (h : PreR tm s i neg) : jah tm 0 = .string s ∧ jah tm 2 = .int .u64 0 ∧ jah tm 3 = .int .i64 0 ∧ jah tm 4 = .bool neg ∧ jah tm 5 = .bool false ∧ jah tm 6 = .bool false ∧ jah tm 7 = .int .i64 (.ofNat i) ∧ jah tm 8 = .bool false ∧ jah tm 9 = .bool false := ⟨h.r0, h.r2, h.r3, h.r4, h.r5, h.r6, h.r7, h.r8, h.r9⟩
end
noncomputable section
open Go.Proofs.YtdmfakpngnlokaaGreatDoor.DecM (val Dg)
def Err3 (v : Value) : Prop := v = .nilIface ∨ v = .iface 297 (.int .i64 1) ∨ v = .iface 297 (.int .i64 2)
def isZ : Value → Bool
 | .int .u8 (.ofNat 0) => true
 | _ => false
theorem isZ_eq {v : Value} (h : isZ v = true) : v = .int .u8 0 := by
 unfold isZ at h
 split at h
 ·rfl
 ·cases h
end
noncomputable section
open Go.Proofs.YtdmfakpngnlokaaGreatDoor.DecM (val Dg)
def feq (a b : Nat) : Bool := Ieee.double.order a b == some .eq
theorem jhy {ρ : Operand → Value} {d : Option Tmp} {t yt ty : TypeId} {x y : Operand} {ps : String} {af : Array Edge} {gd : Option (Nat × Bool)} {a b : Nat} (hx : ρ x = .float .f64 a) (hy : ρ y = .float .f64 b) : jaC pZ ρ ⟨d, .binOp .eql t x y yt, ty, ps, af, gd⟩ = some (.bool (feq a b)) := by
 unfold jaC
 have e : pv pZ (execOp ρ ⟨d, .binOp .eql t x y yt, ty, ps, af, gd⟩) = some (.value (.bool (feq a b))) := by
  simp only [execOp, hx, hy]
  kernel_rfl
 simp only [opsOf, jbn, hx, hy, jaw, e]
theorem NoErr.three {v : Value} (h : NoErr v) : Err3 v := by
 rcases h with h | h
 ·exact .inl h
 ·exact .inr (.inl h)
attribute [local irreducible] jcU
end
noncomputable section
def bysV (s : ByteArray) : List Value := s.data.toList.map fun b => .int .u8 b.toNat
theorem jjU (s : ByteArray) : (bysV s).length = (bys s).length := by unfold bysV bys; simp
theorem jhV (l : List UInt8) : jdd (l.map fun b => Value.int .u8 b.toNat) = some l := by
 induction l with
 | nil => rfl
 | cons b l ih =>
   show jdd (.int .u8 (.ofNat b.toNat) :: l.map _) = _
   unfold jdd
   rw [show Nat.blt b.toNat 256 = true from by have := b.toNat_lt; simpa using this]
   rw [ih]
   simp
theorem z_u8 : jaO pZ 5 = some (.int .u8 0) := by unfold jaO; rw [i_u8]; rfl
def obB (m : Nat) : Ob := .cells m 5 #[.int .u8 0] .e 0 0 false false
theorem an2 : aNil pZ 142 .nilIface .nilIface = false := rfl
theorem p_nn (r : Rg) {d : Option Tmp} {yt ty : TypeId} {x : Operand} {ps : String} {af : Array Edge} {gd : Option (Nat × Bool)} (hx : aev pZ r x = .nilIface) : jaC pZ (aev pZ r) ⟨d, .binOp .neq 142 x (.const .nilIface) yt, ty, ps, af, gd⟩ = some (.bool false) := by
 have hy : aev pZ r (.const .nilIface) = .nilIface := rfl
 unfold jaC
 have e : pv pZ (execOp (aev pZ r) ⟨d, .binOp .neq 142 x (.const .nilIface) yt, ty, ps, af, gd⟩) = some (.value (.bool false)) := by
  simp only [execOp, hx, hy]
  cases x <;> kernel_rfl
 simp only [opsOf, jbn, hx, hy, jaw, e]
end
noncomputable section
open Go.Proofs.YtdmfakpngnlokaaGreatDoor.NumText (dig isE isS form next run right1 right2)
def jbC (X : XT) : Prop := ∀ (n : Nat) μ, n < 18446744073709551616 → X 31 [.int .u64 (.ofNat n)] μ = some (.float .f64 n, μ)
end
noncomputable section
structure Own (e : TypeId) (μ0 μ : Mem) (v : Value) (xs : List Value) : Prop where
 good : GoodSl μ e v xs
 grow : Grow μ0 μ
 above : ∀ i, SlAt v i → μ0.next ≤ i ∧ i < μ.next
theorem Own.nil (e : TypeId) (μ : Mem) : Own e μ μ (.slice none 0 0) [] := ⟨.inl ⟨rfl, rfl⟩, Grow.refl _, fun i h => by obtain ⟨l, c, h⟩ := h; cases h⟩
theorem Own.keep {e : TypeId} {μ0 μ μ' : Mem} {v : Value} {xs : List Value} (h : Own e μ0 μ v xs) (hg : Grow μ μ') : Own e μ0 μ' v xs :=
 ⟨h.good.keep fun i hi => hg.2 i (h.above i hi).2, h.grow.trans hg, fun i hi => ⟨(h.above i hi).1, rzO (h.above i hi).2 hg.1⟩⟩
theorem Own.push {st e : TypeId} {inf : TypeInfo} {z0 : Value} (hu : pZ.underlying st = some (.slice e)) (hi : pZ.info? e = some inf) (hsz : inf.size = 1) (hby : Nat.ble inf.bytes 4096 = true) (hz : jaO pZ e = some z0) (hzl : (jaS z0).length = 1)
  {μ0 μ : Mem} {v x : Value} {xs : List Value} (h : Own e μ0 μ v xs) (hn : xs.length < 2000000) (hs : scalar x = true) :
  ∃ v' μ', jaM pZ ⟨μ.obs.set μ.next (.cells 1 e #[x] .e 0 0 false false), Nat.add μ.next 1⟩ st st v (.slice (some ⟨μ.next, 0, none⟩) 1 2) = some (v', μ') ∧ Own e μ0 μ' v' (xs ++ [x]) := by
 have hg1 : Grow μ ⟨μ.obs.set μ.next (.cells 1 e #[x] .e 0 0 false false), Nat.add μ.next 1⟩ := jbc μ _
 have h1 := h.keep hg1
 obtain ⟨v', μ', ha, hg, hnx, hat, hk⟩ := jk0 (P := pZ) (st := st) (x := x) (q := μ.next) hu hi hsz hby hz hzl h1.good (by show T.get _ _ = _; rw [T.get_set, if_pos rfl]) hn hs
 have hnx' : μ'.next = μ.next + 1 + 1 := hnx
 refine ⟨v', μ', ha, hg, ⟨?_, fun i hi => ?_⟩, fun i hi => ?_⟩
 ·have := h.grow.1; omega
 ·have h0 := h.grow.1
  rw [hk i (by show i ≠ μ.next + 1; omega) (fun hv => by have := (h1.above i hv).1; omega)]
  exact h1.grow.2 i hi
 ·obtain ⟨l, c, hv⟩ := hat
  obtain ⟨l', c', hv'⟩ := hi
  rw [hv] at hv'
  injection hv' with e1
  injection e1 with e2
  injection e2 with e3
  have e4 : i = μ.next + 1 := e3.symm
  have h0 := h.grow.1
  omega
def U32 (x : Value) : Prop := ∃ a, a < 4294967296 ∧ x = .int .u32 (.ofNat a)
theorem U32.one {x : Value} (h : U32 x) : one x = true := by obtain ⟨a, _, rfl⟩ := h; rfl
theorem jg5 : jaO pZ 73 = some (.int .u32 0) := by unfold jaO; rw [jci]; rfl
theorem conv_4u (n : Int) : jay pZ 73 32 (.int .u32 n) = some (.int .u64 (jak .u64 n)) := by
 simp only [jay, Tryz.underlying32, Tryz.underlying73]
theorem jiR (n : Int) : jay pZ 32 73 (.int .u64 n) = some (.int .u32 (jak .u32 n)) := by
 simp only [jay, Tryz.underlying32, Tryz.underlying73]
theorem q4 (m : Nat) : jak .u32 (.ofNat m) = .ofNat (m % 4294967296) := by
 rw [jbq]
 show IntKind.wrap .u32 _ = _
 unfold IntKind.wrap
 simp only [IntKind.bits, IntKind.signed]
 simp
def Cap (n c : Nat) : Prop := (c % 2 = 0 ∧ n ≤ c / 2) ∨ (c % 2 = 1 ∧ c / 2 = 1)
def Rd (μ : Mem) (v : Value) (n : Nat) : Prop :=
 (v = .slice none 0 0 ∧ n = 0) ∨ ∃ i c m z ov fx sh, v = .slice (some ⟨i, 0, none⟩) n c ∧ μ.obs.get i = some (.cells m 73 z ov 0 0 fx sh) ∧ n ≤ m ∧ i < μ.next ∧ (∀ k, k < n → U32 (cellAt z ov k)) ∧ Cap n c
theorem Rd.nil (μ : Mem) : Rd μ (.slice none 0 0) 0 := .inl ⟨rfl, rfl⟩
theorem Rd.grow {μ μ' : Mem} {v : Value} {n : Nat} (h : Rd μ v n) (g : Grow μ μ') : Rd μ' v n := by
 rcases h with h | ⟨i, c, m, z, ov, fx, sh, h1, h2, h3, h4, h5, h6⟩
 ·exact .inl h
 ·exact .inr ⟨i, c, m, z, ov, fx, sh, h1, (g.2 i h4).trans h2, h3, rzO h4 g.1, h5, h6⟩
theorem Rd.len {μ : Mem} {v : Value} {n : Nat} (h : Rd μ v n) : aLen pZ 23 v = some n := by
 unfold aLen
 rcases h with ⟨rfl, rfl⟩ | ⟨i, c, m, z, ov, fx, sh, rfl, _⟩ <;> simp only [Tryz.underlying23]
theorem Rd.one {μ : Mem} {v : Value} {n : Nat} (h : Rd μ v n) : one v = true := by
 rcases h with ⟨rfl, rfl⟩ | ⟨i, c, m, z, ov, fx, sh, rfl, _⟩ <;> rfl
theorem Rd.at {μ : Mem} {v : Value} {n k : Nat} (h : Rd μ v n) (hk : k < n) : ∃ i c a, v = .slice (some ⟨i, 0, none⟩) n c ∧ a < 4294967296 ∧ jad μ i k = some (.int .u32 (.ofNat a)) := by
 rcases h with ⟨_, rfl⟩ | ⟨i, c, m, z, ov, fx, sh, h1, h2, h3, h4, h5, h6⟩
 ·omega
 ·obtain ⟨a, ha, hc⟩ := h5 k hk
  refine ⟨i, c, a, h1, ha, ?_⟩
  unfold jad
  rw [h2]
  show (if k < m then some (cellAt z ov k) else none) = _
  rw [if_pos (by omega), hc]
theorem Rd.take {μ : Mem} {v : Value} {n k : Nat} (h : Rd μ v n) (hk : k ≤ n) : ∃ v', (∀ (ρ : Operand → Value) (x y : Operand), ρ x = v → ρ y = .int .i64 (.ofNat k) → jaJ pZ ρ 23 x none (some y) none = some v') ∧ Rd μ v' k ∧ ∀ i, SlAt v' i → SlAt v i := by
 rcases h with ⟨rfl, rfl⟩ | ⟨i, c, m, z, ov, fx, sh, rfl, h2, h3, h4, h5, h6⟩
 ·obtain rfl : k = 0 := by omega
  refine ⟨.slice none 0 0, fun ρ x y hx hy => ?_, Rd.nil μ, fun i hi => hi⟩
  unfold jaJ
  simp only [hx, Tryz.underlying23, jci, ja2, jbl, hy]
  try rfl
 ·refine ⟨.slice (some ⟨i, 0, none⟩) k c, fun ρ x y hx hy => ?_, .inr ⟨i, c, m, z, ov, fx, sh, rfl, h2, by omega, h4, fun j hj => h5 j (by omega), by unfold Cap at h6 ⊢; omega⟩, fun j hj => by
   obtain ⟨l', c', hv⟩ := hj
   injection hv with e1 e2 e3
   rw [e1]
   exact ⟨n, c, rfl⟩⟩
  unfold jaJ
  rcases h6 with ⟨g1, g2⟩ | ⟨g1, g2⟩
  ·have e1 : Nat.beq (Nat.mod c 2) 0 = true := by rw [show Nat.mod c 2 = 0 from g1]; rfl
   have e3 : Nat.ble k (Nat.div c 2) = true := rzP (by show k ≤ c / 2; omega)
   simp only [hx, Tryz.underlying23, jci, e1, ja2, jbl, hy, e3]
   have e4 : Addr.add ⟨i, 0, none⟩ (Nat.mul 0 Tryz.t73.size) = ⟨i, 0, none⟩ := by rw [show Nat.mul 0 Tryz.t73.size = 0 from Nat.zero_mul _]; rfl
   have e5 : Nat.mul 2 (Nat.sub (Nat.div c 2) 0) = c := by show 2 * (c / 2 - 0) = c; omega
   have e6 : Nat.sub k 0 = k := rfl
   cases Nat.beq (Nat.div c 2) 0 <;> simp only [e4, e5, e6]
  ·have e1 : Nat.beq (Nat.mod c 2) 0 = false := by rw [show Nat.mod c 2 = 1 from g1]; rfl
   have e3 : Nat.ble k n = true := rzP hk
   simp only [hx, Tryz.underlying23, jci, e1, ja2, jbl, hy, e3]
   try rfl
def Lim (μ0 μ : Mem) (v : Value) (n : Nat) : Prop := ∃ xs, Own 73 μ0 μ v xs ∧ xs.length = n ∧ ∀ x ∈ xs, U32 x
theorem Lim.rd {μ0 μ : Mem} {v : Value} {n : Nat} (h : Lim μ0 μ v n) : Rd μ v n := by
 obtain ⟨xs, ho, rfl, hx⟩ := h
 rcases ho.good with ⟨h1, h2⟩ | ⟨i, m, z, ov, fx, sh, c, h1, h2, h3, h4, h5⟩
 ·exact .inl ⟨h1, by rw [h2]; rfl⟩
 ·exact .inr ⟨i, c, m, z, ov, fx, sh, h1, h2, h3, (ho.above i ⟨_, _, h1⟩).2, fun k hk => by rw [h4 k hk]; exact hx _ (List.getElem_mem hk), by unfold Cap; omega⟩
theorem Lim.grow {μ0 μ : Mem} {v : Value} {n : Nat} (h : Lim μ0 μ v n) : Grow μ0 μ := by obtain ⟨xs, ho, _⟩ := h; exact ho.grow
theorem Lim.nil (μ : Mem) : Lim μ μ (.slice none 0 0) 0 := ⟨[], Own.nil _ _, rfl, fun x h => by cases h⟩
theorem Lim.keep {μ0 μ μ' : Mem} {v : Value} {n : Nat} (h : Lim μ0 μ v n) (g : Grow μ μ') : Lim μ0 μ' v n := by
 obtain ⟨xs, ho, h1, h2⟩ := h
 exact ⟨xs, ho.keep g, h1, h2⟩
theorem Lim.push {μ0 μ : Mem} {v x : Value} {n : Nat} (h : Lim μ0 μ v n) (hn : n < 2000000) (hx : U32 x) : ∃ v' μ', jaM pZ ⟨μ.obs.set μ.next (.cells 1 73 #[x] .e 0 0 false false), Nat.add μ.next 1⟩ 23 23 v (.slice (some ⟨μ.next, 0, none⟩) 1 2) = some (v', μ') ∧ Lim μ0 μ' v' (n + 1) := by
 obtain ⟨xs, ho, h1, h2⟩ := h
 obtain ⟨v', μ', ha, ho'⟩ := ho.push (st := 23) (x := x) Tryz.underlying23 jci rfl (by kernel_rfl) jg5 rfl (by omega) (jep hx.one)
 refine ⟨v', μ', ha, xs ++ [x], ho', by simp [h1], fun y hy => ?_⟩
 rcases List.mem_append.1 hy with hy | hy
 ·exact h2 y hy
 ·rw [List.mem_singleton.1 hy]; exact hx
theorem Lim.set {μ0 μ : Mem} {n k b i c : Nat} (h : Lim μ0 μ (.slice (some ⟨i, 0, none⟩) n c) n) (hk : k < n) (hb : b < 4294967296) :
  jbu pZ μ 73 (.pointer (some ⟨i, k, none⟩)) (.int .u32 (.ofNat b)) = some (undef, putL μ i k [.int .u32 (.ofNat b)]) ∧ Lim μ0 (putL μ i k [.int .u32 (.ofNat b)]) (.slice (some ⟨i, 0, none⟩) n c) n := by
 obtain ⟨xs, ho, h1, h2⟩ := h
 have hab := ho.above i ⟨_, _, rfl⟩
 rcases ho.good with ⟨h3, _⟩ | ⟨i', m, z, ov, fx, sh, c', h3, h4, h5, h6, h7⟩
 ·cases h3
 injection h3 with e1 e2 e3
 injection e1 with e1
 injection e1 with e1
 subst e1
 have hblk : Blk μ i m 73 := ⟨_, _, _, _, h4⟩
 refine ⟨jaW jci rfl rfl hblk (by omega), xs.set k (.int .u32 (.ofNat b)), ⟨.inr ⟨i, m, z, ov.lay k [.int .u32 (.ofNat b)], fx, sh, c, by rw [List.length_set, h1], jdK h4, by rw [List.length_set]; exact h5, fun j hj => ?_, ?_⟩, ?_, fun j hj => ?_⟩, by rw [List.length_set, h1], fun x hx => ?_⟩
 ·rw [jb9]
  have hj' : j < xs.length := by rw [List.length_set] at hj; exact hj
  by_cases e : j = k
  ·subst e
   rw [dif_pos ⟨rzN _, by simp⟩]
   simp
  ·rw [dif_neg (by simp; omega), h6 j hj', List.getElem_set_ne (by omega)]
 ·rw [List.length_set, e3]; exact h7
 ·exact ho.grow.put_new hab.1
 ·rw [jaE]; exact ho.above j hj
 ·rcases List.mem_or_eq_of_mem_set hx with hx | rfl
  ·exact h2 x hx
  ·exact ⟨b, hb, rfl⟩
end
noncomputable section
open Go.Proofs.YtdmfakpngnlokaaGreatDoor.NumText (dig)
@[go_sem] def gg101 {X ev} := gC X ev Tryz.func101 rfl rfl
@[go_sem] def gg204 {X ev} := gC X ev Tryz.func204 rfl rfl
@[go_sem] def gg139 {X ev} := gC X ev Tryz.func139 rfl rfl
structure RegL (tm : T Value) (s : ByteArray) (v : Value) (i : Nat) : Prop where
 r0 : jah tm 0 = .string s
 r2 : jah tm 2 = .slice none 0 0
 r3 : jah tm 3 = .int .i64 0
 r4 : jah tm 4 = v
 r18 : jah tm 18 = .int .i64 (.ofNat (bys s).length)
 r19 : jah tm 19 = .int .i64 (.ofNat i)
theorem RegL.z {tm : T Value} {s : ByteArray} {v : Value} {i : Nat} (h : RegL tm s v i) : jah tm 0 = .string s ∧ jah tm 2 = .slice none 0 0 ∧ jah tm 3 = .int .i64 0 ∧ jah tm 4 = v ∧ jah tm 18 = .int .i64 (.ofNat (bys s).length) ∧ jah tm 19 = .int .i64 (.ofNat i) := ⟨h.r0, h.r2, h.r3, h.r4, h.r18, h.r19⟩
def ob0 : Ob := .cells 0 73 #[] .e 0 0 false false
theorem bs0 (ρ : Operand → Value) : jas pZ ρ 23 0 #[] = some (ob0, fun id => .slice (some ⟨id, 0, none⟩) 0 0) := by
 unfold jas
 simp only [Tryz.underlying23, jci]
 rfl
def New (μ : Mem) (v : Value) : Prop := ∀ i, SlAt v i → μ.next ≤ i
theorem New.nil (μ : Mem) : New μ (.slice none 0 0) := fun i hi => by obtain ⟨l, c, hv⟩ := hi; cases hv
theorem New.mk {μ : Mem} {j n c : Nat} (h : μ.next ≤ j) : New μ (.slice (some ⟨j, 0, none⟩) n c) := fun i hi => by
 obtain ⟨l, c', hv⟩ := hi
 injection hv with e1
 injection e1 with e1
 injection e1 with e1
 subst e1
 exact h
end
noncomputable section
open Go.Proofs.YtdmfakpngnlokaaGreatDoor.NumText (dig unsg isS)
theorem an4 (a : Addr) (n c : Nat) : aNil pZ 23 (.slice (some a) n c) (.slice none 0 0) = true := by
 unfold aNil
 simp only [Tryz.underlying23]
theorem an5 : aNil pZ 23 (.slice none 0 0) (.slice none 0 0) = false := rfl
theorem p_sl (r : Rg) {d : Option Tmp} {yt ty : TypeId} {x : Operand} {ps : String} {af : Array Edge} {gd : Option (Nat × Bool)} (hx : aev pZ r x = .slice none 0 0) : jaC pZ (aev pZ r) ⟨d, .binOp .eql 23 x (.const (.slice none 0 0)) yt, ty, ps, af, gd⟩ = some (.bool true) := by
 have hy : aev pZ r (.const (.slice none 0 0)) = .slice none 0 0 := rfl
 unfold jaC
 have e : pv pZ (execOp (aev pZ r) ⟨d, .binOp .eql 23 x (.const (.slice none 0 0)) yt, ty, ps, af, gd⟩) = some (.value (.bool true)) := by
  simp only [execOp, hx, hy]
  kernel_rfl
 simp only [opsOf, jbn, hx, hy, jaw, e]
end
noncomputable section
@[go_sem] def gg56 {X ev} := gC X ev Tryz.func56 rfl rfl
@[go_sem] def gg112 {X ev} := gC X ev Tryz.func112 rfl rfl
theorem Lim.empty (μ : Mem) : Lim μ ⟨μ.obs.set μ.next ob0, Nat.add μ.next 1⟩ (.slice (some ⟨μ.next, 0, none⟩) 0 0) 0 :=
 ⟨[], ⟨.inr ⟨μ.next, 0, #[], .e, false, false, 0, rfl, by show T.get _ _ = _; rw [T.get_set, if_pos rfl]; rfl, rzN _, (fun k h => absurd h (Nat.not_lt_zero _)), .inl ⟨rfl, rfl⟩⟩, jbc μ _, fun i hi => by
  obtain ⟨l, c, hv⟩ := hi
  injection hv with e1
  injection e1 with e1
  injection e1 with e1
  subst e1
  exact ⟨rzN _, rzQ _⟩⟩, rfl, (fun x h => by cases h)⟩
end
noncomputable section
open Go.Proofs.YtdmfakpngnlokaaGreatDoor.NumText (dig)
theorem Rd.off {μ μ' : Mem} {v : Value} {n j : Nat} {o : Ob} (h : Rd μ v n) (hn : ∀ i, SlAt v i → i ≠ j) (hm : μ' = ⟨μ.obs.set j o, μ.next⟩) : Rd μ' v n := by
 subst hm
 rcases h with h | ⟨i, c, m, z, ov, fx, sh, h1, h2, h3, h4, h5⟩
 ·exact .inl h
 ·refine .inr ⟨i, c, m, z, ov, fx, sh, h1, ?_, h3, h4, h5⟩
  show T.get (T.set _ _ _) _ = _
  rw [T.get_set, if_neg (hn i ⟨_, _, h1⟩)]
  exact h2
end
noncomputable section
open Go.Proofs.YtdmfakpngnlokaaGreatDoor.NumText (dig unsg isS)
@[go_sem] def gg103 {X ev} := gC X ev Tryz.func103 rfl rfl
@[go_sem] def gg62 {X ev} := gC X ev Tryz.func62 rfl rfl
@[go_sem] def gg30 {X ev} := gC X ev Tryz.func30 rfl rfl
def obI : Ob := .cells 2 25 #[.bool false, .slice none 0 0] .e 0 0 false false
theorem z_I : jaO pZ 25 = some (.agg #[.bool false, .slice none 0 0]) := by kernel_rfl
@[go_sem] theorem al_I : jb4 pZ 25 = some (obI, fun id => .pointer (some ⟨id, 0, none⟩)) := by kernel_rfl
def obN : Ob := .cells 4 27 #[.bool false, .float .f64 0, .bool false, .slice none 0 0] .e 0 0 false false
theorem z_N : jaO pZ 27 = some (.agg #[.bool false, .float .f64 0, .bool false, .slice none 0 0]) := by kernel_rfl
@[go_sem] theorem al_N : jb4 pZ 27 = some (obN, fun id => .pointer (some ⟨id, 0, none⟩)) := by kernel_rfl
theorem build_I {ρ : Operand → Value} {a b : Operand} {p x : Value} (ha : ρ a = p) (hb : ρ b = x) (hp : one p = true) (hx : one x = true) : jbF pZ ρ 25 #[(0, a), (1, b)] = some (.agg #[p, x]) := by
 have hpl : ∃ f, pZ.underlying 25 = some (.struct f) ∧ jcO pZ f.toList = some [(0, 1), (1, 1)] := ⟨_, Tryz.underlying25, by kernel_rfl⟩
 obtain ⟨f, h1, h2⟩ := hpl
 refine jba (cs := [p, x]) z_I h1 h2 ?_
 simp only [List.map_cons, List.map_nil, ha, hb]
 show jcC _ [.bool false, .slice none 0 0] [(0, p), (1, x)] = _
 rw [jbK (off := 0) rfl hp (by decide)]
 show jcC _ [p, .slice none 0 0] [(1, x)] = _
 rw [jbK (off := 1) rfl hx (by simp)]
 rfl
theorem blkI {μ : Mem} : Blk ⟨μ.obs.set μ.next obI, μ.next + 1⟩ μ.next 2 25 := ⟨_, _, _, _, by show T.get _ _ = _; rw [T.get_set, if_pos rfl]; rfl⟩
theorem blkN {μ : Mem} : Blk ⟨μ.obs.set μ.next obN, μ.next + 1⟩ μ.next 4 27 := ⟨_, _, _, _, by show T.get _ _ = _; rw [T.get_set, if_pos rfl]; rfl⟩
theorem st_I {μ : Mem} {i : Nat} {x y : Value} (h : Blk μ i 2 25) (hx : one x = true) (hy : one y = true) : jbu pZ μ 25 (.pointer (some ⟨i, 0, none⟩)) (.agg #[x, y]) = some (undef, putL μ i 0 [x, y]) := jcR (vs := [x, y]) jiE rfl (by simp [hx, hy]) h (by simp)
@[go_sem] theorem ld_I {μ : Mem} {i : Nat} {x y : Value} (h : Blk μ i 2 25) : jbZ pZ (putL μ i 0 [x, y]) 25 (.pointer (some ⟨i, 0, none⟩)) = some (.agg #[x, y]) := (Has.of_put (vs := [x, y]) h (by simp)).load Tryz.underlying25 jiE rfl
attribute [local irreducible] jcU
end
noncomputable section
theorem pl_N : ∃ f, pZ.underlying 27 = some (.struct f) ∧ jcO pZ f.toList = some [(0, 1), (1, 1), (2, 2)] := ⟨_, Tryz.underlying27, by kernel_rfl⟩
theorem jgO {ρ : Operand → Value} {a : Operand} {p x : Value} (ha : ρ a = .agg #[p, x]) : jbF pZ ρ 27 #[(2, a)] = some (.agg #[.bool false, .float .f64 0, p, x]) := by
 obtain ⟨f, h1, h2⟩ := pl_N
 refine jba (cs := [.bool false, .float .f64 0, p, x]) z_N h1 h2 ?_
 simp only [List.map_cons, List.map_nil, ha]
 rfl
theorem build_NF {ρ : Operand → Value} {a b : Operand} {f : Nat} (ha : ρ a = .bool true) (hb : ρ b = .float .f64 f) : jbF pZ ρ 27 #[(0, a), (1, b)] = some (.agg #[.bool true, .float .f64 f, .bool false, .slice none 0 0]) := by
 obtain ⟨fl, h1, h2⟩ := pl_N
 refine jba (cs := [.bool true, .float .f64 f, .bool false, .slice none 0 0]) z_N h1 h2 ?_
 simp only [List.map_cons, List.map_nil, ha, hb]
 rfl
theorem st_N {μ : Mem} {i : Nat} {a b x y : Value} (h : Blk μ i 4 27) (h1 : one a = true) (h2 : one b = true) (hx : one x = true) (hy : one y = true) : jbu pZ μ 27 (.pointer (some ⟨i, 0, none⟩)) (.agg #[a, b, x, y]) = some (undef, putL μ i 0 [a, b, x, y]) := jcR (vs := [a, b, x, y]) i_Num rfl (by simp [h1, h2, hx, hy]) h (by simp)
@[go_sem] theorem ld_N {μ : Mem} {i : Nat} {a b x y : Value} (h : Blk μ i 4 27) : jbZ pZ (putL μ i 0 [a, b, x, y]) 27 (.pointer (some ⟨i, 0, none⟩)) = some (.agg #[a, b, x, y]) := (Has.of_put (vs := [a, b, x, y]) h (by simp)).load Tryz.underlying27 i_Num rfl
theorem flo_numP {X : XT} {g f : Nat} {μ : Mem} (hg : 20 ≤ g) : ∃ μ', aFun pZ (jai pZ X S0 g) 30 [.float .f64 f] μ = some (.agg #[.bool true, .float .f64 f, .bool false, .slice none 0 0], μ') ∧ Grow μ μ' := by
 obtain ⟨k, rfl⟩ := gle hg
 have hst : jbu pZ ⟨μ.obs.set μ.next obN, μ.next + 1⟩ 27 (.pointer (some ⟨μ.next, 0, none⟩)) (.agg #[.bool true, .float .f64 f, .bool false, .slice none 0 0]) = some (undef, putL ⟨μ.obs.set μ.next obN, μ.next + 1⟩ μ.next 0 [.bool true, .float .f64 f, .bool false, .slice none 0 0]) := st_N blkN rfl rfl rfl rfl
 have hb : ∀ r y, aev pZ r y = .float .f64 f → jbF pZ (aev pZ r) 27 #[(0, .const (.bool true)), (1, y)] = some (.agg #[.bool true, .float .f64 f, .bool false, .slice none 0 0]) := fun r y g => build_NF rfl g
 refine ⟨_, jau ?_, (jbc μ obN).put_new (o := 0) (vs := [.bool true, .float .f64 f, .bool false, .slice none 0 0]) (rzN _)⟩
 refine jac Tryz.func30 rfl rfl (nbl rfl) ?_
 simp only [go_sem, Tryz.ntmps30]
 repeat (refine jaz rfl ?_; (try simp only [go_sem, hb, hst]); fail_if_success refine stk ?_)
 refine jae ?_
 refine ⟨rfl, _, ?_, rfl, rfl⟩
 simp only [go_sem, Tryz.results30]
 rw [ld_N blkN]
def obIv (p x : Value) : Ob := .cells 2 25 #[p, x] .e 0 0 false false
theorem box_I (p x : Value) : aBox 25 (.agg #[p, x]) = some (obIv p x, fun id => .pointer (some ⟨id, 0, none⟩)) := rfl
theorem whole_ex {X : XT} {g : Nat} {p x : Value} {μ : Mem} (hp : one p = true) (hx : one x = true) (hg : 20 ≤ g) : ∃ μ', aFun pZ (jai pZ X S0 g) 62 [.agg #[p, x]] μ = some (.agg #[.bool false, .float .f64 0, p, x], μ') ∧ Grow μ μ' := by
 obtain ⟨k, rfl⟩ := gle hg
 obtain ⟨μ1, hμ1⟩ := exq (⟨μ.obs.set μ.next (obIv p x), μ.next + 1⟩ : Mem)
 have hN : Blk ⟨μ1.obs.set μ1.next obN, μ1.next + 1⟩ μ1.next 4 27 := blkN
 have hst := st_N (a := .bool false) (b := .float .f64 0) hN rfl rfl hp hx
 have hld := ld_N (a := .bool false) (b := .float .f64 0) (x := p) (y := x) hN
 have hi : jbZ pZ ⟨μ1.obs.set μ1.next obN, μ1.next + 1⟩ 25 (.pointer (some ⟨μ.next, 0, none⟩)) = some (.agg #[p, x]) := by
  have h0 : μ1.obs.get μ.next = some (obIv p x) := by rw [hμ1]; show T.get _ _ = _; rw [T.get_set, if_pos rfl]
  have h1 : (⟨μ1.obs.set μ1.next obN, μ1.next + 1⟩ : Mem).obs.get μ.next = some (obIv p x) := by
   show T.get (T.set _ _ _) _ = _
   rw [T.get_set, if_neg (by rw [hμ1]; show μ.next ≠ μ.next + 1; omega), h0]
  exact (Has.new (l := [p, x]) h1).load Tryz.underlying25 jiE rfl
 have hG : Grow μ μ1 := by rw [hμ1]; exact jbc _ _
 have hb : ∀ r y, aev pZ r y = .agg #[p, x] → jbF pZ (aev pZ r) 27 #[(2, y)] = some (.agg #[.bool false, .float .f64 0, p, x]) := fun r y g => jgO g
 refine ⟨_, jau ?_, (hG.trans (jbc μ1 obN)).put_new (o := 0) (vs := [.bool false, .float .f64 0, p, x]) hG.1⟩
 rw [hμ1] at hst hld hi ⊢
 refine jac Tryz.func62 rfl rfl (nbl rfl) ?_
 simp only [go_sem, Tryz.ntmps62]
 repeat (refine jaz rfl ?_; (try simp only [go_sem, box_I, hi, hb, hst]); fail_if_success refine stk ?_)
 refine jae ?_
 refine ⟨rfl, _, ?_, rfl, rfl⟩
 simp only [go_sem, Tryz.results62]
 rw [hld]
theorem str_eq (a b : ByteArray) : aStr .eql a b = some (.bool (decide (a = b))) := by
 unfold aStr
 simp only [jjS]
end
noncomputable section
open Go.Proofs.YtdmfakpngnlokaaGreatDoor.NumText (dig unsg isS)
attribute [local irreducible] jcU
end
end Go.Proofs.YtdmfakpngnlokaaGreatDoor.nu
