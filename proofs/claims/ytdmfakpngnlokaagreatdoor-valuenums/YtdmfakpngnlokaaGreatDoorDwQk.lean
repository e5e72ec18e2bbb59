/-
  distafflaw18.ValueNums, part Qk: its walk and its law. No conditions.
-/
import Derived.Test.YtdmfakpngnlokaaGreatDoorDwQj
set_option linter.all false
set_option maxRecDepth 20000
set_option maxHeartbeats 8000000
namespace Go.Proofs.YtdmfakpngnlokaaGreatDoor.nu
open YtdmfakpngnlokaaGreatDoor.Ev
noncomputable section
@[go_sem] def gg23 {X ev} := gC X ev Tryz.func23 rfl rfl
theorem jbt {x : Option (Value × Mem)} {μ : Mem} {w : Value} (h : EndsF x fun v μ' => v = w ∧ Grow μ μ') : ∃ μ', x = some (w, μ') ∧ Grow μ μ' := by
 obtain ⟨v, μ', h1, rfl, h2⟩ := h
 exact ⟨μ', h1, h2⟩
theorem atP_eq {v : Value} {ls : List Nat} {i : Nat} {μ : Mem} (h : IsU μ ls v) {X : XT} {g : Nat} (hg : 20 ≤ g) : aFun pZ (jai pZ X S0 g) 102 [v, .int .i64 (.ofNat i)] μ = some (.int .u32 (.ofNat (ls.getD i 0)), μ) := by
 obtain ⟨k, rfl⟩ := gle hg
 have lv := h.len
 refine jau ?_
 by_cases hi : i < ls.length
 ·obtain ⟨ha, bi, o, c, hv, _, hc⟩ := h.at (rzK hi)
  have e1 : ilt (.ofNat i) (.ofNat ls.length) = true := dT (jap _ _) hi
  obtain ⟨a, ha'⟩ := exq (ls[i]'hi)
  rw [← ha'] at ha hc
  have hix : ∀ rg a b, aev pZ rg a = v → aev pZ rg b = .int .i64 (.ofNat i) → jal pZ (aev pZ rg) 23 a b = some (.pointer (some ⟨bi, o + i, none⟩)) := fun rg a b g1 g2 => ix_U hi (g1.trans hv) g2
  have hgd : ls.getD i 0 = a := by rw [List.getD_eq_getElem?_getD, rzK hi, ha']; rfl
  rw [hgd]
  refine jac Tryz.func102 rfl rfl (nbl rfl) ?_
  simp only [go_sem, Tryz.ntmps102]
  repeat ((first | refine jaa rfl ?_ | refine jaj rfl ?_); (try simp only [go_sem, lv, jao, e1, hix, hc]); fail_if_success refine stk ?_)
  exact jae ⟨rfl, _, by simp only [go_sem, Tryz.results102], rfl, rfl⟩
 ·have e1 : ilt (.ofNat i) (.ofNat ls.length) = false := dF (jap _ _) hi
  have hgd : ls.getD i 0 = 0 := by rw [List.getD_eq_getElem?_getD, List.getElem?_eq_none (by omega)]; rfl
  rw [hgd]
  refine jac Tryz.func102 rfl rfl (nbl rfl) ?_
  simp only [go_sem, Tryz.ntmps102]
  repeat ((first | refine jaa rfl ?_ | refine jaj rfl ?_); (try simp only [go_sem, lv, jao, e1]); fail_if_success refine stk ?_)
  refine jae ?_
  refine ⟨rfl, _, ?_, rfl, rfl⟩
  simp only [go_sem, Tryz.results102]
  rfl
theorem jev {ls : List Nat} (h : ∀ x ∈ ls, x < 4294967296) (i : Nat) : ls.getD i 0 < 4294967296 := by
 rw [List.getD_eq_getElem?_getD]
 cases e : ls[i]? with
 | none => exact (by decide : (0 : Nat) < 4294967296)
 | some x => exact h x (List.mem_of_getElem? e)
theorem p32 : (2 : Nat) ^ 32 = 4294967296 := rfl
theorem jgA {ls : List Nat} (h : ls.length ≤ 2) : lval ls = ls.getD 1 0 * 4294967296 + ls.getD 0 0 := by
 match ls with
 | [] => rfl
 | [a] => simp [lval]
 | [a, b] => simp [lval]; omega
 | _ :: _ :: _ :: _ => simp at h
def jgq (ls : List Nat) : Value := if ls.length ≤ 2 then .tuple #[.int .u64 (.ofNat (lval ls)), .bool true] else .tuple #[.int .u64 0, .bool false]
theorem lval_u64 {ls : List Nat} (hx : ∀ x ∈ ls, x < 4294967296) (h : ls.length ≤ 2) : lval ls < 18446744073709551616 := by
 have h1 := jev hx 0
 have h2 := jev hx 1
 rw [jgA h]
 omega
theorem jhF {ls : List Nat} {v : Value} {μ : Mem} (hU : IsU μ ls v) (ht : ja6 ls = ls) (hl : ls.length ≤ 64) {X : XT} {g : Nat} (hg : 300 ≤ g) :
  ∃ μ', aFun pZ (jai pZ X S0 g) 60 [v] μ = some (jgq ls, μ') ∧ Grow μ μ' := by
 obtain ⟨k, rfl⟩ := gle hg
 have hmx : 64 ≤ maxLen := by decide
 obtain ⟨v1, μ1, r1, hL, hG⟩ := jje (X := X) (g := k + 297) hU (by omega) (by omega)
 rw [ht] at hL
 have hU1 := hL.isU (by omega)
 have lv := hU1.len
 have a0 : aFun pZ (jai pZ X S0 (k + 295)) 102 [v1, .int .i64 0] μ1 = some (.int .u32 (.ofNat (ls.getD 0 0)), μ1) := atP_eq (i := 0) hU1 (by omega)
 have a1 : aFun pZ (jai pZ X S0 (k + 295)) 102 [v1, .int .i64 1] μ1 = some (.int .u32 (.ofNat (ls.getD 1 0)), μ1) := atP_eq (i := 1) hU1 (by omega)
 have l0 := jev hU.1 0
 have l1 := jev hU.1 1
 refine jbt ?_
 unfold jgq
 by_cases h2 : ls.length ≤ 2
 ·rw [if_pos h2]
  have e1 : ilt 2 (.ofNat ls.length) = false := dF (jap 2 _) (by omega)
  have lt := jgA h2
  obtain ⟨x, hx⟩ := exq (ls.getD 0 0)
  obtain ⟨y, hy⟩ := exq (ls.getD 1 0)
  rw [← hx, ← hy] at lt
  rw [← hx] at a0 l0
  rw [← hy] at a1 l1
  obtain ⟨z, hz⟩ := exq (y * 4294967296)
  obtain ⟨r, hr⟩ := exq (lval ls)
  have hzx : r = z + x := by rw [hr, hz]; exact lt
  have lu : r < 18446744073709551616 := by rw [hr]; exact lval_u64 hU.1 h2
  have hor : r = z ||| x := by
   have := jf5 y x 32 (by rw [p32]; exact l0)
   rw [p32, ← hz] at this
   rw [this, hzx]
  have hzp : z = y * 2 ^ 32 := by rw [p32]; exact hz
  rw [← hr]
  clear lt hz hx hy hr
  have q1 : jak .u64 (.ofNat x) = .ofNat x := nw (by omega)
  have q2 : jak .u64 (.ofNat y) = .ofNat y := nw (by omega)
  have q3 : jaH true .u64 (.ofNat y) 32 = some (.int .u64 (.ofNat z)) := shl_u y 32 _ (by decide) hzp (by omega)
  have q4 : jbm Nat.lor .u64 .u64 (.ofNat z) (.ofNat x) = some (.int .u64 (.ofNat r)) := jkC _ _ _ hor (by omega) (by omega)
  obtain ⟨xi, hxi⟩ := exq (.ofNat x : Int)
  obtain ⟨yi, hyi⟩ := exq (.ofNat y : Int)
  obtain ⟨zi, hzi⟩ := exq (.ofNat z : Int)
  rw [← hxi] at a0 q1 q4
  rw [← hyi] at a1 q2 q3
  rw [← hzi] at q3 q4
  refine jac Tryz.func60 rfl rfl (nbl rfl) ?_
  simp only [go_sem, Tryz.ntmps60]
  repeat ((first | refine jaa rfl ?_ | refine jaj rfl ?_); (try simp only [go_sem, r1, lv, jao, e1, a0, a1, conv_4u, q1, q2, q3, q4]); fail_if_success refine stk ?_)
  exact jae ⟨rfl, _, by simp only [go_sem, Tryz.results60], rfl, hG⟩
 ·rw [if_neg h2]
  have e1 : ilt 2 (.ofNat ls.length) = true := dT (jap 2 _) (by omega)
  refine jac Tryz.func60 rfl rfl (nbl rfl) ?_
  simp only [go_sem, Tryz.ntmps60]
  repeat ((first | refine jaa rfl ?_ | refine jaj rfl ?_); (try simp only [go_sem, r1, lv, jao, e1]); fail_if_success refine stk ?_)
  exact jae ⟨rfl, _, by simp only [go_sem, Tryz.results60], rfl, hG⟩
theorem neg_u {ρ : Operand → Value} {d : Option Tmp} {t ty : TypeId} {x : Operand} {ps : String} {af : Array Edge} {gd : Option (Nat × Bool)} {n : Int} (hx : ρ x = .int .u64 n) : jaC pZ ρ ⟨d, .unOp .neg t x, ty, ps, af, gd⟩ = some (.int .u64 (jak .u64 (0 - n))) := by
 unfold jaC
 have e : pv pZ (execOp ρ ⟨d, .unOp .neg t x, ty, ps, af, gd⟩) = some (.value (.int .u64 (jak .u64 (0 - n)))) := by
  rw [jbq]
  simp only [execOp, hx]
  show some (Next.value (.int .u64 (IntKind.u64.wrap (0 - n)))) = _
  rfl
 simp only [opsOf, jbn, hx, jaw, e]
theorem wrap_64 (n : Int) : jak .i64 n = if n % 18446744073709551616 < 9223372036854775808 then n % 18446744073709551616 else n % 18446744073709551616 - 18446744073709551616 := by
 rw [jbq]
 show IntKind.wrap .i64 n = _
 unfold IntKind.wrap
 simp only [IntKind.bits, IntKind.signed]
 simp
 split <;> split <;> omega
theorem wrap_neg {a : Nat} (h : a ≤ 9223372036854775808) : jak .i64 (jak .u64 (0 - .ofNat a)) = -(a : Int) := by
 rw [wrap_u64, wrap_64]
 show (if (((0 - (a : Int)) % 18446744073709551616).toNat : Int) % 18446744073709551616 < 9223372036854775808 then (((0 - (a : Int)) % 18446744073709551616).toNat : Int) % 18446744073709551616 else (((0 - (a : Int)) % 18446744073709551616).toNat : Int) % 18446744073709551616 - 18446744073709551616) = _
 split <;> omega
def jdh (neg : Bool) (ls : List Nat) : Option Int :=
 if ls.length ≤ 2 then (if neg then (if lval ls ≤ 9223372036854775808 then some (-(lval ls : Int)) else none) else (if lval ls ≤ 9223372036854775807 then some (.ofNat (lval ls)) else none)) else none
def smallV : Option Int → Value
 | some n => .tuple #[.int .i64 n, .bool true]
 | none => .tuple #[.int .i64 0, .bool false]
theorem jd6 {ls : List Nat} {v : Value} {neg : Bool} {μ : Mem} (hU : IsU μ ls v) (ht : ja6 ls = ls) (hl : ls.length ≤ 64) {X : XT} {g : Nat} (hg : 340 ≤ g) :
  ∃ μ', aFun pZ (jai pZ X S0 g) 24 [.agg #[.bool neg, v]] μ = some (smallV (jdh neg ls), μ') ∧ Grow μ μ' := by
 obtain ⟨k, rfl⟩ := gle hg
 have h1 := jdP μ 25 [.bool neg, v]
 have hG1 := jbc μ (obL 25 [.bool neg, v])
 obtain ⟨μ2, r1, G1⟩ := jhF (X := X) (g := k + 337) (hU.grow hG1) ht hl (by omega)
 obtain ⟨c0, c1⟩ := Has.c2 h1
 have hk := Has.keep h1 (G1.2 μ.next (rzQ _))
 obtain ⟨d0, d1⟩ := Has.c2 hk
 have hGa := hG1.trans G1
 refine jbt ?_
 unfold jdh
 unfold jgq at r1
 by_cases h2 : ls.length ≤ 2
 ·rw [if_pos h2] at r1 ⊢
  obtain ⟨n, hn⟩ := exq (lval ls)
  rw [← hn] at r1 ⊢
  obtain ⟨ni, hni⟩ := exq (.ofNat n : Int)
  have b1 : ilt 9223372036854775808 ni = decide (9223372036854775808 < n) := by rw [hni]; exact jap 9223372036854775808 n
  have b2 : ilt 9223372036854775807 ni = decide (9223372036854775807 < n) := by rw [hni]; exact jap 9223372036854775807 n
  cases neg
  ·have hs : (if false = true then (if n ≤ 9223372036854775808 then some (-(n : Int)) else none) else (if n ≤ 9223372036854775807 then some (.ofNat n) else none)) = if n ≤ 9223372036854775807 then some (Int.ofNat n) else none := rfl
   rw [hs]
   by_cases h3 : n ≤ 9223372036854775807
   ·rw [if_pos h3]
    rw [rzV (by omega)] at b2
    have q1 : jak .i64 ni = .ofNat n := by rw [hni]; exact q64 n (by omega)
    rw [← hni] at r1
    refine jac Tryz.func24 rfl rfl (nbl rfl) ?_
    simp only [go_sem, Tryz.ntmps24]
    repeat ((first | refine jaa rfl ?_ | refine jaj rfl ?_); (try simp only [go_sem, jcH, c0, c1, d0, d1, r1, b1, b2, jcL, q1]); fail_if_success refine stk ?_)
    exact jae ⟨rfl, .tuple #[.int .i64 (.ofNat n), .bool true], by simp only [go_sem, Tryz.results24], rfl, hGa⟩
   ·rw [if_neg h3]
    rw [rzU (by omega)] at b2
    rw [← hni] at r1
    refine jac Tryz.func24 rfl rfl (nbl rfl) ?_
    simp only [go_sem, Tryz.ntmps24]
    repeat ((first | refine jaa rfl ?_ | refine jaj rfl ?_); (try simp only [go_sem, jcH, c0, c1, d0, d1, r1, b1, b2]); fail_if_success refine stk ?_)
    exact jae ⟨rfl, .tuple #[.int .i64 0, .bool false], by simp only [go_sem, Tryz.results24], rfl, hGa⟩
  ·have hs : (if true = true then (if n ≤ 9223372036854775808 then some (-(n : Int)) else none) else (if n ≤ 9223372036854775807 then some (.ofNat n) else none)) = if n ≤ 9223372036854775808 then some (-(n : Int)) else none := rfl
   rw [hs]
   by_cases h3 : n ≤ 9223372036854775808
   ·rw [if_pos h3]
    rw [rzV (by omega)] at b1
    have q1 : jak .i64 (jak .u64 (0 - ni)) = -(n : Int) := by rw [hni]; exact wrap_neg h3
    have q0 : ∀ (r : Rg) (d : Option Tmp) (t ty : TypeId) (x : Operand) (ps : String) (af : Array Edge) (gd : Option (Nat × Bool)), aev pZ r x = .int .u64 ni → jaC pZ (aev pZ r) ⟨d, .unOp .neg t x, ty, ps, af, gd⟩ = some (.int .u64 (jak .u64 (0 - ni))) := fun r d t ty x ps af gd g => neg_u g
    rw [← hni] at r1
    refine jac Tryz.func24 rfl rfl (nbl rfl) ?_
    simp only [go_sem, Tryz.ntmps24]
    repeat ((first | refine jaa rfl ?_ | refine jaj rfl ?_); (try simp only [go_sem, jcH, c0, c1, d0, d1, r1, b1, b2, q0, jcL, q1]); fail_if_success refine stk ?_)
    exact jae ⟨rfl, .tuple #[.int .i64 (-(n : Int)), .bool true], by simp only [go_sem, Tryz.results24], rfl, hGa⟩
   ·rw [if_neg h3]
    rw [rzU (by omega)] at b1
    rw [← hni] at r1
    refine jac Tryz.func24 rfl rfl (nbl rfl) ?_
    simp only [go_sem, Tryz.ntmps24]
    repeat ((first | refine jaa rfl ?_ | refine jaj rfl ?_); (try simp only [go_sem, jcH, c0, c1, d0, d1, r1, b1, b2]); fail_if_success refine stk ?_)
    exact jae ⟨rfl, .tuple #[.int .i64 0, .bool false], by simp only [go_sem, Tryz.results24], rfl, hGa⟩
 ·rw [if_neg h2] at r1 ⊢
  refine jac Tryz.func24 rfl rfl (nbl rfl) ?_
  simp only [go_sem, Tryz.ntmps24]
  repeat ((first | refine jaa rfl ?_ | refine jaj rfl ?_); (try simp only [go_sem, jcH, c0, c1, d0, d1, r1]); fail_if_success refine stk ?_)
  exact jae ⟨rfl, .tuple #[.int .i64 0, .bool false], by simp only [go_sem, Tryz.results24], rfl, hGa⟩
end
noncomputable section
variable {X : XT}
def smW (n : Int) : Nat := (n * 8 % 18446744073709551616).toNat
theorem jjk (n : Int) : smW n < 18446744073709551616 := by unfold smW; omega
theorem smW_8 (n : Int) : smW n % 8 = 0 := by unfold smW; omega
def jcq (n : Int) : Bool := decide (-1152921504606846976 ≤ n) && decide (n ≤ 1152921504606846975)
theorem jid {n : Int} {g : Nat} {μ : Mem} (hg : 20 ≤ g) : aFun pZ (jai pZ X S0 g) 61 [.int .u64 0, .int .i64 n] μ = some (.int .u64 (.ofNat (smW n)), μ) := by
 obtain ⟨k, rfl⟩ := gle hg
 obtain ⟨a, ha⟩ := exq ((n % 18446744073709551616).toNat : Nat)
 obtain ⟨ai, hai⟩ := exq (.ofNat a : Int)
 obtain ⟨bi, hbi⟩ := exq (.ofNat (smW n) : Int)
 have q1 : jak .u64 n = ai := by rw [hai, ha]; exact wrap_u64 n
 have q2 : jaH true .u64 ai 3 = some (.int .u64 bi) := by
  have e : W (a * 2 ^ 3) = smW n := by rw [W_def, ha]; unfold smW; omega
  rw [hai, hbi, ← e]
  exact w_shl a 3 (by decide)
 have q3 : jbm Nat.lor .u64 .u64 bi 0 = some (.int .u64 bi) := by rw [hbi]; exact jkC (smW n) 0 (smW n) (Nat.or_zero _).symm (jjk n) (by decide)
 rw [← hbi]
 refine jau ?_
 refine jac Tryz.func61 rfl rfl (nbl rfl) ?_
 simp only [go_sem, Tryz.ntmps61]
 repeat ((first | refine jaa rfl ?_ | refine jaj rfl ?_); (try simp only [go_sem, cviW, q1, q2, q3]); fail_if_success refine stk ?_)
 exact jae ⟨rfl, _, by simp only [go_sem, Tryz.results61], rfl, rfl⟩
theorem jeG {n : Int} {g : Nat} {μ : Mem} (hg : 40 ≤ g) : aFun pZ (jai pZ X S0 g) 25 [.int .i64 n] μ = some (if jcq n then .tuple #[.int .u64 (.ofNat (smW n)), .bool true] else .tuple #[.int .u64 0, .bool false], μ) := by
 obtain ⟨k, rfl⟩ := gle hg
 have r1 := jid (X := X) (n := n) (g := k + 36) (μ := μ) (by omega)
 obtain ⟨bi, hbi⟩ := exq (.ofNat (smW n) : Int)
 rw [← hbi] at r1 ⊢
 have b1 : ilt n (-1152921504606846976) = decide (n < -1152921504606846976) := jfo _ _
 have b2 : ilt 1152921504606846975 n = decide (1152921504606846975 < n) := jfo _ _
 refine jau ?_
 unfold jcq
 by_cases h1 : n < -1152921504606846976
 ·rw [rzU h1] at b1
  rw [rzV (by omega : ¬ -1152921504606846976 ≤ n)]
  rw [Bool.false_and, if_neg (by decide)]
  refine jac Tryz.func25 rfl rfl (nbl rfl) ?_
  simp only [go_sem, Tryz.ntmps25]
  repeat ((first | refine jaa rfl ?_ | refine jaj rfl ?_); (try simp only [go_sem, b1, b2]); fail_if_success refine stk ?_)
  exact jae ⟨rfl, _, by simp only [go_sem, Tryz.results25], rfl, rfl⟩
 ·rw [rzV h1] at b1
  rw [rzU (by omega : -1152921504606846976 ≤ n)]
  by_cases h2 : 1152921504606846975 < n
  ·rw [rzU h2] at b2
   rw [rzV (by omega : ¬ n ≤ 1152921504606846975)]
   rw [Bool.and_false, if_neg (by decide)]
   refine jac Tryz.func25 rfl rfl (nbl rfl) ?_
   simp only [go_sem, Tryz.ntmps25]
   repeat ((first | refine jaa rfl ?_ | refine jaj rfl ?_); (try simp only [go_sem, b1, b2]); fail_if_success refine stk ?_)
   exact jae ⟨rfl, _, by simp only [go_sem, Tryz.results25], rfl, rfl⟩
  ·rw [rzV h2] at b2
   rw [rzU (by omega : n ≤ 1152921504606846975)]
   rw [Bool.and_self, if_pos rfl]
   refine jac Tryz.func25 rfl rfl (nbl rfl) ?_
   simp only [go_sem, Tryz.ntmps25]
   repeat ((first | refine jaa rfl ?_ | refine jaj rfl ?_); (try simp only [go_sem, b1, b2, r1]); fail_if_success refine stk ?_)
   exact jae ⟨rfl, _, by simp only [go_sem, Tryz.results25], rfl, rfl⟩
theorem je1 {g m : Nat} {μ : Mem} (hg : 20 ≤ g) (hm : m < 18446744073709551616) : aFun pZ (jai pZ X S0 g) 26 [.int .u64 (.ofNat m)] μ = some (.int .i64 (.ofNat (m % 8)), μ) := by
 obtain ⟨k, rfl⟩ := gle hg
 have q1 := land7 m hm
 have q2 : jak .i64 (.ofNat (m % 8)) = .ofNat (m % 8) := q64 _ (by omega)
 obtain ⟨mi, hmi⟩ := exq (.ofNat m : Int)
 obtain ⟨ki, hki⟩ := exq (.ofNat (m % 8) : Int)
 rw [← hki] at q1 q2 ⊢
 rw [← hmi] at q1 ⊢
 refine jau ?_
 refine jac Tryz.func26 rfl rfl (nbl rfl) ?_
 simp only [go_sem, Tryz.ntmps26]
 repeat ((first | refine jaa rfl ?_ | refine jaj rfl ?_); (try simp only [go_sem, q1, cvWi, q2]); fail_if_success refine stk ?_)
 exact jae ⟨rfl, _, by simp only [go_sem, Tryz.results26], rfl, rfl⟩
theorem pv_shi (t : TypeId) (a : Int) : pv pZ (binOp .shr t (.int .i64 a) (.int .u64 3)) = some (.int .i64 (a.fdiv 8)) := rfl
theorem valueS_eq {n : Int} {g : Nat} {μ : Mem} (hg : 20 ≤ g) (hn : jcq n = true) : aFun pZ (jai pZ X S0 g) 28 [.int .u64 (.ofNat (smW n))] μ = some (.int .i64 n, μ) := by
 obtain ⟨k, rfl⟩ := gle hg
 unfold jcq at hn
 rw [Bool.and_eq_true, decide_eq_true_eq, decide_eq_true_eq] at hn
 have q1 := land7 (smW n) (jjk n)
 rw [smW_8] at q1
 obtain ⟨ki, hki⟩ := exq (.ofNat 0 : Int)
 have q2 : ieq ki 0 = true := by rw [hki]; rfl
 obtain ⟨zi, hzi⟩ := exq (n * 8 : Int)
 have q3 : jak .i64 (.ofNat (smW n)) = zi := by
  rw [wrap_64, hzi]
  unfold smW
  show (if ((n * 8 % 18446744073709551616).toNat : Int) % 18446744073709551616 < 9223372036854775808 then ((n * 8 % 18446744073709551616).toNat : Int) % 18446744073709551616 else ((n * 8 % 18446744073709551616).toNat : Int) % 18446744073709551616 - 18446744073709551616) = _
  split <;> omega
 obtain ⟨mi, hmi⟩ := exq (.ofNat (smW n) : Int)
 rw [← hki] at q1
 rw [← hmi] at q1 q3 ⊢
 have hf : zi.fdiv 8 = n := by rw [hzi]; exact Int.mul_fdiv_cancel n (by decide)
 have q4 : pv pZ (Op.shift .shr .i64 zi .u64 3) = some (.int .i64 n) := (pv_shi 0 zi).trans (by rw [hf])
 have q5 : jaH false .i64 zi 3 = some (.int .i64 n) ∨ jaH false .i64 zi 3 = none := by
  cases hz : zi with
  | ofNat m =>
    refine .inl ?_
    rw [shr3i]
    have : (m : Int) = n * 8 := by rw [← hzi, hz]; rfl
    rw [show Int.ofNat (m / 8) = n from by show ((m / 8 : Nat) : Int) = n; omega]
  | negSucc m => exact .inr rfl
 clear hzi hf hmi hki
 refine jau ?_
 rcases q5 with q5 | q5
 all_goals
  refine jac Tryz.func28 rfl rfl (nbl rfl) ?_
  simp only [go_sem, Tryz.ntmps28]
  repeat ((first | refine jaa rfl ?_ | refine jaj rfl ?_); (try simp only [go_sem, q1, q2, cvWi, q3, q5, q4]); fail_if_success refine stk ?_)
  exact jae ⟨rfl, _, by simp only [go_sem, Tryz.results28], rfl, rfl⟩
end
noncomputable section
variable {X : XT}
theorem bdH0 (ρ : Operand → Value) : jbF pZ ρ 94 #[] = some (.agg #[.int .i64 (.ofNat 0), .int .i64 (.ofNat 0), .int .i64 (.ofNat 0)]) := by
 refine jba (pl := [(0, 1), (1, 1), (2, 1)]) zH Tryz.underlying94 (by kernel_rfl) ?_
 rfl
theorem ldHd (t : T Ob) (x a kd pn n : Nat) : jbZ pZ ⟨(t.set a hd0).set a (hd1 kd pn n), x⟩ 94 (.pointer (some ⟨a, 0, none⟩)) = some (.agg #[.int .i64 (.ofNat kd), .int .i64 (.ofNat pn), .int .i64 (.ofNat n)]) := by
 have hld := jb7 (P := pZ) (t := 94) (o := 0) (n := 3) Tryz.underlying94 iH (cH t x a kd pn n) (by decide)
 rw [hld]
 rfl
theorem heapAt_no {w : Nat} {v : Value} {g : Nat} {μ : Mem} (hg : 40 ≤ g) (hw : w < 18446744073709551616) (h1 : w % 8 ≠ 1) : aFun pZ (jai pZ X S0 g) 39 [v, .int .u64 (.ofNat w)] μ = some (.tuple #[.int .i64 0, .agg #[.int .i64 (.ofNat 0), .int .i64 (.ofNat 0), .int .i64 (.ofNat 0)], .bool false], ⟨(μ.obs.set μ.next hd0).set μ.next (hd1 0 0 0), μ.next + 1⟩) := by
 obtain ⟨k, rfl⟩ := gle hg
 have r1 := je1 (X := X) (g := k + 36) (μ := ⟨μ.obs.set μ.next hd0, μ.next + 1⟩) (by omega) hw
 obtain ⟨wi, hwi⟩ := exq (.ofNat w : Int)
 obtain ⟨ki, hki⟩ := exq (.ofNat (w % 8) : Int)
 have e1 : ieq ki 1 = false := by rw [hki]; exact dF (jbo _ 1 1 rfl) h1
 rw [← hki, ← hwi] at r1
 rw [← hwi]
 refine jau ?_
 refine jac Tryz.func39 rfl rfl (nbl rfl) ?_
 simp only [go_sem, Tryz.ntmps39]
 repeat ((first | refine jaa rfl ?_ | refine jaj rfl ?_); (try simp only [go_sem, alH0, r1, e1, bdH0, stH]); fail_if_success refine stk ?_)
 refine jae ?_
 refine ⟨rfl, .tuple #[.int .i64 0, .agg #[.int .i64 (.ofNat 0), .int .i64 (.ofNat 0), .int .i64 (.ofNat 0)], .bool false], ?_, rfl, rfl⟩
 simp only [go_sem, Tryz.results39]
 rw [ldHd]
theorem jiF {w : Nat} {v : Value} {g : Nat} {μ : Mem} (hg : 60 ≤ g) (hw : w < 18446744073709551616) (h1 : w % 8 ≠ 1) : ∃ μ', aFun pZ (jai pZ X S0 g) 14 [v, .int .u64 (.ofNat w)] μ = some (.int .i64 (-1), μ') ∧ Grow μ μ' := by
 obtain ⟨k, rfl⟩ := gle hg
 have r1 := heapAt_no (X := X) (g := k + 57) (μ := μ) (v := v) (by omega) hw h1
 obtain ⟨μ1, hμ1⟩ := exq (⟨(μ.obs.set μ.next hd0).set μ.next (hd1 0 0 0), μ.next + 1⟩ : Mem)
 have hG : Grow μ μ1 := by rw [hμ1]; exact jiH _ _ _
 rw [← hμ1] at r1
 obtain ⟨wi, hwi⟩ := exq (.ofNat w : Int)
 rw [← hwi] at r1 ⊢
 refine jbt ?_
 refine jac Tryz.func14 rfl rfl (nbl rfl) ?_
 simp only [go_sem, Tryz.ntmps14]
 repeat ((first | refine jaa rfl ?_ | refine jaj rfl ?_); (try simp only [go_sem, alH0, r1, stH]); fail_if_success refine stk ?_)
 exact jae ⟨rfl, .int .i64 (-1), by simp only [go_sem, Tryz.results14], rfl, hG.trans (jiH _ _ _)⟩
def KD (X : XT) (μ0 : Mem) (hp w : Nat) (κ : Int) : Prop :=
 ∀ (g : Nat) (μ : Mem), 80 ≤ g → Grow μ0 μ → ∃ μ', aFun pZ (jai pZ X S0 g) 14 [.pointer (some ⟨hp, 0, none⟩), .int .u64 (.ofNat w)] μ = some (.int .i64 κ, μ') ∧ Grow μ μ'
theorem KD.grow {μ μ' : Mem} {hp w : Nat} {κ : Int} (h : KD X μ hp w κ) (g : Grow μ μ') : KD X μ' hp w κ := fun f m hf hm => h f m hf (g.trans hm)
theorem kd_no {μ : Mem} {hp w : Nat} (hw : w < 18446744073709551616) (h1 : w % 8 ≠ 1) : KD X μ hp w (-1) := fun g m hg _ => jiF (by omega) hw h1
theorem kd_obj {μ : Mem} {sp hp ap wb lb N L q kd pn n : Nat} {ws : Nat → Nat} {p : Pos} (h : SP μ sp hp ap wb lb N L ws p) (hq : q < N) (hw : ws q = headW kd pn n) (h1 : kd < 32) (h2 : pn < 8) (h3 : n < 1000000) : KD X μ hp (jaI q) (.ofNat kd) := fun g m hg hm => by
 obtain ⟨k, rfl⟩ := gle hg
 obtain ⟨v1, μ1, r1, rfl, hG⟩ := jfp (X := X) (k := k) ((h.hs.grow hm).at) hq h.hs.ab.N1 hw h1 h2 h3
 exact ⟨μ1, r1, hG⟩
theorem jhP {μ0 μ : Mem} {sp hp w kd : Nat} {κ : Int} (hk : KD X μ0 hp w κ) (hG : Grow μ0 μ) (hsp : jad μ sp 0 = some (.pointer (some ⟨hp, 0, none⟩))) (hne : κ ≠ .ofNat kd) {g : Nat} (hg : 150 ≤ g) :
  ∃ μ', aFun pZ (jai pZ X S0 g) 29 [.pointer (some ⟨sp, 0, none⟩), .int .i64 (.ofNat kd), .int .u64 (.ofNat w)] μ = some (.tuple #[.slice none 0 0, .bool false], μ') ∧ Grow μ μ' := by
 obtain ⟨k, rfl⟩ := gle hg
 obtain ⟨μ1, r1, hG1⟩ := hk (k + 146) μ (by omega) hG
 have e1 : ieq κ (.ofNat kd) = false := (jhH _ _).trans (beq_eq_false_iff_ne.2 hne)
 obtain ⟨wi, hwi⟩ := exq (.ofNat w : Int)
 obtain ⟨di, hdi⟩ := exq (.ofNat kd : Int)
 rw [← hwi] at r1 ⊢
 rw [← hdi] at e1 ⊢
 refine jbt ?_
 refine jac Tryz.func29 rfl rfl (nbl rfl) ?_
 simp only [go_sem, Tryz.ntmps29]
 repeat ((first | refine jaa rfl ?_ | refine jaj rfl ?_); (try simp only [go_sem, jbj, faS0, ldHp, hsp, r1, e1]); fail_if_success refine stk ?_)
 exact jae ⟨rfl, .tuple #[.slice none 0 0, .bool false], by simp only [go_sem, Tryz.results29], rfl, hG1⟩
theorem asText_nk {μ0 μ : Mem} {sp hp w : Nat} {κ : Int} (hk : KD X μ0 hp w κ) (hG : Grow μ0 μ) (hsp : jad μ sp 0 = some (.pointer (some ⟨hp, 0, none⟩))) (hne : κ ≠ 18) {g : Nat} (hg : 180 ≤ g) :
  ∃ μ', aFun pZ (jai pZ X S0 g) 10 [.pointer (some ⟨sp, 0, none⟩), .int .u64 (.ofNat w)] μ = some (.tuple #[.slice none 0 0, .bool false], μ') ∧ Grow μ μ' := by
 obtain ⟨k, rfl⟩ := gle hg
 obtain ⟨μ1, r1, hG1⟩ := jhP (g := k + 177) (kd := 18) hk hG hsp hne (by omega)
 have r1 : aFun pZ (jai pZ X S0 (k + 177)) 29 [.pointer (some ⟨sp, 0, none⟩), .int .i64 18, .int .u64 (.ofNat w)] μ = some (.tuple #[.slice none 0 0, .bool false], μ1) := r1
 obtain ⟨wi, hwi⟩ := exq (.ofNat w : Int)
 rw [← hwi] at r1 ⊢
 refine jbt ?_
 refine jac Tryz.func10 rfl rfl (nbl rfl) ?_
 simp only [go_sem, Tryz.ntmps10]
 repeat ((first | refine jaa rfl ?_ | refine jaj rfl ?_); (try simp only [go_sem, r1]); fail_if_success refine stk ?_)
 exact jae ⟨rfl, .tuple #[.slice none 0 0, .bool false], by simp only [go_sem, Tryz.results10], rfl, hG1⟩
end
noncomputable section
variable {X : XT}
theorem jii {n : Int} (h1 : -9223372036854775808 ≤ n) (h2 : n < 9223372036854775808) {g : Nat} {μ : Mem} (hg : 6100 ≤ g) :
  ∃ v μ', aFun pZ (jai pZ X S0 g) 27 [.int .i64 n] μ = some (.agg #[.bool false, .float .f64 0, .bool (decide (n < 0)), v], μ') ∧ Lv μ' v (ja6 (two n.natAbs)) ∧ Grow μ μ' := by
 obtain ⟨k, rfl⟩ := gle hg
 have hG := jbc μ obN
 obtain ⟨v, μ2, r1, hL, G2⟩ := jkK (X := X) (g := k + 6097) (μ := ⟨μ.obs.set μ.next obN, μ.next + 1⟩) h1 h2 (by omega)
 obtain ⟨b, hb⟩ := exq (decide (n < 0))
 rw [← hb] at r1 ⊢
 obtain ⟨μ4, r3, G4⟩ := whole_ex (X := X) (g := k + 6097) (p := .bool b) (x := v) (μ := μ2) rfl hL.one (by omega)
 have hB : Blk μ4 μ.next 4 27 := blkN.of_get ((G2.trans G4).2 _ (rzQ _))
 have hst := st_N (a := .bool false) (b := .float .f64 0) (x := .bool b) (y := v) hB rfl rfl rfl hL.one
 have key : EndsF (aFun pZ (jai pZ X S0 (k + 6100)) 27 [.int .i64 n] μ) fun r μ' => ∃ v, r = .agg #[.bool false, .float .f64 0, .bool b, v] ∧ Lv μ' v (ja6 (two n.natAbs)) ∧ Grow μ μ' := by
  refine jac Tryz.func27 rfl rfl (nbl rfl) ?_
  simp only [go_sem, Tryz.ntmps27]
  repeat ((first | refine jaa rfl ?_ | refine jaj rfl ?_); (try simp only [go_sem, r1, r3, hst]); fail_if_success refine stk ?_)
  refine jae ?_
  refine ⟨rfl, .agg #[.bool false, .float .f64 0, .bool b, v], ?_, v, rfl, (hL.grow G4).put hB (by decide), ((hG.trans G2).trans G4).put_new (rzN _)⟩
  simp only [go_sem, Tryz.results27]
  rw [ld_N hB]
 obtain ⟨r, μ', h1, v, rfl, h2⟩ := key
 exact ⟨v, μ', h1, h2⟩
theorem jiW {n : Int} (hn : jcq n = true) {s : Value} {g : Nat} {μ : Mem} (hg : 6200 ≤ g) :
  ∃ v μ', aFun pZ (jai pZ X S0 g) 8 [s, .int .u64 (.ofNat (smW n))] μ = some (.tuple #[.agg #[.bool false, .float .f64 0, .bool (decide (n < 0)), v], .bool true], μ') ∧ Lv μ' v (ja6 (two n.natAbs)) ∧ Grow μ μ' := by
 obtain ⟨k, rfl⟩ := gle hg
 have hG := jbc μ obN
 have hb := hn
 unfold jcq at hb
 rw [Bool.and_eq_true, decide_eq_true_eq, decide_eq_true_eq] at hb
 have r1 := je1 (X := X) (g := k + 6196) (μ := ⟨μ.obs.set μ.next obN, μ.next + 1⟩) (by omega) (jjk n)
 rw [smW_8] at r1
 have r2 := valueS_eq (X := X) (g := k + 6194) (μ := ⟨μ.obs.set μ.next obN, μ.next + 1⟩) (by omega) hn
 obtain ⟨v, μ2, r3, hL, G2⟩ := jii (X := X) (n := n) (g := k + 6194) (μ := ⟨μ.obs.set μ.next obN, μ.next + 1⟩) (by omega) (by omega) (by omega)
 obtain ⟨b, hb⟩ := exq (decide (n < 0))
 rw [← hb] at r3 ⊢
 obtain ⟨wi, hwi⟩ := exq (.ofNat (smW n) : Int)
 obtain ⟨ki, hki⟩ := exq (.ofNat 0 : Int)
 have e1 : ieq ki 0 = true := by rw [hki]; rfl
 rw [← hki, ← hwi] at r1
 rw [← hwi] at r2 ⊢
 have hB : Blk μ2 μ.next 4 27 := blkN.of_get (G2.2 _ (rzQ _))
 have hst := st_N (a := .bool false) (b := .float .f64 0) (x := .bool b) (y := v) hB rfl rfl rfl hL.one
 have key : EndsF (aFun pZ (jai pZ X S0 (k + 6200)) 8 [s, .int .u64 wi] μ) fun r μ' => ∃ v, r = .tuple #[.agg #[.bool false, .float .f64 0, .bool b, v], .bool true] ∧ Lv μ' v (ja6 (two n.natAbs)) ∧ Grow μ μ' := by
  refine jac Tryz.func8 rfl rfl (nbl rfl) ?_
  simp only [go_sem, Tryz.ntmps8]
  repeat ((first | refine jaa rfl ?_ | refine jaj rfl ?_); (try simp only [go_sem, r1, e1, r2, r3, hst]); fail_if_success refine stk ?_)
  refine jae ?_
  refine ⟨rfl, .tuple #[.agg #[.bool false, .float .f64 0, .bool b, v], .bool true], ?_, v, rfl, hL.put hB (by decide), (hG.trans G2).put_new (rzN _)⟩
  simp only [go_sem, Tryz.results8]
  rw [ld_N hB]
 obtain ⟨r, μ', h1, v, rfl, h2⟩ := key
 exact ⟨v, μ', h1, h2⟩
theorem jiX {sp hp ap wb lb N L q b : Nat} {ws : Nat → Nat} {p : Pos} {μ : Mem} (hX2 : jbC X) (h : SP μ sp hp ap wb lb N L ws p) (hq : q + 1 < N) (hw : ws q = headW 16 0 1) (hb : ws (q + 1) = b) (hb2 : b < 18446744073709551616) {g : Nat} (hg : 600 ≤ g) :
  ∃ μ', aFun pZ (jai pZ X S0 g) 8 [.pointer (some ⟨sp, 0, none⟩), .int .u64 (.ofNat (jaI q))] μ = some (.tuple #[.agg #[.bool true, .float .f64 b, .bool false, .slice none 0 0], .bool true], μ') ∧ Grow μ μ' := by
 obtain ⟨k, rfl⟩ := gle hg
 have hN := h.hs.ab.N1
 have hG := jbc μ obN
 have hS0 := h.grow hG
 have r1 := je1 (X := X) (g := k + 596) (μ := ⟨μ.obs.set μ.next obN, μ.next + 1⟩) (m := jaI q) (by omega) (by unfold jaI; omega)
 rw [show jaI q % 8 = 1 from by unfold jaI; omega] at r1
 obtain ⟨v1, μ1, r2, ⟨oi, rfl, G1, o1, o2, hc⟩⟩ := jgb (X := X) (g := k + 595) (by omega) hS0.sp0 hS0.spn hS0.hs.at hq hN hw (by decide) (by decide)
 have hc0 := hc 0 (by decide)
 rw [show q + 1 + 0 = q + 1 from rfl, hb] at hc0
 have r2 : aFun pZ (jai pZ X S0 (k + 595)) 29 [.pointer (some ⟨sp, 0, none⟩), .int .i64 16, .int .u64 (.ofNat (jaI q))] ⟨μ.obs.set μ.next obN, μ.next + 1⟩ = some (.tuple #[.slice (some ⟨oi, 0, none⟩) 1 2, .bool true], μ1) := r2
 obtain ⟨bi, hbi⟩ := exq (.ofNat b : Int)
 have r3 : ∀ {ev} (m : Mem), aGo pZ X (jbs pZ ev S0) 31 [.int .u64 bi] m = some (.float .f64 b, m) := fun m => by rw [hbi]; exact (jjL _ _).trans (hX2 b m hb2)
 obtain ⟨μ2, r4, G2⟩ := flo_numP (X := X) (g := k + 592) (f := b) (μ := μ1) (by omega)
 obtain ⟨wi, hwi⟩ := exq (.ofNat (jaI q) : Int)
 obtain ⟨ki, hki⟩ := exq (.ofNat 1 : Int)
 have e1 : ieq ki 0 = false := by rw [hki]; rfl
 rw [← hki, ← hwi] at r1
 rw [← hwi] at r2 ⊢
 rw [← hbi] at hc0
 have hix : ∀ rg a, aev pZ rg a = .slice (some ⟨oi, 0, none⟩) 1 2 → jal pZ (aev pZ rg) 69 a (.const (.int .i64 0)) = some (.pointer (some ⟨oi, 0, none⟩)) := fun rg a g1 =>
  jaF (P := pZ) (y := .const (.int .i64 0)) (m := 0) (kd := .i64) Tryz.underlying69 iW rfl g1 rfl (by decide)
 have lW : aLen pZ 69 (.slice (some ⟨oi, 0, none⟩) 1 2) = some 1 := by
  unfold aLen
  simp only [Tryz.underlying69]
 have hB : Blk μ2 μ.next 4 27 := blkN.of_get ((G1.trans G2).2 _ (rzQ _))
 have hst := st_N (a := .bool true) (b := .float .f64 b) (x := .bool false) (y := .slice none 0 0) hB rfl rfl rfl rfl
 have e2 : ieq (Int.ofNat 1) 1 = true := rfl
 refine jbt ?_
 refine jac Tryz.func8 rfl rfl (nbl rfl) ?_
 simp only [go_sem, Tryz.ntmps8]
 repeat ((first | refine jaa rfl ?_ | refine jaj rfl ?_); (try simp only [go_sem, r1, e1, r2, lW, jao, e2, hix, ldW, hc0, r3, r4, hst]); fail_if_success refine stk ?_)
 refine jae ?_
 refine ⟨rfl, .tuple #[.agg #[.bool true, .float .f64 b, .bool false, .slice none 0 0], .bool true], ?_, rfl, ((hG.trans G1).trans G2).put_new (rzN _)⟩
 simp only [go_sem, Tryz.results8]
 rw [ld_N hB]
end
noncomputable section
variable {X : XT}
theorem slice_lo {P : Program} {ρ : Operand → Value} {t e : TypeId} {inf : TypeInfo} {x y : Operand} {i o n c l : Nat} {kd : IntKind} (hu : P.underlying t = some (.slice e)) (hi : P.info? e = some inf) (hs : inf.size = 1) (hx : ρ x = .slice (some ⟨i, o, none⟩) n (2 * c)) (hy : ρ y = .int kd (.ofNat l)) (hln : l ≤ n) (hnc : n ≤ c) (hlc : l < c) :
  jaJ P ρ t x (some y) none none = some (.slice (some ⟨i, o + l, none⟩) (n - l) (2 * (c - l))) := by
 unfold jaJ
 have e1 : Nat.beq (Nat.mod (2 * c) 2) 0 = true := by rw [show Nat.mod (2 * c) 2 = 0 from Nat.mul_mod_right 2 c]; rfl
 have e2 : Nat.div (2 * c) 2 = c := by show 2 * c / 2 = c; omega
 have e3 : Nat.ble n c = true := rzP hnc
 have e4 : Nat.ble l n = true := rzP hln
 have e5 : Nat.beq c l = false := by
  cases hb : Nat.beq c l with
  | false => rfl
  | true => have := Nat.eq_of_beq_eq_true hb; omega
 try simp only [hx, hu, hi, e1, e2, ja2, jbl, hy, e3, e4, e5]
 try simp only [Addr.add, Nat.mul_eq, Nat.sub_eq, hs, Nat.mul_one]
 by_cases h0 : l = 0
 ·rw [if_pos h0, h0]; rfl
 ·rw [if_neg h0]
theorem OwnK.poke {e : TypeId} {k m : Nat} {d : Option Nat} {μ0 μ μ' : Mem} {v : Value} {xs : List Value} {q : Nat} (h : OwnK e k d μ0 μ v m xs) (hq : μ0.next ≤ q) (hv : ¬ SlAt v q) (hn : μ'.next = μ.next) (hk : ∀ j, j ≠ q → μ'.obs.get j = μ.obs.get j) : OwnK e k d μ0 μ' v m xs :=
 ⟨h.good.keep fun i hi => hk i fun e => hv (by rw [← e]; exact hi), ⟨by rw [hn]; exact h.grow.1, fun i hi => (hk i (by omega)).trans (h.grow.2 i hi)⟩, fun i hi => by rw [hn]; exact h.above i hi⟩
def lmL (y : Nat → Nat) : Nat → List Nat
 | 0 => []
 | j + 1 => lmL y j ++ [y j % 4294967296, y j / 4294967296]
theorem jf8 (y : Nat → Nat) : ∀ j, (lmL y j).length = 2 * j
 | 0 => rfl
 | j + 1 => by rw [lmL, rzX, jf8 y j]; rfl
theorem jjE {y : Nat → Nat} (hy : ∀ k, y k < 18446744073709551616) : ∀ j x, x ∈ lmL y j → x < 4294967296
 | 0, x, h => by cases h
 | j + 1, x, h => by
   have := hy j
   rw [lmL, List.mem_append] at h
   rcases h with h | h
   ·exact jjE hy j x h
   ·simp only [List.mem_cons, List.not_mem_nil, or_false] at h
    rcases h with rfl | rfl <;> omega
def uc (l : List Nat) : List Value := l.map fun x => .int .u32 (.ofNat x)
theorem cvW4 (n : Int) : jay pZ 33 73 (.int .u64 n) = some (.int .u32 (jak .u32 n)) := by
 simp only [jay, Tryz.underlying73, Tryz.underlying33]
theorem jeX {μ0 μ : Mem} {v : Value} {ls : List Nat} {d : Option Nat} (h : OwnK 73 1 d μ0 μ v ls.length (uc ls)) (hx : ∀ x ∈ ls, x < 4294967296) (hl : ls.length ≤ 2000) : IsU μ ls v := by
 have hmx : 2000 ≤ maxLen := by decide
 refine ⟨hx, by omega, ?_⟩
 by_cases h0 : ls = []
 ·subst h0
  obtain ⟨hl2, ⟨hv, _⟩ | ⟨i, M, z, ov, fx, sh, c, hv, hob, hM, hcell, hc⟩⟩ := h.good
  ·exact .inl ⟨hv, rfl⟩
  ·refine .inr ⟨i, 0, c, hv, fun hn => absurd rfl hn, ?_⟩
   unfold CapK
   rcases hc with ⟨h1, h2, _⟩ | h1
   ·exact .inl ⟨h1, h2⟩
   ·exact .inr h1
 ·obtain ⟨hl2, ⟨hv, hm⟩ | ⟨i, M, z, ov, fx, sh, c, hv, hob, hM, hcell, hc⟩⟩ := h.good
  ·exact absurd (List.eq_nil_of_length_eq_zero hm) h0
  ·refine .inr ⟨i, 0, c, hv, fun _ => ⟨(h.above i ⟨_, _, hv⟩).2, M, z, ov, by rw [hob]; rfl, by unfold uc at hM; omega, fun k hk => by rw [rzT]; exact hcell k hk⟩, ?_⟩
   unfold CapK
   rcases hc with ⟨h1, h2, _⟩ | h1
   ·exact .inl ⟨h1, h2⟩
   ·exact .inr h1
theorem jkZ {oi B A m : Nat} {neg : Bool} {y : Nat → Nat} {μ0 : Mem} (hy : ∀ k, y k < 18446744073709551616) (hoi : oi < μ0.next) (hB0 : μ0.next ≤ B) (hm : m ≤ 300)
  (hc : ∀ k, k < m → jad μ0 oi (1 + k) = some (.int .u64 (.ofNat (y k)))) :
  ∀ (e n j : Nat) (tm : T Value) (v : Value) (μ : Mem), j + n = m → OwnK 73 1 none μ0 μ v (2 * j) (uc (lmL y j)) → Has μ B 0 [.bool neg, v] → Blk μ B 2 25 → B < μ.next → ¬ SlAt v B →
   jah tm 4 = .pointer (some ⟨A, 0, none⟩) → jah tm 10 = .pointer (some ⟨B, 0, none⟩) → jah tm 57 = .slice (some ⟨oi, 1, none⟩) m (2 * m) → jah tm 58 = .int .i64 (.ofNat m) → jah tm 59 = .int .i64 (.ofNat j) →
   LpC X (e + n + 60) Tryz.f8 0 92 tm μ fun x r μ' => x = .exit 0 ∧ ∃ tm' v', r = ⟨92, tm', [], none⟩ ∧ OwnK 73 1 none μ0 μ' v' (2 * m) (uc (lmL y m)) ∧ Has μ' B 0 [.bool neg, v'] ∧ Blk μ' B 2 25 ∧ B < μ'.next ∧ ¬ SlAt v' B ∧ (∀ i, i < μ.next → i ≠ B → ¬ SlAt v i → μ'.obs.get i = μ.obs.get i) ∧
    jah tm' 4 = .pointer (some ⟨A, 0, none⟩) ∧ jah tm' 10 = .pointer (some ⟨B, 0, none⟩) := by
 intro e n
 induction n with
 | zero =>
   intro j tm v μ hj hO hH hB hBn hns r4 r10 r57 r58 r59
   obtain rfl : j = m := hj
   have e1 : ilt (.ofNat j) (.ofNat j) = false := dF (jap j j) (Nat.lt_irrefl _)
   refine jam ?_
   repeat ((first | refine jaa rfl ?_ | refine jaj rfl ?_); (try simp only [go_sem, r58, r59, e1]); fail_if_success refine stk ?_)
   exact ⟨by trivial, _, v, rfl, hO, hH, hB, hBn, hns, by simp, by simp only [go_sem, r4], by simp only [go_sem, r10]⟩
 | succ n ih =>
   intro j tm v μ hj hO hH hB hBn hns r4 r10 r57 r58 r59
   have hlt : j < m := by omega
   have e1 : ilt (.ofNat j) (.ofNat m) = true := dT (jap j m) hlt
   have q0 : jak .i64 (Int.add (.ofNat j) 1) = .ofNat (j + 1) := jaT j 1 (by omega)
   have hix : ∀ rg a b, aev pZ rg a = .slice (some ⟨oi, 1, none⟩) m (2 * m) → aev pZ rg b = .int .i64 (.ofNat j) → jal pZ (aev pZ rg) 69 a b = some (.pointer (some ⟨oi, 1 + j, none⟩)) := fun rg a b g1 g2 =>
    jaF (P := pZ) Tryz.underlying69 iW rfl g1 g2 hlt
   have hcj : jad μ oi (1 + j) = some (.int .u64 (.ofNat (y j))) := by rw [← hc j hlt]; unfold jad; rw [hO.grow.2 oi hoi]
   obtain ⟨b0, b1⟩ := Has.c2 hH
   have hyj := hy j
   obtain ⟨lo, hlo⟩ := exq (y j % 4294967296)
   obtain ⟨hi, hhi⟩ := exq (y j / 4294967296)
   have q1 : jak .u32 (.ofNat (y j)) = .ofNat lo := by rw [q4, hlo]
   have q2 : jaH false .u64 (.ofNat (y j)) 32 = some (.int .u64 (.ofNat hi)) := by rw [hhi]; exact shr_u (y j) 32 (by decide)
   have q3 : jak .u32 (.ofNat hi) = .ofNat hi := by rw [q4]; congr 1; omega
   obtain ⟨yi, hyi⟩ := exq (.ofNat (y j) : Int)
   rw [← hyi] at hcj q1 q2
   have hbs : ∀ r a b, aev pZ r a = .int .u32 (.ofNat lo) → aev pZ r b = .int .u32 (.ofNat hi) → jas pZ (aev pZ r) 23 2 #[(0, a), (1, b)] = some (ob2 (.ofNat lo) (.ofNat hi), fun id => .slice (some ⟨id, 0, none⟩) 2 4) := fun r a b g1 g2 => bs2 _ a b _ _ g1 g2
   have hG2 := jbc μ (ob2 (.ofNat lo) (.ofNat hi))
   have hL2 : Lv ⟨μ.obs.set μ.next (ob2 (.ofNat lo) (.ofNat hi)), μ.next + 1⟩ (.slice (some ⟨μ.next, 0, none⟩) 2 4) [lo, hi] := lv_2 (by omega) (by omega)
   have hsrc := (hL2.isU (by show 2 ≤ maxLen; decide)).src
   obtain ⟨v', μ', hap, hO', hat, hnx, hkp⟩ := (hO.keep hG2).app (st := 23) (xt := 23) (x := .slice (some ⟨μ.next, 0, none⟩) 2 4) (n := 2) (ys := uc [lo, hi]) Tryz.underlying23 jci rfl (by decide) rfl jg5 rfl (by rw [Tryz.underlying23]) rfl hsrc rfl (by omega) rfl (by decide) (fun d' h => by cases h)
   have hnx' : μ'.next = μ.next + 1 + 1 := hnx
   have hBk : μ'.obs.get B = μ.obs.get B := by
    rw [hkp B (by show B ≠ μ.next + 1; omega) hns]
    exact hG2.2 B hBn
   have hB' : Blk μ' B 2 25 := hB.of_get hBk
   have hH' : Has μ' B 0 [.bool neg, v] := hH.keep hBk
   obtain ⟨l', c', hv'⟩ := hat
   have hns' : ¬ SlAt v' B := fun h => by
    obtain ⟨l, c, h⟩ := h
    rw [hv'] at h
    injection h with g1
    injection g1 with g2
    injection g2 with g3
    have g3 : μ.next + 1 = B := g3
    omega
   have ov' : one v' = true := by rw [hv']; rfl
   have hst := jaW (t := 23) (v := v') (o := 1) i_Ls rfl ov' hB' (by decide)
   have hH'' : Has (putL μ' B 1 [v']) B 0 [.bool neg, v'] := hH'.set (k := 1) hB' (by show 1 < 2; decide)
   have hO'' : OwnK 73 1 none μ0 (putL μ' B 1 [v']) v' (2 * (j + 1)) (uc (lmL y (j + 1))) := by
    have := OwnK.poke hO' (q := B) (μ' := putL μ' B 1 [v']) hB0 hns' (jaE _ _ _ _) (fun i hi => jaX _ _ _ _ hi)
    rw [lmL, ← hlo, ← hhi]
    unfold uc at this ⊢
    rw [List.map_append]
    exact this
   refine jam ?_
   repeat ((first | refine jaa rfl ?_ | refine jaj rfl ?_); (try simp only [go_sem, r10, r57, r58, r59, e1, hix, ldW, hcj, b1, cvW4, q1, q2, q3, hbs, hap, hst, q0]); fail_if_success refine stk ?_)
   rw [(by omega : e + (n + 1) + 59 = e + n + 60)]
   refine rzM (ih (j + 1) _ v' (putL μ' B 1 [v']) (by omega) hO'' hH'' (hB'.put _ _) (by rw [jaE]; omega) hns' ?_ ?_ ?_ ?_ ?_) ?_
   ·simp only [go_sem, r4]
   ·simp only [go_sem, r10]
   ·simp only [go_sem, r57]
   ·simp only [go_sem, r58]
   ·simp only [go_sem]
   rintro x r μf ⟨hx, tm', vf, hr, a1, a2, a3, a4, a7, a5, a6⟩
   refine ⟨hx, tm', vf, hr, a1, a2, a3, a4, a7, fun i hi hiB hiv => ?_, a6⟩
   rw [a5 i (by rw [jaE]; omega) hiB (fun h => by
    obtain ⟨l, c, h⟩ := h
    rw [hv'] at h
    injection h with g1
    injection g1 with g2
    injection g2 with g3
    have g3 : μ.next + 1 = i := g3
    omega), jaX _ _ _ _ hiB, hkp i (by show i ≠ μ.next + 1; omega) hiv]
   exact hG2.2 i hi
end
end Go.Proofs.YtdmfakpngnlokaaGreatDoor.nu
