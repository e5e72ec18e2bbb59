/-
  distafflaw18.ValueNums, part Qi: its walk and its law. No conditions.
-/
import Derived.Test.YtdmfakpngnlokaaGreatDoorDwQh
set_option linter.all false
set_option maxRecDepth 20000
set_option maxHeartbeats 8000000
namespace Go.Proofs.YtdmfakpngnlokaaGreatDoor.nu
open YtdmfakpngnlokaaGreatDoor.Ev
noncomputable section
def strip : List Nat → List Nat
 | [] => []
 | [c] => [c]
 | c :: y :: r => if c = 48 then strip (y :: r) else c :: y :: r
theorem strip_ne {c y : Nat} {r : List Nat} (h : ¬ c = 48) : strip (c :: y :: r) = c :: y :: r := by rw [strip, if_neg h]
theorem t3d {s : ByteArray} (hs : (bys s).length ≤ 100000) : ∀ (j i : Nat), i + j = (bys s).length → ∀ {X : XT} {e : Nat} {tm : T Value} {μ : Mem}, jah tm 5 = .string s → jah tm 6 = .int .i64 (.ofNat i) →
  LpC X (e + j + 40) Tryz.f37 0 106 tm μ fun x r m => m = μ ∧ ∃ tm', r = ⟨106, tm', [], none⟩ ∧ ((x = .exit 0 ∧ 46 ∉ (bys s).drop i ∧ jah tm' 5 = .string s) ∨ (x = .ret ∧ 46 ∈ (bys s).drop i ∧ jah tm' 2 = .string s)) := by
 have ls := jbU s
 intro j
 induction j with
 | zero =>
   intro i hi X e tm μ h5 h6
   have e1 : ilt (.ofNat i) (.ofNat (bys s).length) = false := dF (jap _ _) (by omega)
   refine jam ?_
   repeat ((first | refine jaa rfl ?_ | refine jaj rfl ?_); (try simp only [go_sem, h5, h6, ls, jao, e1]); fail_if_success refine stk ?_)
   exact ⟨by trivial, _, rfl, .inl ⟨by trivial, by rw [List.drop_eq_nil_of_le (by omega)]; exact List.not_mem_nil, by simp only [go_sem, h5]⟩⟩
 | succ j ih =>
   intro i hi X e tm μ h5 h6
   have e1 : ilt (.ofNat i) (.ofNat (bys s).length) = true := dT (jap _ _) (by omega)
   have a1 : jak .i64 (Int.add (.ofNat i) 1) = .ofNat (i + 1) := jaT i 1 (by omega)
   have hil : i < (bys s).length := by omega
   obtain ⟨c, hc⟩ := exq ((bys s)[i])
   have hx : ∀ r x y, aev pZ r x = .string s → aev pZ r y = .int .i64 (.ofNat i) → jb0 pZ (aev pZ r) 9 x y = some (.int .u8 (.ofNat c)) := fun r x y g1 g2 => by rw [hc]; exact jhh hil g1 g2
   have hdr : (bys s).drop i = c :: (bys s).drop (i + 1) := by rw [List.drop_eq_getElem_cons hil, hc]
   obtain ⟨t, ht⟩ := eqx (ieq (.ofNat c) 46)
   have ht' : t = decide (c = 46) := ht.symm.trans (jbo c 46 46 rfl)
   cases t with
   | true =>
     refine jam ?_
     repeat ((first | refine jaa rfl ?_ | refine jaj rfl ?_); (try simp only [go_sem, h5, h6, ls, jao, e1, hx, ht]); fail_if_success refine stk ?_)
     refine jae ?_
     exact ⟨by trivial, _, rfl, .inr ⟨by trivial, by rw [hdr, of_decide_eq_true ht'.symm]; exact List.mem_cons_self, by simp only [go_sem]⟩⟩
   | false =>
     refine jam ?_
     repeat ((first | refine jaa rfl ?_ | refine jaj rfl ?_); (try simp only [go_sem, h5, h6, ls, jao, e1, hx, ht, a1]); fail_if_success refine stk ?_)
     rw [(by omega : e + (j + 1) + 39 = e + j + 40)]
     have hm : 46 ∈ (bys s).drop i ↔ 46 ∈ (bys s).drop (i + 1) := by
      have hc46 := of_decide_eq_false ht'.symm
      rw [hdr, List.mem_cons]
      exact ⟨fun h => h.resolve_left (fun e => hc46 e.symm), .inr⟩
     rw [hm]
     exact ih (i + 1) (by omega) (by simp only [go_sem, h5]) (by simp only [go_sem])
theorem t3p {s : ByteArray} {p : Nat} (hs : (bys s).length ≤ 100000) (hp : p < (bys s).length) (h1 : (bys s)[p] = 101) (h2 : ∀ q (h : q < (bys s).length), p < q → (bys s)[q] ≠ 101) : ∀ (j i a : Nat) (d : Bool), i + j = (bys s).length → (p < i → a = p) → ∀ {X : XT} {e : Nat} {tm : T Value} {μ : Mem}, jah tm 7 = .string s → jah tm 8 = .int .i64 (.ofNat a) → jah tm 9 = .bool d → jah tm 10 = .int .i64 (.ofNat i) →
  LpC X (e + j + 40) Tryz.f37 1 106 tm μ fun x r m => x = .exit 2 ∧ m = μ ∧ ∃ tm', r = ⟨106, tm', [], none⟩ ∧ jah tm' 7 = .string s ∧ jah tm' 8 = .int .i64 (.ofNat p) ∧ jah tm' 9 = .bool (d || decide (46 ∈ (bys s).drop i)) := by
 have ls := jbU s
 intro j
 induction j with
 | zero =>
   intro i a d hi ha X e tm μ h7 h8 h9 h10
   have e1 : ilt (.ofNat i) (.ofNat (bys s).length) = false := dF (jap _ _) (by omega)
   refine jam ?_
   repeat ((first | refine jaa rfl ?_ | refine jaj rfl ?_); (try simp only [go_sem, h7, h10, ls, jao, e1]); fail_if_success refine stk ?_)
   exact ⟨by trivial, by trivial, _, rfl, by simp only [go_sem, h7], by rw [← ha (by omega)]; simp only [go_sem, h8], by rw [List.drop_eq_nil_of_le (by omega), rzV List.not_mem_nil, Bool.or_false]; simp only [go_sem, h9]⟩
 | succ j ih =>
   intro i a d hi ha X e tm μ h7 h8 h9 h10
   have hil : i < (bys s).length := by omega
   have e1 : ilt (.ofNat i) (.ofNat (bys s).length) = true := dT (jap _ _) (by omega)
   have a1 : jak .i64 (Int.add (.ofNat i) 1) = .ofNat (i + 1) := jaT i 1 (by omega)
   obtain ⟨c, hc⟩ := exq ((bys s)[i])
   have hx : ∀ r x y, aev pZ r x = .string s → aev pZ r y = .int .i64 (.ofNat i) → jb0 pZ (aev pZ r) 9 x y = some (.int .u8 (.ofNat c)) := fun r x y g1 g2 => by rw [hc]; exact jhh hil g1 g2
   obtain ⟨t2, ht2⟩ := eqx (ieq (.ofNat c) 46)
   have hdd : decide (46 ∈ (bys s).drop i) = (t2 || decide (46 ∈ (bys s).drop (i + 1))) := by
    rw [List.drop_eq_getElem_cons hil, ← hc, ← ht2, jbo c 46 46 rfl]
    by_cases h : c = 46
    ·rw [rzU h, Bool.true_or, h]; exact rzU List.mem_cons_self
    ·rw [rzV h, Bool.false_or]
     refine decide_eq_decide.2 ?_
     rw [List.mem_cons]
     exact ⟨fun g => g.resolve_left (fun e => h e.symm), .inr⟩
   have hdt : ∀ b, (true || b) = (true || decide (46 ∈ (bys s).drop (i + 1))) := fun _ => rfl
   have ht : ieq (.ofNat c) 101 = decide (c = 101) := jbo c 101 101 rfl
   by_cases h0 : c = 101
   ·rw [rzU h0] at ht
    have hn : p < i + 1 → i = p := fun h => by
     rcases Nat.lt_or_ge p i with g | g
     ·exact absurd (hc.symm.trans h0) (h2 i hil g)
     ·omega
    cases d with
    | true =>
      refine jam ?_
      repeat ((first | refine jaa rfl ?_ | refine jaj rfl ?_); (try simp only [go_sem, h7, h9, h10, ls, jao, e1, hx, ht, a1]); fail_if_success refine stk ?_)
      rw [(by omega : e + (j + 1) + 39 = e + j + 40)]
      rw [hdt]
      exact ih (i + 1) i true (by omega) hn (by simp only [go_sem, h7]) (by simp only [go_sem]) (by simp only [go_sem]) (by simp only [go_sem])
    | false =>
      refine jam ?_
      repeat ((first | refine jaa rfl ?_ | refine jaj rfl ?_); (try simp only [go_sem, h7, h9, h10, ls, jao, e1, hx, ht, ht2, a1]); fail_if_success refine stk ?_)
      rw [(by omega : e + (j + 1) + 39 = e + j + 40)]
      rw [hdd, Bool.false_or]
      exact ih (i + 1) i t2 (by omega) hn (by simp only [go_sem, h7]) (by simp only [go_sem]) (by simp only [go_sem]) (by simp only [go_sem])
   ·rw [rzV h0] at ht
    have hn : p < i + 1 → a = p := fun h => by
     rcases Nat.lt_or_ge p i with g | g
     ·exact ha g
     ·have : i = p := by omega
      subst this
      exact absurd (hc.trans h1) h0
    cases d with
    | true =>
      refine jam ?_
      repeat ((first | refine jaa rfl ?_ | refine jaj rfl ?_); (try simp only [go_sem, h7, h9, h10, ls, jao, e1, hx, ht, a1]); fail_if_success refine stk ?_)
      rw [(by omega : e + (j + 1) + 39 = e + j + 40)]
      rw [hdt]
      exact ih (i + 1) a true (by omega) hn (by simp only [go_sem, h7]) (by simp only [go_sem, h8]) (by simp only [go_sem]) (by simp only [go_sem])
    | false =>
      refine jam ?_
      repeat ((first | refine jaa rfl ?_ | refine jaj rfl ?_); (try simp only [go_sem, h7, h9, h10, ls, jao, e1, hx, ht, ht2, a1]); fail_if_success refine stk ?_)
      rw [(by omega : e + (j + 1) + 39 = e + j + 40)]
      rw [hdd, Bool.false_or]
      exact ih (i + 1) a t2 (by omega) hn (by simp only [go_sem, h7]) (by simp only [go_sem, h8]) (by simp only [go_sem]) (by simp only [go_sem])
theorem t3c {B : Nat} (hB : B ≤ 100000) : ∀ (j : Nat) (s : ByteArray), (bys s).length = j → j ≤ B → ∀ {X : XT} {e : Nat} {tm : T Value} {μ : Mem} {a b : Value}, jah tm 12 = .string s → jah tm 11 = a → jah tm 13 = b →
  LpC X (e + j + 40) Tryz.f37 2 106 tm μ fun x r m => x = .exit 4 ∧ m = μ ∧ ∃ tm' s', r = ⟨106, tm', [], none⟩ ∧ jah tm' 12 = .string s' ∧ bys s' = strip (bys s) ∧ jah tm' 11 = a ∧ jah tm' 13 = b := by
 intro j
 induction j with
 | zero =>
   intro s hj hjB X e tm μ a b h12 h11 h13
   have ls := jbU s
   have hsp : bys s = strip (bys s) := by rw [List.eq_nil_of_length_eq_zero hj]; rfl
   have e1 : ilt 1 (.ofNat (bys s).length) = false := dF (jiC _ 1 1 rfl) (by omega)
   refine jam ?_
   repeat ((first | refine jaa rfl ?_ | refine jaj rfl ?_); (try simp only [go_sem, h12, ls, jao, e1]); fail_if_success refine stk ?_)
   exact ⟨by trivial, by trivial, _, s, rfl, by simp only [go_sem, h12], hsp, by simp only [go_sem, h11], by simp only [go_sem, h13]⟩
 | succ j ih =>
   intro s hj hjB X e tm μ a b h12 h11 h13
   have ls := jbU s
   obtain ⟨t1, e1⟩ := eqx (ilt 1 (.ofNat (bys s).length))
   cases t1 with
   | false =>
     have hsp : bys s = strip (bys s) := by
      have := of_decide_eq_false ((jiC _ 1 1 rfl).symm.trans e1)
      match h : bys s, hj with
      | [x], _ => rfl
      | x :: y :: r, _ => rw [h] at this; simp at this
     refine jam ?_
     repeat ((first | refine jaa rfl ?_ | refine jaj rfl ?_); (try simp only [go_sem, h12, ls, jao, e1]); fail_if_success refine stk ?_)
     exact ⟨by trivial, by trivial, _, s, rfl, by simp only [go_sem, h12], hsp, by simp only [go_sem, h11], by simp only [go_sem, h13]⟩
   | true =>
     have hl1 := of_decide_eq_true ((jiC _ 1 1 rfl).symm.trans e1)
     obtain ⟨c, y, rr, hb⟩ : ∃ c y rr, bys s = c :: y :: rr := by
      match h : bys s, hj with
      | [x], _ => rw [h] at hl1; simp at hl1
      | x :: y :: r, _ => exact ⟨x, y, r, rfl⟩
     have hx : ∀ r x, aev pZ r x = .string s → jb0 pZ (aev pZ r) 9 x (.const (.int .i64 0)) = some (.int .u8 (.ofNat c)) := fun r x h => at0 hb h rfl
     obtain ⟨t, ht⟩ := eqx (ieq (.ofNat c) 48)
     have hsl : ∀ r x, aev pZ r x = .string s → jaJ pZ (aev pZ r) 9 x (some (.const (.int .i64 1))) none none = some (.string (jch s 1)) := fun r x h => sl_at s (by omega) r x _ h rfl
     cases t with
     | false =>
       have hsp : bys s = strip (bys s) := by
        have := of_decide_eq_false ((jbo c 48 48 rfl).symm.trans ht)
        rw [hb, strip_ne this]
       refine jam ?_
       repeat ((first | refine jaa rfl ?_ | refine jaj rfl ?_); (try simp only [go_sem, h12, ls, jao, e1, hx, ht]); fail_if_success refine stk ?_)
       exact ⟨by trivial, by trivial, _, s, rfl, by simp only [go_sem, h12], hsp, by simp only [go_sem, h11], by simp only [go_sem, h13]⟩
     | true =>
       refine jam ?_
       repeat ((first | refine jaa rfl ?_ | refine jaj rfl ?_); (try simp only [go_sem, h12, ls, jao, e1, hx, ht, hsl]); fail_if_success refine stk ?_)
       rw [(by omega : e + (j + 1) + 39 = e + j + 40)]
       have hsp : strip (bys s) = strip (bys (jch s 1)) := by
        have := of_decide_eq_true ((jbo c 48 48 rfl).symm.trans ht)
        rw [jdB, hb, strip, if_pos this]
        rfl
       rw [hsp]
       exact ih (jch s 1) (by rw [tail_len]; omega) (by omega) (by simp only [go_sem]) (by simp only [go_sem, h11]) (by simp only [go_sem, h13])
theorem jdx {x : Nat} (h : 9218868437227405312 ≤ x % 9223372036854775808) : Ieee.double.read x = if x % 9223372036854775808 = 9218868437227405312 then .infinity (x / 9223372036854775808 % 2 == 1) else .nan (x / 9223372036854775808 % 2 == 1) (x % 9223372036854775808 - 9218868437227405312) := by
 show (if x % 9223372036854775808 < 4503599627370496 then _ else if x % 9223372036854775808 < 9218868437227405312 then _ else _) = _
 rw [if_neg (by omega), if_neg (by omega)]
 rfl
theorem jjq {x : Nat} (h : x % 9223372036854775808 < 9218868437227405312) : ∃ s m i, Ieee.double.read x = .number s m i ∧ m < 9007199254740992 ∧ i ≤ 971 := by
 by_cases h1 : x % 9223372036854775808 < 4503599627370496
 ·refine ⟨x / 9223372036854775808 % 2 == 1, x % 9223372036854775808, -1074, ?_, by omega, by decide⟩
  show (if x % 9223372036854775808 < 4503599627370496 then _ else _) = _
  rw [if_pos h1]
  rfl
 ·refine ⟨x / 9223372036854775808 % 2 == 1, 4503599627370496 + x % 9223372036854775808 % 4503599627370496, -1074 + ((x % 9223372036854775808 / 4503599627370496 - 1 : Nat) : Int), ?_, by omega, by omega⟩
  show (if x % 9223372036854775808 < 4503599627370496 then _ else if x % 9223372036854775808 < 9218868437227405312 then _ else _) = _
  rw [if_neg h1, if_pos h]
  rfl
theorem jeV : Ieee.double.read 9218868437227405311 = .number false 9007199254740991 971 := by decide
theorem fgt_fin {x : Nat} (h : x % 9223372036854775808 < 9218868437227405312) : fgt x 9218868437227405311 = false := by
 obtain ⟨s, m, i, e, hm, hi⟩ := jjq h
 unfold fgt Ieee.Format.order
 rw [e, jeV]
 show (some (compare (Ieee.signed s m (i - min i 971).toNat) (Ieee.signed false 9007199254740991 (971 - min i 971).toNat)) == some Ordering.gt) = false
 rw [Int.min_eq_left hi, (by omega : (i - i).toNat = 0)]
 have h1 : Ieee.signed s m 0 ≤ m := by
  unfold Ieee.signed
  simp only [Nat.shiftLeft_zero]
  split <;> omega
 have h2 : (9007199254740991 : Int) ≤ Ieee.signed false 9007199254740991 (971 - i).toNat := by
  unfold Ieee.signed
  rw [if_neg (by decide), Nat.shiftLeft_eq]
  have := Nat.le_mul_of_pos_right 9007199254740991 (Nat.pow_pos (n := (971 - i).toNat) (show 0 < 2 by decide))
  exact Int.ofNat_le.2 this
 generalize Ieee.signed s m 0 = a at h1
 generalize Ieee.signed false 9007199254740991 (971 - i).toNat = b at h2
 have : compare a b ≠ .gt := fun h => by
  have := Int.compare_eq_gt.1 h
  omega
 cases hc : compare a b with
 | gt => exact absurd hc this
 | lt => rfl
 | eq => rfl
theorem neg_mod (f : Nat) : Op.negFloat .f64 f % 9223372036854775808 = f % 9223372036854775808 := by
 show (f ^^^ 2 ^ 63) % 2 ^ 63 = f % 2 ^ 63
 rw [Nat.xor_mod_two_pow, show 2 ^ 63 % 2 ^ 63 = 0 from by decide, Nat.xor_zero]
theorem jgI {x : Nat} (h : x % 9223372036854775808 ≤ 9218868437227405312) : fne x x = false := by
 unfold fne Ieee.Format.order
 by_cases h1 : x % 9223372036854775808 < 9218868437227405312
 ·obtain ⟨s, m, i, e, _, _⟩ := jjq h1
  rw [e]
  show (!(some (compare (Ieee.signed s m (i - min i i).toNat) (Ieee.signed s m (i - min i i).toNat)) == some Ordering.eq)) = false
  rw [Int.compare_eq_eq.2 rfl]
  rfl
 ·rw [jdx (by omega), if_pos (by omega)]
  show (!(some (compare _ _) == some Ordering.eq)) = false
  rw [Nat.compare_eq_eq.2 rfl]
  rfl
theorem name_fin {f : Nat} (h : f % 9223372036854775808 < 9218868437227405312) : jco f = ⟨#[]⟩ := by
 unfold jco
 rw [jgI (by omega), fgt_fin h, fgt_fin (by rw [neg_mod]; exact h)]
 rfl
theorem jgy {f : Nat} (h : 9218868437227405312 < f % 9223372036854775808) : jco f = ⟨List.toArray [43, 110, 97, 110, 46, 48]⟩ := by
 have : fne f f = true := by
  unfold fne Ieee.Format.order
  rw [jdx (by omega), if_neg (by omega)]
  rfl
 unfold jco
 rw [this]
 rfl
theorem name_pinf : jco 9218868437227405312 = ⟨List.toArray [43, 105, 110, 102, 46, 48]⟩ := by
 have : fgt 9218868437227405312 9218868437227405311 = true := by
  unfold fgt Ieee.Format.order
  rw [jdx (by decide), jeV]
  rfl
 unfold jco
 rw [jgI (by decide), this]
 rfl
theorem name_ninf : jco 18442240474082181120 = ⟨List.toArray [45, 105, 110, 102, 46, 48]⟩ := by
 have h1 : fgt 18442240474082181120 9218868437227405311 = false := by
  unfold fgt Ieee.Format.order
  rw [jdx (by decide), jeV]
  rfl
 have h2 : fgt (Op.negFloat .f64 18442240474082181120) 9218868437227405311 = true := by
  rw [show Op.negFloat .f64 18442240474082181120 = 9218868437227405312 from by decide]
  unfold fgt Ieee.Format.order
  rw [jdx (by decide), jeV]
  rfl
 unfold jco
 rw [jgI (by decide), h1, h2]
 rfl
theorem nb_eq {f : Nat} (hf : f < 18446744073709551616) : nb f = if 9218868437227405312 < f % 9223372036854775808 then 9221120237041090561 else f := by
 have hW : W f = f := W_of hf
 have e1 : W (f / 2 ^ 52) = f / 2 ^ 52 := W_of (by omega)
 have e2 : (f / 2 ^ 52) &&& 2047 = f / 2 ^ 52 % 2048 := by rw [show (2047 : Nat) = 2 ^ 11 - 1 from rfl, Nat.and_two_pow_sub_one_eq_mod]
 have e3 : f &&& 4503599627370495 = f % 4503599627370496 := by rw [show (4503599627370495 : Nat) = 2 ^ 52 - 1 from rfl, Nat.and_two_pow_sub_one_eq_mod]
 unfold nb
 rw [hW, e1, e2, e3, W_of (by omega), W_of (by omega)]
 by_cases h : 9218868437227405312 < f % 9223372036854775808
 ·rw [if_pos h, if_pos (by omega)]
 ·rw [if_neg h, if_neg (by omega)]
theorem jfB {a b : ByteArray} (h : bys a = bys b) : a = b := by
 have h1 : a.data.toList = b.data.toList := by
  unfold bys at h
  exact (List.map_inj_right fun x y hxy => UInt8.toNat_inj.1 hxy).1 h
 obtain ⟨⟨x⟩⟩ := a
 obtain ⟨⟨y⟩⟩ := b
 exact congrArg (fun l : List UInt8 => ByteArray.mk ⟨l⟩) h1
theorem jeA (a b : ByteArray) : bys (catB a b) = bys a ++ bys b := by unfold bys catB; simp
theorem idxB_no {s : ByteArray} {c : Nat} (hc : c < 256) (h : c ∉ bys s) : idxB s c = -1 := by
 unfold idxB
 split
 ·rename_i i hi
  exfalso
  have h1 := List.find?_some hi
  have h2 := List.mem_of_find?_eq_some hi
  rw [List.mem_range] at h2
  rw [beq_iff_eq, getElem!_pos (ByteArray.mk s.data.toList.toArray) i (by show i < s.data.toList.toArray.size; simpa using h2)] at h1
  have h3 : s.data.toList[i] = ((c : Int).toNat).toUInt8 := by rw [← h1]; show _ = s.data.toList.toArray[i]; simp
  refine h ?_
  unfold bys
  refine List.mem_map.2 ⟨s.data.toList[i], List.getElem_mem h2, ?_⟩
  rw [h3, Int.toNat_natCast]
  show (UInt8.ofNat c).toNat = c
  rw [UInt8.toNat_ofNat']; omega
 ·rfl
theorem ptT_yes {s : ByteArray} (h : 46 ∈ bys s) : ptT s = s := by
 unfold ptT
 rw [if_pos]
 unfold ix1
 split
 ·exact Int.le_refl _
 ·obtain ⟨a, b, hb, ha⟩ := List.eq_append_cons_of_mem h
  rw [jhI hb fun x hx e => ha (e ▸ hx)]
  exact Int.natCast_nonneg _
theorem ptT_no {s : ByteArray} (h : 46 ∉ bys s) : ptT s = ⟨(s.data.toList ++ (⟨List.toArray [46, 48]⟩ : ByteArray).data.toList).toArray⟩ := by
 unfold ptT
 rw [if_neg]
 unfold ix1
 rw [if_neg (fun e => h (by rw [← e]; decide)), idxB_no (by decide) h]
 decide
theorem jkc : ∀ n, n ≤ 901 → strip (edig n) = decT n := by decide +kernel
theorem text3_eq {f : Nat} (hf : f < 18446744073709551616) {X : XT} {g : Nat} {μ : Mem} (hX : jcB X) (hX2 : jbC X) (hX3 : jcA X) (hL : Lay μ) (hP : LayP μ) (hg : 30000 ≤ g) :
  ∃ μ', aFun pZ (jai pZ X S0 g) 37 [.float .f64 f] μ = some (.string (floT f), μ') ∧ Grow μ μ' := by
 obtain ⟨k, rfl⟩ := gle hg
 obtain ⟨w, hw⟩ := exq (nb f)
 have hwl : w < 18446744073709551616 := by rw [hw]; unfold nb; split <;> omega
 have hb : aFun pZ (jai pZ X S0 (k + 29997)) 71 [.float .f64 f] μ = some (u w, μ) := by rw [hw]; exact jgP hX hf (by omega)
 obtain ⟨a, ha0⟩ := exq (absF f)
 have ha := Classical.choose_spec (ji1 f) hf (X := X) (g := k + 29993) (μ := μ) hX hX2 (by omega)
 have ha : aFun pZ (jai pZ X S0 (k + 29993)) 72 [.float .f64 f] μ = some (.float .f64 a, μ) := by rw [ha0]; exact ha
 have hnb := nb_eq hf
 rw [← hw] at hnb
 obtain ⟨c1, hc1⟩ := eqx (ieq (.ofNat (W w)) 9221120237041090561)
 obtain ⟨c2, hc2⟩ := eqx (ieq (.ofNat (W w)) 9218868437227405312)
 obtain ⟨c3, hc3⟩ := eqx (ieq (.ofNat (W w)) 18442240474082181120)
 have key : EndsF (aFun pZ (jai pZ X S0 (k + 30000)) 37 [.float .f64 f] μ) fun v μ' => v = .string (floT f) ∧ Grow μ μ' := by
  refine jac Tryz.func37 rfl rfl (nbl rfl) ?_
  simp only [go_sem, Tryz.ntmps37]
  repeat ((first | refine jaa rfl ?_ | refine jaj rfl ?_); (try simp only [go_sem, hb, hc1]); fail_if_success refine stk ?_)
  cases c1 with
  | true =>
    repeat ((first | refine jaa rfl ?_ | refine jaj rfl ?_); (try simp only [go_sem]); fail_if_success refine stk ?_)
    refine jae ?_
    have q := of_decide_eq_true ((jbo (W w) 9221120237041090561 9221120237041090561 rfl).symm.trans hc1)
    rw [W_of hwl, hnb] at q
    have hN : jco f = ⟨List.toArray [43, 110, 97, 110, 46, 48]⟩ := jgy (by split at q <;> omega)
    have hF : floT f = ⟨List.toArray [43, 110, 97, 110, 46, 48]⟩ := by unfold floT; rw [hN, if_pos (by decide)]
    rw [hF]
    refine ⟨rfl, .string ⟨List.toArray [43, 110, 97, 110, 46, 48]⟩, ?_, rfl, Grow.refl _⟩
    simp only [go_sem, Tryz.results37]
  | false =>
  repeat ((first | refine jaa rfl ?_ | refine jaj rfl ?_); (try simp only [go_sem, hc2]); fail_if_success refine stk ?_)
  cases c2 with
  | true =>
    repeat ((first | refine jaa rfl ?_ | refine jaj rfl ?_); (try simp only [go_sem]); fail_if_success refine stk ?_)
    refine jae ?_
    have q := of_decide_eq_true ((jbo (W w) 9218868437227405312 9218868437227405312 rfl).symm.trans hc2)
    rw [W_of hwl, hnb] at q
    have hN : jco f = ⟨List.toArray [43, 105, 110, 102, 46, 48]⟩ := by rw [show f = 9218868437227405312 from by split at q <;> omega]; exact name_pinf
    have hF : floT f = ⟨List.toArray [43, 105, 110, 102, 46, 48]⟩ := by unfold floT; rw [hN, if_pos (by decide)]
    rw [hF]
    refine ⟨rfl, .string ⟨List.toArray [43, 105, 110, 102, 46, 48]⟩, ?_, rfl, Grow.refl _⟩
    simp only [go_sem, Tryz.results37]
  | false =>
  repeat ((first | refine jaa rfl ?_ | refine jaj rfl ?_); (try simp only [go_sem, hc3]); fail_if_success refine stk ?_)
  cases c3 with
  | true =>
    repeat ((first | refine jaa rfl ?_ | refine jaj rfl ?_); (try simp only [go_sem]); fail_if_success refine stk ?_)
    refine jae ?_
    have q := of_decide_eq_true ((jbo (W w) 18442240474082181120 18442240474082181120 rfl).symm.trans hc3)
    rw [W_of hwl, hnb] at q
    have hN : jco f = ⟨List.toArray [45, 105, 110, 102, 46, 48]⟩ := by rw [show f = 18442240474082181120 from by split at q <;> omega]; exact name_ninf
    have hF : floT f = ⟨List.toArray [45, 105, 110, 102, 46, 48]⟩ := by unfold floT; rw [hN, if_pos (by decide)]
    rw [hF]
    refine ⟨rfl, .string ⟨List.toArray [45, 105, 110, 102, 46, 48]⟩, ?_, rfl, Grow.refl _⟩
    simp only [go_sem, Tryz.results37]
  | false =>
  have hfin : Fin1 f := by
   have q1 : ¬ W w = 9221120237041090561 := of_decide_eq_false ((jbo (W w) 9221120237041090561 9221120237041090561 rfl).symm.trans hc1)
   have q2 : ¬ W w = 9218868437227405312 := of_decide_eq_false ((jbo (W w) 9218868437227405312 9218868437227405312 rfl).symm.trans hc2)
   have q3 : ¬ W w = 18442240474082181120 := of_decide_eq_false ((jbo (W w) 18442240474082181120 18442240474082181120 rfl).symm.trans hc3)
   rw [W_of hwl, hw] at q1 q2 q3
   exact fin_of hf q1 q2 q3
  have hN : jco f = ⟨#[]⟩ := by
   have q1 : ¬ W w = 9221120237041090561 := of_decide_eq_false ((jbo (W w) 9221120237041090561 9221120237041090561 rfl).symm.trans hc1)
   have q2 : ¬ W w = 9218868437227405312 := of_decide_eq_false ((jbo (W w) 9218868437227405312 9218868437227405312 rfl).symm.trans hc2)
   have q3 : ¬ W w = 18442240474082181120 := of_decide_eq_false ((jbo (W w) 18442240474082181120 18442240474082181120 rfl).symm.trans hc3)
   rw [W_of hwl, hnb] at q1 q2 q3
   refine name_fin ?_
   by_cases h : 9218868437227405312 < f % 9223372036854775808
   ·rw [if_pos h] at q1; exact absurd rfl q1
   ·rw [if_neg h] at q1 q2 q3; omega
  have hFl : floT f = if ptB a = true then ptT (strOf (ffT f)) else eT f := by unfold floT; rw [if_neg (fun h => h hN), ← ha0]
  refine jan ?_ ?_
  ·simp only [go_sem]
  refine jaD ?_
  simp only [jag]
  repeat (refine code_in rfl ?_)
  refine rzM (?_ : EndsC _ (fun x r m => x = .normal ∧ m = μ ∧ ∃ tm', r = ⟨106, tm', [], none⟩ ∧ jah tm' 0 = .float .f64 f ∧ jah tm' 4 = .float .f64 a)) ?_
  ·skip
   repeat ((first | refine jaa rfl ?_ | refine jaj rfl ?_); (try simp only [go_sem, ha]); fail_if_success refine stk ?_)
   exact ⟨by trivial, by trivial, _, rfl, by simp only [go_sem], by simp only [go_sem]⟩
  rintro x r m ⟨rfl, rfl, tm1, rfl, z0, z4⟩
  simp only [jag]
  obtain ⟨t1, ht1⟩ := eqx (feq a 0)
  obtain ⟨t2, ht2⟩ := eqx (fge a 4562254508917369340)
  obtain ⟨t3, ht3⟩ := eqx (flt a 4921056587992461136)
  have pf1 : ∀ (r : Rg) (d : Option Tmp) (t yt ty : TypeId) (x : Operand) (ps : String) (af : Array Edge) (gd : Option (Nat × Bool)), aev pZ r x = .float .f64 a → jaC pZ (aev pZ r) ⟨d, .binOp .eql t x (.const (.float .f64 0)) yt, ty, ps, af, gd⟩ = some (.bool t1) := fun r d t yt ty x ps af gd h => by rw [← ht1]; exact jhy h rfl
  have pf2 : ∀ (r : Rg) (d : Option Tmp) (t yt ty : TypeId) (x : Operand) (ps : String) (af : Array Edge) (gd : Option (Nat × Bool)), aev pZ r x = .float .f64 a → jaC pZ (aev pZ r) ⟨d, .binOp .geq t x (.const (.float .f64 4562254508917369340)) yt, ty, ps, af, gd⟩ = some (.bool t2) := fun r d t yt ty x ps af gd h => by rw [← ht2]; exact jhx h rfl
  have pf3 : ∀ (r : Rg) (d : Option Tmp) (t yt ty : TypeId) (x : Operand) (ps : String) (af : Array Edge) (gd : Option (Nat × Bool)), aev pZ r x = .float .f64 a → jaC pZ (aev pZ r) ⟨d, .binOp .lss t x (.const (.float .f64 4921056587992461136)) yt, ty, ps, af, gd⟩ = some (.bool t3) := fun r d t yt ty x ps af gd h => by rw [← ht3]; exact jhv h rfl
  repeat (refine code_in rfl ?_)
  refine rzM (?_ : EndsC _ (fun x r m' => x = .normal ∧ m' = m ∧ ∃ tm', r = ⟨106, tm', [], none⟩ ∧ jah tm' 0 = .float .f64 f ∧ jah tm' 33 = .bool (ptB a))) ?_
  ·have hpb : ptB a = (t1 || (t2 && t3)) := by unfold ptB; rw [ht1, ht2, ht3]
   rw [hpb]
   cases t1 with
   | true =>
     repeat ((first | refine jaa rfl ?_ | refine jaj rfl ?_); (try simp only [go_sem, z0, z4, anf, pf1]); fail_if_success refine stk ?_)
     exact ⟨by trivial, by trivial, _, rfl, by simp only [go_sem, z0], by simp only [go_sem]; rfl⟩
   | false =>
     cases t2 with
     | true =>
       repeat ((first | refine jaa rfl ?_ | refine jaj rfl ?_); (try simp only [go_sem, z0, z4, anf, pf1, pf2, pf3]); fail_if_success refine stk ?_)
       exact ⟨by trivial, by trivial, _, rfl, by simp only [go_sem, z0], by simp only [go_sem]; rfl⟩
     | false =>
       repeat ((first | refine jaa rfl ?_ | refine jaj rfl ?_); (try simp only [go_sem, z0, z4, anf, pf1, pf2]); fail_if_success refine stk ?_)
       exact ⟨by trivial, by trivial, _, rfl, by simp only [go_sem, z0], by simp only [go_sem]; rfl⟩
  rintro x r m' ⟨rfl, rfl, tm2, rfl, z0, z33⟩
  simp only [jag]
  obtain ⟨t, htp⟩ := exq (ptB a)
  rw [← htp] at z33 hFl
  cases t with
  | true =>
    obtain ⟨l, hl0⟩ := exq (ffT f)
    obtain ⟨hl, hff⟩ := Classical.choose_spec (ffT_ex f) hf hfin
    have hl : l.length ≤ 9000 := by rw [hl0]; exact hl
    have hff : FfOk f 102 l := by rw [hl0]; exact hff
    rw [if_pos rfl, ← hl0] at hFl
    rw [hFl]
    obtain ⟨μ2, r1, g1⟩ := hff (X := X) (g := k + 29989) (μ := m') hX3 hL hP (by omega)
    have lb : (bys (strOf l)).length ≤ 9000 := by rw [jcf, List.length_map]; exact hl
    have hs2 := jc2 (a := strOf l) (b := ⟨#[46, 48]⟩) (by show _ + 2 < _; omega)
    repeat ((first | refine jaa rfl ?_ | refine jaj rfl ?_); (try simp only [go_sem, z0, z33, r1]); fail_if_success refine stk ?_)
    rw [(by omega : k + 29987 = (k + 29947 - (bys (strOf l)).length) + (bys (strOf l)).length + 40)]
    refine rzM (t3d (s := strOf l) (by omega) (bys (strOf l)).length 0 (rzT _) (by simp only [go_sem]) (by simp only [go_sem]; try rfl)) ?_
    rintro x r m ⟨rfl, tm3, rfl, h | h⟩
    ·obtain ⟨rfl, y6, y5⟩ := h
     rw [List.drop_zero] at y6
     simp only [go_sem]
     repeat ((first | refine jaa rfl ?_ | refine jaj rfl ?_); (try simp only [go_sem, y5, hs2]); fail_if_success refine stk ?_)
     refine jae ?_
     refine ⟨rfl, .string (ptT (strOf l)), ?_, rfl, g1⟩
     rw [ptT_no y6]
     simp only [go_sem, Tryz.results37]
    ·obtain ⟨rfl, y6, y2⟩ := h
     rw [List.drop_zero] at y6
     simp only [jbI, reduceIte, jcp, jgo]
     refine ⟨rfl, .string (strOf l), ?_, by rw [ptT_yes y6], g1⟩
     simp only [jcI, Tryz.results37, aRes, y2]
  | false =>
    obtain ⟨⟨front, sgn, en, he1, he2, he3, he4, he5, hp, hnn⟩, hff⟩ := fe_spec f hf hfin
    obtain ⟨ed1, ed2, ed3⟩ := edig_p en he3
    rw [if_neg (by decide)] at hFl
    obtain ⟨p, hp0⟩ := exq (feP f)
    rw [← hp0] at hp
    obtain ⟨s, hs⟩ := exq (strOf (feT f))
    obtain ⟨μ2, r1, g1⟩ := hff (X := X) (g := k + 29991) (μ := m') hX3 hL hP (by omega)
    rw [← hs] at r1
    have hsg : sgn = 43 ∨ sgn = 45 := he2.imp id And.left
    have hb : bys s = front ++ 101 :: (sgn :: edig en) := by
     rw [hs, he1, bys_id]
     ·simp
     ·intro x hx
      simp only [List.mem_append, List.mem_cons, List.not_mem_nil, or_false] at hx
      rcases hx with (hx | rfl | rfl) | hx
      ·have := he4 x hx; omega
      ·decide
      ·omega
      ·have := (ed3 x hx).2; omega
    have hlen : (bys s).length = front.length + 2 + (edig en).length := by rw [hb]; simp; omega
    have hpl' : p < (bys s).length := by omega
    have hdr : (bys s).drop (p + 1) = sgn :: edig en := by
     rw [hb, hp, show front.length + 1 = (front ++ [101]).length from by simp, show front ++ 101 :: (sgn :: edig en) = (front ++ [101]) ++ (sgn :: edig en) from by simp]
     exact List.drop_left
    have hp101' : (bys s)[p] = 101 := by
     have : (bys s)[p]? = some 101 := by rw [hb, hp]; simp
     exact Option.some.inj ((rzK hpl').symm.trans this)
    have hpn : ∀ q (h : q < (bys s).length), p < q → (bys s)[q] ≠ 101 := fun q hq hpq => by
     have e : (bys s)[q] ∈ (bys s).drop (p + 1) := by
      rw [List.mem_drop_iff_getElem]
      exact ⟨q - (p + 1), by omega, by congr 1; omega⟩
     rw [hdr] at e
     intro h0
     rw [h0] at e
     rcases List.mem_cons.1 e with h | h
     ·omega
     ·have := (ed3 _ h).2; omega
    have hhb : bys (jbV s p) = front := by rw [jjT, hb, hp]; exact List.take_left
    have hdot : decide (46 ∈ bys s) = decide (46 ∈ bys (jbV s p)) := by
     refine decide_eq_decide.2 ?_
     rw [hhb, hb]
     simp only [List.mem_append, List.mem_cons]
     constructor
     ·rintro (h | h | h | h)
      ·exact h
      ·omega
      ·omega
      ·have := (ed3 _ h).1; omega
     ·exact .inl
    have ls := jbU s
    repeat ((first | refine jaa rfl ?_ | refine jaj rfl ?_); (try simp only [go_sem, z0, z33, r1]); fail_if_success refine stk ?_)
    rw [(by omega : k + 29988 = (k + 29948 - (bys s).length) + (bys s).length + 40)]
    refine rzM (t3p (s := s) (p := p) (by omega) hpl' hp101' hpn (bys s).length 0 0 false (rzT _) (fun h => by omega) (by simp only [go_sem]) (by simp only [go_sem]; try rfl) (by simp only [go_sem]) (by simp only [go_sem]; try rfl)) ?_
    rintro x r m ⟨rfl, rfl, tm3, rfl, y7, y8, y9⟩
    rw [List.drop_zero, Bool.false_or, hdot] at y9
    simp only [go_sem]
    have hhd : ∀ r x y, aev pZ r x = .string s → aev pZ r y = .int .i64 (.ofNat p) → jaJ pZ (aev pZ r) 9 x none (some y) none = some (.string (jbV s p)) := fun r x y g1 g2 => jeU g1 g2 (by omega)
    have lhd : (bys (jbV s p)).length ≤ 100 := by rw [hhb]; exact he5
    have hf2 := jc2 (a := jbV s p) (b := ⟨#[46, 48]⟩) (by show _ + 2 < _; omega)
    obtain ⟨dt, hdt⟩ := exq (decide (46 ∈ bys (jbV s p)))
    rw [← hdt] at y9
    obtain ⟨fr, hfr⟩ := exq (ptT (jbV s p))
    have lfr : (bys fr).length ≤ 102 := by rw [hfr]; have := jir (jbV s p); omega
    repeat ((first | refine jaa rfl ?_ | refine jaj rfl ?_); (try simp only [go_sem, y7, y8, y9, hhd]); fail_if_success refine stk ?_)
    refine rzM (?_ : EndsC _ (fun x r m' => x = .normal ∧ m' = m ∧ ∃ tm', r = ⟨106, tm', [], none⟩ ∧ jah tm' 7 = .string s ∧ jah tm' 8 = .int .i64 (.ofNat p) ∧ jah tm' 11 = .string fr)) ?_
    ·cases dt with
     | true =>
       rw [ptT_yes (of_decide_eq_true hdt.symm)] at hfr
       repeat ((first | refine jaa rfl ?_ | refine jaj rfl ?_); (try simp only [go_sem]); fail_if_success refine stk ?_)
       exact ⟨by trivial, by trivial, _, rfl, by simp only [go_sem, y7], by simp only [go_sem, y8], by rw [hfr]; simp only [go_sem]⟩
     | false =>
       rw [ptT_no (of_decide_eq_false hdt.symm)] at hfr
       repeat ((first | refine jaa rfl ?_ | refine jaj rfl ?_); (try simp only [go_sem, hf2]); fail_if_success refine stk ?_)
       exact ⟨by trivial, by trivial, _, rfl, by simp only [go_sem, y7], by simp only [go_sem, y8], by rw [hfr]; simp only [go_sem]⟩
    rintro x r m' ⟨rfl, rfl, tm4, rfl, y7, y8, y11⟩
    simp only [jag]
    obtain ⟨pw, hpw⟩ := exq (jch s (p + 1))
    have bpw : bys pw = sgn :: edig en := by rw [hpw, jdB, hdr]
    obtain ⟨c, ds, hed⟩ : ∃ c ds, edig en = c :: ds := by
     match h : edig en, ed1 with
     | c :: ds, _ => exact ⟨c, ds, rfl⟩
    have hc48 := ed3 c (by rw [hed]; exact List.mem_cons_self)
    have a1 : jak .i64 (Int.add (.ofNat p) 1) = .ofNat (p + 1) := jaT p 1 (by omega)
    have htl : ∀ r x y, aev pZ r x = .string s → aev pZ r y = .int .i64 (.ofNat (p + 1)) → jaJ pZ (aev pZ r) 9 x (some y) none none = some (.string pw) := fun r x y g1 g2 => by rw [hpw]; exact jeo g1 g2 (by omega)
    have i0 : ∀ r x, aev pZ r x = .string pw → jb0 pZ (aev pZ r) 9 x (.const (.int .i64 0)) = some (.int .u8 (.ofNat sgn)) := fun r x h => at0 bpw h rfl
    have tl1 : ∀ r x, aev pZ r x = .string pw → jaJ pZ (aev pZ r) 9 x (some (.const (.int .i64 1))) none none = some (.string (jch pw 1)) := fun r x h => sl_at pw (by rw [bpw]; simp) r x _ h rfl
    have bpw3 : bys (jch pw 1) = edig en := by rw [jdB, bpw]; rfl
    obtain ⟨sg, hsg0⟩ := exq (if sgn = 45 then ⟨List.toArray [45]⟩ else ⟨#[]⟩ : ByteArray)
    have lsg : (bys sg).length ≤ 1 := by rw [hsg0]; split <;> decide
    obtain ⟨pw2, hpw2⟩ : ∃ pw2, pw2 = if sgn = 43 then jch pw 1 else pw := ⟨_, rfl⟩
    obtain ⟨t43, ht43⟩ := eqx (ieq (.ofNat sgn) 43)
    have ht43' : t43 = decide (sgn = 43) := ht43.symm.trans (jbo sgn 43 43 rfl)
    repeat ((first | refine jaa rfl ?_ | refine jaj rfl ?_); (try simp only [go_sem, y7, y8, y11, a1, htl, i0, ht43]); fail_if_success refine stk ?_)
    refine rzM (?_ : EndsC _ (fun x r q => x = .normal ∧ q = m' ∧ ∃ tm', r = ⟨106, tm', [], none⟩ ∧ jah tm' 12 = .string pw2 ∧ jah tm' 11 = .string fr)) ?_
    ·cases t43 with
     | true =>
       rw [if_pos (of_decide_eq_true ht43'.symm)] at hpw2
       rw [hpw2]
       repeat ((first | refine jaa rfl ?_ | refine jaj rfl ?_); (try simp only [go_sem, tl1]); fail_if_success refine stk ?_)
       exact ⟨by trivial, by trivial, _, rfl, by simp only [go_sem], by simp only [go_sem, y11]⟩
     | false =>
       rw [if_neg (of_decide_eq_false ht43'.symm)] at hpw2
       rw [hpw2]
       repeat ((first | refine jaa rfl ?_ | refine jaj rfl ?_); (try simp only [go_sem]); fail_if_success refine stk ?_)
       exact ⟨by trivial, by trivial, _, rfl, by simp only [go_sem], by simp only [go_sem, y11]⟩
    rintro x r m' ⟨rfl, rfl, tm5, rfl, y12, y11⟩
    simp only [jag]
    have bpw2 : bys pw2 = if sgn = 43 then c :: ds else 45 :: edig en := by
     rw [hpw2]
     rcases hsg with h | h
     ·rw [if_pos h, if_pos h, bpw3, hed]
     ·rw [if_neg (by omega), if_neg (by omega), bpw, h]
    obtain ⟨c2, rest, hb2, hc2⟩ : ∃ c2 rest, bys pw2 = c2 :: rest ∧ ieq (.ofNat c2) 45 = decide (sgn = 45) := by
     rcases hsg with h | h
     ·rw [if_pos h] at bpw2
      exact ⟨c, ds, bpw2, by rw [jbo c 45 45 rfl]; exact decide_eq_decide.2 (by omega)⟩
     ·rw [if_neg (by omega)] at bpw2
      exact ⟨45, edig en, bpw2, by rw [rzU h]; rfl⟩
    have i1 : ∀ r x, aev pZ r x = .string pw2 → jb0 pZ (aev pZ r) 9 x (.const (.int .i64 0)) = some (.int .u8 (.ofNat c2)) := fun r x h => at0 hb2 h rfl
    obtain ⟨t45, ht45⟩ : ∃ t, decide (sgn = 45) = t := ⟨_, rfl⟩
    rw [ht45] at hc2
    repeat ((first | refine jaa rfl ?_ | refine jaj rfl ?_); (try simp only [go_sem, y12, y11, i1, hc2]); fail_if_success refine stk ?_)
    refine rzM (?_ : EndsC _ (fun x r q => x = .normal ∧ q = m' ∧ ∃ tm', r = ⟨106, tm', [], none⟩ ∧ jah tm' 12 = .string (jch pw 1) ∧ jah tm' 13 = .string sg ∧ jah tm' 11 = .string fr)) ?_
    ·cases t45 with
     | true =>
       have h45 : sgn = 45 := of_decide_eq_true ht45
       rw [if_pos h45] at hsg0
       rw [if_neg (by omega)] at hpw2
       have tl2 : ∀ r x, aev pZ r x = .string pw2 → jaJ pZ (aev pZ r) 9 x (some (.const (.int .i64 1))) none none = some (.string (jch pw 1)) := fun r x h => by rw [← hpw2]; exact sl_at pw2 (by rw [hb2]; simp) r x _ h rfl
       rw [hsg0]
       repeat ((first | refine jaa rfl ?_ | refine jaj rfl ?_); (try simp only [go_sem, y12, tl2]); fail_if_success refine stk ?_)
       exact ⟨by trivial, by trivial, _, rfl, by simp only [go_sem], by simp only [go_sem], by simp only [go_sem, y11]⟩
     | false =>
       have h45 : ¬ sgn = 45 := of_decide_eq_false ht45
       rw [if_neg h45] at hsg0
       rw [if_pos (by omega)] at hpw2
       rw [hsg0]
       repeat ((first | refine jaa rfl ?_ | refine jaj rfl ?_); (try simp only [go_sem]); fail_if_success refine stk ?_)
       exact ⟨by trivial, by trivial, _, rfl, by rw [← hpw2]; simp only [go_sem, y12], by simp only [go_sem], by simp only [go_sem, y11]⟩
    rintro x r m' ⟨rfl, rfl, tm6, rfl, y12, y13, y11⟩
    simp only [jag]
    repeat ((first | refine jaa rfl ?_ | refine jaj rfl ?_); (try simp only [go_sem]); fail_if_success refine stk ?_)
    rw [show k + 29982 = (k + 29942 - (bys (jch pw 1)).length) + (bys (jch pw 1)).length + 40 from by rw [bpw3]; omega]
    refine rzM (t3c (B := 4) (by decide) (bys (jch pw 1)).length (jch pw 1) rfl (by rw [bpw3]; omega) y12 y11 y13) ?_
    rintro x r m' ⟨rfl, rfl, tm7, pw4, rfl, y12, l4, y11, y13⟩
    rw [bpw3, jkc en he3] at l4
    have ld := je5 3 en (by decide) (by omega)
    simp only [go_sem]
    have hq1 : aStr .add fr ⟨List.toArray [101]⟩ = some (.string (catB fr ⟨List.toArray [101]⟩)) := jc2 (a := fr) (b := ⟨List.toArray [101]⟩) (by show _ + 1 < _; omega)
    have lq1 := jfy fr ⟨List.toArray [101]⟩
    have hq2 : aStr .add (catB fr ⟨List.toArray [101]⟩) sg = some (.string (catB (catB fr ⟨List.toArray [101]⟩) sg)) := jc2 (a := catB fr ⟨List.toArray [101]⟩) (b := sg) (by rw [jdc]; show _ + 1 + _ < _; omega)
    have hq3 : aStr .add (catB (catB fr ⟨List.toArray [101]⟩) sg) pw4 = some (.string (catB (catB (catB fr ⟨List.toArray [101]⟩) sg) pw4)) := jc2 (a := catB (catB fr ⟨List.toArray [101]⟩) sg) (b := pw4) (by rw [jdc, jdc, l4]; show _ + 1 + _ + _ < _; omega)
    have hfin3 : eT f = catB (catB (catB fr ⟨List.toArray [101]⟩) sg) pw4 := by
     unfold eT
     refine jfB ?_
     rw [jeA, jeA, jeA, jeA, jeA, ← hs, ← hp0, ← hfr, l4, List.append_assoc, List.append_assoc, List.append_assoc]
     refine congrArg (fun l => bys fr ++ (bys ⟨List.toArray [101]⟩ ++ l)) ?_
     unfold jcK
     rw [bys_id (fun x hx => by
      rcases List.mem_append.1 hx with hx | hx
      ·split at hx
       ·simp at hx; omega
       ·simp at hx
      ·have := (jew _ x hx).2; omega)]
     rcases he2 with h | ⟨h, h1⟩
     ·rw [h, if_neg (by decide)] at hnn hsg0
      rw [hnn, hsg0, if_neg (by omega), Int.natAbs_natCast]
      rfl
     ·rw [h, if_pos rfl] at hnn hsg0
      rw [hnn, hsg0, if_pos (by omega), Int.natAbs_neg, Int.natAbs_natCast]
      rfl
    rw [hFl, hfin3]
    repeat ((first | refine jaa rfl ?_ | refine jaj rfl ?_); (try simp only [go_sem, y11, y12, y13, hq1, hq2, hq3]); fail_if_success refine stk ?_)
    exact jae ⟨rfl, .string (catB (catB (catB fr ⟨List.toArray [101]⟩) sg) pw4), by simp only [go_sem, Tryz.results37], rfl, g1⟩
 obtain ⟨v, μ', h1, rfl, h3⟩ := key
 exact ⟨μ', h1, h3⟩
end
end Go.Proofs.YtdmfakpngnlokaaGreatDoor.nu
