/-
  distafflaw10.CodeEffects, part Qj: its walk and its law. No conditions.
-/
import Derived.Test.YtlkenchibdeinaaGreatDoorDwQf
import Derived.Test.YtlkenchibdeinaaGreatDoorDwQi
set_option linter.all false
set_option maxRecDepth 20000
set_option maxHeartbeats 8000000
namespace Go.Proofs.YtlkenchibdeinaaGreatDoor.ce
open YtlkenchibdeinaaGreatDoor.Ev
noncomputable section
@[go_sem] def gg67 {X ev} := gC X ev Tryz.func67 rfl rfl
@[go_sem] def gg47 {X ev} := gC X ev Tryz.func47 rfl rfl
theorem go_from2 {X : XT} {ev : ET} (args : List Value) (μ : Mem) : aGo pZ X (jbj pZ ev S0) 87 args μ = X 87 args μ := by
 unfold aGo
 rw [Tryz.func87]
 rfl
theorem andn63 (a : Nat) : ∃ r, bits .andNot .u64 (.ofNat a) 9223372036854775808 = .ofNat (W r) := by
 unfold bits
 dsimp only
 generalize BitVec.toNat _ = N
 exact ⟨N, by rw [← jbu]; exact jbR N⟩
def fge (a b : Nat) : Bool := Ieee.double.order a b == some .gt || Ieee.double.order a b == some .eq
theorem plain_fge {ρ : Operand → Value} {d : Option Tmp} {t yt ty : TypeId} {x y : Operand} {ps : String} {af : Array Edge} {gd : Option (Nat × Bool)} {a b : Nat} (hx : ρ x = .float .f64 a) (hy : ρ y = .float .f64 b) : jaH pZ ρ ⟨d, .binOp .geq t x y yt, ty, ps, af, gd⟩ = some (.bool (fge a b)) := by
 unfold jaH
 have e : pv pZ (execOp ρ ⟨d, .binOp .geq t x y yt, ty, ps, af, gd⟩) = some (.value (.bool (fge a b))) := by
  simp only [execOp, hx, hy]
  kernel_rfl
 simp only [opsOf, jbJ, hx, hy, jaK, e]
theorem abs_ex {f : Nat} (hf : f < 18446744073709551616) : ∃ r, ∀ {X : XT} {g : Nat} {μ : Mem}, jb1 X → ja7 X → 20 ≤ g → aFun pZ (jaj pZ X S0 g) 67 [.float .f64 f] μ = some (.float .f64 r, μ) := by
 obtain ⟨n, hn⟩ := andn63 (W f)
 refine ⟨W n, fun {X g μ} hX hY hg => ?_⟩
 obtain ⟨k, rfl⟩ := gle hg
 have hc : ∀ μ', aGo pZ X (jbj pZ (jaj pZ X S0 (k + 17)) S0) 60 [.float .f64 f] μ' = some (u f, μ') := fun μ' => (go_bits _ _).trans ((hX f μ').trans (by rw [u_of hf]))
 have hd : ∀ μ', aGo pZ X (jbj pZ (jaj pZ X S0 (k + 17)) S0) 87 [.int .u64 (.ofNat (W n))] μ' = some (.float .f64 (W n), μ') := fun μ' => (go_from2 _ _).trans (hY (W n) μ' (W_lt n))
 refine jaF ?_
 refine jaf Tryz.func67 rfl rfl (nbl rfl) ?_
 simp only [go_sem, Tryz.ntmps67]
 repeat ((first | refine jab rfl ?_ | refine jam rfl ?_); (try simp only [go_sem, hc, hn, jda, hd]); fail_if_success refine stk ?_)
 exact jad ⟨rfl, _, by simp only [go_sem, Tryz.results67], rfl, rfl⟩
theorem t3_dot {s : ByteArray} (hs : (bys s).length ≤ 100000) : ∀ (j i : Nat), i + j = (bys s).length → ∀ {X : XT} {e : Nat} {tm : T Value} {μ : Mem}, jac tm 5 = .string s → jac tm 6 = .int .i64 (.ofNat i) →
  LpC X (e + j + 40) Tryz.f47 0 106 tm μ fun x r m => m = μ ∧ ∃ tm', r = ⟨106, tm', [], none⟩ ∧ ((x = .exit 0 ∧ jac tm' 5 = .string s) ∨ (x = .ret ∧ jac tm' 2 = .string s)) := by
 have ls := jaU s
 intro j
 induction j with
 | zero =>
   intro i hi X e tm μ h5 h6
   have e1 : ilt (.ofNat i) (.ofNat (bys s).length) = false := dF (jao _ _) (by omega)
   refine jah ?_
   repeat ((first | refine jab rfl ?_ | refine jam rfl ?_); (try simp only [go_sem, h5, h6, ls, jae, e1]); fail_if_success refine stk ?_)
   exact ⟨by trivial, _, rfl, .inl ⟨by trivial, by simp only [go_sem, h5]⟩⟩
 | succ j ih =>
   intro i hi X e tm μ h5 h6
   have e1 : ilt (.ofNat i) (.ofNat (bys s).length) = true := dT (jao _ _) (by omega)
   have a1 : jak .i64 (Int.add (.ofNat i) 1) = .ofNat (i + 1) := jaE i 1 (by omega)
   obtain ⟨c, _, hx⟩ := byte_at s (i := i) (by omega)
   obtain ⟨t, ht⟩ := eqx (ieq (.ofNat c) 46)
   cases t with
   | true =>
     refine jah ?_
     repeat ((first | refine jab rfl ?_ | refine jam rfl ?_); (try simp only [go_sem, h5, h6, ls, jae, e1, hx, ht]); fail_if_success refine stk ?_)
     refine jad ?_
     exact ⟨by trivial, _, rfl, .inr ⟨by trivial, by simp only [go_sem]⟩⟩
   | false =>
     refine jah ?_
     repeat ((first | refine jab rfl ?_ | refine jam rfl ?_); (try simp only [go_sem, h5, h6, ls, jae, e1, hx, ht, a1]); fail_if_success refine stk ?_)
     rw [(by omega : e + (j + 1) + 39 = e + j + 40)]
     exact ih (i + 1) (by omega) (by simp only [go_sem, h5]) (by simp only [go_sem])
theorem t3_e {s : ByteArray} {p : Nat} (hs : (bys s).length ≤ 100000) (hp : p < (bys s).length) (h1 : (bys s)[p] = 101) (h2 : ∀ q (h : q < (bys s).length), p < q → (bys s)[q] ≠ 101) : ∀ (j i a : Nat) (d : Bool), i + j = (bys s).length → (p < i → a = p) → ∀ {X : XT} {e : Nat} {tm : T Value} {μ : Mem}, jac tm 7 = .string s → jac tm 8 = .int .i64 (.ofNat a) → jac tm 9 = .bool d → jac tm 10 = .int .i64 (.ofNat i) →
  LpC X (e + j + 40) Tryz.f47 1 106 tm μ fun x r m => x = .exit 2 ∧ m = μ ∧ ∃ tm' d', r = ⟨106, tm', [], none⟩ ∧ jac tm' 7 = .string s ∧ jac tm' 8 = .int .i64 (.ofNat p) ∧ jac tm' 9 = .bool d' := by
 have ls := jaU s
 intro j
 induction j with
 | zero =>
   intro i a d hi ha X e tm μ h7 h8 h9 h10
   have e1 : ilt (.ofNat i) (.ofNat (bys s).length) = false := dF (jao _ _) (by omega)
   refine jah ?_
   repeat ((first | refine jab rfl ?_ | refine jam rfl ?_); (try simp only [go_sem, h7, h10, ls, jae, e1]); fail_if_success refine stk ?_)
   exact ⟨by trivial, by trivial, _, d, rfl, by simp only [go_sem, h7], by rw [← ha (by omega)]; simp only [go_sem, h8], by simp only [go_sem, h9]⟩
 | succ j ih =>
   intro i a d hi ha X e tm μ h7 h8 h9 h10
   have hil : i < (bys s).length := by omega
   have e1 : ilt (.ofNat i) (.ofNat (bys s).length) = true := dT (jao _ _) (by omega)
   have a1 : jak .i64 (Int.add (.ofNat i) 1) = .ofNat (i + 1) := jaE i 1 (by omega)
   obtain ⟨c, hc⟩ := exq ((bys s)[i])
   have hx : ∀ r x y, aev pZ r x = .string s → aev pZ r y = .int .i64 (.ofNat i) → jaX pZ (aev pZ r) 9 x y = some (.int .u8 (.ofNat c)) := fun r x y g1 g2 => by rw [hc]; exact jbB hil g1 g2
   obtain ⟨t2, ht2⟩ := eqx (ieq (.ofNat c) 46)
   have ht : ieq (.ofNat c) 101 = decide (c = 101) := jaB c 101 101 rfl
   by_cases h0 : c = 101
   ·rw [rzU h0] at ht
    have hn : p < i + 1 → i = p := fun h => by
     rcases Nat.lt_or_ge p i with g | g
     ·exact absurd (hc.symm.trans h0) (h2 i hil g)
     ·omega
    cases d with
    | true =>
      refine jah ?_
      repeat ((first | refine jab rfl ?_ | refine jam rfl ?_); (try simp only [go_sem, h7, h9, h10, ls, jae, e1, hx, ht, a1]); fail_if_success refine stk ?_)
      rw [(by omega : e + (j + 1) + 39 = e + j + 40)]
      exact ih (i + 1) i true (by omega) hn (by simp only [go_sem, h7]) (by simp only [go_sem]) (by simp only [go_sem]) (by simp only [go_sem])
    | false =>
      refine jah ?_
      repeat ((first | refine jab rfl ?_ | refine jam rfl ?_); (try simp only [go_sem, h7, h9, h10, ls, jae, e1, hx, ht, ht2, a1]); fail_if_success refine stk ?_)
      rw [(by omega : e + (j + 1) + 39 = e + j + 40)]
      exact ih (i + 1) i t2 (by omega) hn (by simp only [go_sem, h7]) (by simp only [go_sem]) (by simp only [go_sem]) (by simp only [go_sem])
   ·rw [rzV h0] at ht
    have hn : p < i + 1 → a = p := fun h => by
     rcases Nat.lt_or_ge p i with g | g
     ·exact ha g
     ·have : i = p := by omega
      subst this
      exact absurd (hc.trans h1) h0
    cases d with
    | true =>
      refine jah ?_
      repeat ((first | refine jab rfl ?_ | refine jam rfl ?_); (try simp only [go_sem, h7, h9, h10, ls, jae, e1, hx, ht, a1]); fail_if_success refine stk ?_)
      rw [(by omega : e + (j + 1) + 39 = e + j + 40)]
      exact ih (i + 1) a true (by omega) hn (by simp only [go_sem, h7]) (by simp only [go_sem, h8]) (by simp only [go_sem]) (by simp only [go_sem])
    | false =>
      refine jah ?_
      repeat ((first | refine jab rfl ?_ | refine jam rfl ?_); (try simp only [go_sem, h7, h9, h10, ls, jae, e1, hx, ht, ht2, a1]); fail_if_success refine stk ?_)
      rw [(by omega : e + (j + 1) + 39 = e + j + 40)]
      exact ih (i + 1) a t2 (by omega) hn (by simp only [go_sem, h7]) (by simp only [go_sem, h8]) (by simp only [go_sem]) (by simp only [go_sem])
theorem t3_cut {B : Nat} (hB : B ≤ 100000) : ∀ (j : Nat) (s : ByteArray), (bys s).length = j → j ≤ B → ∀ {X : XT} {e : Nat} {tm : T Value} {μ : Mem} {a b : Value}, jac tm 12 = .string s → jac tm 11 = a → jac tm 13 = b →
  LpC X (e + j + 40) Tryz.f47 2 106 tm μ fun x r m => x = .exit 4 ∧ m = μ ∧ ∃ tm' s', r = ⟨106, tm', [], none⟩ ∧ jac tm' 12 = .string s' ∧ (bys s').length ≤ B ∧ jac tm' 11 = a ∧ jac tm' 13 = b := by
 intro j
 induction j with
 | zero =>
   intro s hj hjB X e tm μ a b h12 h11 h13
   have ls := jaU s
   have e1 : ilt 1 (.ofNat (bys s).length) = false := dF (jcp _ 1 1 rfl) (by omega)
   refine jah ?_
   repeat ((first | refine jab rfl ?_ | refine jam rfl ?_); (try simp only [go_sem, h12, ls, jae, e1]); fail_if_success refine stk ?_)
   exact ⟨by trivial, by trivial, _, s, rfl, by simp only [go_sem, h12], by omega, by simp only [go_sem, h11], by simp only [go_sem, h13]⟩
 | succ j ih =>
   intro s hj hjB X e tm μ a b h12 h11 h13
   have ls := jaU s
   obtain ⟨t1, e1⟩ := eqx (ilt 1 (.ofNat (bys s).length))
   cases t1 with
   | false =>
     refine jah ?_
     repeat ((first | refine jab rfl ?_ | refine jam rfl ?_); (try simp only [go_sem, h12, ls, jae, e1]); fail_if_success refine stk ?_)
     exact ⟨by trivial, by trivial, _, s, rfl, by simp only [go_sem, h12], by omega, by simp only [go_sem, h11], by simp only [go_sem, h13]⟩
   | true =>
     obtain ⟨c, _, hx⟩ := byte_at s (i := 0) (by omega)
     have hx : ∀ r x, aev pZ r x = .string s → jaX pZ (aev pZ r) 9 x (.const (.int .i64 0)) = some (.int .u8 (.ofNat c)) := fun r x h => hx r x _ h rfl
     obtain ⟨t, ht⟩ := eqx (ieq (.ofNat c) 48)
     have hsl : ∀ r x, aev pZ r x = .string s → ja0 pZ (aev pZ r) 9 x (some (.const (.int .i64 1))) none none = some (.string (jc6 s 1)) := fun r x h => sl_at s (by omega) r x _ h rfl
     cases t with
     | false =>
       refine jah ?_
       repeat ((first | refine jab rfl ?_ | refine jam rfl ?_); (try simp only [go_sem, h12, ls, jae, e1, hx, ht]); fail_if_success refine stk ?_)
       exact ⟨by trivial, by trivial, _, s, rfl, by simp only [go_sem, h12], by omega, by simp only [go_sem, h11], by simp only [go_sem, h13]⟩
     | true =>
       refine jah ?_
       repeat ((first | refine jab rfl ?_ | refine jam rfl ?_); (try simp only [go_sem, h12, ls, jae, e1, hx, ht, hsl]); fail_if_success refine stk ?_)
       rw [(by omega : e + (j + 1) + 39 = e + j + 40)]
       exact ih (jc6 s 1) (by rw [ji4]; omega) (by omega) (by simp only [go_sem]) (by simp only [go_sem, h11]) (by simp only [go_sem, h13])
theorem jec (l : List Nat) : bys (strOf l) = l.map fun b => b % 256 := by
 unfold bys strOf
 simp only [List.map_map]
 apply List.map_congr_left
 intro b _
 show (UInt8.ofNat b).toNat = b % 256
 simp
theorem fin_of {f : Nat} (hf : f < 18446744073709551616) (h1 : nb f ≠ 9221120237041090561) (h2 : nb f ≠ 9218868437227405312) (h3 : nb f ≠ 18442240474082181120) : Fin1 f := by
 intro h
 have hW : W f = f := W_of hf
 have hq : W f / 2 ^ 52 < 4096 := by omega
 have e1 : W (W f / 2 ^ 52) = f / 2 ^ 52 := by rw [W_of (by omega), hW]
 have ha : W (W (W f / 2 ^ 52) &&& 2047) = 2047 := by rw [h]; exact W_of (by decide)
 have m1 : f / 2 ^ 52 % 2048 = 2047 := by
  rw [e1, show (2047 : Nat) = 2 ^ 11 - 1 from rfl, Nat.and_two_pow_sub_one_eq_mod] at h
  exact h
 by_cases hm : W (W f &&& 4503599627370495) = 0
 ·have hn : nb f = f := by
   unfold nb
   rw [if_neg (fun h => h.2 hm)]
  have m2 : f % 2 ^ 52 = 0 := by
   rw [hW, show (4503599627370495 : Nat) = 2 ^ 52 - 1 from rfl, Nat.and_two_pow_sub_one_eq_mod, W_of (by omega)] at hm
   exact hm
  rw [hn] at h2 h3
  omega
 ·refine h1 ?_
  unfold nb
  rw [if_pos ⟨ha, hm⟩]
theorem cat_len (a b : ByteArray) : (bys ⟨(a.data.toList ++ b.data.toList).toArray⟩).length = (bys a).length + (bys b).length := by
 simp [jb5]
theorem str_add {a b : ByteArray} (h : (bys a).length + (bys b).length < 4294967296) : aStr .add a b = some (.string ⟨(a.data.toList ++ b.data.toList).toArray⟩) := by
 unfold aStr
 rw [jb5, jb5] at h
 have e : Nat.blt (Nat.add a.data.toList.length b.data.toList.length) 4294967296 = true := by simpa [Nat.blt_eq] using h
 simp only [e]
theorem jbt (a b : ByteArray) (h : (bys a).length + (bys b).length < 4294967296) : ∃ c, aStr .add a b = some (.string c) ∧ (bys c).length = (bys a).length + (bys b).length := ⟨_, str_add h, cat_len a b⟩
theorem exp_bys {l : List Nat} (h : ExpS l) : ∃ p sgn c ds, p ≤ 100 ∧ (bys (strOf l)).length = p + 3 + ds.length ∧ 1 ≤ ds.length ∧ ds.length ≤ 2 ∧ (sgn = 43 ∨ sgn = 45) ∧ (bys (strOf l)).drop (p + 1) = sgn :: c :: ds ∧ (∃ hp : p < (bys (strOf l)).length, (bys (strOf l))[p] = 101) ∧ ∀ q (h : q < (bys (strOf l)).length), p < q → (bys (strOf l))[q] ≠ 101 := by
 obtain ⟨front, ds0, sgn, rfl, hs, h2, h3, h4, h5⟩ := h
 cases ds0 with
 | nil => simp at h2
 | cons c ds =>
   have hsm : sgn % 256 = sgn := by omega
   have hb : bys (strOf (front ++ [101, sgn] ++ (c :: ds))) = (front.map (· % 256) ++ [101]) ++ (sgn :: c % 256 :: ds.map (· % 256)) := by
    rw [jec]
    simp [hsm]
   have hl : (bys (strOf (front ++ [101, sgn] ++ (c :: ds)))).length = front.length + 3 + ds.length := by rw [hb]; simp; omega
   have hd : (bys (strOf (front ++ [101, sgn] ++ (c :: ds)))).drop (front.length + 1) = sgn :: c % 256 :: ds.map (· % 256) := by
    rw [hb]
    exact List.drop_left' (by simp)
   refine ⟨front.length, sgn, c % 256, ds.map (· % 256), h5, by rw [hl, List.length_map], by rw [List.length_map]; simp at h2; omega, by rw [List.length_map]; simp at h3; omega, hs, hd, ⟨by omega, ?_⟩, fun q hq hpq => ?_⟩
   ·have e : (bys (strOf (front ++ [101, sgn] ++ (c :: ds))))[front.length]? = some 101 := by rw [hb]; simp
    exact Option.some.inj ((rzK (by omega)).symm.trans e)
   ·have e : (bys (strOf (front ++ [101, sgn] ++ (c :: ds))))[q] ∈ (bys (strOf (front ++ [101, sgn] ++ (c :: ds)))).drop (front.length + 1) := by
     rw [List.mem_drop_iff_getElem]
     exact ⟨q - (front.length + 1), by omega, by congr 1; omega⟩
    rw [hd] at e
    intro h0
    rw [h0] at e
    rcases List.mem_cons.1 e with h | h
    ·omega
    ·have : ∀ x ∈ c % 256 :: ds.map (· % 256), x ≤ 57 := by
      intro x hx
      rcases List.mem_cons.1 hx with h | h
      ·have := h4 c (List.mem_cons_self); omega
      ·obtain ⟨y, hy, rfl⟩ := List.mem_map.1 h
       have := h4 y (List.mem_cons_of_mem _ hy); omega
     have := this _ h
     omega
theorem text3_ex {f : Nat} (hf : f < 18446744073709551616) {X : XT} {g : Nat} {μ : Mem} (hX : jb1 X) (hX2 : ja7 X) (hX3 : jb7 X) (hL : Lay μ) (hP : LayP μ) (hg : 30000 ≤ g) :
  ∃ s μ', aFun pZ (jaj pZ X S0 g) 47 [.float .f64 f] μ = some (.string s, μ') ∧ (bys s).length ≤ 10000 ∧ Grow μ μ' := by
 obtain ⟨k, rfl⟩ := gle hg
 obtain ⟨w, hw⟩ := exq (nb f)
 have hwl : w < 18446744073709551616 := by rw [hw]; unfold nb; split <;> omega
 have hb : aFun pZ (jaj pZ X S0 (k + 29997)) 66 [.float .f64 f] μ = some (u w, μ) := by rw [hw]; exact jgL hX hf (by omega)
 obtain ⟨a, ha⟩ := abs_ex hf
 have ha := ha (X := X) (g := k + 29993) (μ := μ) hX hX2 (by omega)
 obtain ⟨c1, hc1⟩ := eqx (ieq (.ofNat (W w)) 9221120237041090561)
 obtain ⟨c2, hc2⟩ := eqx (ieq (.ofNat (W w)) 9218868437227405312)
 obtain ⟨c3, hc3⟩ := eqx (ieq (.ofNat (W w)) 18442240474082181120)
 have key : EndsF (aFun pZ (jaj pZ X S0 (k + 30000)) 47 [.float .f64 f] μ) fun v μ' => ∃ s, v = .string s ∧ (bys s).length ≤ 10000 ∧ Grow μ μ' := by
  refine jaf Tryz.func47 rfl rfl (nbl rfl) ?_
  simp only [go_sem, Tryz.ntmps47]
  repeat ((first | refine jab rfl ?_ | refine jam rfl ?_); (try simp only [go_sem, hb, hc1]); fail_if_success refine stk ?_)
  cases c1 with
  | true =>
    repeat ((first | refine jab rfl ?_ | refine jam rfl ?_); (try simp only [go_sem]); fail_if_success refine stk ?_)
    refine jad ?_
    refine ⟨rfl, .string ⟨#[43, 110, 97, 110, 46, 48]⟩, ?_, _, rfl, by decide, Grow.refl _⟩
    simp only [go_sem, Tryz.results47]
  | false =>
  repeat ((first | refine jab rfl ?_ | refine jam rfl ?_); (try simp only [go_sem, hc2]); fail_if_success refine stk ?_)
  cases c2 with
  | true =>
    repeat ((first | refine jab rfl ?_ | refine jam rfl ?_); (try simp only [go_sem]); fail_if_success refine stk ?_)
    refine jad ?_
    refine ⟨rfl, .string ⟨#[43, 105, 110, 102, 46, 48]⟩, ?_, _, rfl, by decide, Grow.refl _⟩
    simp only [go_sem, Tryz.results47]
  | false =>
  repeat ((first | refine jab rfl ?_ | refine jam rfl ?_); (try simp only [go_sem, hc3]); fail_if_success refine stk ?_)
  cases c3 with
  | true =>
    repeat ((first | refine jab rfl ?_ | refine jam rfl ?_); (try simp only [go_sem]); fail_if_success refine stk ?_)
    refine jad ?_
    refine ⟨rfl, .string ⟨#[45, 105, 110, 102, 46, 48]⟩, ?_, _, rfl, by decide, Grow.refl _⟩
    simp only [go_sem, Tryz.results47]
  | false =>
  have hfin : Fin1 f := by
   have q1 : ¬ W w = 9221120237041090561 := of_decide_eq_false ((jaB (W w) 9221120237041090561 9221120237041090561 rfl).symm.trans hc1)
   have q2 : ¬ W w = 9218868437227405312 := of_decide_eq_false ((jaB (W w) 9218868437227405312 9218868437227405312 rfl).symm.trans hc2)
   have q3 : ¬ W w = 18442240474082181120 := of_decide_eq_false ((jaB (W w) 18442240474082181120 18442240474082181120 rfl).symm.trans hc3)
   rw [W_of hwl, hw] at q1 q2 q3
   exact fin_of hf q1 q2 q3
  refine jax ?_ ?_
  ·simp only [go_sem]
  refine jbo ?_
  simp only [jai]
  repeat (refine code_in rfl ?_)
  refine rzM (?_ : EndsC _ (fun x r m => x = .normal ∧ m = μ ∧ ∃ tm', r = ⟨106, tm', [], none⟩ ∧ jac tm' 0 = .float .f64 f ∧ jac tm' 4 = .float .f64 a)) ?_
  ·skip
   repeat ((first | refine jab rfl ?_ | refine jam rfl ?_); (try simp only [go_sem, ha]); fail_if_success refine stk ?_)
   exact ⟨by trivial, by trivial, _, rfl, by simp only [go_sem], by simp only [go_sem]⟩
  rintro x r m ⟨rfl, rfl, tm1, rfl, z0, z4⟩
  simp only [jai]
  obtain ⟨t1, ht1⟩ := eqx (feq a 0)
  obtain ⟨t2, ht2⟩ := eqx (fge a 4562254508917369340)
  obtain ⟨t3, ht3⟩ := eqx (flt a 4921056587992461136)
  have pf1 : ∀ (r : Rg) (d : Option Tmp) (t yt ty : TypeId) (x : Operand) (ps : String) (af : Array Edge) (gd : Option (Nat × Bool)), aev pZ r x = .float .f64 a → jaH pZ (aev pZ r) ⟨d, .binOp .eql t x (.const (.float .f64 0)) yt, ty, ps, af, gd⟩ = some (.bool t1) := fun r d t yt ty x ps af gd h => by rw [← ht1]; exact jhk h rfl
  have pf2 : ∀ (r : Rg) (d : Option Tmp) (t yt ty : TypeId) (x : Operand) (ps : String) (af : Array Edge) (gd : Option (Nat × Bool)), aev pZ r x = .float .f64 a → jaH pZ (aev pZ r) ⟨d, .binOp .geq t x (.const (.float .f64 4562254508917369340)) yt, ty, ps, af, gd⟩ = some (.bool t2) := fun r d t yt ty x ps af gd h => by rw [← ht2]; exact plain_fge h rfl
  have pf3 : ∀ (r : Rg) (d : Option Tmp) (t yt ty : TypeId) (x : Operand) (ps : String) (af : Array Edge) (gd : Option (Nat × Bool)), aev pZ r x = .float .f64 a → jaH pZ (aev pZ r) ⟨d, .binOp .lss t x (.const (.float .f64 4921056587992461136)) yt, ty, ps, af, gd⟩ = some (.bool t3) := fun r d t yt ty x ps af gd h => by rw [← ht3]; exact jfg h rfl
  repeat (refine code_in rfl ?_)
  refine rzM (?_ : EndsC _ (fun x r m' => x = .normal ∧ m' = m ∧ ∃ tm' t, r = ⟨106, tm', [], none⟩ ∧ jac tm' 0 = .float .f64 f ∧ jac tm' 33 = .bool t)) ?_
  ·cases t1 with
   | true =>
     repeat ((first | refine jab rfl ?_ | refine jam rfl ?_); (try simp only [go_sem, z0, z4, anf, pf1]); fail_if_success refine stk ?_)
     exact ⟨by trivial, by trivial, _, _, rfl, by simp only [go_sem, z0], by simp only [go_sem]; rfl⟩
   | false =>
     cases t2 with
     | true =>
       repeat ((first | refine jab rfl ?_ | refine jam rfl ?_); (try simp only [go_sem, z0, z4, anf, pf1, pf2, pf3]); fail_if_success refine stk ?_)
       exact ⟨by trivial, by trivial, _, _, rfl, by simp only [go_sem, z0], by simp only [go_sem]; rfl⟩
     | false =>
       repeat ((first | refine jab rfl ?_ | refine jam rfl ?_); (try simp only [go_sem, z0, z4, anf, pf1, pf2]); fail_if_success refine stk ?_)
       exact ⟨by trivial, by trivial, _, _, rfl, by simp only [go_sem, z0], by simp only [go_sem]; rfl⟩
  rintro x r m' ⟨rfl, rfl, tm2, t, rfl, z0, z33⟩
  simp only [jai]
  cases t with
  | true =>
    obtain ⟨l, hl, hff⟩ := ffF_ex f hf hfin
    obtain ⟨μ2, r1, g1⟩ := hff (X := X) (g := k + 29989) (μ := m') hX3 hL hP (by omega)
    have lb : (bys (strOf l)).length ≤ 9000 := by rw [jec, List.length_map]; exact hl
    obtain ⟨s2, hs2, hl2⟩ := jbt (strOf l) ⟨#[46, 48]⟩ (by show _ + 2 < _; omega)
    have hl2 : (bys s2).length ≤ 10000 := by rw [hl2]; show _ + 2 ≤ _; omega
    repeat ((first | refine jab rfl ?_ | refine jam rfl ?_); (try simp only [go_sem, z0, z33, r1]); fail_if_success refine stk ?_)
    rw [(by omega : k + 29987 = (k + 29947 - (bys (strOf l)).length) + (bys (strOf l)).length + 40)]
    refine rzM (t3_dot (s := strOf l) (by omega) (bys (strOf l)).length 0 (rzT _) (by simp only [go_sem]) (by simp only [go_sem]; try rfl)) ?_
    rintro x r m ⟨rfl, tm3, rfl, h | h⟩
    ·obtain ⟨rfl, y5⟩ := h
     simp only [go_sem]
     repeat ((first | refine jab rfl ?_ | refine jam rfl ?_); (try simp only [go_sem, y5, hs2]); fail_if_success refine stk ?_)
     exact jad ⟨rfl, .string s2, by simp only [go_sem, Tryz.results47], s2, rfl, hl2, g1⟩
    ·obtain ⟨rfl, y2⟩ := h
     simp only [jbi, reduceIte, jbv, then_ret]
     refine ⟨rfl, .string (strOf l), ?_, strOf l, rfl, by omega, g1⟩
     simp only [jc1, Tryz.results47, aRes, y2]
  | false =>
    obtain ⟨l, hl, hff⟩ := ffE_ex f hf hfin
    obtain ⟨μ2, r1, g1⟩ := hff (X := X) (g := k + 29991) (μ := m') hX3 hL hP (by omega)
    obtain ⟨p, sgn, c, ds, hp1, hlen, hd1, hd2, hsg, hdr, ⟨hpl, hp101⟩, hpn⟩ := exp_bys hl
    obtain ⟨s, hs⟩ := exq (strOf l)
    rw [← hs] at r1 hlen hdr hpn
    have hpl' : p < (bys s).length := by rw [hs]; exact hpl
    have hp101' : (bys s)[p] = 101 := by subst hs; exact hp101
    have ls := jaU s
    repeat ((first | refine jab rfl ?_ | refine jam rfl ?_); (try simp only [go_sem, z0, z33, r1]); fail_if_success refine stk ?_)
    rw [(by omega : k + 29988 = (k + 29948 - (bys s).length) + (bys s).length + 40)]
    refine rzM (t3_e (s := s) (p := p) (by omega) hpl' hp101' hpn (bys s).length 0 0 false (rzT _) (fun h => by omega) (by simp only [go_sem]) (by simp only [go_sem]; try rfl) (by simp only [go_sem]) (by simp only [go_sem]; try rfl)) ?_
    rintro x r m ⟨rfl, rfl, tm3, dt, rfl, y7, y8, y9⟩
    simp only [go_sem]
    have hhd : ∀ r x y, aev pZ r x = .string s → aev pZ r y = .int .i64 (.ofNat p) → ja0 pZ (aev pZ r) 9 x none (some y) none = some (.string (jfK s p)) := fun r x y g1 g2 => ji6 g1 g2 (by omega)
    have lhd : (bys (jfK s p)).length ≤ 100 := by rw [jgH, List.length_take]; omega
    obtain ⟨f2, hf2, lf2⟩ := jbt (jfK s p) ⟨#[46, 48]⟩ (by show _ + 2 < _; omega)
    have lf2 : (bys f2).length ≤ 102 := by rw [lf2]; show _ + 2 ≤ _; omega
    repeat ((first | refine jab rfl ?_ | refine jam rfl ?_); (try simp only [go_sem, y7, y8, y9, hhd]); fail_if_success refine stk ?_)
    refine rzM (?_ : EndsC _ (fun x r m' => x = .normal ∧ m' = m ∧ ∃ tm' fr, r = ⟨106, tm', [], none⟩ ∧ (bys fr).length ≤ 102 ∧ jac tm' 7 = .string s ∧ jac tm' 8 = .int .i64 (.ofNat p) ∧ jac tm' 11 = .string fr)) ?_
    ·cases dt with
     | true =>
       repeat ((first | refine jab rfl ?_ | refine jam rfl ?_); (try simp only [go_sem]); fail_if_success refine stk ?_)
       exact ⟨by trivial, by trivial, _, jfK s p, rfl, by omega, by simp only [go_sem, y7], by simp only [go_sem, y8], by simp only [go_sem]⟩
     | false =>
       repeat ((first | refine jab rfl ?_ | refine jam rfl ?_); (try simp only [go_sem, hf2]); fail_if_success refine stk ?_)
       exact ⟨by trivial, by trivial, _, f2, rfl, by omega, by simp only [go_sem, y7], by simp only [go_sem, y8], by simp only [go_sem]⟩
    rintro x r m' ⟨rfl, rfl, tm4, fr, rfl, lfr, y7, y8, y11⟩
    simp only [jai]
    obtain ⟨pw, hpw⟩ := exq (jc6 s (p + 1))
    have bpw : bys pw = sgn :: c :: ds := by rw [hpw, jeb, hdr]
    have a1 : jak .i64 (Int.add (.ofNat p) 1) = .ofNat (p + 1) := jaE p 1 (by omega)
    have htl : ∀ r x y, aev pZ r x = .string s → aev pZ r y = .int .i64 (.ofNat (p + 1)) → ja0 pZ (aev pZ r) 9 x (some y) none none = some (.string pw) := fun r x y g1 g2 => by rw [hpw]; exact jds g1 g2 (by omega)
    have i0 : ∀ r x, aev pZ r x = .string pw → jaX pZ (aev pZ r) 9 x (.const (.int .i64 0)) = some (.int .u8 (.ofNat sgn)) := fun r x h => at0 bpw h rfl
    have tl1 : ∀ r x, aev pZ r x = .string pw → ja0 pZ (aev pZ r) 9 x (some (.const (.int .i64 1))) none none = some (.string (jc6 pw 1)) := fun r x h => sl_at pw (by rw [bpw]; simp) r x _ h rfl
    obtain ⟨t43, ht43⟩ := eqx (ieq (.ofNat sgn) 43)
    repeat ((first | refine jab rfl ?_ | refine jam rfl ?_); (try simp only [go_sem, y7, y8, y11, a1, htl, i0, ht43]); fail_if_success refine stk ?_)
    refine rzM (?_ : EndsC _ (fun x r q => x = .normal ∧ q = m' ∧ ∃ tm' pw2 c2 rest, r = ⟨106, tm', [], none⟩ ∧ bys pw2 = c2 :: rest ∧ rest.length ≤ 3 ∧ jac tm' 12 = .string pw2 ∧ jac tm' 11 = .string fr)) ?_
    ·cases t43 with
     | true =>
       repeat ((first | refine jab rfl ?_ | refine jam rfl ?_); (try simp only [go_sem, tl1]); fail_if_success refine stk ?_)
       exact ⟨by trivial, by trivial, _, jc6 pw 1, c, ds, rfl, by rw [jeb, bpw]; rfl, by omega, by simp only [go_sem], by simp only [go_sem, y11]⟩
     | false =>
       repeat ((first | refine jab rfl ?_ | refine jam rfl ?_); (try simp only [go_sem]); fail_if_success refine stk ?_)
       exact ⟨by trivial, by trivial, _, pw, sgn, c :: ds, rfl, bpw, by simp; omega, by simp only [go_sem], by simp only [go_sem, y11]⟩
    rintro x r m' ⟨rfl, rfl, tm5, pw2, c2, rest, rfl, bpw2, lrest, y12, y11⟩
    simp only [jai]
    have i1 : ∀ r x, aev pZ r x = .string pw2 → jaX pZ (aev pZ r) 9 x (.const (.int .i64 0)) = some (.int .u8 (.ofNat c2)) := fun r x h => at0 bpw2 h rfl
    have tl2 : ∀ r x, aev pZ r x = .string pw2 → ja0 pZ (aev pZ r) 9 x (some (.const (.int .i64 1))) none none = some (.string (jc6 pw2 1)) := fun r x h => sl_at pw2 (by rw [bpw2]; simp) r x _ h rfl
    have l2 : (bys pw2).length ≤ 4 := by rw [bpw2]; simp; omega
    obtain ⟨t45, ht45⟩ := eqx (ieq (.ofNat c2) 45)
    repeat ((first | refine jab rfl ?_ | refine jam rfl ?_); (try simp only [go_sem, y12, y11, i1, ht45]); fail_if_success refine stk ?_)
    refine rzM (?_ : EndsC _ (fun x r q => x = .normal ∧ q = m' ∧ ∃ tm' pw3 sg, r = ⟨106, tm', [], none⟩ ∧ (bys pw3).length ≤ 4 ∧ (bys sg).length ≤ 1 ∧ jac tm' 12 = .string pw3 ∧ jac tm' 13 = .string sg ∧ jac tm' 11 = .string fr)) ?_
    ·cases t45 with
     | true =>
       repeat ((first | refine jab rfl ?_ | refine jam rfl ?_); (try simp only [go_sem, y12, tl2]); fail_if_success refine stk ?_)
       exact ⟨by trivial, by trivial, _, jc6 pw2 1, ⟨#[45]⟩, rfl, by rw [ji4]; omega, by decide, by simp only [go_sem], by simp only [go_sem], by simp only [go_sem, y11]⟩
     | false =>
       repeat ((first | refine jab rfl ?_ | refine jam rfl ?_); (try simp only [go_sem]); fail_if_success refine stk ?_)
       exact ⟨by trivial, by trivial, _, pw2, ⟨#[]⟩, rfl, l2, by decide, by simp only [go_sem, y12], by simp only [go_sem], by simp only [go_sem, y11]⟩
    rintro x r m' ⟨rfl, rfl, tm6, pw3, sg, rfl, l3, lsg, y12, y13, y11⟩
    simp only [jai]
    repeat ((first | refine jab rfl ?_ | refine jam rfl ?_); (try simp only [go_sem]); fail_if_success refine stk ?_)
    rw [(by omega : k + 29982 = (k + 29942 - (bys pw3).length) + (bys pw3).length + 40)]
    refine rzM (t3_cut (B := 4) (by decide) (bys pw3).length pw3 rfl l3 y12 y11 y13) ?_
    rintro x r m' ⟨rfl, rfl, tm7, pw4, rfl, y12, l4, y11, y13⟩
    simp only [go_sem]
    obtain ⟨q1, hq1, lq1⟩ := jbt fr ⟨#[101]⟩ (by show _ + 1 < _; omega)
    have lq1 : (bys q1).length ≤ 103 := by rw [lq1]; show _ + 1 ≤ _; omega
    obtain ⟨q2, hq2, lq2⟩ := jbt q1 sg (by omega)
    obtain ⟨q3, hq3, lq3⟩ := jbt q2 pw4 (by omega)
    repeat ((first | refine jab rfl ?_ | refine jam rfl ?_); (try simp only [go_sem, y11, y12, y13, hq1, hq2, hq3]); fail_if_success refine stk ?_)
    exact jad ⟨rfl, .string q3, by simp only [go_sem, Tryz.results47], q3, rfl, by omega, g1⟩
 obtain ⟨v, μ', h1, s, rfl, h2, h3⟩ := key
 exact ⟨s, μ', h1, h2, h3⟩
def obQ (q : Nat) : Ob := .cells 1 141 #[.int .u32 (.ofNat q)] .e 0 0 false false
theorem consU {μ : Mem} {v : Value} {ls : List Nat} {q : Nat} (hq : q < 4294967296) (h : IsU μ ls v) (hn : ls.length ≤ 100000) : ∃ v' μ', jaN pZ ⟨μ.obs.set μ.next (obQ q), Nat.add μ.next 1⟩ 38 38 (.slice (some ⟨μ.next, 0, none⟩) 1 2) v = some (v', μ') ∧ Lv μ' v' (q :: ls) ∧ Grow μ μ' ∧ New μ v' := by
 have hg1 : Grow μ ⟨μ.obs.set μ.next (obQ q), Nat.add μ.next 1⟩ := ja5 μ _
 have h1 := h.grow hg1
 have hs := h1.src
 have hlt := h.1
 obtain ⟨xs, hxs⟩ := exq (ls.map fun x => .int .u32 (.ofNat x) : List Value)
 rw [← hxs] at hs
 have hl : xs.length = ls.length := by rw [hxs, List.length_map]
 have hlen : lenV v = some ls.length := by
  rcases h with ⟨_, _, ⟨rfl, rfl⟩ | ⟨i, o, c, rfl, _⟩⟩ <;> rfl
 obtain ⟨ys, hys⟩ := exq (.int .u32 (.ofNat q) :: xs : List Value)
 have hyl : ys.length = ls.length + 1 := by rw [hys, List.length_cons, hl]
 have hat : ∀ (k : Nat) x, (q :: ls)[k]? = some x → x < 4294967296 ∧ cellAt ys.toArray .e k = .int .u32 (.ofNat x) := fun k x hk => by
  obtain ⟨hk', rfl⟩ := List.getElem?_eq_some_iff.1 hk
  refine ⟨?_, ?_⟩
  ·rcases List.mem_cons.1 (List.getElem_mem hk') with e | e
   ·rw [e]; exact hq
   ·exact hlt _ e
  ·rw [jbg ys k (by rw [hyl]; simpa using hk')]
   have e : ys = (q :: ls).map fun x => .int .u32 (.ofNat x) := by rw [hys, hxs]; rfl
   simp only [e, List.getElem_map]
 have e1 : Nat.ble Tryz.t141.bytes 4096 = true := by kernel_rfl
 have e2 : Nat.beq (jaR (.int .u32 0)).length 1 = true := by kernel_rfl
 have e3 : Nat.ble ls.length 67108864 = true := rzP (by omega)
 have e4 : Tryz.t141.size = 1 := by kernel_rfl
 have e5 : Nat.beq xs.length (Nat.mul ls.length 1) = true := by rw [hl, show Nat.mul ls.length 1 = ls.length from Nat.mul_one _]; exact Nat.beq_refl _
 obtain ⟨n, hn'⟩ := exq (ls.length)
 rw [← hn'] at hs hlen e3 e5 hn hl hyl
 have hap : jaN pZ ⟨μ.obs.set μ.next (obQ q), Nat.add μ.next 1⟩ 38 38 (.slice (some ⟨μ.next, 0, none⟩) 1 2) v = ja1 pZ ⟨μ.obs.set μ.next (obQ q), Nat.add μ.next 1⟩ 141 1 n xs (.slice (some ⟨μ.next, 0, none⟩) 1 2) := by
  unfold jaN
  simp only [Tryz.underlying38, jcI, e1, jh1, e4, e2, hlen, e3, hs, e5]
 rw [hap]
 unfold ja1
 have e6 : Nat.ble (Nat.add 1 n) 67108864 = true := rzP (by show 1 + n ≤ _; omega)
 have hgq : T.get (μ.obs.set μ.next (obQ q)) μ.next = some (obQ q) := by rw [T.get_set, if_pos rfl]
 simp only [e6]
 cases n with
 | zero =>
   obtain rfl : ls = [] := List.eq_nil_of_length_eq_zero hn'.symm
   obtain rfl : xs = [] := List.eq_nil_of_length_eq_zero hl
   have e7 : Nat.ble (Nat.add 1 0) (Nat.div 2 2) = true := rfl
   simp only [show Nat.beq (Nat.mod 2 2) 0 = true from rfl, e7, hgq, obQ]
   refine ⟨_, _, rfl, .inr ⟨μ.next, 2, 1, #[.int .u32 (.ofNat q)], .e, false, false, rfl, ?_, rzN _, rzQ _, fun k x hk => ?_, .inl ⟨rfl, rzN _⟩⟩, ?_, New.mk (rzN _)⟩
   ·show T.get (T.set _ _ _) _ = _
    rw [T.get_set, if_pos rfl]
   ·have := hat k x hk
    rw [hys] at this
    exact this
   ·exact hg1
 | succ n =>
   have e7 : Nat.ble (Nat.add 1 (n + 1)) (Nat.div 2 2) = false := by
    cases hb : Nat.ble (Nat.add 1 (n + 1)) (Nat.div 2 2) with
    | false => rfl
    | true => have := rzE hb; have h0 : Nat.div 2 2 = 1 := rfl; rw [h0] at this; have : 1 + (n + 1) ≤ 1 := this; omega
   have e8 : jaP ⟨μ.obs.set μ.next (obQ q), Nat.add μ.next 1⟩ 1 1 (.slice (some ⟨μ.next, 0, none⟩) 1 2) = some [.int .u32 (.ofNat q)] := by
    unfold jaP
    simp only [show Nat.mul 1 1 = 0 + 1 from rfl, hgq]
    rfl
   simp only [show Nat.beq (Nat.mod 2 2) 0 = true from rfl, e7, e8]
   refine ⟨_, _, rfl, .inr ⟨μ.next + 1, 3, ys.length, ys.toArray, .e, true, false, ?_, ?_, ?_, ?_, hat, .inr ⟨rfl, rfl⟩⟩, ?_, New.mk (Nat.le_succ _)⟩
   ·show Value.slice (some ⟨Nat.add μ.next 1, 0, none⟩) (Nat.add 1 (n + 1)) _ = _
    rw [show Nat.add 1 (n + 1) = (q :: ls).length from by rw [List.length_cons, ← hn']; exact Nat.add_comm _ _]
   ·show T.get (T.set _ (Nat.add μ.next 1) _) _ = _
    rw [T.get_set, if_pos rfl, hys]
    rfl
   ·rw [hyl, List.length_cons, ← hn']; exact rzN _
   ·show μ.next + 1 < μ.next + 1 + 1; omega
   ·refine ⟨?_, fun i hi => ?_⟩
    ·show μ.next ≤ μ.next + 1 + 1; omega
    ·show T.get (T.set (T.set _ _ _) (Nat.add μ.next 1) _) i = _
     rw [T.get_set, if_neg (by show i ≠ μ.next + 1; omega), T.get_set, if_neg (by omega)]
def vU : List Nat → Nat
 | [] => 0
 | x :: l => x + 4294967296 * vU l
def ixm : Nat → Int
 | 0 => -1
 | j + 1 => .ofNat j
theorem conv_3264 (n : Int) : jaG pZ 141 110 (.int .u32 n) = some (.int .u64 (jak .u64 n)) := by
 simp only [jaG, Tryz.underlying141, Tryz.underlying110]
theorem bsQ {q : Nat} (r : Rg) (y : Operand) (h : aev pZ r y = .int .u32 (.ofNat q)) : jap pZ (aev pZ r) 38 1 #[(0, y)] = some (obQ q, fun id => .slice (some ⟨id, 0, none⟩) 1 2) := jbr Tryz.underlying38 jcI rfl jh1 rfl h rfl
theorem drop_val {ls : List Nat} {j x : Nat} (h : ls[j]? = some x) : vU (ls.drop j) = x + 4294967296 * vU (ls.drop (j + 1)) := by
 obtain ⟨hj, rfl⟩ := List.getElem?_eq_some_iff.1 h
 rw [List.drop_eq_getElem_cons hj]
 rfl
theorem tx_in {ls : List Nat} (hl : ls.length ≤ 100000) {v s3 : Value} : ∀ (j : Nat), j ≤ ls.length → ∀ {X : XT} {e : Nat} {tm : T Value} {μ : Mem} {w : Value} {nx : List Nat} {r : Nat}, IsU μ ls v → Lv μ w nx → nx.length + j = ls.length → r < 10 → vU (ls.drop j) = 10 * vU nx + r → jac tm 0 = v → jac tm 3 = s3 → jac tm 4 = w → jac tm 5 = .int .u64 (.ofNat r) → jac tm 6 = .int .i64 (ixm j) →
  LpC X (e + j + 40) Tryz.f69 1 51 tm μ fun x rr m => x = .exit 2 ∧ Grow μ m ∧ ∃ tm' w' nx' r', rr = ⟨51, tm', [], none⟩ ∧ Lv m w' nx' ∧ nx'.length = ls.length ∧ r' < 10 ∧ vU ls = 10 * vU nx' + r' ∧ jac tm' 3 = s3 ∧ jac tm' 4 = w' ∧ jac tm' 5 = .int .u64 (.ofNat r') := by
 intro j
 induction j with
 | zero =>
   intro hj X e tm μ w nx r hv hw hn hr hval h0 h3 h4 h5 h6
   have h6 : jac tm 6 = .int .i64 (-1) := h6
   have e1 : ilt (-1) 0 = true := rfl
   refine jah ?_
   repeat ((first | refine jab rfl ?_ | refine jam rfl ?_); (try simp only [go_sem, h6, e1]); fail_if_success refine stk ?_)
   exact ⟨by trivial, Grow.refl _, _, w, nx, r, rfl, hw, by omega, hr, hval, by simp only [go_sem, h3], by simp only [go_sem, h4], by simp only [go_sem, h5]⟩
 | succ j ih =>
   intro hj X e tm μ w nx r hv hw hn hr hval h0 h3 h4 h5 h6
   have h6 : jac tm 6 = .int .i64 (.ofNat j) := h6
   have e1 : ilt (.ofNat j) 0 = false := dF (jbn _ 0 0 rfl) (by omega)
   obtain ⟨x, hx⟩ : ∃ x, ls[j]? = some x := ⟨_, rzK (by omega)⟩
   obtain ⟨hx32, bi, bo, bc, hbv, hbi, hbc⟩ := hv.at hx
   have hix : ∀ r x y, aev pZ r x = v → aev pZ r y = .int .i64 (.ofNat j) → jan pZ (aev pZ r) 38 x y = some (.pointer (some ⟨bi, bo + j, none⟩)) := fun r x y g1 g2 => ix_U (by omega) (g1.trans hbv) g2
   have m1 : jak .u64 (Int.mul (.ofNat r) 4294967296) = .ofNat (r * 4294967296) := by
    have h := w_mul r 4294967296
    rw [W_of (by omega)] at h
    exact h
   have m2 : jak .u64 (.ofNat x) = .ofNat x := by rw [jbR, W_of (by omega)]
   have m3 : jak .u64 (Int.add (.ofNat (r * 4294967296)) (.ofNat x)) = .ofNat (r * 4294967296 + x) := by
    have h := jh4 (r * 4294967296) x
    rw [W_of (by omega)] at h
    exact h
   obtain ⟨t, ht⟩ := exq (r * 4294967296 + x)
   rw [← ht] at m3
   have d1 : aDiv false .u64 .u64 (.ofNat t) 10 = some (.int .u64 (.ofNat (t / 10))) := jgp (by omega)
   have d2 : aDiv true .u64 .u64 (.ofNat t) 10 = some (.int .u64 (.ofNat (t % 10))) := d64r t 9
   have m4 : jak .u32 (.ofNat (t / 10)) = .ofNat (t / 10) := q32s (by omega)
   obtain ⟨w', μ', hap, hw', g', _⟩ := consU (q := t / 10) (by omega) (hw.isU (by unfold maxLen; omega)) (by omega)
   have hbs : ∀ r y, aev pZ r y = .int .u32 (.ofNat (t / 10)) → jap pZ (aev pZ r) 38 1 #[(0, y)] = some (obQ (t / 10), fun id => .slice (some ⟨id, 0, none⟩) 1 2) := fun r y h => bsQ r y h
   have m5 : jak .i64 (Int.sub (.ofNat j) 1) = ixm j := by
    cases j with
    | zero => rfl
    | succ j => exact jaV (j + 1) 1 (by omega) (by omega)
   refine jah ?_
   repeat ((first | refine jab rfl ?_ | refine jam rfl ?_); (try simp only [go_sem, h0, h4, h5, h6, e1, m1, hix, hbc, conv_3264, m2, m3, d1, d2, jgD, m4, hbs, hap, m5]); fail_if_success refine stk ?_)
   rw [(by omega : e + (j + 1) + 39 = e + j + 40)]
   have hval' : vU (ls.drop j) = 10 * vU (t / 10 :: nx) + t % 10 := by
    rw [drop_val hx, hval]
    show _ = 10 * (t / 10 + 4294967296 * vU nx) + t % 10
    omega
   refine rzM (ih (by omega) (hv.grow g') hw' (by rw [List.length_cons]; omega) (by omega) hval' (by simp only [go_sem, h0]) (by simp only [go_sem, h3]) (by simp only [go_sem]) (by simp only [go_sem]) (by simp only [go_sem])) ?_
   rintro x' rr m ⟨y1, y2, y3⟩
   exact ⟨y1, g'.trans y2, y3⟩
@[go_sem] def gg69 {X ev} := gC X ev Tryz.func69 rfl rfl
@[go_sem] def gg48 {X ev} := gC X ev Tryz.func48 rfl rfl
@[go_sem] def gg30 {X ev} := gC X ev Tryz.func30 rfl rfl
theorem vU_zero : ∀ {ls : List Nat}, vU ls = 0 → ∀ (n : Nat), ls.getD n 0 = 0
 | [], _, n => by simp
 | x :: l, h, n => by
   have h : x + 4294967296 * vU l = 0 := h
   cases n with
   | zero => show x = 0; omega
   | succ n => exact vU_zero (ls := l) (by omega) n
theorem ji2 {ls : List Nat} (h : vU ls = 0) : ∀ n, trN ls n = 0
 | 0 => rfl
 | n + 1 => by rw [trN, if_pos (vU_zero h n)]; exact ji2 h n
theorem jjJ {ls : List Nat} (h : vU ls = 0) : (je6 ls).length = 0 := by unfold je6; rw [ji2 h]; rfl
theorem vU_lt : ∀ {ls : List Nat}, (∀ x ∈ ls, x < 4294967296) → vU ls < 4294967296 ^ ls.length
 | [], _ => by decide
 | x :: l, h => by
   have h1 := h x (List.mem_cons_self)
   have h2 := vU_lt (ls := l) fun y hy => h y (List.mem_cons_of_mem _ hy)
   show x + 4294967296 * vU l < _
   rw [List.length_cons, Nat.pow_succ]
   omega
theorem conv_64b (n : Int) : jaG pZ 110 5 (.int .u64 n) = some (.int .u8 (jak .u8 n)) := by
 simp only [jaG, Tryz.underlying110, Tryz.underlying5]
theorem jjv (μ : Mem) (b : Nat) : ja3 pZ ⟨μ.obs.set μ.next (.cells 1 5 #[.int .u8 (.ofNat b)] .e 0 0 false false), Nat.add μ.next 1⟩ 45 9 (.slice (some ⟨μ.next, 0, none⟩) 1 2) = some (.string (strOf [b])) := by
 have h : Bf ⟨μ.obs.set μ.next (.cells 1 5 #[.int .u8 (.ofNat b)] .e 0 0 false false), Nat.add μ.next 1⟩ (.slice (some ⟨μ.next, 0, none⟩) 1 2) [b] :=
  ⟨μ.next, 1, _, _, _, _, 2, rfl, by show T.get _ _ = _; rw [T.get_set, if_pos rfl], rzN _, rzQ _, fun k h => by
   have : k = 0 := by simpa [vB] using h
   subst this
   rfl, .inl ⟨rfl, rzN 1, rzN 1⟩⟩
 obtain ⟨i, l, c, e, h⟩ := h.str
 injection e with e1 e2 e3
 injection e1 with e1
 injection e1 with e1
 subst e1 e2 e3
 exact h
theorem tx_out {n : Nat} (hn : n ≤ 1000) : ∀ (m : Nat), m ≤ 2000 → ∀ {X : XT} {e : Nat} {tm : T Value} {μ : Mem} {v : Value} {ls : List Nat} {out : ByteArray}, IsU μ ls v → ls.length = n → vU ls < 10 ^ m → (bys out).length + m ≤ 3000 → jac tm 0 = v → jac tm 3 = .string out →
  LpC X (e + m + n + 200) Tryz.f69 0 51 tm μ fun x r m' => x = .exit 0 ∧ Grow μ m' ∧ ∃ tm' s, r = ⟨51, tm', [], none⟩ ∧ jac tm' 3 = .string s ∧ (bys s).length ≤ 3000 := by
 intro m
 induction m with
 | zero =>
   intro hm X e tm μ v ls out hv hl hval ho h0 h3
   have hz : vU ls = 0 := by rw [Nat.pow_zero] at hval; omega
   obtain ⟨v', μ', r1, L1, g1, _⟩ := jdO (X := X) (g := e + 0 + n + 196) hv (by omega) (by omega)
   have ll := L1.rd.len
   rw [jjJ hz] at ll
   have e1 : ilt 0 (.ofNat 0) = false := rfl
   refine jah ?_
   repeat ((first | refine jab rfl ?_ | refine jam rfl ?_); (try simp only [go_sem, h0, r1, ll, jae, e1]); fail_if_success refine stk ?_)
   exact ⟨by trivial, g1, _, out, rfl, by simp only [go_sem, h3], by omega⟩
 | succ m ih =>
   intro hm X e tm μ v ls out hv hl hval ho h0 h3
   obtain ⟨v', μ', r1, L1, g1, _⟩ := jdO (X := X) (g := e + (m + 1) + n + 196) hv (by omega) (by omega)
   have ll := L1.rd.len
   obtain ⟨t, ht⟩ := eqx (ilt 0 (.ofNat (je6 ls).length))
   cases t with
   | false =>
     refine jah ?_
     repeat ((first | refine jab rfl ?_ | refine jam rfl ?_); (try simp only [go_sem, h0, r1, ll, jae, ht]); fail_if_success refine stk ?_)
     exact ⟨by trivial, g1, _, out, rfl, by simp only [go_sem, h3], by omega⟩
   | true =>
     have hv1 := hv.grow g1
     have lv := hv1.len
     have g2 := ja5 μ' ob0
     have L2 : Lv ⟨μ'.obs.set μ'.next ob0, Nat.add μ'.next 1⟩ (.slice (some ⟨μ'.next, 0, none⟩) 0 0) [] := .inr ⟨μ'.next, 0, 0, _, _, _, _, rfl, by show T.get _ _ = _; rw [T.get_set, if_pos rfl]; rfl, rzN _, rzQ _, fun k x hk => by simp at hk, .inl ⟨rfl, rzN _⟩⟩
     have a1 : jak .i64 (Int.sub (.ofNat ls.length) 1) = ixm ls.length := by
      cases h : ls.length with
      | zero => rfl
      | succ j => exact jaV (j + 1) 1 (by omega) (by omega)
     refine jah ?_
     repeat ((first | refine jab rfl ?_ | refine jam rfl ?_); (try simp only [go_sem, h0, h3, r1, ll, lv, jae, ht, bs0, a1]); fail_if_success refine stk ?_)
     rw [(by omega : e + (m + 1) + n + 192 = (e + m + 153) + ls.length + 40)]
     refine rzM (tx_in (ls := ls) (v := v) (s3 := .string out) (by omega) ls.length (rzN _) (hv1.grow g2) L2 (by simp) (by decide) (r := 0) (by rw [List.drop_length]; rfl) (by simp only [go_sem, h0]) (by simp only [go_sem, h3]) (by simp only [go_sem]) (by simp only [go_sem]; try rfl) (by simp only [go_sem])) ?_
     rintro x rr m3 ⟨rfl, g3, tm3, w', nx, r', rfl, L3, ln, hr, hval', y3, y4, y5⟩
     simp only [go_sem]
     have q1 : jak .u64 (Int.add 48 (.ofNat r')) = .ofNat (48 + r') := by
      have h := jh4 48 r'
      rw [W_of (by omega)] at h
      exact h
     have q2 : jak .u8 (.ofNat (48 + r')) = .ofNat (48 + r') := qu8 _ (by omega)
     have hbs : ∀ r y, aev pZ r y = .int .u8 (.ofNat (48 + r')) → jap pZ (aev pZ r) 45 1 #[(0, y)] = some (.cells 1 5 #[.int .u8 (.ofNat (48 + r'))] .e 0 0 false false, fun id => .slice (some ⟨id, 0, none⟩) 1 2) := fun r y h => bsB r y h
     have hst := jjv m3 (48 + r')
     have plb : ∀ (ρ : Operand → Value) (d : Option Tmp) (ty : TypeId) (x : Operand) (ps : String) (af : Array Edge) (gd : Option (Nat × Bool)), ρ x = .slice (some ⟨m3.next, 0, none⟩) 1 2 → jaH pZ ρ ⟨d, .convert 45 9 x, ty, ps, af, gd⟩ = none := fun ρ d ty x ps af gd h => pl_b ρ d ty x ps af gd h
     have l1 : (bys (strOf [48 + r'])).length = 1 := by rw [jec]; rfl
     obtain ⟨s2, hs2, ls2⟩ := jbt (strOf [48 + r']) out (by omega)
     repeat ((first | refine jab rfl ?_ | refine jam rfl ?_); (try simp only [go_sem, y3, y4, y5, q1, conv_64b, q2, hbs, cv_b1, cv_b2, plb, hst, hs2]); fail_if_success refine stk ?_)
     rw [(by omega : e + (m + 1) + n + 199 = e + m + n + 200)]
     have g4 := ja5 m3 (.cells 1 5 #[.int .u8 (.ofNat (48 + r'))] .e 0 0 false false)
     refine rzM (ih (by omega) (v := w') (ls := nx) (out := s2) ((L3.isU (by unfold maxLen; omega)).grow g4) (ln.trans hl) (by rw [Nat.pow_succ] at hval; generalize 10 ^ m = P at hval ⊢; omega) (by omega) (by simp only [go_sem]) (by simp only [go_sem])) ?_
     rintro x r q ⟨z1, z2, z3⟩
     exact ⟨z1, (((g1.trans g2).trans g3).trans g4).trans z2, z3⟩
theorem big1_ex {X : XT} {g : Nat} {ls : List Nat} {v : Value} {μ : Mem} (h : IsU μ ls v) (hn : ls.length ≤ 1000) (hg : 1200 ≤ g) : ∃ b μ', aFun pZ (jaj pZ X S0 g) 89 [v] μ = some (.bool b, μ') ∧ Grow μ μ' := by
 obtain ⟨k, rfl⟩ := gle hg
 obtain ⟨v', μ', r1, L1, g1, _⟩ := jdO (X := X) (g := k + 1197) h (by omega) (by omega)
 have ll := L1.rd.len
 have key : EndsF (aFun pZ (jaj pZ X S0 (k + 1200)) 89 [v] μ) fun w m => ∃ b, w = .bool b ∧ Grow μ m := by
  refine jaf Tryz.func89 rfl rfl (nbl rfl) ?_
  simp only [go_sem, Tryz.ntmps89]
  repeat ((first | refine jab rfl ?_ | refine jam rfl ?_); (try simp only [go_sem, r1, ll, jae]); fail_if_success refine stk ?_)
  exact jad ⟨rfl, .bool (ilt 64 (.ofNat (je6 ls).length)), by simp only [go_sem, Tryz.results89], _, rfl, g1⟩
 obtain ⟨w, m, h1, b, rfl, h2⟩ := key
 exact ⟨b, m, h1, h2⟩
theorem ji1 {ls : List Nat} (h : ∀ x ∈ ls, x < 4294967296) : vU ls < 10 ^ (10 * ls.length) := by
 have h1 := vU_lt h
 have h2 : 4294967296 ^ ls.length ≤ (10 ^ 10) ^ ls.length := Nat.pow_le_pow_left (by decide) _
 rw [← Nat.pow_mul] at h2
 exact rzO h1 h2
theorem ji3 {X : XT} {g : Nat} {ls : List Nat} {v : Value} {μ : Mem} (hv : IsU μ ls v) (hn : ls.length ≤ 64) (hg : 3000 ≤ g) : ∃ s μ', aFun pZ (jaj pZ X S0 g) 69 [v] μ = some (.string s, μ') ∧ (bys s).length ≤ 3000 ∧ Grow μ μ' := by
 obtain ⟨k, rfl⟩ := gle hg
 obtain ⟨b, μ1, r1, g1⟩ := big1_ex (X := X) (g := k + 2996) hv (by omega) (by omega)
 obtain ⟨w, μ2, r2, L2, g2, _⟩ := jdO (X := X) (g := k + 2995) (hv.grow g1) (by omega) (by omega)
 have ll := L2.rd.len
 obtain ⟨t, ht⟩ := eqx (ieq (.ofNat (je6 ls).length) 0)
 have key : EndsF (aFun pZ (jaj pZ X S0 (k + 3000)) 69 [v] μ) fun w m => ∃ s, w = .string s ∧ (bys s).length ≤ 3000 ∧ Grow μ m := by
  refine jaf Tryz.func69 rfl rfl (nbl rfl) ?_
  simp only [go_sem, Tryz.ntmps69]
  repeat ((first | refine jab rfl ?_ | refine jam rfl ?_); (try simp only [go_sem, r1]); fail_if_success refine stk ?_)
  cases b with
  | true =>
    repeat ((first | refine jab rfl ?_ | refine jam rfl ?_); (try simp only [go_sem]); fail_if_success refine stk ?_)
    refine jad ?_
    refine ⟨rfl, .string ⟨#[]⟩, ?_, _, rfl, by decide, g1⟩
    simp only [go_sem, Tryz.results69]
  | false =>
  repeat ((first | refine jab rfl ?_ | refine jam rfl ?_); (try simp only [go_sem, r2, ll, jae, ht]); fail_if_success refine stk ?_)
  cases t with
  | true =>
    repeat ((first | refine jab rfl ?_ | refine jam rfl ?_); (try simp only [go_sem]); fail_if_success refine stk ?_)
    refine jad ?_
    refine ⟨rfl, .string ⟨#[48]⟩, ?_, _, rfl, by decide, g1.trans g2⟩
    simp only [go_sem, Tryz.results69]
  | false =>
  repeat ((first | refine jab rfl ?_ | refine jam rfl ?_); (try simp only [go_sem]); fail_if_success refine stk ?_)
  rw [(by omega : k + 2994 = (k + 2794 - 10 * ls.length - ls.length) + 10 * ls.length + ls.length + 200)]
  refine rzM (tx_out (n := ls.length) (by omega) (10 * ls.length) (by omega) (v := v) (ls := ls) (out := ⟨#[]⟩) ((hv.grow g1).grow g2) rfl (ji1 hv.1) (by show 0 + _ ≤ _; omega) (by simp only [go_sem]) (by simp only [go_sem])) ?_
  rintro x r m ⟨rfl, g3, tm3, s, rfl, y3, lS⟩
  simp only [go_sem]
  repeat ((first | refine jab rfl ?_ | refine jam rfl ?_); (try simp only [go_sem, y3]); fail_if_success refine stk ?_)
  exact jad ⟨rfl, .string s, by simp only [go_sem, Tryz.results69], _, rfl, lS, (g1.trans g2).trans g3⟩
 obtain ⟨w, m, h1, s, rfl, h2⟩ := key
 exact ⟨s, m, h1, h2⟩
theorem text2_ex {ls : List Nat} {v : Value} {neg : Bool} {X : XT} {g : Nat} {μ : Mem} (hU : IsU μ ls v) (hl : ls.length ≤ 64) (hg : 3100 ≤ g) : ∃ s μ', aFun pZ (jaj pZ X S0 g) 48 [.agg #[.bool neg, v]] μ = some (.string s, μ') ∧ (bys s).length ≤ 3001 ∧ Grow μ μ' := by
 obtain ⟨k, rfl⟩ := gle hg
 have h1 := jey μ 40 [.bool neg, v]
 have hG1 := ja5 μ (obL 40 [.bool neg, v])
 obtain ⟨c0, c1⟩ := Has.c2 h1
 obtain ⟨s, μ2, r1, l1, G1⟩ := ji3 (X := X) (g := k + 3094) (hU.grow hG1) hl (by omega)
 obtain ⟨s3, μ3, r3, l3, G3⟩ := ji3 (X := X) (g := k + 3096) (hU.grow hG1) hl (by omega)
 obtain ⟨q, hq, lq⟩ := jbt ⟨#[45]⟩ s (by show 1 + _ < _; omega)
 have lq : (bys q).length ≤ 3001 := by rw [lq]; show 1 + _ ≤ _; omega
 have key : EndsF (aFun pZ (jaj pZ X S0 (k + 3100)) 48 [.agg #[.bool neg, v]] μ) fun w m => ∃ s, w = .string s ∧ (bys s).length ≤ 3001 ∧ Grow μ m := by
  cases neg with
  | true =>
    refine jaf Tryz.func48 rfl rfl (nbl rfl) ?_
    simp only [go_sem, Tryz.ntmps48]
    repeat ((first | refine jab rfl ?_ | refine jam rfl ?_); (try simp only [go_sem, jf4, c0, c1, r1, hq]); fail_if_success refine stk ?_)
    exact jad ⟨rfl, .string q, by simp only [go_sem, Tryz.results48], q, rfl, lq, hG1.trans G1⟩
  | false =>
    refine jaf Tryz.func48 rfl rfl (nbl rfl) ?_
    simp only [go_sem, Tryz.ntmps48]
    repeat ((first | refine jab rfl ?_ | refine jam rfl ?_); (try simp only [go_sem, jf4, c0, c1, r3]); fail_if_success refine stk ?_)
    exact jad ⟨rfl, .string s3, by simp only [go_sem, Tryz.results48], s3, rfl, by omega, hG1.trans G3⟩
 obtain ⟨w, m, h1, s, rfl, h2⟩ := key
 exact ⟨s, m, h1, h2⟩
theorem text4_ex {ls : List Nat} {v : Value} {fl neg : Bool} {f : Nat} {X : XT} {g : Nat} {μ : Mem} (hX : jb1 X) (hX2 : ja7 X) (hX3 : jb7 X) (hL : Lay μ) (hP : LayP μ) (hf : f < 18446744073709551616) (hU : IsU μ ls v) (hl : ls.length ≤ 64) (hg : 31000 ≤ g) :
  ∃ s μ', aFun pZ (jaj pZ X S0 g) 30 [.agg #[.bool fl, .float .f64 f, .bool neg, v]] μ = some (.string s, μ') ∧ (bys s).length ≤ 10000 ∧ Grow μ μ' := by
 obtain ⟨k, rfl⟩ := gle hg
 have h1 := jey μ 42 [.bool fl, .float .f64 f, .bool neg, v]
 have hG := ja5 μ (obL 42 [.bool fl, .float .f64 f, .bool neg, v])
 have lI := has_I h1
 obtain ⟨c0, c1, c2, c3⟩ := Has.c4 h1
 obtain ⟨s2, μ2, r2, l2, G2⟩ := text2_ex (X := X) (neg := neg) (g := k + 30996) (hU.grow hG) hl (by omega)
 obtain ⟨s3, μ3, r3, l3, G3⟩ := text3_ex (X := X) (g := k + 30994) hf hX hX2 hX3 (hL.grow hG) (hP.grow hG) (by omega)
 have key : EndsF (aFun pZ (jaj pZ X S0 (k + 31000)) 30 [.agg #[.bool fl, .float .f64 f, .bool neg, v]] μ) fun w m => ∃ s, w = .string s ∧ (bys s).length ≤ 10000 ∧ Grow μ m := by
  cases fl with
  | true =>
    refine jaf Tryz.func30 rfl rfl (nbl rfl) ?_
    simp only [go_sem, Tryz.ntmps30]
    repeat ((first | refine jab rfl ?_ | refine jam rfl ?_); (try simp only [go_sem, jdC, c0, c1, r3]); fail_if_success refine stk ?_)
    exact jad ⟨rfl, .string s3, by simp only [go_sem, Tryz.results30], s3, rfl, l3, hG.trans G3⟩
  | false =>
    refine jaf Tryz.func30 rfl rfl (nbl rfl) ?_
    simp only [go_sem, Tryz.ntmps30]
    repeat ((first | refine jab rfl ?_ | refine jam rfl ?_); (try simp only [go_sem, jdC, c0, c1, lI, r2]); fail_if_success refine stk ?_)
    exact jad ⟨rfl, .string s2, by simp only [go_sem, Tryz.results30], s2, rfl, by omega, hG.trans G2⟩
 obtain ⟨w, m, h1, s, rfl, h2⟩ := key
 exact ⟨s, m, h1, h2⟩
@[go_sem] def gg49 {X ev} := gC X ev Tryz.func49 rfl rfl
@[go_sem] def gg31 {X ev} := gC X ev Tryz.func31 rfl rfl
abbrev hexD : ByteArray := ⟨List.toArray [48, 49, 50, 51, 52, 53, 54, 55, 56, 57, 97, 98, 99, 100, 101, 102]⟩
theorem jiq (s : ByteArray) {a b : Nat} (h : a ≤ b) (hb : b ≤ (bys s).length) : (bys (midS s a b)).length = b - a := by
 unfold midS bys
 rw [jb5] at hb
 simp only [List.length_map, List.length_take, List.length_drop]
 omega
theorem hex_ex : ∀ (m : Nat), m ≤ 100 → ∀ (n : Nat), n < 16 ^ (m + 1) → n < 1000000000 → ∀ {X : XT} {g : Nat} {μ : Mem}, 20 * (m + 1) ≤ g → ∃ s μ', aFun pZ (jaj pZ X S0 g) 49 [.int .i64 (.ofNat n)] μ = some (.string s, μ') ∧ (bys s).length ≤ m + 1 ∧ Grow μ μ' := by
 have key : ∀ (m : Nat), (∀ n, 16 ≤ n → n < 16 ^ (m + 1) → n / 16 < 16 ^ m ∧ 0 < m) := fun m n h1 h2 => by
  cases m with
  | zero => simp at h2; omega
  | succ m => rw [Nat.pow_succ] at h2; exact ⟨by omega, by omega⟩
 intro m
 induction m with
 | zero =>
   intro hm n hn _ X g μ hg
   obtain ⟨k, rfl⟩ := gle hg
   have hn : n < 16 := by simpa using hn
   have e1 : ilt (.ofNat n) 16 = true := dT (jbn n 16 16 rfl) hn
   have a1 : jak .i64 (Int.add (.ofNat n) 1) = .ofNat (n + 1) := jaE n 1 (by omega)
   have hl : (bys hexD).length = 16 := by decide
   have hsl : ∀ r x y z, aev pZ r x = .string hexD → aev pZ r y = .int .i64 (.ofNat n) → aev pZ r z = .int .i64 (.ofNat (n + 1)) → ja0 pZ (aev pZ r) 9 x (some y) (some z) none = some (.string (midS hexD n (n + 1))) := fun r x y z h1 h2 h3 => jdR h1 h2 h3 (by omega) (by omega)
   refine ⟨midS hexD n (n + 1), μ, ?_, by rw [jiq _ (by omega) (by omega)]; omega, Grow.refl _⟩
   refine jaF ?_
   refine jaf Tryz.func49 rfl rfl (nbl rfl) ?_
   simp only [go_sem, Tryz.ntmps49]
   repeat ((first | refine jab rfl ?_ | refine jam rfl ?_); (try simp only [go_sem, e1, a1, hsl]); fail_if_success refine stk ?_)
   exact jad ⟨rfl, _, by simp only [go_sem, Tryz.results49], rfl, rfl⟩
 | succ m ih =>
   intro hm n hn hn2 X g μ hg
   obtain ⟨k, rfl⟩ := gle hg
   have hl : (bys hexD).length = 16 := by decide
   by_cases h16 : n < 16
   ·have e1 : ilt (.ofNat n) 16 = true := dT (jbn n 16 16 rfl) h16
    have a1 : jak .i64 (Int.add (.ofNat n) 1) = .ofNat (n + 1) := jaE n 1 (by omega)
    have hsl : ∀ r x y z, aev pZ r x = .string hexD → aev pZ r y = .int .i64 (.ofNat n) → aev pZ r z = .int .i64 (.ofNat (n + 1)) → ja0 pZ (aev pZ r) 9 x (some y) (some z) none = some (.string (midS hexD n (n + 1))) := fun r x y z h1 h2 h3 => jdR h1 h2 h3 (by omega) (by omega)
    refine ⟨midS hexD n (n + 1), μ, ?_, by rw [jiq _ (by omega) (by omega)]; omega, Grow.refl _⟩
    refine jaF ?_
    rw [(by omega : k + 20 * (m + 1 + 1) = (k + 20 * m) + 40)]
    refine jaf Tryz.func49 rfl rfl (nbl rfl) ?_
    simp only [go_sem, Tryz.ntmps49]
    repeat ((first | refine jab rfl ?_ | refine jam rfl ?_); (try simp only [go_sem, e1, a1, hsl]); fail_if_success refine stk ?_)
    exact jad ⟨rfl, _, by simp only [go_sem, Tryz.results49], rfl, rfl⟩
   ·have e1 : ilt (.ofNat n) 16 = false := dF (jbn n 16 16 rfl) h16
    obtain ⟨hd, _⟩ := key (m + 1) n (by omega) hn
    have r1 : ∀ j, ∃ s μ', aFun pZ (jaj pZ X S0 ((k + 20 * m) + 35)) 49 [.int .i64 (.ofNat (n / 16))] ⟨μ.obs, μ.next + j⟩ = some (.string s, μ') ∧ (bys s).length ≤ m + 1 ∧ Grow ⟨μ.obs, μ.next + j⟩ μ' := fun j => ih (by omega) (n / 16) hd (by omega) (by omega)
    obtain ⟨s, μ', r1, l1, g1⟩ := r1 12
    have d1 : aDiv false .i64 .i64 (.ofNat n) 16 = some (.int .i64 (.ofNat (n / 16))) := d64i (k := 15) (by omega)
    have d2 : aDiv true .i64 .i64 (.ofNat n) 16 = some (.int .i64 (.ofNat (n % 16))) := r64i (k := 15)
    have a1 : jak .i64 (Int.add (.ofNat (n % 16)) 1) = .ofNat (n % 16 + 1) := jaE _ 1 (by omega)
    have hsl : ∀ r x y z, aev pZ r x = .string hexD → aev pZ r y = .int .i64 (.ofNat (n % 16)) → aev pZ r z = .int .i64 (.ofNat (n % 16 + 1)) → ja0 pZ (aev pZ r) 9 x (some y) (some z) none = some (.string (midS hexD (n % 16) (n % 16 + 1))) := fun r x y z h1 h2 h3 => jdR h1 h2 h3 (by omega) (by omega)
    have lm : (bys (midS hexD (n % 16) (n % 16 + 1))).length = 1 := by rw [jiq _ (by omega) (by omega)]; omega
    obtain ⟨q, hq, lq⟩ := jbt s (midS hexD (n % 16) (n % 16 + 1)) (by omega)
    have kk : EndsF (aFun pZ (jaj pZ X S0 ((k + 20 * m) + 40)) 49 [.int .i64 (.ofNat n)] μ) fun w m' => w = .string q ∧ Grow μ m' := by
     refine jaf Tryz.func49 rfl rfl (nbl rfl) ?_
     simp only [go_sem, Tryz.ntmps49]
     repeat ((first | refine jab rfl ?_ | refine jam rfl ?_); (try simp only [go_sem, e1]); fail_if_success refine stk ?_)
     refine jaz (n := 12) (ms := [0, 1, 3, 0, 0, 16, 0, 64, 192, 504, 1023, 2047]) (ord := [0, 1, 2, 3, 4, 5, 6, 7, 8, 9, 10, 11]) (ds := ?_) ?_ ?_ ?_ ?_ ?_ ?_
     rotate_left
     ·kernel_rfl
     ·kernel_rfl
     ·kernel_rfl
     ·rfl
     ·rfl
     skip
     repeat (first | (refine ja8 ?_ rfl ?_; (solve | simp only [go_sem, d1, d2, a1, hsl, hq, r1])) | (refine jay (v := ?_) (μ' := ?_) (sn' := ?_) ?_ ?_ rfl ?_; rotate_left 3; (solve | rfl | simp only [go_sem, d1, d2, a1, hsl, hq, r1]); (solve | simp only [jaC, heavy, jaO, jar, go_sem, d1, d2, a1, hsl, hq, r1]; try exact rfl)))
     simp only [dRun, jat, jai]
     exact jad ⟨rfl, .string q, by simp only [go_sem, Tryz.results49], rfl, (jeO (Nat.le_add_right _ _)).trans g1⟩
    rw [(by omega : k + 20 * (m + 1 + 1) = (k + 20 * m) + 40)]
    obtain ⟨w, m', h1, rfl, h2⟩ := kk
    exact ⟨q, m', h1, by omega, h2⟩
theorem char_ex {n : Nat} (hn : n ≤ 1114111) {X : XT} {g : Nat} {μ : Mem} (hg : 300 ≤ g) : ∃ s μ', aFun pZ (jaj pZ X S0 g) 31 [.int .i64 (.ofNat n)] μ = some (.string s, μ') ∧ (bys s).length ≤ 20 ∧ Grow μ μ' := by
 obtain ⟨k, rfl⟩ := gle hg
 obtain ⟨h, μ1, r1, l1, g1⟩ := hex_ex 5 (by decide) n (by show n < 16777216; omega) (by omega) (X := X) (g := k + 295) (μ := μ) (by omega)
 obtain ⟨q1, hq1, lq1⟩ := jbt ⟨#[35, 92, 120]⟩ h (by show 3 + _ < _; omega)
 have lq1 : (bys q1).length ≤ 20 := by rw [lq1]; show 3 + _ ≤ _; omega
 obtain ⟨b, hb⟩ : ∃ b : Nat, jak .u8 (.ofNat n) = .ofNat b := qu8_ex _
 have g2 := ja5 μ (.cells 1 5 #[.int .u8 (.ofNat b)] .e 0 0 false false)
 have hst := jjv μ b
 have hbs : ∀ r y, aev pZ r y = .int .u8 (.ofNat b) → jap pZ (aev pZ r) 45 1 #[(0, y)] = some (.cells 1 5 #[.int .u8 (.ofNat b)] .e 0 0 false false, fun id => .slice (some ⟨id, 0, none⟩) 1 2) := fun r y h => bsB r y h
 have plb : ∀ (ρ : Operand → Value) (d : Option Tmp) (ty : TypeId) (x : Operand) (ps : String) (af : Array Edge) (gd : Option (Nat × Bool)), ρ x = .slice (some ⟨μ.next, 0, none⟩) 1 2 → jaH pZ ρ ⟨d, .convert 45 9 x, ty, ps, af, gd⟩ = none := fun ρ d ty x ps af gd h => pl_b ρ d ty x ps af gd h
 have l2 : (bys (strOf [b])).length = 1 := by rw [jec]; rfl
 obtain ⟨q2, hq2, lq2⟩ := jbt ⟨#[35, 92]⟩ (strOf [b]) (by show 2 + _ < _; omega)
 have lq2 : (bys q2).length ≤ 20 := by rw [lq2]; show 2 + _ ≤ _; omega
 obtain ⟨t1, e1⟩ := eqx (ieq (.ofNat n) 0)
 obtain ⟨t2, e2⟩ := eqx (ieq (.ofNat n) 9)
 obtain ⟨t3, e3⟩ := eqx (ieq (.ofNat n) 10)
 obtain ⟨t4, e4⟩ := eqx (ieq (.ofNat n) 32)
 obtain ⟨t5, e5⟩ := eqx (ilt 32 (.ofNat n))
 obtain ⟨t6, e6⟩ := eqx (ilt (.ofNat n) 127)
 have key : EndsF (aFun pZ (jaj pZ X S0 (k + 300)) 31 [.int .i64 (.ofNat n)] μ) fun w m => ∃ s, w = .string s ∧ (bys s).length ≤ 20 ∧ Grow μ m := by
  refine jaf Tryz.func31 rfl rfl (nbl rfl) ?_
  simp only [go_sem, Tryz.ntmps31]
  repeat ((first | refine jab rfl ?_ | refine jam rfl ?_); (try simp only [go_sem, e1]); fail_if_success refine stk ?_)
  cases t1 with
  | true =>
    repeat ((first | refine jab rfl ?_ | refine jam rfl ?_); (try simp only [go_sem]); fail_if_success refine stk ?_)
    refine jad ?_
    refine ⟨rfl, .string ⟨#[35, 92, 110, 117, 108]⟩, ?_, _, rfl, by decide, Grow.refl _⟩
    simp only [go_sem, Tryz.results31]
  | false =>
  repeat ((first | refine jab rfl ?_ | refine jam rfl ?_); (try simp only [go_sem, e2]); fail_if_success refine stk ?_)
  cases t2 with
  | true =>
    repeat ((first | refine jab rfl ?_ | refine jam rfl ?_); (try simp only [go_sem]); fail_if_success refine stk ?_)
    refine jad ?_
    refine ⟨rfl, .string ⟨#[35, 92, 116, 97, 98]⟩, ?_, _, rfl, by decide, Grow.refl _⟩
    simp only [go_sem, Tryz.results31]
  | false =>
  repeat ((first | refine jab rfl ?_ | refine jam rfl ?_); (try simp only [go_sem, e3]); fail_if_success refine stk ?_)
  cases t3 with
  | true =>
    repeat ((first | refine jab rfl ?_ | refine jam rfl ?_); (try simp only [go_sem]); fail_if_success refine stk ?_)
    refine jad ?_
    refine ⟨rfl, .string ⟨#[35, 92, 110, 101, 119, 108, 105, 110, 101]⟩, ?_, _, rfl, by decide, Grow.refl _⟩
    simp only [go_sem, Tryz.results31]
  | false =>
  repeat ((first | refine jab rfl ?_ | refine jam rfl ?_); (try simp only [go_sem, e4]); fail_if_success refine stk ?_)
  cases t4 with
  | true =>
    repeat ((first | refine jab rfl ?_ | refine jam rfl ?_); (try simp only [go_sem]); fail_if_success refine stk ?_)
    refine jad ?_
    refine ⟨rfl, .string ⟨#[35, 92, 115, 112, 97, 99, 101]⟩, ?_, _, rfl, by decide, Grow.refl _⟩
    simp only [go_sem, Tryz.results31]
  | false =>
  cases t5 with
  | false =>
    repeat ((first | refine jab rfl ?_ | refine jam rfl ?_); (try simp only [go_sem, e5, r1, hq1]); fail_if_success refine stk ?_)
    exact jad ⟨rfl, .string q1, by simp only [go_sem, Tryz.results31], _, rfl, lq1, g1⟩
  | true =>
  cases t6 with
  | false =>
    repeat ((first | refine jab rfl ?_ | refine jam rfl ?_); (try simp only [go_sem, e5, e6, r1, hq1]); fail_if_success refine stk ?_)
    exact jad ⟨rfl, .string q1, by simp only [go_sem, Tryz.results31], _, rfl, lq1, g1⟩
  | true =>
    repeat ((first | refine jab rfl ?_ | refine jam rfl ?_); (try simp only [go_sem, e5, e6, jgE, hb, hbs, cv_b1, cv_b2, plb, hst, hq2]); fail_if_success refine stk ?_)
    exact jad ⟨rfl, .string q2, by simp only [go_sem, Tryz.results31], _, rfl, lq2, g2⟩
 obtain ⟨w, m, h1, s, rfl, h2⟩ := key
 exact ⟨s, m, h1, h2⟩
@[go_sem] def gg32 {X ev} := gC X ev Tryz.func32 rfl rfl
theorem jjW {s : ByteArray} (hl : (bys s).length ≤ 2000000) {μ0 : Mem} {q : Nat} (hq : μ0.next ≤ q) : ∀ (f p : Nat), (bys s).length ≤ p + f → f ≤ 2000000 → ∀ {X : XT} {e : Nat} {tm : T Value} {μ : Mem} {out : ByteArray}, μ.obs.get q = some (.siter s p) → q < μ.next → Grow μ0 μ → (bys out).length + 12 * f ≤ 30000000 →
  jac tm 3 = .string out → jac tm 9 = .pointer (some ⟨q, 0, none⟩) →
  LpC X (e + f + 200) Tryz.f32 0 57 tm μ fun x r m => x = .exit 0 ∧ Grow μ0 m ∧ ∃ tm' s', r = ⟨57, tm', [], none⟩ ∧ jac tm' 3 = .string s' ∧ (bys s').length ≤ (bys out).length + 12 * f := by
 intro f
 have done : ∀ (f p : Nat), (bys s).length ≤ p → ∀ {X : XT} {e : Nat} {tm : T Value} {μ : Mem} {out : ByteArray}, μ.obs.get q = some (.siter s p) → Grow μ0 μ → jac tm 3 = .string out → jac tm 9 = .pointer (some ⟨q, 0, none⟩) →
   LpC X (e + f + 200) Tryz.f32 0 57 tm μ fun x r m => x = .exit 0 ∧ Grow μ0 m ∧ ∃ tm' s', r = ⟨57, tm', [], none⟩ ∧ jac tm' 3 = .string s' ∧ (bys s').length ≤ (bys out).length + 12 * f := by
  intro f p hp X e tm μ out ho hG h3 h9
  have hnx := next_no ho hp
  refine jah ?_
  repeat ((first | refine jab rfl ?_ | refine jam rfl ?_); (try simp only [go_sem, h9, hnx]); fail_if_success refine stk ?_)
  exact ⟨by trivial, hG, _, out, rfl, by simp only [go_sem, h3], by omega⟩
 induction f with
 | zero =>
   intro p hp _ X e tm μ out ho hqn hG hb h3 h9
   exact done 0 p (by omega) ho hG h3 h9
 | succ f ih =>
   intro p hp hf X e tm μ out ho hqn hG hb h3 h9
   by_cases hlt : p < (bys s).length
   ·obtain ⟨c, hc⟩ := exq ((Utf8.decode s p).1)
    obtain ⟨w, hw⟩ := exq ((Utf8.decode s p).2)
    have hw1 : 1 ≤ w := by rw [hw]; exact Lib.width_pos s p
    have hcl : c ≤ 1114111 := by rw [hc]; exact Lib.rune_le s p
    obtain ⟨own, hown⟩ := exq (Utf8.encode (.ofNat c))
    have ho4 : (bys own).length ≤ 4 := by rw [hown]; exact enc_len _
    have hnx := jjh ho hlt
    rw [← hc, ← hw] at hnx
    obtain ⟨μ1, hμ1⟩ := exq (⟨μ.obs.set q (.siter s (p + w)), μ.next⟩ : Mem)
    rw [← hμ1] at hnx
    have n1 : μ1.next = μ.next := by rw [hμ1]
    have hG1 : Grow μ0 μ1 := ⟨by rw [n1]; exact hG.1, fun j hj => by
     rw [hμ1]
     show T.get (T.set _ _ _) _ = _
     rw [T.get_set, if_neg (by omega)]
     exact hG.2 j hj⟩
    obtain ⟨μ2, hμ2⟩ := exq (⟨μ1.obs.set μ1.next (.cells 1 21 #[.int .i32 (.ofNat c)] .e 0 0 false false), μ1.next + 1⟩ : Mem)
    have hG2 : Grow μ1 μ2 := by rw [hμ2]; exact ja5 _ _
    have n2 : μ2.next = μ1.next + 1 := by rw [hμ2]
    have hq2 : μ2.obs.get q = some (.siter s (p + w)) := by
     rw [hG2.2 q (by omega), hμ1]
     show T.get _ _ = _
     rw [T.get_set, if_pos rfl]
    have hst : ja3 pZ μ2 99 9 (.slice (some ⟨μ1.next, 0, none⟩) 1 2) = some (.string own) := by
     rw [hown]
     exact ji8 (by rw [hμ2]; show T.get _ _ = _; rw [T.get_set, if_pos rfl])
    have q1 : jak .i64 (.ofNat c) = .ofNat c := wrap_i64 _ (by show -9223372036854775808 ≤ (c : Int); omega) (by show (c : Int) < _; omega)
    have hcp : ∀ (r : Rg) (o : Oper), o.op = .convert 99 9 (.tmp 16) → aev pZ r (.tmp 16) = .slice (some ⟨μ1.next, 0, none⟩) 1 2 → jaH pZ (aev pZ r) o = none := fun r o ho hx => by
     unfold jaH
     simp only [ho, opsOf, jbJ, hx, jaK]
    have hbr : ∀ r x, aev pZ r x = .int .i32 (.ofNat c) → jap pZ (aev pZ r) 99 1 #[(0, x)] = some (.cells 1 21 #[.int .i32 (.ofNat c)] .e 0 0 false false, fun id => .slice (some ⟨id, 0, none⟩) 1 2) := fun r x g => jbr Tryz.underlying99 i_r32 rfl z_r32 rfl g rfl
    obtain ⟨hx, μ3, r3, l3, g3⟩ := hex_ex 5 (by decide) c (by show c < 16777216; omega) (by omega) (X := X) (g := e + (f + 1) + 182) (μ := μ2) (by omega)
    have hq3 : μ3.obs.get q = some (.siter s (p + w)) := (g3.2 q (by omega)).trans hq2
    obtain ⟨a1, ea1, la1⟩ := jbt ⟨#[92]⟩ own (by show 1 + _ < _; omega)
    have la1 : (bys a1).length ≤ 5 := by rw [la1]; show 1 + _ ≤ _; omega
    obtain ⟨a2, ea2, la2⟩ := jbt out a1 (by omega)
    obtain ⟨b1, eb1, lb1⟩ := jbt ⟨#[92, 120]⟩ hx (by show 2 + _ < _; omega)
    have lb1 : (bys b1).length ≤ 8 := by rw [lb1]; show 2 + _ ≤ _; omega
    obtain ⟨b2, eb2, lb2⟩ := jbt b1 ⟨#[59]⟩ (by show _ + 1 < _; omega)
    have lb2 : (bys b2).length ≤ 9 := by rw [lb2]; show _ + 1 ≤ _; omega
    obtain ⟨b3, eb3, lb3⟩ := jbt out b2 (by omega)
    obtain ⟨c1, ec1, lc1⟩ := jbt out ⟨#[92, 110]⟩ (by show _ + 2 < _; omega)
    have lc1 : (bys c1).length = (bys out).length + 2 := lc1
    obtain ⟨c2, ec2, lc2⟩ := jbt out ⟨#[92, 116]⟩ (by show _ + 2 < _; omega)
    have lc2 : (bys c2).length = (bys out).length + 2 := lc2
    obtain ⟨c3, ec3, lc3⟩ := jbt out ⟨#[92, 114]⟩ (by show _ + 2 < _; omega)
    have lc3 : (bys c3).length = (bys out).length + 2 := lc3
    obtain ⟨c4, ec4, lc4⟩ := jbt out own (by omega)
    obtain ⟨t1, e1⟩ := eqx (ieq (.ofNat c) 34)
    obtain ⟨t2, e2⟩ := eqx (ieq (.ofNat c) 92)
    obtain ⟨t3, e3⟩ := eqx (ieq (.ofNat c) 10)
    obtain ⟨t4, e4⟩ := eqx (ieq (.ofNat c) 9)
    obtain ⟨t5, e5⟩ := eqx (ieq (.ofNat c) 13)
    obtain ⟨t6, e6⟩ := eqx (ilt (.ofNat c) 32)
    obtain ⟨t7, e7⟩ := eqx (ieq (.ofNat c) 127)
    have hGa := hG1.trans hG2
    have hGb := hGa.trans g3
    cases t1 with
    | true =>
      refine jah ?_
      repeat ((first | refine jab rfl ?_ | refine jam rfl ?_); (try simp only [go_sem, h3, h9, hnx, jcw, q1, hbr, ← hμ2, hcp, jfo, jfn, hst, e1, ea1, ea2]); fail_if_success refine stk ?_)
      rw [(by omega : e + (f + 1) + 199 = e + f + 200)]
      refine rzM (ih (p + w) (by omega) (by omega) (out := a2) hq2 (by omega) hGa (by omega) (by simp only [go_sem]) (by simp only [go_sem, h9])) ?_
      rintro x r m ⟨y1, y2, tm', s', y3, y4, y5⟩
      exact ⟨y1, y2, tm', s', y3, y4, by omega⟩
    | false =>
    cases t2 with
    | true =>
      refine jah ?_
      repeat ((first | refine jab rfl ?_ | refine jam rfl ?_); (try simp only [go_sem, h3, h9, hnx, jcw, q1, hbr, ← hμ2, hcp, jfo, jfn, hst, e1, e2, ea1, ea2]); fail_if_success refine stk ?_)
      rw [(by omega : e + (f + 1) + 199 = e + f + 200)]
      refine rzM (ih (p + w) (by omega) (by omega) (out := a2) hq2 (by omega) hGa (by omega) (by simp only [go_sem]) (by simp only [go_sem, h9])) ?_
      rintro x r m ⟨y1, y2, tm', s', y3, y4, y5⟩
      exact ⟨y1, y2, tm', s', y3, y4, by omega⟩
    | false =>
    cases t3 with
    | true =>
      refine jah ?_
      repeat ((first | refine jab rfl ?_ | refine jam rfl ?_); (try simp only [go_sem, h3, h9, hnx, jcw, q1, hbr, ← hμ2, hcp, jfo, jfn, hst, e1, e2, e3, ec1]); fail_if_success refine stk ?_)
      rw [(by omega : e + (f + 1) + 199 = e + f + 200)]
      refine rzM (ih (p + w) (by omega) (by omega) (out := c1) hq2 (by omega) hGa (by omega) (by simp only [go_sem]) (by simp only [go_sem, h9])) ?_
      rintro x r m ⟨y1, y2, tm', s', y3, y4, y5⟩
      exact ⟨y1, y2, tm', s', y3, y4, by omega⟩
    | false =>
    cases t4 with
    | true =>
      refine jah ?_
      repeat ((first | refine jab rfl ?_ | refine jam rfl ?_); (try simp only [go_sem, h3, h9, hnx, jcw, q1, hbr, ← hμ2, hcp, jfo, jfn, hst, e1, e2, e3, e4, ec2]); fail_if_success refine stk ?_)
      rw [(by omega : e + (f + 1) + 199 = e + f + 200)]
      refine rzM (ih (p + w) (by omega) (by omega) (out := c2) hq2 (by omega) hGa (by omega) (by simp only [go_sem]) (by simp only [go_sem, h9])) ?_
      rintro x r m ⟨y1, y2, tm', s', y3, y4, y5⟩
      exact ⟨y1, y2, tm', s', y3, y4, by omega⟩
    | false =>
    cases t5 with
    | true =>
      refine jah ?_
      repeat ((first | refine jab rfl ?_ | refine jam rfl ?_); (try simp only [go_sem, h3, h9, hnx, jcw, q1, hbr, ← hμ2, hcp, jfo, jfn, hst, e1, e2, e3, e4, e5, ec3]); fail_if_success refine stk ?_)
      rw [(by omega : e + (f + 1) + 199 = e + f + 200)]
      refine rzM (ih (p + w) (by omega) (by omega) (out := c3) hq2 (by omega) hGa (by omega) (by simp only [go_sem]) (by simp only [go_sem, h9])) ?_
      rintro x r m ⟨y1, y2, tm', s', y3, y4, y5⟩
      exact ⟨y1, y2, tm', s', y3, y4, by omega⟩
    | false =>
    cases t6 with
    | true =>
      refine jah ?_
      repeat ((first | refine jab rfl ?_ | refine jam rfl ?_); (try simp only [go_sem, h3, h9, hnx, jcw, q1, hbr, ← hμ2, hcp, jfo, jfn, hst, e1, e2, e3, e4, e5, e6, r3, eb1, eb2, eb3]); fail_if_success refine stk ?_)
      rw [(by omega : e + (f + 1) + 199 = e + f + 200)]
      refine rzM (ih (p + w) (by omega) (by omega) (out := b3) hq3 (by have := g3.1; omega) hGb (by omega) (by simp only [go_sem]) (by simp only [go_sem, h9])) ?_
      rintro x r m ⟨y1, y2, tm', s', y3, y4, y5⟩
      exact ⟨y1, y2, tm', s', y3, y4, by omega⟩
    | false =>
    cases t7 with
    | true =>
      refine jah ?_
      repeat ((first | refine jab rfl ?_ | refine jam rfl ?_); (try simp only [go_sem, h3, h9, hnx, jcw, q1, hbr, ← hμ2, hcp, jfo, jfn, hst, e1, e2, e3, e4, e5, e6, e7, r3, eb1, eb2, eb3]); fail_if_success refine stk ?_)
      rw [(by omega : e + (f + 1) + 199 = e + f + 200)]
      refine rzM (ih (p + w) (by omega) (by omega) (out := b3) hq3 (by have := g3.1; omega) hGb (by omega) (by simp only [go_sem]) (by simp only [go_sem, h9])) ?_
      rintro x r m ⟨y1, y2, tm', s', y3, y4, y5⟩
      exact ⟨y1, y2, tm', s', y3, y4, by omega⟩
    | false =>
    refine jah ?_
    repeat ((first | refine jab rfl ?_ | refine jam rfl ?_); (try simp only [go_sem, h3, h9, hnx, jcw, q1, hbr, ← hμ2, hcp, jfo, jfn, hst, e1, e2, e3, e4, e5, e6, e7, ec4]); fail_if_success refine stk ?_)
    rw [(by omega : e + (f + 1) + 199 = e + f + 200)]
    refine rzM (ih (p + w) (by omega) (by omega) (out := c4) hq2 (by omega) hGa (by omega) (by simp only [go_sem]) (by simp only [go_sem, h9])) ?_
    rintro x r m ⟨y1, y2, tm', s', y3, y4, y5⟩
    exact ⟨y1, y2, tm', s', y3, y4, by omega⟩
   ·exact done (f + 1) p (by omega) ho hG h3 h9
theorem quote_ex {s : ByteArray} (hl : (bys s).length ≤ 2000000) {X : XT} {g : Nat} {μ : Mem} (hg : (bys s).length + 300 ≤ g) : ∃ t μ', aFun pZ (jaj pZ X S0 g) 32 [.string s] μ = some (.string t, μ') ∧ (bys t).length ≤ 12 * (bys s).length + 2 ∧ Grow μ μ' := by
 obtain ⟨k, hk, rfl⟩ : ∃ k, (bys s).length ≤ k ∧ g = k + 300 := ⟨g - 300, by omega, by omega⟩
 obtain ⟨μ2, hμ2⟩ := exq (⟨μ.obs.set μ.next (.siter s 0), μ.next + 1⟩ : Mem)
 have hG2 : Grow μ μ2 := by rw [hμ2]; exact ja5 _ _
 have n2 : μ2.next = μ.next + 1 := by rw [hμ2]
 have hq : μ2.obs.get μ.next = some (.siter s 0) := by rw [hμ2]; show T.get _ _ = _; rw [T.get_set, if_pos rfl]
 have key : EndsF (aFun pZ (jaj pZ X S0 (k + 300)) 32 [.string s] μ) fun r m => ∃ t, r = .string t ∧ (bys t).length ≤ 12 * (bys s).length + 2 ∧ Grow μ m := by
  refine jaf Tryz.func32 rfl rfl (nbl rfl) ?_
  simp only [go_sem, Tryz.ntmps32]
  repeat ((first | refine jab rfl ?_ | refine jam rfl ?_); (try simp only [go_sem, rngS, ← hμ2]); fail_if_success refine stk ?_)
  rw [(by omega : k + 295 = (k + 95 - (bys s).length) + (bys s).length + 200)]
  refine rzM (jjW hl (μ0 := μ) (q := μ.next) (rzN _) (bys s).length 0 (by omega) (by omega) (out := ⟨#[34]⟩) hq (by omega) hG2 (by show 1 + _ ≤ _; omega) (by simp only [go_sem]) (by simp only [go_sem])) ?_
  rintro x r m ⟨rfl, g1, tm', s', rfl, y3, ly⟩
  have ly : (bys s').length ≤ 1 + 12 * (bys s).length := ly
  obtain ⟨q, hq, lq⟩ := jbt s' ⟨#[34]⟩ (by show _ + 1 < _; omega)
  have lq : (bys q).length = (bys s').length + 1 := lq
  simp only [go_sem]
  repeat ((first | refine jab rfl ?_ | refine jam rfl ?_); (try simp only [go_sem, y3, hq]); fail_if_success refine stk ?_)
  exact jad ⟨rfl, .string q, by simp only [go_sem, Tryz.results32], q, rfl, by omega, g1⟩
 obtain ⟨r, m, h1, t, rfl, h2, h3⟩ := key
 exact ⟨t, m, h1, h2, h3⟩
end
end Go.Proofs.YtlkenchibdeinaaGreatDoor.ce
