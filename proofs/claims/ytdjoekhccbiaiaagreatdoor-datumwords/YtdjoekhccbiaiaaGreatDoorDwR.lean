/-
  distafflaw05.DatumWords, part R: its walk and its law. No conditions.
-/
import Derived.Test.YtdjoekhccbiaiaaGreatDoorDwQ
set_option maxRecDepth 20000
set_option maxHeartbeats 8000000
set_option linter.unusedSimpArgs false
set_option linter.unusedVariables false
set_option linter.unusedSectionVars false
namespace Go.Proofs.YtdjoekhccbiaiaaGreatDoor.dw
open Go Go.Proofs Go.Proofs.YtdjoekhccbiaiaaGreatDoor Go.Proofs.YtdjoekhccbiaiaaGreatDoor.Ev
noncomputable section
open Go.Proofs.YtdjoekhccbiaiaaGreatDoor.DecM (val Dg)
def feq (a b : Nat) : Bool := Ieee.double.order a b == some .eq
theorem plain_feq {ρ : Operand → Value} {d : Option Tmp} {t yt ty : TypeId} {x y : Operand} {ps : String} {af : Array Edge} {gd : Option (Nat × Bool)} {a b : Nat} (hx : ρ x = .float .f64 a) (hy : ρ y = .float .f64 b) : ja0 Tryz.prog ρ ⟨d, .binOp .eql t x y yt, ty, ps, af, gd⟩ = some (.bool (feq a b)) := by
 unfold ja0
 have e : pv Tryz.prog (execOp ρ ⟨d, .binOp .eql t x y yt, ty, ps, af, gd⟩) = some (.value (.bool (feq a b))) := by
  simp only [execOp, hx, hy]
  kernel_rfl
 simp only [opsOf, jb6, hx, hy, jaV, e]
theorem NoErr.three {v : Value} (h : NoErr v) : Err3 v := by
 rcases h with h | h
 ·exact .inl h
 ·exact .inr (.inl h)
attribute [local irreducible] ja1
theorem at5_ex {s : ByteArray} (hs : ∀ c ∈ bys s, c ∈ nums) (hl : (bys s).length ≤ 1000) (a n : Nat) (e : Int) (neg tr : Bool) (hn : n ≤ (bys s).length) (he1 : -200000 < e) (he2 : e < 200000) : ∃ (f : Nat) (v : Value), Err3 v ∧ ∀ {X : XT} {k : Nat} {tm : T Value} {μ : Mem}, jbr X → Lay μ → jaq tm 0 = .string s → jaq tm 3 = .int .i64 (.ofNat n) → jaq tm 4 = .nilIface → jaq tm 8 = u a → jaq tm 9 = .int .i64 e → jaq tm 10 = .bool neg → jaq tm 11 = .bool tr →
  EndsC (jat Tryz.prog X S0 (k + 12100) (ja1 5 (jaB Tryz.f123)) ⟨143, tm, [], none⟩ μ) (FinA f n v μ) := by
 obtain ⟨sg, hsg⟩ : ∃ sg, sg = b2 neg * 2 ^ 63 := ⟨_, rfl⟩
 have b1 : ∀ {X : XT} (g : Nat) (μ : Mem), 10 ≤ g → aFun Tryz.prog (jat Tryz.prog X S0 g) 148 [.bool neg] μ = some (u (b2 neg), μ) := fun g μ h => jhK h
 have s63 : jbg true .u64 (.ofNat (W (b2 neg))) 63 = some (.int .u64 (.ofNat (W sg))) := by
  have hb := b2_le neg
  rw [W_of (a := b2 neg) (by omega), hsg]
  exact w_shl (b2 neg) 63 (by decide)
 clear hsg
 by_cases ha : W a = 0
 ·have a0 : ieq (.ofNat (W a)) 0 = true := (jaO _ 0 0 rfl).trans (decide_eq_true ha)
  refine ⟨W (W sg ||| 0), .nilIface, .inl rfl, fun {X k tm μ} hX hL h0 h3 h4 h8 h9 h10 h11 => ?_⟩
  have x1' : ∀ a μ, X 149 [u a] μ = some (.float .f64 (W a), μ) := hX
  have ho := hL.opt
  rw [sa5]
  repeat (first | refine jaf ?_ | ((first | (refine jad ?_ ?_; (focus rfl)) | (refine jac (gs := ?_) ?_ ?_; rotate_left; (focus rfl))); simp only [run1, go_sem, h0, h3, h4, h8, h9, h10, h11, nO, jaD, ho, jcl, b1, Nat.reduceLeDiff, s63, a0, wOr0, jbC, x1']) | (refine jab ?_ ?_; (focus (simp only [go_sem, h0, h3, h4, h8, h9, h10, h11, nO, jaD, ho, jcl, b1, Nat.reduceLeDiff, s63, a0, wOr0, jbC, x1']; done))) | (refine jaa ?_ ?_; (focus (simp only [go_sem, h0, h3, h4, h8, h9, h10, h11, nO, jaD, ho, jcl, b1, Nat.reduceLeDiff, s63, a0, wOr0, jbC, x1']; done))) | ((first | refine jaj ?_ | refine jai ?_ | refine jak ?_); try simp only [go_sem]) | refine jah ?_)
  refine jam ?_
  exact ⟨by trivial, Grow.refl _, _, rfl, (by simp only [go_sem]), (by simp only [go_sem, h3]), (by simp only [go_sem])⟩
 have a0 : ieq (.ofNat (W a)) 0 = false := (jaO _ 0 0 rfl).trans (decide_eq_false ha)
 by_cases hb1 : 310 < e
 ·have e1 : ilt 310 e = true := (jbq _ _).trans (decide_eq_true hb1)
  refine ⟨W (W sg ||| 9218868437227405312), .iface 134 (.int .i64 1), .inr (.inl rfl), fun {X k tm μ} hX hL h0 h3 h4 h8 h9 h10 h11 => ?_⟩
  have x1' : ∀ a μ, X 149 [u a] μ = some (.float .f64 (W a), μ) := hX
  have ho := hL.opt
  rw [sa5]
  repeat (first | refine jaf ?_ | ((first | (refine jad ?_ ?_; (focus rfl)) | (refine jac (gs := ?_) ?_ ?_; rotate_left; (focus rfl))); simp only [run1, go_sem, h0, h3, h4, h8, h9, h10, h11, nO, jaD, ho, jcl, b1, Nat.reduceLeDiff, s63, a0, e1, wOrI, jbC, x1', mi1, mi2]) | (refine jab ?_ ?_; (focus (simp only [go_sem, h0, h3, h4, h8, h9, h10, h11, nO, jaD, ho, jcl, b1, Nat.reduceLeDiff, s63, a0, e1, wOrI, jbC, x1', mi1, mi2]; done))) | (refine jaa ?_ ?_; (focus (simp only [go_sem, h0, h3, h4, h8, h9, h10, h11, nO, jaD, ho, jcl, b1, Nat.reduceLeDiff, s63, a0, e1, wOrI, jbC, x1', mi1, mi2]; done))) | ((first | refine jaj ?_ | refine jai ?_ | refine jak ?_); try simp only [go_sem]) | refine jah ?_)
  refine jam ?_
  exact ⟨by trivial, Grow.refl _, _, rfl, (by simp only [go_sem]), (by simp only [go_sem, h3]), (by simp only [go_sem])⟩
 have e1 : ilt 310 e = false := (jbq _ _).trans (decide_eq_false hb1)
 by_cases hb2 : e < -345
 ·have e2 : ilt e (-345) = true := (jbq _ _).trans (decide_eq_true hb2)
  refine ⟨W (W sg ||| 0), .nilIface, .inl rfl, fun {X k tm μ} hX hL h0 h3 h4 h8 h9 h10 h11 => ?_⟩
  have x1' : ∀ a μ, X 149 [u a] μ = some (.float .f64 (W a), μ) := hX
  have ho := hL.opt
  rw [sa5]
  repeat (first | refine jaf ?_ | ((first | (refine jad ?_ ?_; (focus rfl)) | (refine jac (gs := ?_) ?_ ?_; rotate_left; (focus rfl))); simp only [run1, go_sem, h0, h3, h4, h8, h9, h10, h11, nO, jaD, ho, jcl, b1, Nat.reduceLeDiff, s63, a0, e1, e2, wOr0, jbC, x1']) | (refine jab ?_ ?_; (focus (simp only [go_sem, h0, h3, h4, h8, h9, h10, h11, nO, jaD, ho, jcl, b1, Nat.reduceLeDiff, s63, a0, e1, e2, wOr0, jbC, x1']; done))) | (refine jaa ?_ ?_; (focus (simp only [go_sem, h0, h3, h4, h8, h9, h10, h11, nO, jaD, ho, jcl, b1, Nat.reduceLeDiff, s63, a0, e1, e2, wOr0, jbC, x1']; done))) | ((first | refine jaj ?_ | refine jai ?_ | refine jak ?_); try simp only [go_sem]) | refine jah ?_)
  refine jam ?_
  exact ⟨by trivial, Grow.refl _, _, rfl, (by simp only [go_sem]), (by simp only [go_sem, h3]), (by simp only [go_sem])⟩
 have e2 : ilt e (-345) = false := (jbq _ _).trans (decide_eq_false hb2)
 obtain ⟨f1, v1, nv1, hp1⟩ := jge a sg e (by omega) (by omega)
 cases tr with
 | false =>
   obtain ⟨fx, ok, hex⟩ := exact_ex a e neg (by omega) (by omega)
   cases ok with
   | true =>
     refine ⟨fx, .nilIface, .inl rfl, fun {X k tm μ} hX hL h0 h3 h4 h8 h9 h10 h11 => ?_⟩
     have hx1 : ∀ g, 60 ≤ g → aFun Tryz.prog (jat Tryz.prog X S0 g) 150 [u a, .int .i64 e, .bool neg] μ = some (.tuple #[.float .f64 fx, .bool true], μ) := fun g h => hex hL h
     have ho := hL.opt
     rw [sa5]
     repeat (first | refine jaf ?_ | ((first | (refine jad ?_ ?_; (focus rfl)) | (refine jac (gs := ?_) ?_ ?_; rotate_left; (focus rfl))); simp only [run1, go_sem, h0, h3, h4, h8, h9, h10, h11, nO, jaD, ho, jcl, b1, Nat.reduceLeDiff, s63, a0, e1, e2, jjS, hx1]) | (refine jab ?_ ?_; (focus (simp only [go_sem, h0, h3, h4, h8, h9, h10, h11, nO, jaD, ho, jcl, b1, Nat.reduceLeDiff, s63, a0, e1, e2, jjS, hx1]; done))) | (refine jaa ?_ ?_; (focus (simp only [go_sem, h0, h3, h4, h8, h9, h10, h11, nO, jaD, ho, jcl, b1, Nat.reduceLeDiff, s63, a0, e1, e2, jjS, hx1]; done))) | ((first | refine jaj ?_ | refine jai ?_ | refine jak ?_); try simp only [go_sem]) | refine jah ?_)
     refine jam ?_
     exact ⟨by trivial, Grow.refl _, _, rfl, (by simp only [go_sem]), (by simp only [go_sem, h3]), (by simp only [go_sem])⟩
   | false =>
     refine ⟨f1, v1, nv1.three, fun {X k tm μ} hX hL h0 h3 h4 h8 h9 h10 h11 => ?_⟩
     have hx1 : ∀ g, 60 ≤ g → aFun Tryz.prog (jat Tryz.prog X S0 g) 150 [u a, .int .i64 e, .bool neg] μ = some (.tuple #[.float .f64 fx, .bool false], μ) := fun g h => hex hL h
     obtain ⟨μ1, hr, hG⟩ := hp1 (X := X) (g := k + 12090) (μ := μ) hX hL (by omega)
     have ho := hL.opt
     rw [sa5]
     repeat (first | refine jaf ?_ | ((first | (refine jad ?_ ?_; (focus rfl)) | (refine jac (gs := ?_) ?_ ?_; rotate_left; (focus rfl))); simp only [run1, go_sem, h0, h3, h4, h8, h9, h10, h11, nO, jaD, ho, jcl, b1, Nat.reduceLeDiff, s63, a0, e1, e2, jjS, hx1, jgI, hr]) | (refine jab ?_ ?_; (focus (simp only [go_sem, h0, h3, h4, h8, h9, h10, h11, nO, jaD, ho, jcl, b1, Nat.reduceLeDiff, s63, a0, e1, e2, jjS, hx1, jgI, hr]; done))) | (refine jaa ?_ ?_; (focus (simp only [go_sem, h0, h3, h4, h8, h9, h10, h11, nO, jaD, ho, jcl, b1, Nat.reduceLeDiff, s63, a0, e1, e2, jjS, hx1, jgI, hr]; done))) | ((first | refine jaj ?_ | refine jai ?_ | refine jak ?_); try simp only [go_sem]) | refine jah ?_)
     refine jam ?_
     exact ⟨by trivial, hG, _, rfl, (by simp only [go_sem]), (by simp only [go_sem, h3]), (by simp only [go_sem])⟩
 | true =>
   obtain ⟨f2, v2, nv2, hp2⟩ := jge (W a + 1) sg e (by omega) (by omega)
   obtain ⟨fe, hfe⟩ : ∃ fe, feq f1 f2 = fe := ⟨_, rfl⟩
   have pq : ∀ (ρ : Operand → Value) (d : Option Tmp) (t yt ty : TypeId) (x y : Operand) (ps : String) (af : Array Edge) (gd : Option (Nat × Bool)), ρ x = .float .f64 f1 → ρ y = .float .f64 f2 → ja0 Tryz.prog ρ ⟨d, .binOp .eql t x y yt, ty, ps, af, gd⟩ = some (.bool fe) := fun ρ d t yt ty x y ps af gd h1 h2 => by rw [← hfe]; exact plain_feq h1 h2
   cases fe with
   | true =>
     refine ⟨f1, v1, nv1.three, fun {X k tm μ} hX hL h0 h3 h4 h8 h9 h10 h11 => ?_⟩
     obtain ⟨μ1, hr, hG⟩ := hp1 (X := X) (g := k + 12090) (μ := μ) hX hL (by omega)
     obtain ⟨μ2, hr2, hG2⟩ := hp2 (X := X) (g := k + 12088) (μ := μ1) hX (hL.grow hG) (by omega)
     have ho := hL.opt
     rw [sa5]
     repeat (first | refine jaf ?_ | ((first | (refine jad ?_ ?_; (focus rfl)) | (refine jac (gs := ?_) ?_ ?_; rotate_left; (focus rfl))); simp only [run1, go_sem, h0, h3, h4, h8, h9, h10, h11, nO, jaD, ho, jcl, b1, Nat.reduceLeDiff, s63, a0, e1, e2, jgI, hr, je3, hr2, anf, pq]) | (refine jab ?_ ?_; (focus (simp only [go_sem, h0, h3, h4, h8, h9, h10, h11, nO, jaD, ho, jcl, b1, Nat.reduceLeDiff, s63, a0, e1, e2, jgI, hr, je3, hr2, anf, pq]; done))) | (refine jaa ?_ ?_; (focus (simp only [go_sem, h0, h3, h4, h8, h9, h10, h11, nO, jaD, ho, jcl, b1, Nat.reduceLeDiff, s63, a0, e1, e2, jgI, hr, je3, hr2, anf, pq]; done))) | ((first | refine jaj ?_ | refine jai ?_ | refine jak ?_); try simp only [go_sem]) | refine jah ?_)
     refine jam ?_
     exact ⟨by trivial, hG.trans hG2, _, rfl, (by simp only [go_sem]), (by simp only [go_sem, h3]), (by simp only [go_sem])⟩
   | false =>
     obtain ⟨f, v, hv, hslow⟩ := slow_ex hs hl n hn
     refine ⟨f, v, hv, fun {X k tm μ} hX hL h0 h3 h4 h8 h9 h10 h11 => ?_⟩
     obtain ⟨μ1, hr, hG⟩ := hp1 (X := X) (g := k + 12090) (μ := μ) hX hL (by omega)
     obtain ⟨μ2, hr2, hG2⟩ := hp2 (X := X) (g := k + 12088) (μ := μ1) hX (hL.grow hG) (by omega)
     have ho := hL.opt
     rw [sa5]
     repeat (first | refine jaf ?_ | ((first | (refine jad ?_ ?_; (focus rfl)) | (refine jac (gs := ?_) ?_ ?_; rotate_left; (focus rfl))); simp only [run1, go_sem, h0, h3, h4, h8, h9, h10, h11, nO, jaD, ho, jcl, b1, Nat.reduceLeDiff, s63, a0, e1, e2, jgI, hr, je3, hr2, anf, pq]) | (refine jab ?_ ?_; (focus (simp only [go_sem, h0, h3, h4, h8, h9, h10, h11, nO, jaD, ho, jcl, b1, Nat.reduceLeDiff, s63, a0, e1, e2, jgI, hr, je3, hr2, anf, pq]; done))) | (refine jaa ?_ ?_; (focus (simp only [go_sem, h0, h3, h4, h8, h9, h10, h11, nO, jaD, ho, jcl, b1, Nat.reduceLeDiff, s63, a0, e1, e2, jgI, hr, je3, hr2, anf, pq]; done))) | ((first | refine jaj ?_ | refine jai ?_ | refine jak ?_); try simp only [go_sem]) | refine jah ?_)
     refine EndsC.mono (hslow (k := k + 99) hX (hL.grow (hG.trans hG2)) (by simp only [go_sem, h0]) (by simp only [go_sem, h3]) (by simp only [go_sem, h4])) ?_
     rintro x r μ3 ⟨hx, g, gg⟩
     exact ⟨hx, (hG.trans hG2).trans g, gg⟩
theorem atof64_ex {s : ByteArray} (hs : ∀ c ∈ bys s, c ∈ nums) (hl : (bys s).length ≤ 1000) (h0 : 0 < (bys s).length) : ∃ (f n : Nat) (v : Value), Err3 v ∧ ∀ {X : XT} {g : Nat} {μ : Mem}, jbr X → Lay μ → 13000 ≤ g →
  ∃ μ', aFun Tryz.prog (jat Tryz.prog X S0 g) 123 [.string s] μ = some (.tuple #[.float .f64 f, .int .i64 (.ofNat n), v], μ') ∧ Grow μ μ' := by
 obtain ⟨a, e, neg, tr, n, ok, c1, c2, c3, hrf⟩ := jhl hs hl h0
 have key : ∃ (f : Nat) (v : Value), Err3 v ∧ ∀ {X : XT} {k : Nat} {tm : T Value} {μ : Mem}, jbr X → Lay μ → jaq tm 0 = .string s → jaq tm 4 = .nilIface →
   EndsC (jat Tryz.prog X S0 (k + 12200) (ja1 2 (jaB Tryz.f123)) ⟨143, tm, [], none⟩ μ) (FinA f n v μ) := by
  cases ok with
  | false =>
    refine ⟨0, .iface 134 (.int .i64 2), .inr (.inr rfl), fun {X k tm μ} hX hL h0 h4 => ?_⟩
    have hr : ∀ g, 2000 ≤ g → aFun Tryz.prog (jat Tryz.prog X S0 g) 140 [.string s] μ = some (.tuple #[u a, .int .i64 e, .bool neg, .bool tr, .bool false, .int .i64 (.ofNat n), .bool false], μ) := fun g h => hrf h
    rw [sa2]
    repeat (first | refine jaf ?_ | ((first | (refine jad ?_ ?_; (focus rfl)) | (refine jac (gs := ?_) ?_ ?_; rotate_left; (focus rfl))); simp only [run1, go_sem, h0, h4, jjU, hr, Nat.reduceLeDiff, mi1, mi2]) | (refine jab ?_ ?_; (focus (simp only [go_sem, h0, h4, jjU, hr, Nat.reduceLeDiff, mi1, mi2]; done))) | (refine jaa ?_ ?_; (focus (simp only [go_sem, h0, h4, jjU, hr, Nat.reduceLeDiff, mi1, mi2]; done))) | ((first | refine jaj ?_ | refine jai ?_ | refine jak ?_); try simp only [go_sem]) | refine jah ?_)
    refine jam ?_
    exact ⟨by trivial, Grow.refl _, _, rfl, (by simp only [go_sem]), (by simp only [go_sem]), (by simp only [go_sem])⟩
  | true =>
    obtain ⟨f, v, hv, h5⟩ := at5_ex hs hl a n e neg tr c3 c1 c2
    refine ⟨f, v, hv, fun {X k tm μ} hX hL h0 h4 => ?_⟩
    have hr : ∀ g, 2000 ≤ g → aFun Tryz.prog (jat Tryz.prog X S0 g) 140 [.string s] μ = some (.tuple #[u a, .int .i64 e, .bool neg, .bool tr, .bool false, .int .i64 (.ofNat n), .bool true], μ) := fun g h => hrf h
    rw [sa2]
    repeat (first | refine jaf ?_ | ((first | (refine jad ?_ ?_; (focus rfl)) | (refine jac (gs := ?_) ?_ ?_; rotate_left; (focus rfl))); simp only [run1, go_sem, h0, h4, jjU, hr, Nat.reduceLeDiff]) | (refine jab ?_ ?_; (focus (simp only [go_sem, h0, h4, jjU, hr, Nat.reduceLeDiff]; done))) | (refine jaa ?_ ?_; (focus (simp only [go_sem, h0, h4, jjU, hr, Nat.reduceLeDiff]; done))) | ((first | refine jaj ?_ | refine jai ?_ | refine jak ?_); try simp only [go_sem]) | refine jah ?_)
    exact h5 (k := k + 97) hX hL (by simp only [go_sem, h0]) (by simp only [go_sem]) (by simp only [go_sem, h4]) (by simp only [go_sem]) (by simp only [go_sem]) (by simp only [go_sem]) (by simp only [go_sem])
 obtain ⟨f, v, hv, h2⟩ := key
 refine ⟨f, n, v, hv, fun {X g μ} hX hL hg => ?_⟩
 obtain ⟨k, rfl⟩ := gle hg
 have hsp : ∀ g μ, 100 ≤ g → aFun Tryz.prog (jat Tryz.prog X S0 g) 139 [.string s] μ = some (.tuple #[.float .f64 0, .int .i64 0, .bool false], μ) := fun g μ h => jjn h hs h0
 have key : EndsF (aFun Tryz.prog (jat Tryz.prog X S0 (k + 13000)) 123 [.string s] μ) fun w μ' => w = .tuple #[.float .f64 f, .int .i64 (.ofNat n), v] ∧ Grow μ μ' := by
  refine jan Tryz.func123 rfl rfl (nbl rfl) ?_
  simp only [go_sem, Tryz.ntmps123]
  change EndsC (jat Tryz.prog X S0 _ (jaB Tryz.f123) _ _) _
  rw [sa0]
  repeat (first | refine jaf ?_ | ((first | (refine jad ?_ ?_; (focus rfl)) | (refine jac (gs := ?_) ?_ ?_; rotate_left; (focus rfl))); simp only [run1, go_sem, gg139, hsp, Nat.reduceLeDiff]) | (refine jab ?_ ?_; (focus (simp only [go_sem, gg139, hsp, Nat.reduceLeDiff]; done))) | (refine jaa ?_ ?_; (focus (simp only [go_sem, gg139, hsp, Nat.reduceLeDiff]; done))) | ((first | refine jaj ?_ | refine jai ?_ | refine jak ?_); try simp only [go_sem]) | refine jah ?_)
  refine EndsC.mono (h2 (k := k + 798) hX hL (by simp only [go_sem]) (by simp only [go_sem])) ?_
  rintro x r μ' ⟨rfl, g, tm', rfl, g2, g3, g4⟩
  refine ⟨rfl, _, ?_, rfl, g⟩
  simp only [go_sem, Tryz.results123]
  simp only [g2, g3, g4]
 obtain ⟨w, μ', h1, rfl, h2⟩ := key
 exact ⟨μ', h1, h2⟩
end
noncomputable section
section
set_option linter.defProp false
variable {X : XT} {ev : Code → Rg → Mem → Option (Ax × Rg × Mem)}
def gg123 := go_call (P := Tryz.prog) (X := X) (ev := ev) (S := S0) Tryz.func123 rfl rfl
def jjV := go_call (P := Tryz.prog) (X := X) (ev := ev) (S := S0) Tryz.func102 rfl rfl
def gg80 := go_call (P := Tryz.prog) (X := X) (ev := ev) (S := S0) Tryz.func80 rfl rfl
def gg81 := go_call (P := Tryz.prog) (X := X) (ev := ev) (S := S0) Tryz.func81 rfl rfl
def gg103 := go_call (P := Tryz.prog) (X := X) (ev := ev) (S := S0) Tryz.func103 rfl rfl
def gg104 := go_call (P := Tryz.prog) (X := X) (ev := ev) (S := S0) Tryz.func104 rfl rfl
def gg124 := go_call (P := Tryz.prog) (X := X) (ev := ev) (S := S0) Tryz.func124 rfl rfl
def gg53 := go_call (P := Tryz.prog) (X := X) (ev := ev) (S := S0) Tryz.func53 rfl rfl
end
theorem jig {s : ByteArray} (hs : ∀ c ∈ bys s, c ∈ nums) (hl : (bys s).length ≤ 1000) (h0 : 0 < (bys s).length) : ∃ (f : Nat) (v : Value), Err3 v ∧ ∀ {X : XT} {g : Nat} {μ : Mem}, jbr X → Lay μ → 13100 ≤ g →
  ∃ μ', aFun Tryz.prog (jat Tryz.prog X S0 g) 80 [.string s, .int .i64 64] μ = some (.tuple #[.float .f64 f, v], μ') ∧ Grow μ μ' := by
 obtain ⟨f, n, v, hv, hat⟩ := atof64_ex hs hl h0
 have ls := ja5 s
 have e32 : ieq 64 32 = false := rfl
 have pre : ∀ {X : XT} {g : Nat} {μ : Mem}, jbr X → Lay μ → 13050 ≤ g →
   ∃ μ', aFun Tryz.prog (jat Tryz.prog X S0 g) 102 [.string s, .int .i64 64] μ = some (.tuple #[.float .f64 f, .int .i64 (.ofNat n), v], μ') ∧ Grow μ μ' := fun {X g μ} hX hL hg => by
  obtain ⟨k, rfl⟩ := gle hg
  obtain ⟨μ1, hr, hG⟩ := hat (X := X) (g := k + 13046) (μ := μ) hX hL (by omega)
  have key : EndsF (aFun Tryz.prog (jat Tryz.prog X S0 (k + 13050)) 102 [.string s, .int .i64 64] μ) fun w μ' => w = .tuple #[.float .f64 f, .int .i64 (.ofNat n), v] ∧ μ' = μ1 := by
   refine jan Tryz.func102 rfl rfl (nbl rfl) ?_
   simp only [go_sem, Tryz.ntmps102]
   repeat (first | refine jaf ?_ | ((first | (refine jad ?_ ?_; (focus rfl)) | (refine jac (gs := ?_) ?_ ?_; rotate_left; (focus rfl))); simp only [run1, go_sem, e32, gg123, hr]) | (refine jab ?_ ?_; (focus (simp only [go_sem, e32, gg123, hr]; done))) | (refine jaa ?_ ?_; (focus (simp only [go_sem, e32, gg123, hr]; done))) | ((first | refine jaj ?_ | refine jai ?_ | refine jak ?_); try simp only [go_sem]) | refine jah ?_)
   refine jam ?_
   refine ⟨rfl, _, ?_, rfl, rfl⟩
   simp only [go_sem, Tryz.results102]
  obtain ⟨w, μ', h1, rfl, rfl⟩ := key
  exact ⟨_, h1, hG⟩
 by_cases hn : n = (bys s).length
 ·have e1 : ieq (.ofNat n) (.ofNat (bys s).length) = true := (jb7 _ _).trans (decide_eq_true hn)
  refine ⟨f, v, hv, fun {X g μ} hX hL hg => ?_⟩
  obtain ⟨k, rfl⟩ := gle hg
  obtain ⟨μ1, hr, hG⟩ := pre (X := X) (g := k + 13097) (μ := μ) hX hL (by omega)
  have key : EndsF (aFun Tryz.prog (jat Tryz.prog X S0 (k + 13100)) 80 [.string s, .int .i64 64] μ) fun w μ' => w = .tuple #[.float .f64 f, v] ∧ μ' = μ1 := by
   refine jan Tryz.func80 rfl rfl (nbl rfl) ?_
   simp only [go_sem, Tryz.ntmps80]
   repeat (first | refine jaf ?_ | ((first | (refine jad ?_ ?_; (focus rfl)) | (refine jac (gs := ?_) ?_ ?_; rotate_left; (focus rfl))); simp only [run1, go_sem, jjV, hr, jae, ls, jag, e1]) | (refine jab ?_ ?_; (focus (simp only [go_sem, jjV, hr, jae, ls, jag, e1]; done))) | (refine jaa ?_ ?_; (focus (simp only [go_sem, jjV, hr, jae, ls, jag, e1]; done))) | ((first | refine jaj ?_ | refine jai ?_ | refine jak ?_); try simp only [go_sem]) | refine jah ?_)
   refine jam ?_
   refine ⟨rfl, _, ?_, rfl, rfl⟩
   simp only [go_sem, Tryz.results80]
  obtain ⟨w, μ', h1, rfl, rfl⟩ := key
  exact ⟨_, h1, hG⟩
 ·have e1 : ieq (.ofNat n) (.ofNat (bys s).length) = false := (jb7 _ _).trans (decide_eq_false hn)
  refine ⟨0, .iface 134 (.int .i64 2), .inr (.inr rfl), fun {X g μ} hX hL hg => ?_⟩
  obtain ⟨k, rfl⟩ := gle hg
  obtain ⟨μ1, hr, hG⟩ := pre (X := X) (g := k + 13097) (μ := μ) hX hL (by omega)
  have key : EndsF (aFun Tryz.prog (jat Tryz.prog X S0 (k + 13100)) 80 [.string s, .int .i64 64] μ) fun w μ' => w = .tuple #[.float .f64 0, .iface 134 (.int .i64 2)] ∧ μ' = μ1 := by
   refine jan Tryz.func80 rfl rfl (nbl rfl) ?_
   simp only [go_sem, Tryz.ntmps80]
   repeat (first | refine jaf ?_ | ((first | (refine jad ?_ ?_; (focus rfl)) | (refine jac (gs := ?_) ?_ ?_; rotate_left; (focus rfl))); simp only [run1, go_sem, jjV, hr, jae, ls, jag, e1, mi2]) | (refine jab ?_ ?_; (focus (simp only [go_sem, jjV, hr, jae, ls, jag, e1, mi2]; done))) | (refine jaa ?_ ?_; (focus (simp only [go_sem, jjV, hr, jae, ls, jag, e1, mi2]; done))) | ((first | refine jaj ?_ | refine jai ?_ | refine jak ?_); try simp only [go_sem]) | refine jah ?_)
   refine jam ?_
   refine ⟨rfl, _, ?_, rfl, rfl⟩
   simp only [go_sem, Tryz.results80]
  obtain ⟨w, μ', h1, rfl, rfl⟩ := key
  exact ⟨_, h1, hG⟩
def bysV (s : ByteArray) : List Value := s.data.toList.map fun b => .int .u8 b.toNat
theorem jgS (s : ByteArray) : (bysV s).length = (bys s).length := by unfold bysV bys; simp
theorem jhI (l : List UInt8) : jdc (l.map fun b => Value.int .u8 b.toNat) = some l := by
 induction l with
 | nil => rfl
 | cons b l ih =>
   show jdc (.int .u8 (.ofNat b.toNat) :: l.map _) = _
   unfold jdc
   rw [show Nat.blt b.toNat 256 = true from by have := b.toNat_lt; simpa using this]
   rw [ih]
   simp
theorem z_u8 : jbn Tryz.prog 5 = some (.int .u8 0) := by unfold jbn; rw [i_u8]; rfl
def obB (m : Nat) : Ob := .cells m 5 #[.int .u8 0] .e 0 0 false false
theorem ms_bs {m : Nat} (hm : m ≤ 1000) : jc3 Tryz.prog 97 (.int .i64 (.ofNat m)) (.int .i64 (.ofNat m)) = some (obB m, fun id => .slice (some ⟨id, 0, none⟩) m (2 * m)) := by
 unfold jc3
 have e1 : Nat.ble m m = true := Nat.ble_eq_true_of_le (Nat.le_refl _)
 have e2 : Nat.ble m 1073741824 = true := Nat.ble_eq_true_of_le (by omega)
 have e3 : Nat.ble (Nat.mul m Tryz.t5.bytes) 1099511627776 = true := Nat.ble_eq_true_of_le (by show m * 1 ≤ _; omega)
 simp only [Tryz.underlying97, i_u8, e1, e2, e3, z_u8]
 show some (Ob.cells (Nat.mul m 1) _ _ _ _ _ _ _, _) = _
 rw [show Nat.mul m 1 = m from Nat.mul_one m]
 rfl
theorem copy_bs {μ : Mem} {s : ByteArray} {i : Nat} (h0 : 0 < (bys s).length) (hg : μ.obs.get i = some (obB (bys s).length)) (c : Nat) : jka Tryz.prog μ 97 (.slice (some ⟨i, 0, none⟩) (bys s).length c) (.string s) = some (.int .i64 (.ofNat (bys s).length), ⟨μ.obs.set i (.cells (bys s).length 5 #[.int .u8 0] ((T.e).lay 0 (bysV s)) 0 0 false false), μ.next⟩) := by
 unfold jka
 have el : s.data.toList.length = (bys s).length := (jfI s).symm
 have e0 : lenV (.string s) = some (bys s).length := by
  show some s.data.toList.length = _
  rw [el]
 have e1 : Nat.min (bys s).length (bys s).length = (bys s).length := Nat.min_self _
 simp only [Tryz.underlying97, i_u8, e0, e1, jbw]
 have e2 : (s.data.toList.take (bys s).length).map (fun b => Value.int .u8 b.toNat) = bysV s := by rw [List.take_of_length_le (by rw [el]; exact Nat.le_refl _)]; rfl
 rw [e2]
 have e3 : ∃ v l, bysV s = v :: l := by
  cases h : bysV s with
  | nil => have := jgS s; rw [h] at this; simp at this; omega
  | cons v l => exact ⟨v, l, rfl⟩
 obtain ⟨v, l, e3⟩ := e3
 have e4 : jbO (bys s).length 0 0 0 (bysV s).length = true := by
  unfold jbO
  rw [jgS, show Nat.ble (Nat.add 0 (bys s).length) (bys s).length = true from Nat.ble_eq_true_of_le (by show 0 + _ ≤ _; omega)]
  rfl
 have e5 : scalars (bysV s) = true := jfm _ (by unfold bysV; rw [List.all_map]; exact List.all_eq_true.2 fun x _ => rfl)
 rw [e3] at e4 e5 ⊢
 simp only [hg, obB, e4, e5]
 rfl
theorem us_bs {μ : Mem} {s : ByteArray} {i : Nat} (h0 : 0 < (bys s).length) (hl : (bys s).length ≤ 1000) (hg : μ.obs.get i = some (.cells (bys s).length 5 #[.int .u8 0] ((T.e).lay 0 (bysV s)) 0 0 false false)) : ∃ o, jb8 Tryz.prog μ 125 (.pointer (some ⟨i, 0, none⟩)) (.int .i64 (.ofNat (bys s).length)) = some (.string ⟨s.data.toList.toArray⟩, ⟨μ.obs.set i o, μ.next⟩) := by
 unfold jb8
 obtain ⟨m, hm⟩ : ∃ m, (bys s).length = m + 1 := ⟨(bys s).length - 1, by omega⟩
 have ec : jaK #[.int .u8 0] ((T.e).lay 0 (bysV s)) 0 (bys s).length = bysV s := jcN _ _ _ (jgS s) fun k hk => by
  rw [jcf, dif_pos (by omega)]
  simp
 have e1 : Nat.ble (bys s).length (bys s).length = true := Nat.ble_eq_true_of_le (Nat.le_refl _)
 have e2 : Nat.ble (bys s).length 1073741824 = true := Nat.ble_eq_true_of_le (by omega)
 have e3 : jdc (bysV s) = some s.data.toList := jhI _
 have e4 : Nat.beq (Tryz.prog.cellsOf 5) 1 = true := by kernel_rfl
 rw [← ec] at e3
 rw [hm] at e1 e2 e3 hg ⊢
 simp only [hg, Tryz.underlying125, Nat.beq_refl, e4, e1, e2, e3]
 exact ⟨_, rfl⟩
theorem ji0 {s : ByteArray} (h0 : 0 < (bys s).length) (hl : (bys s).length ≤ 1000) {X : XT} {g : Nat} {μ : Mem} (hg : 40 ≤ g) : ∃ (x : ByteArray) (μ' : Mem), aFun Tryz.prog (jat Tryz.prog X S0 g) 124 [.string s] μ = some (.string x, μ') ∧ Grow μ μ' := by
 obtain ⟨k, rfl⟩ := gle hg
 have ls := ja5 s
 have e0 : ieq (.ofNat (bys s).length) 0 = false := (jaO _ 0 0 rfl).trans (decide_eq_false (by omega))
 have ms := ms_bs hl
 have g1 : (μ.obs.set μ.next (obB (bys s).length)).get μ.next = some (obB (bys s).length) := by rw [T.get_set, if_pos rfl]
 have cp := copy_bs (μ := ⟨μ.obs.set μ.next (obB (bys s).length), μ.next + 1⟩) h0 g1 (2 * (bys s).length)
 obtain ⟨μ2, hμ2⟩ : ∃ μ2 : Mem, μ2 = ⟨(μ.obs.set μ.next (obB (bys s).length)).set μ.next (.cells (bys s).length 5 #[.int .u8 0] ((T.e).lay 0 (bysV s)) 0 0 false false), μ.next + 1⟩ := ⟨_, rfl⟩
 have g2 : μ2.obs.get μ.next = some (.cells (bys s).length 5 #[.int .u8 0] ((T.e).lay 0 (bysV s)) 0 0 false false) := by rw [hμ2]; show T.get _ _ = _; rw [T.get_set, if_pos rfl]
 obtain ⟨o, us⟩ := us_bs h0 hl g2
 have cp : jka Tryz.prog ⟨μ.obs.set μ.next (obB (bys s).length), μ.next + 1⟩ 97 (.slice (some ⟨μ.next, 0, none⟩) (bys s).length (2 * (bys s).length)) (.string s) = some (.int .i64 (.ofNat (bys s).length), μ2) := by rw [hμ2]; exact cp
 have hix : ∀ (r : Rg) (a : Operand), aev Tryz.prog r a = .slice (some ⟨μ.next, 0, none⟩) (bys s).length (2 * (bys s).length) → jaE Tryz.prog (aev Tryz.prog r) 97 a (.const (.int .i64 0)) = some (.pointer (some ⟨μ.next, 0, none⟩)) := fun r a h => by
  rw [jaZ (P := Tryz.prog) (m := 0) (kd := .i64) Tryz.underlying97 i_u8 rfl h rfl h0]
 have hG : Grow μ ⟨μ2.obs.set μ.next o, μ2.next⟩ := by
  rw [hμ2]
  refine ⟨Nat.le_succ _, fun i hi => ?_⟩
  show (T.set (T.set (T.set _ _ _) _ _) _ _).get i = _
  rw [T.get_set, if_neg (by omega), T.get_set, if_neg (by omega), T.get_set, if_neg (by omega)]
 refine ⟨⟨s.data.toList.toArray⟩, _, ?_, hG⟩
 refine jaQ ?_
 refine jan Tryz.func124 rfl rfl (nbl rfl) ?_
 simp only [go_sem, Tryz.ntmps124]
 repeat (first | refine jaf ?_ | ((first | (refine jad ?_ ?_; (focus rfl)) | (refine jac (gs := ?_) ?_ ?_; rotate_left; (focus rfl))); simp only [run1, go_sem, jae, ls, je4, jag, e0, ms, Nat.add_eq, cp, hix, us]) | (refine jab ?_ ?_; (focus (simp only [go_sem, jae, ls, je4, jag, e0, ms, Nat.add_eq, cp, hix, us]; done))) | (refine jaa ?_ ?_; (focus (simp only [go_sem, jae, ls, je4, jag, e0, ms, Nat.add_eq, cp, hix, us]; done))) | ((first | refine jaj ?_ | refine jai ?_ | refine jak ?_); try simp only [go_sem]) | refine jah ?_)
 refine jam ?_
 refine ⟨rfl, _, ?_, rfl, rfl⟩
 simp only [go_sem, Tryz.results124]
end
noncomputable section
theorem an1 (a : TypeId) (b : Value) : aNil Tryz.prog 88 (.iface a b) .nilIface = true := by
 unfold aNil
 simp only [Tryz.underlying88]
theorem an2 : aNil Tryz.prog 88 .nilIface .nilIface = false := rfl
theorem an3 (a c : TypeId) (b d : Value) : aNil Tryz.prog 88 (.iface a b) (.iface c d) = false := rfl
theorem p_nn (r : Rg) {d : Option Tmp} {yt ty : TypeId} {x : Operand} {ps : String} {af : Array Edge} {gd : Option (Nat × Bool)} (hx : aev Tryz.prog r x = .nilIface) : ja0 Tryz.prog (aev Tryz.prog r) ⟨d, .binOp .neq 88 x (.const .nilIface) yt, ty, ps, af, gd⟩ = some (.bool false) := by
 have hy : aev Tryz.prog r (.const .nilIface) = .nilIface := rfl
 unfold ja0
 have e : pv Tryz.prog (execOp (aev Tryz.prog r) ⟨d, .binOp .neq 88 x (.const .nilIface) yt, ty, ps, af, gd⟩) = some (.value (.bool false)) := by
  simp only [execOp, hx, hy]
  cases x <;> kernel_rfl
 simp only [opsOf, jb6, hx, hy, jaV, e]
theorem p_ee (a b : Nat) (hab : a = 1 ∨ a = 2) (hb : b = 1 ∨ b = 2) {ρ : Operand → Value} {d : Option Tmp} {yt ty : TypeId} {x y : Operand} {ps : String} {af : Array Edge} {gd : Option (Nat × Bool)} (hx : ρ x = .iface 134 (.int .i64 (.ofNat a))) (hy : ρ y = .iface 134 (.int .i64 (.ofNat b))) : ja0 Tryz.prog ρ ⟨d, .binOp .eql 88 x y yt, ty, ps, af, gd⟩ = some (.bool (decide (a = b))) := by
 unfold ja0
 have e : pv Tryz.prog (execOp ρ ⟨d, .binOp .eql 88 x y yt, ty, ps, af, gd⟩) = some (.value (.bool (decide (a = b)))) := by
  simp only [execOp, hx, hy]
  rcases hab with rfl | rfl <;> rcases hb with rfl | rfl <;> kernel_rfl
 simp only [opsOf, jb6, hx, hy, jaV, e]
theorem z_ne : jbn Tryz.prog 155 = some (.agg #[.string ⟨#[]⟩, .string ⟨#[]⟩, .nilIface]) := by kernel_rfl
theorem ji3 {ρ : Operand → Value} {a b c : Operand} {p x v : Value} (ha : ρ a = p) (hb : ρ b = x) (hc : ρ c = v) (hp : one p = true) (hx : one x = true) (hv : one v = true) : jb9 Tryz.prog ρ 155 #[(0, a), (1, b), (2, c)] = some (.agg #[p, x, v]) := by
 have hpl : ∃ f, Tryz.prog.underlying 155 = some (.struct f) ∧ jcI Tryz.prog f.toList = some [(0, 1), (1, 1), (2, 1)] := ⟨_, Tryz.underlying155, by kernel_rfl⟩
 obtain ⟨f, h1, h2⟩ := hpl
 refine jb0 (cs := [p, x, v]) z_ne h1 h2 ?_
 simp only [List.map_cons, List.map_nil, ha, hb, hc]
 show jdg _ [.string ⟨#[]⟩, .string ⟨#[]⟩, .nilIface] [(0, p), (1, x), (2, v)] = _
 rw [jdw (off := 0) rfl hp (by decide)]
 show jdg _ [p, .string ⟨#[]⟩, .nilIface] [(1, x), (2, v)] = _
 rw [jdw (off := 1) rfl hx (by simp)]
 show jdg _ [p, x, .nilIface] [(2, v)] = _
 rw [jdw (off := 2) rfl hv (by simp)]
 rfl
theorem synErr_ex {pf s : ByteArray} (h0 : 0 < (bys s).length) (hl : (bys s).length ≤ 1000) {X : XT} {g : Nat} {μ : Mem} (hL : Lay μ) (hg : 60 ≤ g) : ∃ (a : Nat) (μ' : Mem), aFun Tryz.prog (jat Tryz.prog X S0 g) 103 [.string pf, .string s] μ = some (.pointer (some ⟨a, 0, none⟩), μ') ∧ Grow μ μ' := by
 obtain ⟨k, rfl⟩ := gle hg
 obtain ⟨x, μ1, hc, hG⟩ := ji0 h0 hl (X := X) (g := k + 57) (μ := ⟨μ.obs, μ.next + 7⟩) (by omega)
 obtain ⟨v, v1, v2⟩ := hL.es
 have v3 : jau μ1 4 0 = some v := (jbZ ((jdr μ 7).trans hG) (Nat.lt_of_le_of_lt (by decide) hL.lt) 0).trans v1
 have v4 : ∀ z, jau ⟨μ.obs, z⟩ 4 0 = some v := fun z => v1
 have hb : ∀ (r : Rg) (a b c : Operand), aev Tryz.prog r a = .string pf → aev Tryz.prog r b = .string x → aev Tryz.prog r c = v → jb9 Tryz.prog (aev Tryz.prog r) 155 #[(0, a), (1, b), (2, c)] = some (.agg #[.string pf, .string x, v]) := fun r a b c g1 g2 g3 => ji3 g1 g2 g3 rfl rfl v2
 have key : EndsF (aFun Tryz.prog (jat Tryz.prog X S0 (k + 60)) 103 [.string pf, .string s] μ) fun w μ' => ∃ a, w = .pointer (some ⟨a, 0, none⟩) ∧ Grow μ μ' := by
  refine jan Tryz.func103 rfl rfl (nbl rfl) ?_
  simp only [go_sem, Tryz.ntmps103]
  refine jaf ?_
  refine jad ?_ ?_
  ·rfl
  simp only [go_sem]
  refine jaf ?_
  refine jaU (n := 7) (ms := [0, 0, 2, 0, 15, 31, 63]) (ord := [1, 2, 0, 3, 4, 5, 6]) (ds := ?_) ?_ ?_ ?_ ?_ ?_ ?_
  rotate_left
  ·kernel_rfl
  ·kernel_rfl
  ·kernel_rfl
  ·rfl
  ·rfl
  iterate 7 (refine jaS (by first | rfl | (simp only [go_sem, nS, jfb, gg124, hc, v3, v4, hb, aBox, jbc, jdo, (show bef [0, 0, 2, 0, 15, 31, 63] 2 3 = false from by kernel_rfl)])) (by simp only [jaT, heavy, jba, jaJ, go_sem, nS, jfb, gg124, hc, v3, v4, hb, aBox, jbc, jdo, (show bef [0, 0, 2, 0, 15, 31, 63] 2 3 = false from by kernel_rfl)]; try exact rfl) rfl ?_)
  simp only [dRun, jaM, jao]
  refine jam ?_
  refine ⟨rfl, _, ?_, μ.next + 5, rfl, ?_⟩
  ·skip
   simp only [go_sem, Tryz.results103]
  ·refine ⟨Nat.le_trans (Nat.le_add_right _ 7) hG.1, fun j hj => ?_⟩
   show T.get (T.set _ _ _) j = _
   rw [T.get_set, if_neg (by show j ≠ μ.next + 5; omega)]
   exact hG.2 j (Nat.lt_of_lt_of_le hj (Nat.le_add_right _ 7))
 obtain ⟨w, μ', h1, a, rfl, h2⟩ := key
 exact ⟨a, μ', h1, h2⟩
theorem rngErr_ex {pf s : ByteArray} (h0 : 0 < (bys s).length) (hl : (bys s).length ≤ 1000) {X : XT} {g : Nat} {μ : Mem} (hL : Lay μ) (hg : 60 ≤ g) : ∃ (a : Nat) (μ' : Mem), aFun Tryz.prog (jat Tryz.prog X S0 g) 104 [.string pf, .string s] μ = some (.pointer (some ⟨a, 0, none⟩), μ') ∧ Grow μ μ' := by
 obtain ⟨k, rfl⟩ := gle hg
 obtain ⟨x, μ1, hc, hG⟩ := ji0 h0 hl (X := X) (g := k + 57) (μ := ⟨μ.obs, μ.next + 7⟩) (by omega)
 obtain ⟨v, v1, v2⟩ := hL.er
 have v3 : jau μ1 5 0 = some v := (jbZ ((jdr μ 7).trans hG) (Nat.lt_of_le_of_lt (by decide) hL.lt) 0).trans v1
 have v4 : ∀ z, jau ⟨μ.obs, z⟩ 5 0 = some v := fun z => v1
 have hb : ∀ (r : Rg) (a b c : Operand), aev Tryz.prog r a = .string pf → aev Tryz.prog r b = .string x → aev Tryz.prog r c = v → jb9 Tryz.prog (aev Tryz.prog r) 155 #[(0, a), (1, b), (2, c)] = some (.agg #[.string pf, .string x, v]) := fun r a b c g1 g2 g3 => ji3 g1 g2 g3 rfl rfl v2
 have key : EndsF (aFun Tryz.prog (jat Tryz.prog X S0 (k + 60)) 104 [.string pf, .string s] μ) fun w μ' => ∃ a, w = .pointer (some ⟨a, 0, none⟩) ∧ Grow μ μ' := by
  refine jan Tryz.func104 rfl rfl (nbl rfl) ?_
  simp only [go_sem, Tryz.ntmps104]
  refine jaf ?_
  refine jad ?_ ?_
  ·rfl
  simp only [go_sem]
  refine jaf ?_
  refine jaU (n := 7) (ms := [0, 0, 2, 0, 15, 31, 63]) (ord := [1, 2, 0, 3, 4, 5, 6]) (ds := ?_) ?_ ?_ ?_ ?_ ?_ ?_
  rotate_left
  ·kernel_rfl
  ·kernel_rfl
  ·kernel_rfl
  ·rfl
  ·rfl
  iterate 7 (refine jaS (by first | rfl | (simp only [go_sem, nR, jfb, gg124, hc, v3, v4, hb, aBox, jbc, jdo, (show bef [0, 0, 2, 0, 15, 31, 63] 2 3 = false from by kernel_rfl)])) (by simp only [jaT, heavy, jba, jaJ, go_sem, nR, jfb, gg124, hc, v3, v4, hb, aBox, jbc, jdo, (show bef [0, 0, 2, 0, 15, 31, 63] 2 3 = false from by kernel_rfl)]; try exact rfl) rfl ?_)
  simp only [dRun, jaM, jao]
  refine jam ?_
  refine ⟨rfl, _, ?_, μ.next + 5, rfl, ?_⟩
  ·skip
   simp only [go_sem, Tryz.results104]
  ·refine ⟨Nat.le_trans (Nat.le_add_right _ 7) hG.1, fun j hj => ?_⟩
   show T.get (T.set _ _ _) j = _
   rw [T.get_set, if_neg (by show j ≠ μ.next + 5; omega)]
   exact hG.2 j (Nat.lt_of_lt_of_le hj (Nat.le_add_right _ 7))
 obtain ⟨w, μ', h1, a, rfl, h2⟩ := key
 exact ⟨a, μ', h1, h2⟩
theorem pe22 (r : Rg) {d : Option Tmp} {yt ty : TypeId} {x y : Operand} {ps : String} {af : Array Edge} {gd : Option (Nat × Bool)} (hx : aev Tryz.prog r x = .iface 134 (.int .i64 2)) (hy : aev Tryz.prog r y = .iface 134 (.int .i64 2)) : ja0 Tryz.prog (aev Tryz.prog r) ⟨d, .binOp .eql 88 x y yt, ty, ps, af, gd⟩ = some (.bool true) := p_ee 2 2 (.inr rfl) (.inr rfl) hx hy
theorem pe12 (r : Rg) {d : Option Tmp} {yt ty : TypeId} {x y : Operand} {ps : String} {af : Array Edge} {gd : Option (Nat × Bool)} (hx : aev Tryz.prog r x = .iface 134 (.int .i64 1)) (hy : aev Tryz.prog r y = .iface 134 (.int .i64 2)) : ja0 Tryz.prog (aev Tryz.prog r) ⟨d, .binOp .eql 88 x y yt, ty, ps, af, gd⟩ = some (.bool false) := p_ee 1 2 (.inl rfl) (.inr rfl) hx hy
theorem pe11 (r : Rg) {d : Option Tmp} {yt ty : TypeId} {x y : Operand} {ps : String} {af : Array Edge} {gd : Option (Nat × Bool)} (hx : aev Tryz.prog r x = .iface 134 (.int .i64 1)) (hy : aev Tryz.prog r y = .iface 134 (.int .i64 1)) : ja0 Tryz.prog (aev Tryz.prog r) ⟨d, .binOp .eql 88 x y yt, ty, ps, af, gd⟩ = some (.bool true) := p_ee 1 1 (.inl rfl) (.inl rfl) hx hy
theorem miP (r : Rg) (x : Operand) (i : Nat) (h : aev Tryz.prog r x = .pointer (some ⟨i, 0, none⟩)) : jbu Tryz.prog (aev Tryz.prog r) 135 x = some (.iface 135 (.pointer (some ⟨i, 0, none⟩))) := by
 unfold jbu
 simp only [Tryz.underlying135, h]
theorem toErr_ex {pf s : ByteArray} {v : Value} (hv : v = .iface 134 (.int .i64 1) ∨ v = .iface 134 (.int .i64 2)) (h0 : 0 < (bys s).length) (hl : (bys s).length ≤ 1000) {X : XT} {g : Nat} {μ : Mem} (hL : Lay μ) (hg : 100 ≤ g) : ∃ (a : Nat) (μ' : Mem), aFun Tryz.prog (jat Tryz.prog X S0 g) 81 [.string pf, .string s, .int .i64 0, .int .i64 64, v] μ = some (.iface 135 (.pointer (some ⟨a, 0, none⟩)), μ') ∧ Grow μ μ' := by
 obtain ⟨k, rfl⟩ := gle hg
 rcases hv with rfl | rfl
 ·obtain ⟨a, μ1, hr, hG⟩ := rngErr_ex (pf := pf) h0 hl (X := X) (g := k + 90) hL (by omega)
  have mp := fun r x => miP r x a
  have key : EndsF (aFun Tryz.prog (jat Tryz.prog X S0 (k + 100)) 81 [.string pf, .string s, .int .i64 0, .int .i64 64, .iface 134 (.int .i64 1)] μ) fun w μ' => w = .iface 135 (.pointer (some ⟨a, 0, none⟩)) ∧ μ' = μ1 := by
   refine jan Tryz.func81 rfl rfl (nbl rfl) ?_
   simp only [go_sem, Tryz.ntmps81]
   repeat (first | refine jaf ?_ | ((first | (refine jad ?_ ?_; (focus rfl)) | (refine jac (gs := ?_) ?_ ?_; rotate_left; (focus rfl))); simp only [run1, go_sem, mi1, mi2, an3, pe12, pe11, gg104, hr, mp]) | (refine jab ?_ ?_; (focus (simp only [go_sem, mi1, mi2, an3, pe12, pe11, gg104, hr, mp]; done))) | (refine jaa ?_ ?_; (focus (simp only [go_sem, mi1, mi2, an3, pe12, pe11, gg104, hr, mp]; done))) | ((first | refine jaj ?_ | refine jai ?_ | refine jak ?_); try simp only [go_sem]) | refine jah ?_)
   refine jam ?_
   refine ⟨rfl, _, ?_, rfl, rfl⟩
   simp only [go_sem, Tryz.results81]
  obtain ⟨w, μ', h1, rfl, rfl⟩ := key
  exact ⟨a, _, h1, hG⟩
 ·obtain ⟨a, μ1, hr, hG⟩ := synErr_ex (pf := pf) h0 hl (X := X) (g := k + 92) hL (by omega)
  have mp := fun r x => miP r x a
  have key : EndsF (aFun Tryz.prog (jat Tryz.prog X S0 (k + 100)) 81 [.string pf, .string s, .int .i64 0, .int .i64 64, .iface 134 (.int .i64 2)] μ) fun w μ' => w = .iface 135 (.pointer (some ⟨a, 0, none⟩)) ∧ μ' = μ1 := by
   refine jan Tryz.func81 rfl rfl (nbl rfl) ?_
   simp only [go_sem, Tryz.ntmps81]
   repeat (first | refine jaf ?_ | ((first | (refine jad ?_ ?_; (focus rfl)) | (refine jac (gs := ?_) ?_ ?_; rotate_left; (focus rfl))); simp only [run1, go_sem, mi1, mi2, an3, pe22, gg103, hr, mp]) | (refine jab ?_ ?_; (focus (simp only [go_sem, mi1, mi2, an3, pe22, gg103, hr, mp]; done))) | (refine jaa ?_ ?_; (focus (simp only [go_sem, mi1, mi2, an3, pe22, gg103, hr, mp]; done))) | ((first | refine jaj ?_ | refine jai ?_ | refine jak ?_); try simp only [go_sem]) | refine jah ?_)
   refine jam ?_
   refine ⟨rfl, _, ?_, rfl, rfl⟩
   simp only [go_sem, Tryz.results81]
  obtain ⟨w, μ', h1, rfl, rfl⟩ := key
  exact ⟨a, _, h1, hG⟩
theorem jht {s : ByteArray} (hs : ∀ c ∈ bys s, c ∈ nums) (hl : (bys s).length ≤ 1000) (h0 : 0 < (bys s).length) : ∃ (f : Nat), ∀ {X : XT} {g : Nat} {μ : Mem}, jbr X → Lay μ → 14000 ≤ g →
  ∃ w μ', aFun Tryz.prog (jat Tryz.prog X S0 g) 53 [.string s, .int .i64 64] μ = some (.tuple #[.float .f64 f, w], μ') ∧ one w = true ∧ Grow μ μ' := by
 obtain ⟨f, v, hv, hp⟩ := jig hs hl h0
 refine ⟨f, fun {X g μ} hX hL hg => ?_⟩
 obtain ⟨k, rfl⟩ := gle hg
 obtain ⟨μ1, hr, hG⟩ := hp (X := X) (g := k + 13997) (μ := μ) hX hL (by omega)
 by_cases hn : v = .nilIface
 ·subst hn
  have key : EndsF (aFun Tryz.prog (jat Tryz.prog X S0 (k + 14000)) 53 [.string s, .int .i64 64] μ) fun w μ' => w = .tuple #[.float .f64 f, .nilIface] ∧ μ' = μ1 := by
   refine jan Tryz.func53 rfl rfl (nbl rfl) ?_
   simp only [go_sem, Tryz.ntmps53]
   repeat (first | refine jaf ?_ | ((first | (refine jad ?_ ?_; (focus rfl)) | (refine jac (gs := ?_) ?_ ?_; rotate_left; (focus rfl))); simp only [run1, go_sem, gg80, hr, an2, p_nn]) | (refine jab ?_ ?_; (focus (simp only [go_sem, gg80, hr, an2, p_nn]; done))) | (refine jaa ?_ ?_; (focus (simp only [go_sem, gg80, hr, an2, p_nn]; done))) | ((first | refine jaj ?_ | refine jai ?_ | refine jak ?_); try simp only [go_sem]) | refine jah ?_)
   refine jam ?_
   refine ⟨rfl, _, ?_, rfl, rfl⟩
   simp only [go_sem, Tryz.results53]
  obtain ⟨w, μ', h1, rfl, rfl⟩ := key
  exact ⟨_, _, h1, rfl, hG⟩
 ·have hv : v = .iface 134 (.int .i64 1) ∨ v = .iface 134 (.int .i64 2) := hv.resolve_left hn
  have te := fun (pf : ByteArray) => toErr_ex (pf := pf) hv h0 hl (X := X) (g := k + 13993) (hL.grow hG) (by omega)
  obtain ⟨a, μ2, hr2, hG2⟩ := te ⟨List.toArray [80, 97, 114, 115, 101, 70, 108, 111, 97, 116]⟩
  have hnil : ∀ t, aNil Tryz.prog t v .nilIface = (match Tryz.prog.underlying t with | some (.interface _) => true | _ => false) := fun t => by rcases hv with rfl | rfl <;> rfl
  have key : EndsF (aFun Tryz.prog (jat Tryz.prog X S0 (k + 14000)) 53 [.string s, .int .i64 64] μ) fun w μ' => w = .tuple #[.float .f64 f, .iface 135 (.pointer (some ⟨a, 0, none⟩))] ∧ μ' = μ2 := by
   rcases hv with rfl | rfl
   ·skip
    refine jan Tryz.func53 rfl rfl (nbl rfl) ?_
    simp only [go_sem, Tryz.ntmps53]
    repeat (first | refine jaf ?_ | ((first | (refine jad ?_ ?_; (focus rfl)) | (refine jac (gs := ?_) ?_ ?_; rotate_left; (focus rfl))); simp only [run1, go_sem, gg80, hr, an1, gg81, hr2]) | (refine jab ?_ ?_; (focus (simp only [go_sem, gg80, hr, an1, gg81, hr2]; done))) | (refine jaa ?_ ?_; (focus (simp only [go_sem, gg80, hr, an1, gg81, hr2]; done))) | ((first | refine jaj ?_ | refine jai ?_ | refine jak ?_); try simp only [go_sem]) | refine jah ?_)
    refine jam ?_
    refine ⟨rfl, _, ?_, rfl, rfl⟩
    simp only [go_sem, Tryz.results53]
   ·skip
    refine jan Tryz.func53 rfl rfl (nbl rfl) ?_
    simp only [go_sem, Tryz.ntmps53]
    repeat (first | refine jaf ?_ | ((first | (refine jad ?_ ?_; (focus rfl)) | (refine jac (gs := ?_) ?_ ?_; rotate_left; (focus rfl))); simp only [run1, go_sem, gg80, hr, an1, gg81, hr2]) | (refine jab ?_ ?_; (focus (simp only [go_sem, gg80, hr, an1, gg81, hr2]; done))) | (refine jaa ?_ ?_; (focus (simp only [go_sem, gg80, hr, an1, gg81, hr2]; done))) | ((first | refine jaj ?_ | refine jai ?_ | refine jak ?_); try simp only [go_sem]) | refine jah ?_)
    refine jam ?_
    refine ⟨rfl, _, ?_, rfl, rfl⟩
    simp only [go_sem, Tryz.results53]
  obtain ⟨w, μ', h1, rfl, rfl⟩ := key
  exact ⟨_, _, h1, rfl, hG.trans hG2⟩
end
noncomputable section
open Go.Proofs.YtdjoekhccbiaiaaGreatDoor.NumText (dig isE isS ndig unsg expo jbJ jdI jcX jfu)
section
set_option linter.defProp false
variable {X : XT} {ev : Code → Rg → Mem → Option (Ax × Rg × Mem)}
def gg78 := go_call (P := Tryz.prog) (X := X) (ev := ev) (S := S0) Tryz.func78 rfl rfl
def gg79 := go_call (P := Tryz.prog) (X := X) (ev := ev) (S := S0) Tryz.func79 rfl rfl
def gg52 := go_call (P := Tryz.prog) (X := X) (ev := ev) (S := S0) Tryz.func52 rfl rfl
end
theorem jgR {s : ByteArray} {c : Nat} (h : c ∈ bys s) : c < 256 := by
 obtain ⟨b, _, rfl⟩ := List.mem_map.1 h
 exact b.toNat_lt
def jbH (s : ByteArray) : ByteArray := match bys s with
 | [] => s
 | c :: _ => if isS c then jcv s 1 else s
theorem jd3 (s : ByteArray) : bys (jbH s) = unsg (bys s) := by
 unfold jbH
 cases h : bys s with
 | nil => simp only [h]; rfl
 | cons c l =>
   simp only
   cases hc : isS c with
   | true => rw [if_pos rfl, jdC, h, NumText.unsg_t hc]; rfl
   | false => rw [if_neg (by decide), h, NumText.unsg_f hc]
theorem je9 (l : List Nat) : (unsg l).length ≤ l.length := by
 cases l with
 | nil => exact Nat.le_refl _
 | cons a l =>
   cases h : isS a with
   | true => rw [NumText.unsg_t h]; exact Nat.le_succ _
   | false => rw [NumText.unsg_f h]; exact Nat.le_refl _
theorem at0 {s : ByteArray} {c : Nat} {l : List Nat} (h : bys s = c :: l) {ρ : Operand → Value} {x y : Operand} {kd : IntKind} (hx : ρ x = .string s) (hy : ρ y = .int kd 0) : jbi Tryz.prog ρ 9 x y = some (.int .u8 (.ofNat c)) := by
 have h0 : 0 < (bys s).length := by rw [h]; exact Nat.succ_pos _
 have := jbA (kd := kd) (i := 0) h0 hx hy
 rw [this]
 congr 4
 simp only [h, List.getElem_cons_zero]
theorem jfj {X : XT} {g : Nat} {s : ByteArray} {μ : Mem} (hg : 20 ≤ g) : aFun Tryz.prog (jat Tryz.prog X S0 g) 78 [.string s] μ = some (.string (jbH s), μ) := by
 obtain ⟨k, rfl⟩ := gle hg
 have ls := ja5 s
 cases h : bys s with
 | nil =>
   have hu : jbH s = s := by unfold jbH; rw [h]
   have e1 : ilt 0 (.ofNat (bys s).length) = false := (jav 0 _).trans (decide_eq_false (by rw [h]; decide))
   rw [hu]
   refine jaQ ?_
   refine jan Tryz.func78 rfl rfl (nbl rfl) ?_
   simp only [go_sem, Tryz.ntmps78]
   refine jaf ?_
   refine jad ?_ ?_
   ·rfl
   simp only [go_sem]
   refine jaf ?_
   refine jaf ?_
   refine jac (gs := ?_) ?_ ?_
   rotate_left
   ·rfl
   iterate 4 (refine jal (by first | rfl | (simp only [go_sem, undef, jae, ls, jag, e1])) (by simp only [go_sem, undef, jae, ls, jag, e1]; try exact rfl) rfl ?_)
   iterate 8 (refine jaA (by simp only [go_sem, undef, jae, ls, jag, e1]) rfl ?_)
   refine jal (by first | rfl | (simp only [go_sem, undef, jae, ls, jag, e1])) (by simp only [go_sem, undef, jae, ls, jag, e1]; try exact rfl) rfl ?_
   simp only [go_sem]
   repeat (first | refine jaf ?_ | ((first | (refine jad ?_ ?_; (focus rfl)) | (refine jac (gs := ?_) ?_ ?_; rotate_left; (focus rfl))); simp only [run1, go_sem]) | (refine jab ?_ ?_; (focus (simp only [go_sem]; done))) | (refine jaa ?_ ?_; (focus (simp only [go_sem]; done))) | ((first | refine jaj ?_ | refine jai ?_ | refine jak ?_); try simp only [go_sem]) | refine jah ?_)
   refine jam ?_
   refine ⟨rfl, _, ?_, rfl, rfl⟩
   simp only [go_sem, Tryz.results78]
 | cons c l =>
   have e1 : ilt 0 (.ofNat (bys s).length) = true := (jav 0 _).trans (decide_eq_true (by rw [h]; exact Nat.succ_pos _))
   have hx : ∀ (r : Rg) (x : Operand), aev Tryz.prog r x = .string s → jbi Tryz.prog (aev Tryz.prog r) 9 x (.const (.int .i64 0)) = some (.int .u8 (.ofNat c)) := fun r x h1 => at0 (kd := .i64) h h1 rfl
   have hsl : ∀ (r : Rg) (x : Operand), aev Tryz.prog r x = .string s → jbG Tryz.prog (aev Tryz.prog r) 9 x (some (.const (.int .i64 1))) none none = some (.string (jcv s 1)) := fun r x h1 => jbV (k := 1) (kd := .i64) h1 rfl (by rw [h]; exact Nat.succ_le_succ (Nat.zero_le _))
   by_cases h43 : c = 43
   ·have s1 : ieq (.ofNat c) 43 = true := (jaO _ 43 43 rfl).trans (decide_eq_true h43)
    have hu : jbH s = jcv s 1 := by unfold jbH; rw [h]; simp only; rw [if_pos (by rw [h43]; decide)]
    rw [hu]
    refine jaQ ?_
    refine jan Tryz.func78 rfl rfl (nbl rfl) ?_
    simp only [go_sem, Tryz.ntmps78]
    refine jaf ?_
    refine jad ?_ ?_
    ·rfl
    simp only [go_sem]
    refine jaf ?_
    refine jaf ?_
    refine jac (gs := ?_) ?_ ?_
    rotate_left
    ·rfl
    iterate 8 (refine jal (by first | rfl | (simp only [go_sem, undef, jae, ls, jag, e1, hx, s1])) (by simp only [go_sem, undef, jae, ls, jag, e1, hx, s1]; try exact rfl) rfl ?_)
    iterate 3 (refine jaA (by simp only [go_sem, undef, jae, ls, jag, e1, hx, s1]) rfl ?_)
    iterate 2 (refine jal (by first | rfl | (simp only [go_sem, undef, jae, ls, jag, e1, hx, s1])) (by simp only [go_sem, undef, jae, ls, jag, e1, hx, s1]; try exact rfl) rfl ?_)
    simp only [go_sem]
    repeat (first | refine jaf ?_ | ((first | (refine jad ?_ ?_; (focus rfl)) | (refine jac (gs := ?_) ?_ ?_; rotate_left; (focus rfl))); simp only [run1, go_sem, hsl]) | (refine jab ?_ ?_; (focus (simp only [go_sem, hsl]; done))) | (refine jaa ?_ ?_; (focus (simp only [go_sem, hsl]; done))) | ((first | refine jaj ?_ | refine jai ?_ | refine jak ?_); try simp only [go_sem]) | refine jah ?_)
    refine jam ?_
    refine ⟨rfl, _, ?_, rfl, rfl⟩
    simp only [go_sem, Tryz.results78]
   ·have s1 : ieq (.ofNat c) 43 = false := (jaO _ 43 43 rfl).trans (decide_eq_false h43)
    by_cases h45 : c = 45
    ·have s2 : ieq (.ofNat c) 45 = true := (jaO _ 45 45 rfl).trans (decide_eq_true h45)
     have hu : jbH s = jcv s 1 := by unfold jbH; rw [h]; simp only; rw [if_pos (by rw [h45]; decide)]
     rw [hu]
     refine jaQ ?_
     refine jan Tryz.func78 rfl rfl (nbl rfl) ?_
     simp only [go_sem, Tryz.ntmps78]
     refine jaf ?_
     refine jad ?_ ?_
     ·rfl
     simp only [go_sem]
     refine jaf ?_
     refine jaf ?_
     refine jac (gs := ?_) ?_ ?_
     rotate_left
     ·rfl
     iterate 13 (refine jal (by first | rfl | (simp only [go_sem, undef, jae, ls, jag, e1, hx, s1, s2])) (by simp only [go_sem, undef, jae, ls, jag, e1, hx, s1, s2]; try exact rfl) rfl ?_)
     simp only [go_sem]
     repeat (first | refine jaf ?_ | ((first | (refine jad ?_ ?_; (focus rfl)) | (refine jac (gs := ?_) ?_ ?_; rotate_left; (focus rfl))); simp only [run1, go_sem, hsl]) | (refine jab ?_ ?_; (focus (simp only [go_sem, hsl]; done))) | (refine jaa ?_ ?_; (focus (simp only [go_sem, hsl]; done))) | ((first | refine jaj ?_ | refine jai ?_ | refine jak ?_); try simp only [go_sem]) | refine jah ?_)
     refine jam ?_
     refine ⟨rfl, _, ?_, rfl, rfl⟩
     simp only [go_sem, Tryz.results78]
    ·have s2 : ieq (.ofNat c) 45 = false := (jaO _ 45 45 rfl).trans (decide_eq_false h45)
     have hu : jbH s = s := by unfold jbH; rw [h]; simp only; rw [if_neg (by simp [isS, h43, h45])]
     rw [hu]
     refine jaQ ?_
     refine jan Tryz.func78 rfl rfl (nbl rfl) ?_
     simp only [go_sem, Tryz.ntmps78]
     refine jaf ?_
     refine jad ?_ ?_
     ·rfl
     simp only [go_sem]
     refine jaf ?_
     refine jaf ?_
     refine jac (gs := ?_) ?_ ?_
     rotate_left
     ·rfl
     iterate 13 (refine jal (by first | rfl | (simp only [go_sem, undef, jae, ls, jag, e1, hx, s1, s2])) (by simp only [go_sem, undef, jae, ls, jag, e1, hx, s1, s2]; try exact rfl) rfl ?_)
     simp only [go_sem]
     repeat (first | refine jaf ?_ | ((first | (refine jad ?_ ?_; (focus rfl)) | (refine jac (gs := ?_) ?_ ?_; rotate_left; (focus rfl))); simp only [run1, go_sem]) | (refine jab ?_ ?_; (focus (simp only [go_sem]; done))) | (refine jaa ?_ ?_; (focus (simp only [go_sem]; done))) | ((first | refine jaj ?_ | refine jai ?_ | refine jak ?_); try simp only [go_sem]) | refine jah ?_)
     refine jam ?_
     refine ⟨rfl, _, ?_, rfl, rfl⟩
     simp only [go_sem, Tryz.results78]
theorem jit {s : ByteArray} (hl : (bys s).length ≤ 1000) : ∀ (m i : Nat), i + m = (bys s).length → ∀ {X : XT} {e : Nat} {tm : T Value} {μ : Mem}, jaq tm 0 = .string s → jaq tm 3 = .int .i64 (.ofNat i) →
  EndsC (jat Tryz.prog X S0 (e + m + 20) (.loop (jaL Tryz.f79 0)) ⟨23, tm, [], none⟩ μ) fun x r μ' => x = .exit 0 ∧ μ' = μ ∧ ∃ tm', r = ⟨23, tm', [], none⟩ ∧ jaq tm' 3 = .int .i64 (.ofNat (i + ndig ((bys s).drop i))) := by
 have ls := ja5 s
 intro m
 induction m with
 | zero =>
   intro i hi X e tm μ h0 h3
   have hi : i = (bys s).length := hi
   have e1 : ilt (.ofNat i) (.ofNat (bys s).length) = false := (jav _ _).trans (decide_eq_false (by omega))
   refine jas ?_
   refine jaf ?_
   refine jaf ?_
   refine jac (gs := ?_) ?_ ?_
   rotate_left
   ·rfl
   iterate 5 (refine jal (by first | rfl | (simp only [go_sem, undef, h0, h3, jae, ls, jag, e1])) (by simp only [go_sem, undef, h0, h3, jae, ls, jag, e1]; try exact rfl) rfl ?_)
   iterate 4 (refine jaA (by simp only [go_sem, undef, h0, h3, jae, ls, jag, e1]) rfl ?_)
   iterate 2 (refine jal (by first | rfl | (simp only [go_sem, undef, h0, h3, jae, ls, jag, e1])) (by simp only [go_sem, undef, h0, h3, jae, ls, jag, e1]; try exact rfl) rfl ?_)
   iterate 4 (refine jaA (by simp only [go_sem, undef, h0, h3, jae, ls, jag, e1]) rfl ?_)
   refine jal (by first | rfl | (simp only [go_sem, undef, h0, h3, jae, ls, jag, e1])) (by simp only [go_sem, undef, h0, h3, jae, ls, jag, e1]; try exact rfl) rfl ?_
   simp only [go_sem]
   refine jaa ?_ ?_
   ·simp only [go_sem]
   refine jak ?_
   simp only [jbm]
   refine ⟨by trivial, by trivial, _, rfl, ?_⟩
   rw [hi, List.drop_length]
   simp only [go_sem, h3, hi]
   rfl
 | succ m ih =>
   intro i hi X e tm μ h0 h3
   have hlt : i < (bys s).length := by omega
   have hdr : (bys s).drop i = (bys s)[i]'hlt :: (bys s).drop (i + 1) := List.drop_eq_getElem_cons hlt
   obtain ⟨c, hc⟩ : ∃ c, c = (bys s)[i]'hlt := ⟨_, rfl⟩
   rw [← hc] at hdr
   have hx : ∀ (r : Rg) (x y : Operand), aev Tryz.prog r x = .string s → aev Tryz.prog r y = .int .i64 (.ofNat i) → jbi Tryz.prog (aev Tryz.prog r) 9 x y = some (.int .u8 (.ofNat c)) := fun r x y h1 h2 => by rw [hc]; exact jbA hlt h1 h2
   have e1 : ilt (.ofNat i) (.ofNat (bys s).length) = true := (jav _ _).trans (decide_eq_true hlt)
   have a1 : jay .i64 (Int.add (.ofNat i) 1) = .ofNat (i + 1) := ja2 i 1 (by omega)
   clear hc
   by_cases h48 : c < 48
   ·have d1 : ilt (.ofNat c) 48 = true := (jbx c 48 48 rfl).trans (decide_eq_true h48)
    have hz : ndig ((bys s).drop i) = 0 := by rw [hdr, ndig, if_neg (by simp [dig]; omega)]
    refine jas ?_
    refine jaf ?_
    refine jaf ?_
    refine jac (gs := ?_) ?_ ?_
    rotate_left
    ·rfl
    iterate 11 (refine jal (by first | rfl | (simp only [go_sem, undef, h0, h3, jae, ls, jag, e1, hx, d1])) (by simp only [go_sem, undef, h0, h3, jae, ls, jag, e1, hx, d1]; try exact rfl) rfl ?_)
    iterate 4 (refine jaA (by simp only [go_sem, undef, h0, h3, jae, ls, jag, e1, hx, d1]) rfl ?_)
    refine jal (by first | rfl | (simp only [go_sem, undef, h0, h3, jae, ls, jag, e1, hx, d1])) (by simp only [go_sem, undef, h0, h3, jae, ls, jag, e1, hx, d1]; try exact rfl) rfl ?_
    simp only [go_sem]
    refine jaa ?_ ?_
    ·simp only [go_sem]
    refine jak ?_
    simp only [jbm]
    refine ⟨by trivial, by trivial, _, rfl, ?_⟩
    rw [hz]
    simp only [go_sem, h3]
    rfl
   ·have d1 : ilt (.ofNat c) 48 = false := (jbx c 48 48 rfl).trans (decide_eq_false h48)
    by_cases h57 : 57 < c
    ·have d2 : ilt 57 (.ofNat c) = true := (jdf c 57 57 rfl).trans (decide_eq_true h57)
     have hz : ndig ((bys s).drop i) = 0 := by rw [hdr, ndig, if_neg (by simp [dig]; omega)]
     refine jas ?_
     refine jaf ?_
     refine jaf ?_
     refine jac (gs := ?_) ?_ ?_
     rotate_left
     ·rfl
     iterate 16 (refine jal (by first | rfl | (simp only [go_sem, undef, h0, h3, jae, ls, jag, e1, hx, d1, d2])) (by simp only [go_sem, undef, h0, h3, jae, ls, jag, e1, hx, d1, d2]; try exact rfl) rfl ?_)
     simp only [go_sem]
     refine jaa ?_ ?_
     ·simp only [go_sem]
     refine jak ?_
     simp only [jbm]
     refine ⟨by trivial, by trivial, _, rfl, ?_⟩
     rw [hz]
     simp only [go_sem, h3]
     rfl
    ·have d2 : ilt 57 (.ofNat c) = false := (jdf c 57 57 rfl).trans (decide_eq_false h57)
     have hz : ndig ((bys s).drop i) = ndig ((bys s).drop (i + 1)) + 1 := by rw [hdr, ndig, if_pos (by simp [dig]; omega)]
     refine jas ?_
     refine jaf ?_
     refine jaf ?_
     refine jac (gs := ?_) ?_ ?_
     rotate_left
     ·rfl
     iterate 16 (refine jal (by first | rfl | (simp only [go_sem, undef, h0, h3, jae, ls, jag, e1, hx, d1, d2])) (by simp only [go_sem, undef, h0, h3, jae, ls, jag, e1, hx, d1, d2]; try exact rfl) rfl ?_)
     simp only [go_sem]
     repeat (first | refine jaf ?_ | ((first | (refine jad ?_ ?_; (focus rfl)) | (refine jac (gs := ?_) ?_ ?_; rotate_left; (focus rfl))); simp only [run1, go_sem, h0, h3, a1]) | (refine jab ?_ ?_; (focus (simp only [go_sem, h0, h3, a1]; done))) | (refine jaa ?_ ?_; (focus (simp only [go_sem, h0, h3, a1]; done))) | ((first | refine jaj ?_ | refine jai ?_ | refine jak ?_); try simp only [go_sem]) | refine jah ?_)
     rw [show e + (m + 1) + 19 = e + m + 20 from by omega]
     refine EndsC.mono (ih (i + 1) (by omega) (by simp only [go_sem, h0]) (by simp only [go_sem])) ?_
     rintro x r μ' ⟨g1, g2, tm', g3, g4⟩
     exact ⟨g1, g2, tm', g3, g4.trans (by rw [hz, show i + 1 + ndig ((bys s).drop (i + 1)) = i + (ndig ((bys s).drop (i + 1)) + 1) from by omega])⟩
theorem jfF {X : XT} {g : Nat} {s : ByteArray} {μ : Mem} (hl : (bys s).length ≤ 1000) (hg : 1100 ≤ g) : aFun Tryz.prog (jat Tryz.prog X S0 g) 79 [.string s] μ = some (.int .i64 (.ofNat (ndig (bys s))), μ) := by
 obtain ⟨k, rfl⟩ := gle hg
 refine jaQ ?_
 refine jan Tryz.func79 rfl rfl (nbl rfl) ?_
 simp only [go_sem, Tryz.ntmps79]
 repeat (first | refine jaf ?_ | ((first | (refine jad ?_ ?_; (focus rfl)) | (refine jac (gs := ?_) ?_ ?_; rotate_left; (focus rfl))); simp only [run1, go_sem]) | (refine jab ?_ ?_; (focus (simp only [go_sem]; done))) | (refine jaa ?_ ?_; (focus (simp only [go_sem]; done))) | ((first | refine jaj ?_ | refine jai ?_ | refine jak ?_); try simp only [go_sem]) | refine jah ?_)
 rw [show k + 1096 = (k + 1076 - (bys s).length) + (bys s).length + 20 from by omega]
 refine EndsC.mono (jit hl (bys s).length 0 (Nat.zero_add _) (by simp only [go_sem]) (by simp only [go_sem]; try rfl)) ?_
 rintro x r μ' ⟨rfl, rfl, tm', rfl, h3⟩
 rw [Nat.zero_add, List.drop_zero] at h3
 simp only [ja4, reduceIte, jao]
 repeat (first | refine jaf ?_ | ((first | (refine jad ?_ ?_; (focus rfl)) | (refine jac (gs := ?_) ?_ ?_; rotate_left; (focus rfl))); simp only [run1, go_sem, h3]) | (refine jab ?_ ?_; (focus (simp only [go_sem, h3]; done))) | (refine jaa ?_ ?_; (focus (simp only [go_sem, h3]; done))) | ((first | refine jaj ?_ | refine jai ?_ | refine jak ?_); try simp only [go_sem]) | refine jah ?_)
 refine jam ?_
 refine ⟨rfl, _, ?_, rfl, rfl⟩
 simp only [go_sem, Tryz.results79]
end
noncomputable section
open Go.Proofs.YtdjoekhccbiaiaaGreatDoor.NumText (dig isE isS ndig unsg expo jbJ jdI jcX jfu)
theorem sr0 : (jaB Tryz.f52) = .seq (jaW 0 (jaB Tryz.f52)) (.seq (jaW 1 (jaB Tryz.f52)) (.seq (jaW 2 (jaB Tryz.f52)) (.seq (jaW 3 (jaB Tryz.f52)) (ja1 4 (jaB Tryz.f52))))) := by kernel_rfl
theorem sr4 : ja1 4 (jaB Tryz.f52) = .seq (jaW 4 (jaB Tryz.f52)) (.seq (jaW 5 (jaB Tryz.f52)) (.seq (jaW 6 (jaB Tryz.f52)) (ja1 7 (jaB Tryz.f52)))) := by kernel_rfl
theorem sr7 : ja1 7 (jaB Tryz.f52) = .seq (jaW 7 (jaB Tryz.f52)) (.seq (jaW 8 (jaB Tryz.f52)) (ja1 9 (jaB Tryz.f52))) := by kernel_rfl
theorem sr9 : ja1 9 (jaB Tryz.f52) = .seq (jaW 9 (jaB Tryz.f52)) (.seq (jaW 10 (jaB Tryz.f52)) (ja1 11 (jaB Tryz.f52))) := by kernel_rfl
theorem sr11 : ja1 11 (jaB Tryz.f52) = .seq (jaW 11 (jaB Tryz.f52)) (ja1 12 (jaB Tryz.f52)) := by kernel_rfl
theorem sr12 : ja1 12 (jaB Tryz.f52) = .ret := by kernel_rfl
attribute [local irreducible] ja1
def FinR2 (b : Bool) (μ : Mem) : Ax → Rg → Mem → Prop := fun x r μ' => x = .ret ∧ (∃ c, μ' = ⟨μ.obs, μ.next + c⟩) ∧ ∃ tm, r = ⟨63, tm, [], none⟩ ∧ jaq tm 2 = .bool b
theorem rt7 {s : ByteArray} (hl : (bys s).length ≤ 1000) (dot : Bool) {X : XT} {k : Nat} {tm : T Value} {μ : Mem} (h0 : jaq tm 0 = .string s) (h5 : jaq tm 5 = .bool dot) :
  EndsC (jat Tryz.prog X S0 (k + 1200) (ja1 7 (jaB Tryz.f52)) ⟨63, tm, [], none⟩ μ) (FinR2 (jbJ dot (bys s)) μ) := by
 have ls := ja5 s
 cases h : bys s with
 | nil =>
   have e1 : ieq (.ofNat (bys s).length) 0 = true := (jaO _ 0 0 rfl).trans (decide_eq_true (by rw [h]; rfl))
   rw [sr7]
   repeat (first | refine jaf ?_ | ((first | (refine jad ?_ ?_; (focus rfl)) | (refine jac (gs := ?_) ?_ ?_; rotate_left; (focus rfl))); simp only [run1, go_sem, h0, h5, jae, ls, jag, e1]) | (refine jab ?_ ?_; (focus (simp only [go_sem, h0, h5, jae, ls, jag, e1]; done))) | (refine jaa ?_ ?_; (focus (simp only [go_sem, h0, h5, jae, ls, jag, e1]; done))) | ((first | refine jaj ?_ | refine jai ?_ | refine jak ?_); try simp only [go_sem]) | refine jah ?_)
   refine jam ?_
   exact ⟨by trivial, ⟨0, rfl⟩, _, rfl, by simp only [go_sem, h5]; rfl⟩
 | cons c l =>
   have e1 : ieq (.ofNat (bys s).length) 0 = false := (jaO _ 0 0 rfl).trans (decide_eq_false (by rw [h]; simp))
   have hx : ∀ (r : Rg) (x : Operand), aev Tryz.prog r x = .string s → jbi Tryz.prog (aev Tryz.prog r) 9 x (.const (.int .i64 0)) = some (.int .u8 (.ofNat c)) := fun r x h1 => at0 (kd := .i64) h h1 rfl
   by_cases hE : isE c = true
   rotate_left
   ·have hE := Bool.eq_false_iff.2 hE
    have hne : c ≠ 101 ∧ c ≠ 69 := by simp only [isE, Bool.or_eq_false_iff, decide_eq_false_iff_not] at hE; omega
    have s1 : ieq (.ofNat c) 101 = false := (jaO _ 101 101 rfl).trans (decide_eq_false hne.1)
    have s2 : ieq (.ofNat c) 69 = false := (jaO _ 69 69 rfl).trans (decide_eq_false hne.2)
    have hb : jbJ dot (c :: l) = false := by simp [jbJ, hE]
    rw [hb, sr7]
    refine jaf ?_
    refine jaf ?_
    refine jad ?_ ?_
    ·rfl
    simp only [go_sem, h0, h5, jae, ls, jag, e1]
    refine jaa ?_ ?_
    ·simp only [go_sem]
    refine jaj ?_
    simp only [jao]
    refine jaf ?_
    refine jaf ?_
    refine jac (gs := ?_) ?_ ?_
    rotate_left
    ·rfl
    iterate 8 (refine jal (by first | rfl | (simp only [go_sem, undef, h0, h5, hx, s1, s2])) (by simp only [go_sem, undef, h0, h5, hx, s1, s2]; try exact rfl) rfl ?_)
    simp only [go_sem]
    repeat (first | refine jaf ?_ | ((first | (refine jad ?_ ?_; (focus rfl)) | (refine jac (gs := ?_) ?_ ?_; rotate_left; (focus rfl))); simp only [run1, go_sem]) | (refine jab ?_ ?_; (focus (simp only [go_sem]; done))) | (refine jaa ?_ ?_; (focus (simp only [go_sem]; done))) | ((first | refine jaj ?_ | refine jai ?_ | refine jak ?_); try simp only [go_sem]) | refine jah ?_)
    refine jam ?_
    exact ⟨by trivial, ⟨0, rfl⟩, _, rfl, (by simp only [go_sem])⟩
   have hsl : ∀ (r : Rg) (x : Operand), aev Tryz.prog r x = .string s → jbG Tryz.prog (aev Tryz.prog r) 9 x (some (.const (.int .i64 1))) none none = some (.string (jcv s 1)) := fun r x h1 => jbV (k := 1) (kd := .i64) h1 rfl (by rw [h]; exact Nat.succ_le_succ (Nat.zero_le _))
   have ht : bys (jcv s 1) = l := by rw [jdC, h]; rfl
   obtain ⟨s4, hs4⟩ : ∃ s4, s4 = jbH (jcv s 1) := ⟨_, rfl⟩
   have hb4 : bys s4 = unsg l := by rw [hs4, jd3, ht]
   have hll : l.length ≤ 999 := by have := hl; rw [h] at this; simp at this; omega
   have hul := je9 l
   have u1 : ∀ g (μ : Mem), 20 ≤ g → aFun Tryz.prog (jat Tryz.prog X S0 g) 78 [.string (jcv s 1)] μ = some (.string s4, μ) := fun g μ hg => by rw [hs4]; exact jfj hg
   have dd : ∀ g (μ : Mem), 1100 ≤ g → aFun Tryz.prog (jat Tryz.prog X S0 g) 79 [.string s4] μ = some (.int .i64 (.ofNat (ndig (unsg l))), μ) := fun g μ hg => by rw [← hb4]; exact jfF (by rw [hb4]; omega) hg
   have ls4 := ja5 s4
   rw [hb4] at ls4
   obtain ⟨n, hn⟩ : ∃ n, n = ndig (unsg l) := ⟨_, rfl⟩
   rw [← hn] at dd
   have hb : jbJ dot (c :: l) = (decide (1 ≤ n) && decide (n ≤ 4) && decide (n = (unsg l).length)) := by
    show (isE c && expo l) = _
    rw [hE, Bool.true_and, hn]; rfl
   rw [hb]
   have go : ∀ (s1 : Bool), ieq (.ofNat c) 101 = s1 → (s1 = false → ieq (.ofNat c) 69 = true) → EndsC (jat Tryz.prog X S0 (k + 1200) (ja1 7 (jaB Tryz.f52)) ⟨63, tm, [], none⟩ μ) (FinR2 (decide (1 ≤ n) && decide (n ≤ 4) && decide (n = (unsg l).length)) μ) := by
    intro s1 hs1 hs2
    have fin : ∀ {k : Nat} {tm : T Value}, jaq tm 0 = .string s → EndsC (jat Tryz.prog X S0 (k + 1150) (ja1 9 (jaB Tryz.f52)) ⟨63, tm, [], none⟩ μ) (FinR2 (decide (1 ≤ n) && decide (n ≤ 4) && decide (n = (unsg l).length)) μ) := by
     intro k tm h0
     rw [sr9]
     repeat (first | refine jaf ?_ | ((first | (refine jad ?_ ?_; (focus rfl)) | (refine jac (gs := ?_) ?_ ?_; rotate_left; (focus rfl))); simp only [run1, go_sem, h0, hsl, gg78, u1, gg79, dd, Nat.reduceLeDiff]) | (refine jab ?_ ?_; (focus (simp only [go_sem, h0, hsl, gg78, u1, gg79, dd, Nat.reduceLeDiff]; done))) | (refine jaa ?_ ?_; (focus (simp only [go_sem, h0, hsl, gg78, u1, gg79, dd, Nat.reduceLeDiff]; done))) | ((first | refine jaj ?_ | refine jai ?_ | refine jak ?_); try simp only [go_sem]) | refine jah ?_)
     rw [sr11, sr12]
     by_cases n1 : 1 ≤ n
     rotate_left
     ·have c1 : ilt (.ofNat n) 1 = true := (jbx n 1 1 rfl).trans (decide_eq_true (by omega))
      rw [decide_eq_false n1, Bool.false_and, Bool.false_and]
      refine jaf ?_
      refine jac (gs := ?_) ?_ ?_
      rotate_left
      ·rfl
      iterate 3 (refine jal (by first | rfl | (simp only [go_sem, undef, jae, ls4, jag, c1])) (by simp only [go_sem, undef, jae, ls4, jag, c1]; try exact rfl) rfl ?_)
      iterate 2 (refine jaA (by simp only [go_sem, undef, jae, ls4, jag, c1]) rfl ?_)
      iterate 2 (refine jal (by first | rfl | (simp only [go_sem, undef, jae, ls4, jag, c1])) (by simp only [go_sem, undef, jae, ls4, jag, c1]; try exact rfl) rfl ?_)
      iterate 4 (refine jaA (by simp only [go_sem, undef, jae, ls4, jag, c1]) rfl ?_)
      iterate 2 (refine jal (by first | rfl | (simp only [go_sem, undef, jae, ls4, jag, c1])) (by simp only [go_sem, undef, jae, ls4, jag, c1]; try exact rfl) rfl ?_)
      simp only [go_sem]
      refine jam ?_
      exact ⟨by trivial, ⟨0, rfl⟩, _, rfl, (by simp only [go_sem])⟩
     have c1 : ilt (.ofNat n) 1 = false := (jbx n 1 1 rfl).trans (decide_eq_false (by omega))
     rw [decide_eq_true n1, Bool.true_and]
     by_cases n4 : n ≤ 4
     rotate_left
     ·have c2 : ilt 4 (.ofNat n) = true := (jav 4 n).trans (decide_eq_true (by omega))
      rw [decide_eq_false n4, Bool.false_and]
      refine jaf ?_
      refine jac (gs := ?_) ?_ ?_
      rotate_left
      ·rfl
      iterate 7 (refine jal (by first | rfl | (simp only [go_sem, undef, jae, ls4, jag, c1, c2])) (by simp only [go_sem, undef, jae, ls4, jag, c1, c2]; try exact rfl) rfl ?_)
      iterate 4 (refine jaA (by simp only [go_sem, undef, jae, ls4, jag, c1, c2]) rfl ?_)
      iterate 2 (refine jal (by first | rfl | (simp only [go_sem, undef, jae, ls4, jag, c1, c2])) (by simp only [go_sem, undef, jae, ls4, jag, c1, c2]; try exact rfl) rfl ?_)
      simp only [go_sem]
      refine jam ?_
      exact ⟨by trivial, ⟨0, rfl⟩, _, rfl, (by simp only [go_sem])⟩
     have c2 : ilt 4 (.ofNat n) = false := (jav 4 n).trans (decide_eq_false (by omega))
     rw [decide_eq_true n4, Bool.true_and]
     have c3 : ieq (.ofNat n) (.ofNat (unsg l).length) = decide (n = (unsg l).length) := jb7 _ _
     refine jaf ?_
     refine jac (gs := ?_) ?_ ?_
     rotate_left
     ·rfl
     iterate 13 (refine jal (by first | rfl | (simp only [go_sem, undef, jae, ls4, jag, c1, c2, c3])) (by simp only [go_sem, undef, jae, ls4, jag, c1, c2, c3]; try exact rfl) rfl ?_)
     simp only [go_sem]
     refine jam ?_
     exact ⟨by trivial, ⟨0, rfl⟩, _, rfl, (by simp only [go_sem])⟩
    cases s1 with
    | true =>
      rw [sr7]
      refine jaf ?_
      refine jaf ?_
      refine jad ?_ ?_
      ·rfl
      simp only [go_sem, h0, h5, jae, ls, jag, e1]
      refine jaa ?_ ?_
      ·simp only [go_sem]
      refine jaj ?_
      simp only [jao]
      refine jaf ?_
      refine jaf ?_
      refine jac (gs := ?_) ?_ ?_
      rotate_left
      ·rfl
      iterate 4 (refine jal (by first | rfl | (simp only [go_sem, undef, h0, h5, hx, hs1])) (by simp only [go_sem, undef, h0, h5, hx, hs1]; try exact rfl) rfl ?_)
      iterate 3 (refine jaA (by simp only [go_sem, undef, h0, h5, hx, hs1]) rfl ?_)
      refine jal (by first | rfl | (simp only [go_sem, undef, h0, h5, hx, hs1])) (by simp only [go_sem, undef, h0, h5, hx, hs1]; try exact rfl) rfl ?_
      simp only [go_sem]
      repeat (first | refine jaf ?_ | ((first | (refine jad ?_ ?_; (focus rfl)) | (refine jac (gs := ?_) ?_ ?_; rotate_left; (focus rfl))); simp only [run1, go_sem]) | (refine jab ?_ ?_; (focus (simp only [go_sem]; done))) | (refine jaa ?_ ?_; (focus (simp only [go_sem]; done))) | ((first | refine jaj ?_ | refine jai ?_ | refine jak ?_); try simp only [go_sem]) | refine jah ?_)
      exact fin (k := k + 48) (by simp only [go_sem, h0])
    | false =>
      have hs2 := hs2 rfl
      rw [sr7]
      refine jaf ?_
      refine jaf ?_
      refine jad ?_ ?_
      ·rfl
      simp only [go_sem, h0, h5, jae, ls, jag, e1]
      refine jaa ?_ ?_
      ·simp only [go_sem]
      refine jaj ?_
      simp only [jao]
      refine jaf ?_
      refine jaf ?_
      refine jac (gs := ?_) ?_ ?_
      rotate_left
      ·rfl
      iterate 8 (refine jal (by first | rfl | (simp only [go_sem, undef, h0, h5, hx, hs1, hs2])) (by simp only [go_sem, undef, h0, h5, hx, hs1, hs2]; try exact rfl) rfl ?_)
      simp only [go_sem]
      repeat (first | refine jaf ?_ | ((first | (refine jad ?_ ?_; (focus rfl)) | (refine jac (gs := ?_) ?_ ?_; rotate_left; (focus rfl))); simp only [run1, go_sem]) | (refine jab ?_ ?_; (focus (simp only [go_sem]; done))) | (refine jaa ?_ ?_; (focus (simp only [go_sem]; done))) | ((first | refine jaj ?_ | refine jai ?_ | refine jak ?_); try simp only [go_sem]) | refine jah ?_)
      exact fin (k := k + 48) (by simp only [go_sem, h0])
   refine go _ rfl fun hs1 => ?_
   have hs1 : decide (c = 101) = false := (jaO _ 101 101 rfl).symm.trans hs1
   simp only [isE, Bool.or_eq_true, decide_eq_true_eq, decide_eq_false_iff_not] at hE hs1
   exact (jaO _ 69 69 rfl).trans (decide_eq_true (by omega))
theorem jin {X : XT} {g : Nat} {s : ByteArray} {μ : Mem} (hl : (bys s).length ≤ 1000) (hg : 1300 ≤ g) : ∃ c, aFun Tryz.prog (jat Tryz.prog X S0 g) 52 [.string s] μ = some (.bool (jcX (bys s)), ⟨μ.obs, μ.next + c⟩) := by
 obtain ⟨k, rfl⟩ := gle hg
 obtain ⟨s1, hs1⟩ : ∃ s1, s1 = jbH s := ⟨_, rfl⟩
 have hb1 : bys s1 = unsg (bys s) := by rw [hs1, jd3]
 have hul := je9 (bys s)
 have hl1 : (bys s1).length ≤ 1000 := by rw [hb1]; omega
 obtain ⟨f, hf⟩ : ∃ f, f = ndig (bys s1) := ⟨_, rfl⟩
 have hfl : f ≤ (bys s1).length := by rw [hf]; exact jfu _
 obtain ⟨s2, hs2⟩ : ∃ s2, s2 = jcv s1 f := ⟨_, rfl⟩
 have hb2 : bys s2 = (bys s1).drop f := by rw [hs2, jdC]
 have hl2 : (bys s2).length ≤ 1000 := by rw [hb2, List.length_drop]; omega
 have hr : jcX (bys s) = (let dot := jdI (bys s2); let b := bif dot then ndig (bys s2).tail else 0; let l := bif dot then (bys s2).tail.drop b else bys s2; if f + b = 0 then false else jbJ dot l) := by
  unfold jcX
  rw [hb2, hf, hb1]
 rw [hr]
 have u1 : ∀ g (μ : Mem), 20 ≤ g → aFun Tryz.prog (jat Tryz.prog X S0 g) 78 [.string s] μ = some (.string s1, μ) := fun g μ hg => by rw [hs1]; exact jfj hg
 have d1 : ∀ g (μ : Mem), 1100 ≤ g → aFun Tryz.prog (jat Tryz.prog X S0 g) 79 [.string s1] μ = some (.int .i64 (.ofNat f), μ) := fun g μ hg => by rw [hf]; exact jfF hl1 hg
 have sl1 : ∀ (r : Rg) (x y : Operand), aev Tryz.prog r x = .string s1 → aev Tryz.prog r y = .int .i64 (.ofNat f) → jbG Tryz.prog (aev Tryz.prog r) 9 x (some y) none none = some (.string s2) := fun r x y h1 h2 => by rw [hs2]; exact jbV h1 h2 hfl
 have ls2 := ja5 s2
 have key : EndsF (aFun Tryz.prog (jat Tryz.prog X S0 (k + 1300)) 52 [.string s] μ) fun v μ' => v = .bool (let dot := jdI (bys s2); let b := bif dot then ndig (bys s2).tail else 0; let l := bif dot then (bys s2).tail.drop b else bys s2; if f + b = 0 then false else jbJ dot l) ∧ ∃ c, μ' = ⟨μ.obs, μ.next + c⟩ := by
  refine jan Tryz.func52 rfl rfl (nbl rfl) ?_
  simp only [go_sem, Tryz.ntmps52]
  change EndsC (jat Tryz.prog X S0 _ (jaB Tryz.f52) _ _) _
  rw [sr0]
  repeat (first | refine jaf ?_ | ((first | (refine jad ?_ ?_; (focus rfl)) | (refine jac (gs := ?_) ?_ ?_; rotate_left; (focus rfl))); simp only [run1, go_sem, gg78, u1, gg79, d1, Nat.reduceLeDiff, sl1]) | (refine jab ?_ ?_; (focus (simp only [go_sem, gg78, u1, gg79, d1, Nat.reduceLeDiff, sl1]; done))) | (refine jaa ?_ ?_; (focus (simp only [go_sem, gg78, u1, gg79, d1, Nat.reduceLeDiff, sl1]; done))) | ((first | refine jaj ?_ | refine jai ?_ | refine jak ?_); try simp only [go_sem]) | refine jah ?_)
  have fin : ∀ (dot b : Bool) {x : Ax} {r : Rg} {μ1 μ' : Mem} (c : Nat), μ1 = ⟨μ.obs, μ.next + c⟩ → FinR2 b μ1 x r μ' → retQ Tryz.prog Tryz.f52 (fun v μ' => v = .bool b ∧ ∃ c, μ' = ⟨μ.obs, μ.next + c⟩) x r μ' := by
   rintro dot b x r μ1 μ' c rfl ⟨rfl, ⟨c2, rfl⟩, tm, rfl, h2⟩
   refine ⟨rfl, _, ?_, rfl, c + c2, by rw [← Nat.add_assoc]⟩
   simp only [go_sem, Tryz.results52]
   rw [h2]
  have fz : ∀ (dot : Bool) (s3 : ByteArray) (q : Nat), (bys s3).length ≤ 1000 → ∀ {k : Nat} {tm : T Value}, jaq tm 0 = .string s3 → jaq tm 5 = .bool dot → EndsC (jat Tryz.prog X S0 (k + 1200) (ja1 7 (jaB Tryz.f52)) ⟨63, tm, [], none⟩ ⟨μ.obs, μ.next + q⟩) (retQ Tryz.prog Tryz.f52 (fun v μ' => v = .bool (jbJ dot (bys s3)) ∧ ∃ c, μ' = ⟨μ.obs, μ.next + c⟩)) := fun dot s3 q h3 k tm h0 h5 => by
   refine EndsC.mono (rt7 h3 dot h0 h5) ?_
   intro x r μ' hx
   exact fin dot _ q rfl hx
  have a0 : jay .i64 (Int.add (.ofNat f) 0) = .ofNat f := ja2 f 0 (by omega)
  cases h2 : bys s2 with
  | nil =>
    have e1 : ilt 0 (.ofNat (bys s2).length) = false := (jav 0 _).trans (decide_eq_false (by rw [h2]; decide))
    have e : (let dot := jdI ([] : List Nat); let b := bif dot then ndig ([] : List Nat).tail else 0; let l := bif dot then ([] : List Nat).tail.drop b else []; if f + b = 0 then false else jbJ dot l) = (if f = 0 then false else jbJ false (bys s2)) := by rw [h2]; rfl
    rw [e, sr4]
    refine jaf ?_
    refine jaU (n := 10) (ms := [0, 1, 3, 7, 15, 31, 63, 127, 15, 511]) (ord := [0, 1, 2, 3, 4, 5, 6, 7, 8, 9]) (ds := ?_) ?_ ?_ ?_ ?_ ?_ ?_
    rotate_left
    ·kernel_rfl
    ·kernel_rfl
    ·kernel_rfl
    ·rfl
    ·rfl
    iterate 4 (refine jaS (by first | rfl | (simp only [go_sem, undef, jae, ls2, jag, e1])) (by simp only [jaT, heavy, jba, jaJ, go_sem, undef, jae, ls2, jag, e1]; try exact rfl) rfl ?_)
    iterate 3 (refine jgk (by simp only [go_sem, undef, jae, ls2, jag, e1]) rfl ?_)
    iterate 3 (refine jaS (by first | rfl | (simp only [go_sem, undef, jae, ls2, jag, e1])) (by simp only [jaT, heavy, jba, jaJ, go_sem, undef, jae, ls2, jag, e1]; try exact rfl) rfl ?_)
    simp only [dRun, jaM, jao]
    by_cases f0 : f = 0
    ·have z1 : ieq (.ofNat f) 0 = true := (jaO _ 0 0 rfl).trans (decide_eq_true f0)
     rw [if_pos f0]
     repeat (first | refine jaf ?_ | ((first | (refine jad ?_ ?_; (focus rfl)) | (refine jac (gs := ?_) ?_ ?_; rotate_left; (focus rfl))); simp only [run1, go_sem, a0, z1]) | (refine jab ?_ ?_; (focus (simp only [go_sem, a0, z1]; done))) | (refine jaa ?_ ?_; (focus (simp only [go_sem, a0, z1]; done))) | ((first | refine jaj ?_ | refine jai ?_ | refine jak ?_); try simp only [go_sem]) | refine jah ?_)
     refine jam ?_
     refine ⟨rfl, _, ?_, rfl, 10, rfl⟩
     simp only [go_sem, Tryz.results52]
    ·have z1 : ieq (.ofNat f) 0 = false := (jaO _ 0 0 rfl).trans (decide_eq_false f0)
     rw [if_neg f0]
     repeat (first | refine jaf ?_ | ((first | (refine jad ?_ ?_; (focus rfl)) | (refine jac (gs := ?_) ?_ ?_; rotate_left; (focus rfl))); simp only [run1, go_sem, a0, z1]) | (refine jab ?_ ?_; (focus (simp only [go_sem, a0, z1]; done))) | (refine jaa ?_ ?_; (focus (simp only [go_sem, a0, z1]; done))) | ((first | refine jaj ?_ | refine jai ?_ | refine jak ?_); try simp only [go_sem]) | refine jah ?_)
     exact fz false s2 10 hl2 (k := k + 93) (by simp only [go_sem]) (by simp only [go_sem])
  | cons c l =>
    have e1 : ilt 0 (.ofNat (bys s2).length) = true := (jav 0 _).trans (decide_eq_true (by rw [h2]; exact Nat.succ_pos _))
    have hx : ∀ (r : Rg) (x : Operand), aev Tryz.prog r x = .string s2 → jbi Tryz.prog (aev Tryz.prog r) 9 x (.const (.int .i64 0)) = some (.int .u8 (.ofNat c)) := fun r x h1 => at0 (kd := .i64) h2 h1 rfl
    by_cases hc : c = 46
    rotate_left
    ·have e2 : ieq (.ofNat c) 46 = false := (jaO _ 46 46 rfl).trans (decide_eq_false hc)
     have hd : jdI (c :: l) = false := decide_eq_false hc
     have e : (let dot := jdI (c :: l); let b := bif dot then ndig (c :: l).tail else 0; let l := bif dot then (c :: l).tail.drop b else c :: l; if f + b = 0 then false else jbJ dot l) = (if f = 0 then false else jbJ false (bys s2)) := by rw [h2, hd]; rfl
     rw [e, sr4]
     refine jaf ?_
     refine jaU (n := 10) (ms := [0, 1, 3, 7, 15, 31, 63, 127, 15, 511]) (ord := [0, 1, 2, 3, 4, 5, 6, 7, 8, 9]) (ds := ?_) ?_ ?_ ?_ ?_ ?_ ?_
     rotate_left
     ·kernel_rfl
     ·kernel_rfl
     ·kernel_rfl
     ·rfl
     ·rfl
     iterate 10 (refine jaS (by first | rfl | (simp only [go_sem, undef, jae, ls2, jag, e1, hx, e2])) (by simp only [jaT, heavy, jba, jaJ, go_sem, undef, jae, ls2, jag, e1, hx, e2]; try exact rfl) rfl ?_)
     simp only [dRun, jaM, jao]
     by_cases f0 : f = 0
     ·have z1 : ieq (.ofNat f) 0 = true := (jaO _ 0 0 rfl).trans (decide_eq_true f0)
      rw [if_pos f0]
      repeat (first | refine jaf ?_ | ((first | (refine jad ?_ ?_; (focus rfl)) | (refine jac (gs := ?_) ?_ ?_; rotate_left; (focus rfl))); simp only [run1, go_sem, a0, z1]) | (refine jab ?_ ?_; (focus (simp only [go_sem, a0, z1]; done))) | (refine jaa ?_ ?_; (focus (simp only [go_sem, a0, z1]; done))) | ((first | refine jaj ?_ | refine jai ?_ | refine jak ?_); try simp only [go_sem]) | refine jah ?_)
      refine jam ?_
      refine ⟨rfl, _, ?_, rfl, 10, rfl⟩
      simp only [go_sem, Tryz.results52]
     ·have z1 : ieq (.ofNat f) 0 = false := (jaO _ 0 0 rfl).trans (decide_eq_false f0)
      rw [if_neg f0]
      repeat (first | refine jaf ?_ | ((first | (refine jad ?_ ?_; (focus rfl)) | (refine jac (gs := ?_) ?_ ?_; rotate_left; (focus rfl))); simp only [run1, go_sem, a0, z1]) | (refine jab ?_ ?_; (focus (simp only [go_sem, a0, z1]; done))) | (refine jaa ?_ ?_; (focus (simp only [go_sem, a0, z1]; done))) | ((first | refine jaj ?_ | refine jai ?_ | refine jak ?_); try simp only [go_sem]) | refine jah ?_)
      exact fz false s2 10 hl2 (k := k + 93) (by simp only [go_sem]) (by simp only [go_sem])
    ·have e2 : ieq (.ofNat c) 46 = true := (jaO _ 46 46 rfl).trans (decide_eq_true hc)
     have hd : jdI (c :: l) = true := decide_eq_true hc
     have hll : l.length ≤ 999 := by have := hl2; rw [h2] at this; simp at this; omega
     obtain ⟨b, hb⟩ : ∃ b, b = ndig l := ⟨_, rfl⟩
     have hbl : b ≤ l.length := by rw [hb]; exact jfu l
     have ht : bys (jcv s2 1) = l := by rw [jdC, h2]; rfl
     obtain ⟨s3, hs3⟩ : ∃ s3, s3 = jcv s2 (b + 1) := ⟨_, rfl⟩
     have hb3 : bys s3 = l.drop b := by rw [hs3, jdC, h2]; rfl
     have e : (let dot := jdI (c :: l); let b := bif dot then ndig (c :: l).tail else 0; let l := bif dot then (c :: l).tail.drop b else c :: l; if f + b = 0 then false else jbJ dot l) = (if f + b = 0 then false else jbJ true (bys s3)) := by rw [hb3, hd, hb]; rfl
     have d2 : ∀ g (μ : Mem), 1100 ≤ g → aFun Tryz.prog (jat Tryz.prog X S0 g) 79 [.string (jcv s2 1)] μ = some (.int .i64 (.ofNat b), μ) := fun g μ hg => by rw [hb, ← ht]; exact jfF (by rw [ht]; omega) hg
     have sl2 : ∀ (r : Rg) (x : Operand), aev Tryz.prog r x = .string s2 → jbG Tryz.prog (aev Tryz.prog r) 9 x (some (.const (.int .i64 1))) none none = some (.string (jcv s2 1)) := fun r x h1 => jbV (k := 1) (kd := .i64) h1 rfl (by rw [h2]; exact Nat.succ_le_succ (Nat.zero_le _))
     have sl3 : ∀ (r : Rg) (x y : Operand), aev Tryz.prog r x = .string s2 → aev Tryz.prog r y = .int .i64 (.ofNat (b + 1)) → jbG Tryz.prog (aev Tryz.prog r) 9 x (some y) none none = some (.string s3) := fun r x y h1 g2 => by rw [hs3]; exact jbV h1 g2 (by rw [h2]; simp; omega)
     have q1 : jay .i64 (Int.add (.ofNat b) 1) = .ofNat (b + 1) := ja2 b 1 (by omega)
     have q2 : jay .i64 (Int.add (.ofNat f) (.ofNat b)) = .ofNat (f + b) := ja2 f b (by omega)
     rw [e, sr4]
     refine jaf ?_
     refine jaU (n := 10) (ms := [0, 1, 3, 7, 15, 31, 63, 127, 15, 511]) (ord := [0, 1, 2, 3, 4, 5, 6, 7, 8, 9]) (ds := ?_) ?_ ?_ ?_ ?_ ?_ ?_
     rotate_left
     ·kernel_rfl
     ·kernel_rfl
     ·kernel_rfl
     ·rfl
     ·rfl
     iterate 10 (refine jaS (by first | rfl | (simp only [go_sem, undef, jae, ls2, jag, e1, hx, e2])) (by simp only [jaT, heavy, jba, jaJ, go_sem, undef, jae, ls2, jag, e1, hx, e2]; try exact rfl) rfl ?_)
     simp only [dRun, jaM, jao]
     by_cases f0 : f + b = 0
     ·have z1 : ieq (.ofNat (f + b)) 0 = true := (jaO _ 0 0 rfl).trans (decide_eq_true f0)
      rw [if_pos f0]
      repeat (first | refine jaf ?_ | ((first | (refine jad ?_ ?_; (focus rfl)) | (refine jac (gs := ?_) ?_ ?_; rotate_left; (focus rfl))); simp only [run1, go_sem, sl2, gg79, d2, Nat.reduceLeDiff, sl3, q1, q2, z1]) | (refine jab ?_ ?_; (focus (simp only [go_sem, sl2, gg79, d2, Nat.reduceLeDiff, sl3, q1, q2, z1]; done))) | (refine jaa ?_ ?_; (focus (simp only [go_sem, sl2, gg79, d2, Nat.reduceLeDiff, sl3, q1, q2, z1]; done))) | ((first | refine jaj ?_ | refine jai ?_ | refine jak ?_); try simp only [go_sem]) | refine jah ?_)
      refine jam ?_
      refine ⟨rfl, _, ?_, rfl, 10, rfl⟩
      simp only [go_sem, Tryz.results52]
     ·have z1 : ieq (.ofNat (f + b)) 0 = false := (jaO _ 0 0 rfl).trans (decide_eq_false f0)
      rw [if_neg f0]
      repeat (first | refine jaf ?_ | ((first | (refine jad ?_ ?_; (focus rfl)) | (refine jac (gs := ?_) ?_ ?_; rotate_left; (focus rfl))); simp only [run1, go_sem, sl2, gg79, d2, Nat.reduceLeDiff, sl3, q1, q2, z1]) | (refine jab ?_ ?_; (focus (simp only [go_sem, sl2, gg79, d2, Nat.reduceLeDiff, sl3, q1, q2, z1]; done))) | (refine jaa ?_ ?_; (focus (simp only [go_sem, sl2, gg79, d2, Nat.reduceLeDiff, sl3, q1, q2, z1]; done))) | ((first | refine jaj ?_ | refine jai ?_ | refine jak ?_); try simp only [go_sem]) | refine jah ?_)
      exact fz true s3 10 (by rw [hb3, List.length_drop]; omega) (k := k + 93) (by simp only [go_sem]) (by simp only [go_sem])
 obtain ⟨v, μ', h1, rfl, c, rfl⟩ := key
 exact ⟨c, h1⟩
end
noncomputable section
open Go.Proofs.YtdjoekhccbiaiaaGreatDoor.NumText (form next more run jeX)
def blkC : Code → Code
 | .block _ c => c
 | c => c
theorem next_le : ∀ st, st ≤ 9 → ∀ f, f = 100 ∨ f = 115 ∨ f = 112 ∨ f = 101 ∨ f = 120 → next st f ≤ 9 ∧ more st f ≤ 1 := by
 intro st hst f hf
 have hst : st = 0 ∨ st = 1 ∨ st = 2 ∨ st = 3 ∨ st = 4 ∨ st = 5 ∨ st = 6 ∨ st = 7 ∨ st = 8 ∨ st = 9 := by omega
 rcases hst with rfl | rfl | rfl | rfl | rfl | rfl | rfl | rfl | rfl | rfl <;> rcases hf with rfl | rfl | rfl | rfl | rfl <;> decide
theorem form_five (c : Nat) : form c = 100 ∨ form c = 115 ∨ form c = 112 ∨ form c = 101 ∨ form c = 120 := by
 unfold form
 split
 ·exact .inl rfl
 ·split
  ·exact .inr (.inl rfl)
  ·split
   ·exact .inr (.inr (.inl rfl))
   ·split
    ·exact .inr (.inr (.inr (.inl rfl)))
    ·exact .inr (.inr (.inr (.inr rfl)))
set_option maxHeartbeats 40000000 in
theorem sw_ex (st f : Nat) (hst : st ≤ 9) (hf : f = 100 ∨ f = 115 ∨ f = 112 ∨ f = 101 ∨ f = 120) (p i : Nat) (hp : p ≤ 1000) (s : ByteArray) {X : XT} {k : Nat} {tm : T Value} {μ : Mem} (h0 : jaq tm 0 = .string s) (h3 : jaq tm 3 = .int .i64 (.ofNat st)) (h4 : jaq tm 4 = .int .i64 (.ofNat p)) (h5 : jaq tm 5 = .int .i64 (.ofNat i)) (h6 : jaq tm 6 = .int .u8 (.ofNat f)) (h7 : jaq tm 7 = .int .i64 9) :
  EndsC (jat Tryz.prog X S0 (k + 60) (jaW 2 (blkC (jaW 1 (jaL Tryz.f56 0)))) ⟨80, tm, [], none⟩ μ) fun x r μ' => x = .normal ∧ μ' = μ ∧ ∃ tm', r = ⟨80, tm', [], none⟩ ∧ jaq tm' 0 = .string s ∧ jaq tm' 4 = .int .i64 (.ofNat (p + more st f)) ∧ jaq tm' 5 = .int .i64 (.ofNat i) ∧ jaq tm' 7 = .int .i64 (.ofNat (next st f)) := by
 have a1 : jay .i64 (Int.add (.ofNat p) 1) = .ofNat (p + 1) := ja2 p 1 (by omega)
 have hst : st = 0 ∨ st = 1 ∨ st = 2 ∨ st = 3 ∨ st = 4 ∨ st = 5 ∨ st = 6 ∨ st = 7 ∨ st = 8 ∨ st = 9 := by omega
 rcases hst with rfl | rfl | rfl | rfl | rfl | rfl | rfl | rfl | rfl | rfl
 all_goals rcases hf with rfl | rfl | rfl | rfl | rfl
 all_goals (
  repeat (first | refine jaf ?_ | ((first | (refine jad ?_ ?_; (focus rfl)) | (refine jac (gs := ?_) ?_ ?_; rotate_left; (focus rfl))); simp only [run1, go_sem, undef, h0, h3, h4, h5, h6, h7, a1, (show ieq (.ofNat 0) 0 = true from rfl), (show ieq (.ofNat 0) 1 = false from rfl), (show ieq (.ofNat 0) 2 = false from rfl), (show ieq (.ofNat 0) 3 = false from rfl), (show ieq (.ofNat 0) 4 = false from rfl), (show ieq (.ofNat 0) 5 = false from rfl), (show ieq (.ofNat 0) 6 = false from rfl), (show ieq (.ofNat 0) 7 = false from rfl), (show ieq (.ofNat 0) 8 = false from rfl), (show ieq (.ofNat 1) 0 = false from rfl), (show ieq (.ofNat 1) 1 = true from rfl), (show ieq (.ofNat 1) 2 = false from rfl), (show ieq (.ofNat 1) 3 = false from rfl), (show ieq (.ofNat 1) 4 = false from rfl), (show ieq (.ofNat 1) 5 = false from rfl), (show ieq (.ofNat 1) 6 = false from rfl), (show ieq (.ofNat 1) 7 = false from rfl), (show ieq (.ofNat 1) 8 = false from rfl), (show ieq (.ofNat 2) 0 = false from rfl), (show ieq (.ofNat 2) 1 = false from rfl), (show ieq (.ofNat 2) 2 = true from rfl), (show ieq (.ofNat 2) 3 = false from rfl), (show ieq (.ofNat 2) 4 = false from rfl), (show ieq (.ofNat 2) 5 = false from rfl), (show ieq (.ofNat 2) 6 = false from rfl), (show ieq (.ofNat 2) 7 = false from rfl), (show ieq (.ofNat 2) 8 = false from rfl), (show ieq (.ofNat 3) 0 = false from rfl), (show ieq (.ofNat 3) 1 = false from rfl), (show ieq (.ofNat 3) 2 = false from rfl), (show ieq (.ofNat 3) 3 = true from rfl), (show ieq (.ofNat 3) 4 = false from rfl), (show ieq (.ofNat 3) 5 = false from rfl), (show ieq (.ofNat 3) 6 = false from rfl), (show ieq (.ofNat 3) 7 = false from rfl), (show ieq (.ofNat 3) 8 = false from rfl), (show ieq (.ofNat 4) 0 = false from rfl), (show ieq (.ofNat 4) 1 = false from rfl), (show ieq (.ofNat 4) 2 = false from rfl), (show ieq (.ofNat 4) 3 = false from rfl), (show ieq (.ofNat 4) 4 = true from rfl), (show ieq (.ofNat 4) 5 = false from rfl), (show ieq (.ofNat 4) 6 = false from rfl), (show ieq (.ofNat 4) 7 = false from rfl), (show ieq (.ofNat 4) 8 = false from rfl), (show ieq (.ofNat 5) 0 = false from rfl), (show ieq (.ofNat 5) 1 = false from rfl), (show ieq (.ofNat 5) 2 = false from rfl), (show ieq (.ofNat 5) 3 = false from rfl), (show ieq (.ofNat 5) 4 = false from rfl), (show ieq (.ofNat 5) 5 = true from rfl), (show ieq (.ofNat 5) 6 = false from rfl), (show ieq (.ofNat 5) 7 = false from rfl), (show ieq (.ofNat 5) 8 = false from rfl), (show ieq (.ofNat 6) 0 = false from rfl), (show ieq (.ofNat 6) 1 = false from rfl), (show ieq (.ofNat 6) 2 = false from rfl), (show ieq (.ofNat 6) 3 = false from rfl), (show ieq (.ofNat 6) 4 = false from rfl), (show ieq (.ofNat 6) 5 = false from rfl), (show ieq (.ofNat 6) 6 = true from rfl), (show ieq (.ofNat 6) 7 = false from rfl), (show ieq (.ofNat 6) 8 = false from rfl), (show ieq (.ofNat 7) 0 = false from rfl), (show ieq (.ofNat 7) 1 = false from rfl), (show ieq (.ofNat 7) 2 = false from rfl), (show ieq (.ofNat 7) 3 = false from rfl), (show ieq (.ofNat 7) 4 = false from rfl), (show ieq (.ofNat 7) 5 = false from rfl), (show ieq (.ofNat 7) 6 = false from rfl), (show ieq (.ofNat 7) 7 = true from rfl), (show ieq (.ofNat 7) 8 = false from rfl), (show ieq (.ofNat 8) 0 = false from rfl), (show ieq (.ofNat 8) 1 = false from rfl), (show ieq (.ofNat 8) 2 = false from rfl), (show ieq (.ofNat 8) 3 = false from rfl), (show ieq (.ofNat 8) 4 = false from rfl), (show ieq (.ofNat 8) 5 = false from rfl), (show ieq (.ofNat 8) 6 = false from rfl), (show ieq (.ofNat 8) 7 = false from rfl), (show ieq (.ofNat 8) 8 = true from rfl), (show ieq (.ofNat 9) 0 = false from rfl), (show ieq (.ofNat 9) 1 = false from rfl), (show ieq (.ofNat 9) 2 = false from rfl), (show ieq (.ofNat 9) 3 = false from rfl), (show ieq (.ofNat 9) 4 = false from rfl), (show ieq (.ofNat 9) 5 = false from rfl), (show ieq (.ofNat 9) 6 = false from rfl), (show ieq (.ofNat 9) 7 = false from rfl), (show ieq (.ofNat 9) 8 = false from rfl), (show ieq (.ofNat 100) 100 = true from rfl), (show ieq (.ofNat 100) 101 = false from rfl), (show ieq (.ofNat 100) 112 = false from rfl), (show ieq (.ofNat 100) 115 = false from rfl), (show ieq (.ofNat 115) 100 = false from rfl), (show ieq (.ofNat 115) 101 = false from rfl), (show ieq (.ofNat 115) 112 = false from rfl), (show ieq (.ofNat 115) 115 = true from rfl), (show ieq (.ofNat 112) 100 = false from rfl), (show ieq (.ofNat 112) 101 = false from rfl), (show ieq (.ofNat 112) 112 = true from rfl), (show ieq (.ofNat 112) 115 = false from rfl), (show ieq (.ofNat 101) 100 = false from rfl), (show ieq (.ofNat 101) 101 = true from rfl), (show ieq (.ofNat 101) 112 = false from rfl), (show ieq (.ofNat 101) 115 = false from rfl), (show ieq (.ofNat 120) 100 = false from rfl), (show ieq (.ofNat 120) 101 = false from rfl), (show ieq (.ofNat 120) 112 = false from rfl), (show ieq (.ofNat 120) 115 = false from rfl)]) | (refine jab ?_ ?_; (focus (simp only [go_sem, undef, h0, h3, h4, h5, h6, h7, a1, (show ieq (.ofNat 0) 0 = true from rfl), (show ieq (.ofNat 0) 1 = false from rfl), (show ieq (.ofNat 0) 2 = false from rfl), (show ieq (.ofNat 0) 3 = false from rfl), (show ieq (.ofNat 0) 4 = false from rfl), (show ieq (.ofNat 0) 5 = false from rfl), (show ieq (.ofNat 0) 6 = false from rfl), (show ieq (.ofNat 0) 7 = false from rfl), (show ieq (.ofNat 0) 8 = false from rfl), (show ieq (.ofNat 1) 0 = false from rfl), (show ieq (.ofNat 1) 1 = true from rfl), (show ieq (.ofNat 1) 2 = false from rfl), (show ieq (.ofNat 1) 3 = false from rfl), (show ieq (.ofNat 1) 4 = false from rfl), (show ieq (.ofNat 1) 5 = false from rfl), (show ieq (.ofNat 1) 6 = false from rfl), (show ieq (.ofNat 1) 7 = false from rfl), (show ieq (.ofNat 1) 8 = false from rfl), (show ieq (.ofNat 2) 0 = false from rfl), (show ieq (.ofNat 2) 1 = false from rfl), (show ieq (.ofNat 2) 2 = true from rfl), (show ieq (.ofNat 2) 3 = false from rfl), (show ieq (.ofNat 2) 4 = false from rfl), (show ieq (.ofNat 2) 5 = false from rfl), (show ieq (.ofNat 2) 6 = false from rfl), (show ieq (.ofNat 2) 7 = false from rfl), (show ieq (.ofNat 2) 8 = false from rfl), (show ieq (.ofNat 3) 0 = false from rfl), (show ieq (.ofNat 3) 1 = false from rfl), (show ieq (.ofNat 3) 2 = false from rfl), (show ieq (.ofNat 3) 3 = true from rfl), (show ieq (.ofNat 3) 4 = false from rfl), (show ieq (.ofNat 3) 5 = false from rfl), (show ieq (.ofNat 3) 6 = false from rfl), (show ieq (.ofNat 3) 7 = false from rfl), (show ieq (.ofNat 3) 8 = false from rfl), (show ieq (.ofNat 4) 0 = false from rfl), (show ieq (.ofNat 4) 1 = false from rfl), (show ieq (.ofNat 4) 2 = false from rfl), (show ieq (.ofNat 4) 3 = false from rfl), (show ieq (.ofNat 4) 4 = true from rfl), (show ieq (.ofNat 4) 5 = false from rfl), (show ieq (.ofNat 4) 6 = false from rfl), (show ieq (.ofNat 4) 7 = false from rfl), (show ieq (.ofNat 4) 8 = false from rfl), (show ieq (.ofNat 5) 0 = false from rfl), (show ieq (.ofNat 5) 1 = false from rfl), (show ieq (.ofNat 5) 2 = false from rfl), (show ieq (.ofNat 5) 3 = false from rfl), (show ieq (.ofNat 5) 4 = false from rfl), (show ieq (.ofNat 5) 5 = true from rfl), (show ieq (.ofNat 5) 6 = false from rfl), (show ieq (.ofNat 5) 7 = false from rfl), (show ieq (.ofNat 5) 8 = false from rfl), (show ieq (.ofNat 6) 0 = false from rfl), (show ieq (.ofNat 6) 1 = false from rfl), (show ieq (.ofNat 6) 2 = false from rfl), (show ieq (.ofNat 6) 3 = false from rfl), (show ieq (.ofNat 6) 4 = false from rfl), (show ieq (.ofNat 6) 5 = false from rfl), (show ieq (.ofNat 6) 6 = true from rfl), (show ieq (.ofNat 6) 7 = false from rfl), (show ieq (.ofNat 6) 8 = false from rfl), (show ieq (.ofNat 7) 0 = false from rfl), (show ieq (.ofNat 7) 1 = false from rfl), (show ieq (.ofNat 7) 2 = false from rfl), (show ieq (.ofNat 7) 3 = false from rfl), (show ieq (.ofNat 7) 4 = false from rfl), (show ieq (.ofNat 7) 5 = false from rfl), (show ieq (.ofNat 7) 6 = false from rfl), (show ieq (.ofNat 7) 7 = true from rfl), (show ieq (.ofNat 7) 8 = false from rfl), (show ieq (.ofNat 8) 0 = false from rfl), (show ieq (.ofNat 8) 1 = false from rfl), (show ieq (.ofNat 8) 2 = false from rfl), (show ieq (.ofNat 8) 3 = false from rfl), (show ieq (.ofNat 8) 4 = false from rfl), (show ieq (.ofNat 8) 5 = false from rfl), (show ieq (.ofNat 8) 6 = false from rfl), (show ieq (.ofNat 8) 7 = false from rfl), (show ieq (.ofNat 8) 8 = true from rfl), (show ieq (.ofNat 9) 0 = false from rfl), (show ieq (.ofNat 9) 1 = false from rfl), (show ieq (.ofNat 9) 2 = false from rfl), (show ieq (.ofNat 9) 3 = false from rfl), (show ieq (.ofNat 9) 4 = false from rfl), (show ieq (.ofNat 9) 5 = false from rfl), (show ieq (.ofNat 9) 6 = false from rfl), (show ieq (.ofNat 9) 7 = false from rfl), (show ieq (.ofNat 9) 8 = false from rfl), (show ieq (.ofNat 100) 100 = true from rfl), (show ieq (.ofNat 100) 101 = false from rfl), (show ieq (.ofNat 100) 112 = false from rfl), (show ieq (.ofNat 100) 115 = false from rfl), (show ieq (.ofNat 115) 100 = false from rfl), (show ieq (.ofNat 115) 101 = false from rfl), (show ieq (.ofNat 115) 112 = false from rfl), (show ieq (.ofNat 115) 115 = true from rfl), (show ieq (.ofNat 112) 100 = false from rfl), (show ieq (.ofNat 112) 101 = false from rfl), (show ieq (.ofNat 112) 112 = true from rfl), (show ieq (.ofNat 112) 115 = false from rfl), (show ieq (.ofNat 101) 100 = false from rfl), (show ieq (.ofNat 101) 101 = true from rfl), (show ieq (.ofNat 101) 112 = false from rfl), (show ieq (.ofNat 101) 115 = false from rfl), (show ieq (.ofNat 120) 100 = false from rfl), (show ieq (.ofNat 120) 101 = false from rfl), (show ieq (.ofNat 120) 112 = false from rfl), (show ieq (.ofNat 120) 115 = false from rfl)]; done))) | (refine jaa ?_ ?_; (focus (simp only [go_sem, undef, h0, h3, h4, h5, h6, h7, a1, (show ieq (.ofNat 0) 0 = true from rfl), (show ieq (.ofNat 0) 1 = false from rfl), (show ieq (.ofNat 0) 2 = false from rfl), (show ieq (.ofNat 0) 3 = false from rfl), (show ieq (.ofNat 0) 4 = false from rfl), (show ieq (.ofNat 0) 5 = false from rfl), (show ieq (.ofNat 0) 6 = false from rfl), (show ieq (.ofNat 0) 7 = false from rfl), (show ieq (.ofNat 0) 8 = false from rfl), (show ieq (.ofNat 1) 0 = false from rfl), (show ieq (.ofNat 1) 1 = true from rfl), (show ieq (.ofNat 1) 2 = false from rfl), (show ieq (.ofNat 1) 3 = false from rfl), (show ieq (.ofNat 1) 4 = false from rfl), (show ieq (.ofNat 1) 5 = false from rfl), (show ieq (.ofNat 1) 6 = false from rfl), (show ieq (.ofNat 1) 7 = false from rfl), (show ieq (.ofNat 1) 8 = false from rfl), (show ieq (.ofNat 2) 0 = false from rfl), (show ieq (.ofNat 2) 1 = false from rfl), (show ieq (.ofNat 2) 2 = true from rfl), (show ieq (.ofNat 2) 3 = false from rfl), (show ieq (.ofNat 2) 4 = false from rfl), (show ieq (.ofNat 2) 5 = false from rfl), (show ieq (.ofNat 2) 6 = false from rfl), (show ieq (.ofNat 2) 7 = false from rfl), (show ieq (.ofNat 2) 8 = false from rfl), (show ieq (.ofNat 3) 0 = false from rfl), (show ieq (.ofNat 3) 1 = false from rfl), (show ieq (.ofNat 3) 2 = false from rfl), (show ieq (.ofNat 3) 3 = true from rfl), (show ieq (.ofNat 3) 4 = false from rfl), (show ieq (.ofNat 3) 5 = false from rfl), (show ieq (.ofNat 3) 6 = false from rfl), (show ieq (.ofNat 3) 7 = false from rfl), (show ieq (.ofNat 3) 8 = false from rfl), (show ieq (.ofNat 4) 0 = false from rfl), (show ieq (.ofNat 4) 1 = false from rfl), (show ieq (.ofNat 4) 2 = false from rfl), (show ieq (.ofNat 4) 3 = false from rfl), (show ieq (.ofNat 4) 4 = true from rfl), (show ieq (.ofNat 4) 5 = false from rfl), (show ieq (.ofNat 4) 6 = false from rfl), (show ieq (.ofNat 4) 7 = false from rfl), (show ieq (.ofNat 4) 8 = false from rfl), (show ieq (.ofNat 5) 0 = false from rfl), (show ieq (.ofNat 5) 1 = false from rfl), (show ieq (.ofNat 5) 2 = false from rfl), (show ieq (.ofNat 5) 3 = false from rfl), (show ieq (.ofNat 5) 4 = false from rfl), (show ieq (.ofNat 5) 5 = true from rfl), (show ieq (.ofNat 5) 6 = false from rfl), (show ieq (.ofNat 5) 7 = false from rfl), (show ieq (.ofNat 5) 8 = false from rfl), (show ieq (.ofNat 6) 0 = false from rfl), (show ieq (.ofNat 6) 1 = false from rfl), (show ieq (.ofNat 6) 2 = false from rfl), (show ieq (.ofNat 6) 3 = false from rfl), (show ieq (.ofNat 6) 4 = false from rfl), (show ieq (.ofNat 6) 5 = false from rfl), (show ieq (.ofNat 6) 6 = true from rfl), (show ieq (.ofNat 6) 7 = false from rfl), (show ieq (.ofNat 6) 8 = false from rfl), (show ieq (.ofNat 7) 0 = false from rfl), (show ieq (.ofNat 7) 1 = false from rfl), (show ieq (.ofNat 7) 2 = false from rfl), (show ieq (.ofNat 7) 3 = false from rfl), (show ieq (.ofNat 7) 4 = false from rfl), (show ieq (.ofNat 7) 5 = false from rfl), (show ieq (.ofNat 7) 6 = false from rfl), (show ieq (.ofNat 7) 7 = true from rfl), (show ieq (.ofNat 7) 8 = false from rfl), (show ieq (.ofNat 8) 0 = false from rfl), (show ieq (.ofNat 8) 1 = false from rfl), (show ieq (.ofNat 8) 2 = false from rfl), (show ieq (.ofNat 8) 3 = false from rfl), (show ieq (.ofNat 8) 4 = false from rfl), (show ieq (.ofNat 8) 5 = false from rfl), (show ieq (.ofNat 8) 6 = false from rfl), (show ieq (.ofNat 8) 7 = false from rfl), (show ieq (.ofNat 8) 8 = true from rfl), (show ieq (.ofNat 9) 0 = false from rfl), (show ieq (.ofNat 9) 1 = false from rfl), (show ieq (.ofNat 9) 2 = false from rfl), (show ieq (.ofNat 9) 3 = false from rfl), (show ieq (.ofNat 9) 4 = false from rfl), (show ieq (.ofNat 9) 5 = false from rfl), (show ieq (.ofNat 9) 6 = false from rfl), (show ieq (.ofNat 9) 7 = false from rfl), (show ieq (.ofNat 9) 8 = false from rfl), (show ieq (.ofNat 100) 100 = true from rfl), (show ieq (.ofNat 100) 101 = false from rfl), (show ieq (.ofNat 100) 112 = false from rfl), (show ieq (.ofNat 100) 115 = false from rfl), (show ieq (.ofNat 115) 100 = false from rfl), (show ieq (.ofNat 115) 101 = false from rfl), (show ieq (.ofNat 115) 112 = false from rfl), (show ieq (.ofNat 115) 115 = true from rfl), (show ieq (.ofNat 112) 100 = false from rfl), (show ieq (.ofNat 112) 101 = false from rfl), (show ieq (.ofNat 112) 112 = true from rfl), (show ieq (.ofNat 112) 115 = false from rfl), (show ieq (.ofNat 101) 100 = false from rfl), (show ieq (.ofNat 101) 101 = true from rfl), (show ieq (.ofNat 101) 112 = false from rfl), (show ieq (.ofNat 101) 115 = false from rfl), (show ieq (.ofNat 120) 100 = false from rfl), (show ieq (.ofNat 120) 101 = false from rfl), (show ieq (.ofNat 120) 112 = false from rfl), (show ieq (.ofNat 120) 115 = false from rfl)]; done))) | ((first | refine jaj ?_ | refine jai ?_ | refine jak ?_); try simp only [go_sem]) | refine jah ?_)
  try simp only [ja4, jao]
  exact ⟨by trivial, by trivial, _, rfl, by simp only [go_sem, h0], by (simp only [go_sem, h4]; try rfl), by simp only [go_sem, h5], by (simp only [go_sem, h7]; try rfl)⟩)
end
noncomputable section
open Go.Proofs.YtdjoekhccbiaiaaGreatDoor.NumText (form next more run jeX)
theorem g_form {c : Nat} (hc : c < 256) {X : XT} {ev : Code → Rg → Mem → Option (Ax × Rg × Mem)} (μ : Mem) : aGo Tryz.prog X (jbL Tryz.prog ev S0) 85 [.int .u8 (.ofNat c)] μ = some (.int .u8 (.ofNat (form c)), μ) :=
 (jdX Tryz.func85 rfl).trans (jeM (f := fF) rfl (by show (if c < 256 then _ else _) = _; rw [if_pos hc]) rfl rfl)
theorem swC_ex : ∃ c : Code, c = (jaW 2 (blkC (jaW 1 (jaL Tryz.f56 0)))) := ⟨_, rfl⟩
def swC : Code := Classical.choose swC_ex
theorem swC_eq : swC = (jaW 2 (blkC (jaW 1 (jaL Tryz.f56 0)))) := Classical.choose_spec swC_ex
theorem sw_ex' (st f : Nat) (hst : st ≤ 9) (hf : f = 100 ∨ f = 115 ∨ f = 112 ∨ f = 101 ∨ f = 120) (p i : Nat) (hp : p ≤ 1000) (s : ByteArray) {X : XT} {k : Nat} {tm : T Value} {μ : Mem} (h0 : jaq tm 0 = .string s) (h3 : jaq tm 3 = .int .i64 (.ofNat st)) (h4 : jaq tm 4 = .int .i64 (.ofNat p)) (h5 : jaq tm 5 = .int .i64 (.ofNat i)) (h6 : jaq tm 6 = .int .u8 (.ofNat f)) (h7 : jaq tm 7 = .int .i64 9) :
  EndsC (jat Tryz.prog X S0 (k + 60) swC ⟨80, tm, [], none⟩ μ) fun x r μ' => x = .normal ∧ μ' = μ ∧ ∃ tm', r = ⟨80, tm', [], none⟩ ∧ jaq tm' 0 = .string s ∧ jaq tm' 4 = .int .i64 (.ofNat (p + more st f)) ∧ jaq tm' 5 = .int .i64 (.ofNat i) ∧ jaq tm' 7 = .int .i64 (.ofNat (next st f)) := by
 rw [swC_eq]
 exact sw_ex st f hst hf p i hp s h0 h3 h4 h5 h6 h7
theorem rb0 : (jaL Tryz.f56 0) = .seq (jaW 0 (jaL Tryz.f56 0)) (.seq (.block 1 (.seq (jaW 0 (blkC (jaW 1 (jaL Tryz.f56 0)))) (.seq (jaW 1 (blkC (jaW 1 (jaL Tryz.f56 0)))) (.seq swC (ja1 3 (blkC (jaW 1 (jaL Tryz.f56 0)))))))) (ja1 2 (jaL Tryz.f56 0))) := by rw [swC_eq]; kernel_rfl
theorem rr_loop {s : ByteArray} (hl : (bys s).length ≤ 1000) : ∀ (m i st p : Nat), i + m = (bys s).length → st ≤ 9 → p ≤ i → ∃ st' p', st' ≤ 9 ∧ p' ≤ 1000 ∧ run st p ((bys s).drop i) = run st' p' [] ∧ ∀ {X : XT} {e : Nat} {tm : T Value} {μ : Mem}, jaq tm 0 = .string s → jaq tm 3 = .int .i64 (.ofNat st) → jaq tm 4 = .int .i64 (.ofNat p) → jaq tm 5 = .int .i64 (.ofNat i) →
  EndsC (jat Tryz.prog X S0 (e + m + 90) (.loop (jaL Tryz.f56 0)) ⟨80, tm, [], none⟩ μ) fun x r μ' => x = .exit 0 ∧ μ' = μ ∧ ∃ tm', r = ⟨80, tm', [], none⟩ ∧ jaq tm' 3 = .int .i64 (.ofNat st') ∧ jaq tm' 4 = .int .i64 (.ofNat p') := by
 have ls := ja5 s
 intro m
 induction m with
 | zero =>
   intro i st p hi hst hp
   have hi : i = (bys s).length := hi
   have e1 : ilt (.ofNat i) (.ofNat (bys s).length) = false := (jav _ _).trans (decide_eq_false (by omega))
   refine ⟨st, p, hst, by omega, by rw [hi, List.drop_length], fun {X e tm μ} h0 h3 h4 h5 => ?_⟩
   refine jas ?_
   repeat (first | refine jaf ?_ | ((first | (refine jad ?_ ?_; (focus rfl)) | (refine jac (gs := ?_) ?_ ?_; rotate_left; (focus rfl))); simp only [run1, go_sem, h0, h3, h4, h5, jae, ls, jag, e1]) | (refine jab ?_ ?_; (focus (simp only [go_sem, h0, h3, h4, h5, jae, ls, jag, e1]; done))) | (refine jaa ?_ ?_; (focus (simp only [go_sem, h0, h3, h4, h5, jae, ls, jag, e1]; done))) | ((first | refine jaj ?_ | refine jai ?_ | refine jak ?_); try simp only [go_sem]) | refine jah ?_)
   exact ⟨by trivial, by trivial, _, rfl, by simp only [go_sem, h3], by simp only [go_sem, h4]⟩
 | succ m ih =>
   intro i st p hi hst hp
   have hlt : i < (bys s).length := by omega
   have hdr : (bys s).drop i = (bys s)[i]'hlt :: (bys s).drop (i + 1) := List.drop_eq_getElem_cons hlt
   obtain ⟨c, hc⟩ : ∃ c, c = (bys s)[i]'hlt := ⟨_, rfl⟩
   have hc256 : c < 256 := by rw [hc]; exact jgR (List.getElem_mem hlt)
   rw [← hc] at hdr
   have hx : ∀ (r : Rg) (x y : Operand), aev Tryz.prog r x = .string s → aev Tryz.prog r y = .int .i64 (.ofNat i) → jbi Tryz.prog (aev Tryz.prog r) 9 x y = some (.int .u8 (.ofNat c)) := fun r x y h1 h2 => by rw [hc]; exact jbA hlt h1 h2
   have e1 : ilt (.ofNat i) (.ofNat (bys s).length) = true := (jav _ _).trans (decide_eq_true hlt)
   have a1 : jay .i64 (Int.add (.ofNat i) 1) = .ofNat (i + 1) := ja2 i 1 (by omega)
   clear hc
   have gf := fun (X : XT) (ev : Code → Rg → Mem → Option (Ax × Rg × Mem)) (μ : Mem) => g_form hc256 (X := X) (ev := ev) μ
   have h5f := form_five c
   obtain ⟨n1, n2⟩ := next_le st hst (form c) h5f
   obtain ⟨st', p', b1, b2, b3, hih⟩ := ih (i + 1) (next st (form c)) (p + more st (form c)) (by omega) n1 (by omega)
   refine ⟨st', p', b1, b2, by rw [hdr, run]; exact b3, fun {X e tm μ} h0 h3 h4 h5 => ?_⟩
   refine jas ?_
   rw [rb0]
   repeat (first | refine jaf ?_ | ((first | (refine jad ?_ ?_; (focus rfl)) | (refine jac (gs := ?_) ?_ ?_; rotate_left; (focus rfl))); simp only [run1, go_sem, h0, h3, h4, h5, jae, ls, jag, e1, hx, gf]) | (refine jab ?_ ?_; (focus (simp only [go_sem, h0, h3, h4, h5, jae, ls, jag, e1, hx, gf]; done))) | (refine jaa ?_ ?_; (focus (simp only [go_sem, h0, h3, h4, h5, jae, ls, jag, e1, hx, gf]; done))) | ((first | refine jaj ?_ | refine jai ?_ | refine jak ?_); try simp only [go_sem]) | refine jah ?_)
   rw [show e + (m + 1) + 83 = (e + m + 24) + 60 from by omega]
   refine EndsC.mono (sw_ex' st (form c) hst h5f p i (by omega) s (by simp only [go_sem, h0]) (by simp only [go_sem, h3]) (by simp only [go_sem, h4]) (by simp only [go_sem, h5]) (by simp only [go_sem]) (by simp only [go_sem])) ?_
   rintro x r μ' ⟨rfl, rfl, tm', rfl, h0, h4, h5, h7⟩
   simp only [jao]
   repeat (first | refine jaf ?_ | ((first | (refine jad ?_ ?_; (focus rfl)) | (refine jac (gs := ?_) ?_ ?_; rotate_left; (focus rfl))); simp only [run1, go_sem, h0, h4, h5, h7, a1]) | (refine jab ?_ ?_; (focus (simp only [go_sem, h0, h4, h5, h7, a1]; done))) | (refine jaa ?_ ?_; (focus (simp only [go_sem, h0, h4, h5, h7, a1]; done))) | ((first | refine jaj ?_ | refine jai ?_ | refine jak ?_); try simp only [go_sem]) | refine jah ?_)
   rw [← rb0, show e + (m + 1) + 89 = e + m + 90 from by omega]
   exact hih (by simp only [go_sem, h0]) (by simp only [go_sem]) (by simp only [go_sem, h4]) (by simp only [go_sem])
theorem jia {X : XT} {g : Nat} {s : ByteArray} {μ : Mem} (hl : (bys s).length ≤ 1000) (hg : 1200 ≤ g) : aFun Tryz.prog (jat Tryz.prog X S0 g) 56 [.string s] μ = some (.bool (jeX (bys s)), μ) := by
 obtain ⟨k, rfl⟩ := gle hg
 obtain ⟨st, p, b1, b2, b3, hlp⟩ := rr_loop hl (bys s).length 0 0 0 (Nat.zero_add _) (by decide) (Nat.le_refl _)
 have hr : jeX (bys s) = run st p [] := by rw [← b3, List.drop_zero]; rfl
 rw [hr]
 refine jaQ ?_
 refine jan Tryz.func56 rfl rfl (nbl rfl) ?_
 simp only [go_sem, Tryz.ntmps56]
 repeat (first | refine jaf ?_ | ((first | (refine jad ?_ ?_; (focus rfl)) | (refine jac (gs := ?_) ?_ ?_; rotate_left; (focus rfl))); simp only [run1, go_sem]) | (refine jab ?_ ?_; (focus (simp only [go_sem]; done))) | (refine jaa ?_ ?_; (focus (simp only [go_sem]; done))) | ((first | refine jaj ?_ | refine jai ?_ | refine jak ?_); try simp only [go_sem]) | refine jah ?_)
 rw [show k + 1195 = (k + 1105 - (bys s).length) + (bys s).length + 90 from by omega]
 refine EndsC.mono (hlp (by simp only [go_sem]) (by simp only [go_sem]; try rfl) (by simp only [go_sem]; try rfl) (by simp only [go_sem]; try rfl)) ?_
 rintro x r μ' ⟨rfl, rfl, tm', rfl, h3, h4⟩
 simp only [ja4, reduceIte, jao]
 have c1 : ieq (.ofNat st) 3 = decide (st = 3) := jaO _ 3 3 rfl
 have c2 : ieq (.ofNat st) 5 = decide (st = 5) := jaO _ 5 5 rfl
 have c3 : ieq (.ofNat st) 8 = decide (st = 8) := jaO _ 8 8 rfl
 have c4 : ilt 4 (.ofNat p) = decide (4 < p) := jav 4 p
 have hrun : run st p [] = (decide (st = 3) || decide (st = 5) || (decide (st = 8) && decide (p ≤ 4))) := rfl
 rw [hrun]
 have c5 : (!decide (4 < p)) = decide (p ≤ 4) := by by_cases h : p ≤ 4 <;> simp [h] <;> omega
 by_cases e3 : st = 3
 ·rw [decide_eq_true e3] at c1 ⊢
  refine jaf ?_
  refine jac (gs := ?_) ?_ ?_
  rotate_left
  ·rfl
  iterate 3 (refine jal (by first | rfl | (simp only [go_sem, undef, h3, h4, c1])) (by simp only [go_sem, undef, h3, h4, c1]; try exact rfl) rfl ?_)
  iterate 2 (refine jaA (by simp only [go_sem, undef, h3, h4, c1]) rfl ?_)
  iterate 2 (refine jal (by first | rfl | (simp only [go_sem, undef, h3, h4, c1])) (by simp only [go_sem, undef, h3, h4, c1]; try exact rfl) rfl ?_)
  iterate 6 (refine jaA (by simp only [go_sem, undef, h3, h4, c1]) rfl ?_)
  iterate 2 (refine jal (by first | rfl | (simp only [go_sem, undef, h3, h4, c1])) (by simp only [go_sem, undef, h3, h4, c1]; try exact rfl) rfl ?_)
  simp only [go_sem]
  refine jam ?_
  refine ⟨rfl, _, ?_, rfl, rfl⟩
  simp only [go_sem, Tryz.results56]
  rfl
 rw [decide_eq_false e3] at c1 ⊢
 by_cases e5 : st = 5
 ·rw [decide_eq_true e5] at c2 ⊢
  refine jaf ?_
  refine jac (gs := ?_) ?_ ?_
  rotate_left
  ·rfl
  iterate 7 (refine jal (by first | rfl | (simp only [go_sem, undef, h3, h4, c1, c2])) (by simp only [go_sem, undef, h3, h4, c1, c2]; try exact rfl) rfl ?_)
  iterate 6 (refine jaA (by simp only [go_sem, undef, h3, h4, c1, c2]) rfl ?_)
  iterate 2 (refine jal (by first | rfl | (simp only [go_sem, undef, h3, h4, c1, c2])) (by simp only [go_sem, undef, h3, h4, c1, c2]; try exact rfl) rfl ?_)
  simp only [go_sem]
  refine jam ?_
  refine ⟨rfl, _, ?_, rfl, rfl⟩
  simp only [go_sem, Tryz.results56]
  rfl
 rw [decide_eq_false e5] at c2 ⊢
 by_cases e8 : st = 8
 ·rw [decide_eq_true e8] at c3 ⊢
  refine jaf ?_
  refine jac (gs := ?_) ?_ ?_
  rotate_left
  ·rfl
  iterate 15 (refine jal (by first | rfl | (simp only [go_sem, undef, h3, h4, c1, c2, c3, c4, c5])) (by simp only [go_sem, undef, h3, h4, c1, c2, c3, c4, c5]; try exact rfl) rfl ?_)
  simp only [go_sem]
  refine jam ?_
  refine ⟨rfl, _, ?_, rfl, rfl⟩
  simp only [go_sem, Tryz.results56]
  rfl
 ·rw [decide_eq_false e8] at c3 ⊢
  refine jaf ?_
  refine jac (gs := ?_) ?_ ?_
  rotate_left
  ·rfl
  iterate 10 (refine jal (by first | rfl | (simp only [go_sem, undef, h3, h4, c1, c2, c3])) (by simp only [go_sem, undef, h3, h4, c1, c2, c3]; try exact rfl) rfl ?_)
  iterate 2 (refine jaA (by simp only [go_sem, undef, h3, h4, c1, c2, c3]) rfl ?_)
  iterate 3 (refine jal (by first | rfl | (simp only [go_sem, undef, h3, h4, c1, c2, c3])) (by simp only [go_sem, undef, h3, h4, c1, c2, c3]; try exact rfl) rfl ?_)
  simp only [go_sem]
  refine jam ?_
  refine ⟨rfl, _, ?_, rfl, rfl⟩
  simp only [go_sem, Tryz.results56]
  rfl
end
noncomputable section
section
set_option linter.defProp false
variable {X : XT} {ev : Code → Rg → Mem → Option (Ax × Rg × Mem)}
def gg5 := go_call (P := Tryz.prog) (X := X) (ev := ev) (S := S0) Tryz.func5 rfl rfl
def gg6 := go_call (P := Tryz.prog) (X := X) (ev := ev) (S := S0) Tryz.func6 rfl rfl
def gg15 := go_call (P := Tryz.prog) (X := X) (ev := ev) (S := S0) Tryz.func15 rfl rfl
def gg17 := go_call (P := Tryz.prog) (X := X) (ev := ev) (S := S0) Tryz.func17 rfl rfl
end
theorem g_plain {c : Nat} (hc : c < 256) {X : XT} {ev : Code → Rg → Mem → Option (Ax × Rg × Mem)} (μ : Mem) : aGo Tryz.prog X (jbL Tryz.prog ev S0) 14 [.int .u8 (.ofNat c)] μ = some (.bool (plainL.contains c), μ) :=
 (jdX Tryz.func14 rfl).trans (jeM (f := fP) rfl (by show (if c < 256 then _ else _) = _; rw [if_pos hc]) rfl rfl)
theorem g_plain2 {c : Nat} (hc : c < 256) {X : XT} {ev : Code → Rg → Mem → Option (Ax × Rg × Mem)} (μ : Mem) : aGo Tryz.prog X (jbL Tryz.prog ev S0) 16 [.int .u8 (.ofNat c)] μ = some (.bool (plainL.contains c), μ) :=
 (jdX Tryz.func16 rfl).trans (jeM (f := fP) rfl (by show (if c < 256 then _ else _) = _; rw [if_pos hc]) rfl rfl)
def dotS : ByteArray := ⟨List.toArray [46]⟩
def Head (s : ByteArray) : Prop := 1 ≤ (bys s).length ∧ (bys s).length ≤ 40 ∧ s ≠ dotS
def jde (s : ByteArray) : Prop := ∀ c ∈ bys s, plainL.contains c = true
theorem str_eq (a b : ByteArray) : aStr .eql a b = some (.bool (decide (a = b))) := by
 unfold aStr
 simp only [ji1]
theorem pn_loop {s : ByteArray} (hl : (bys s).length ≤ 1000) : ∀ (m i : Nat), i + m = (bys s).length → ∀ {X : XT} {e : Nat} {tm : T Value} {μ : Mem}, jaq tm 0 = .string s → jaq tm 2 = .bool false → jaq tm 20 = .int .i64 (.ofNat i) → jaq tm 19 = .int .i64 (.ofNat (bys s).length) →
  EndsC (jat Tryz.prog X S0 (e + m + 30) (.loop (jaL Tryz.f5 0)) ⟨36, tm, [], none⟩ μ) fun x r μ' => μ' = μ ∧ ∃ tm', r = ⟨36, tm', [], none⟩ ∧ jaq tm' 0 = .string s ∧ jaq tm' 2 = .bool false ∧ (((∀ c ∈ (bys s).drop i, plainL.contains c = true) ∧ x = .exit 0) ∨ ((∃ c ∈ (bys s).drop i, plainL.contains c = false) ∧ x = .ret)) := by
 have ls := ja5 s
 intro m
 induction m with
 | zero =>
   intro i hi X e tm μ h0 h2 h3 h19
   have hi : i = (bys s).length := hi
   have e1 : ilt (.ofNat i) (.ofNat (bys s).length) = false := (jav _ _).trans (decide_eq_false (by omega))
   refine jas ?_
   repeat (first | refine jaf ?_ | ((first | (refine jad ?_ ?_; (focus rfl)) | (refine jac (gs := ?_) ?_ ?_; rotate_left; (focus rfl))); simp only [run1, go_sem, h0, h2, h3, h19, jae, ls, jag, e1]) | (refine jab ?_ ?_; (focus (simp only [go_sem, h0, h2, h3, h19, jae, ls, jag, e1]; done))) | (refine jaa ?_ ?_; (focus (simp only [go_sem, h0, h2, h3, h19, jae, ls, jag, e1]; done))) | ((first | refine jaj ?_ | refine jai ?_ | refine jak ?_); try simp only [go_sem]) | refine jah ?_)
   exact ⟨by trivial, _, rfl, by simp only [go_sem, h0], by simp only [go_sem, h2],   .inl ⟨(by rw [hi, List.drop_length]; intro c hc; cases hc), by trivial⟩⟩
 | succ m ih =>
   intro i hi X e tm μ h0 h2 h3 h19
   have hlt : i < (bys s).length := by omega
   have hdr : (bys s).drop i = (bys s)[i]'hlt :: (bys s).drop (i + 1) := List.drop_eq_getElem_cons hlt
   obtain ⟨c, hc⟩ : ∃ c, c = (bys s)[i]'hlt := ⟨_, rfl⟩
   have hc256 : c < 256 := by rw [hc]; exact jgR (List.getElem_mem hlt)
   rw [← hc] at hdr
   have hx : ∀ (r : Rg) (x y : Operand), aev Tryz.prog r x = .string s → aev Tryz.prog r y = .int .i64 (.ofNat i) → jbi Tryz.prog (aev Tryz.prog r) 9 x y = some (.int .u8 (.ofNat c)) := fun r x y h1 h2 => by rw [hc]; exact jbA hlt h1 h2
   have e1 : ilt (.ofNat i) (.ofNat (bys s).length) = true := (jav _ _).trans (decide_eq_true hlt)
   have a1 : jay .i64 (Int.add (.ofNat i) 1) = .ofNat (i + 1) := ja2 i 1 (by omega)
   have gp := fun (X : XT) (ev : Code → Rg → Mem → Option (Ax × Rg × Mem)) (μ : Mem) => g_plain hc256 (X := X) (ev := ev) μ
   clear hc
   rw [hdr]
   cases hp : plainL.contains c with
   | false =>
     rw [hp] at gp
     refine jas ?_
     repeat (first | refine jaf ?_ | ((first | (refine jad ?_ ?_; (focus rfl)) | (refine jac (gs := ?_) ?_ ?_; rotate_left; (focus rfl))); simp only [run1, go_sem, h0, h2, h3, h19, jae, ls, jag, e1, hx, gp]) | (refine jab ?_ ?_; (focus (simp only [go_sem, h0, h2, h3, h19, jae, ls, jag, e1, hx, gp]; done))) | (refine jaa ?_ ?_; (focus (simp only [go_sem, h0, h2, h3, h19, jae, ls, jag, e1, hx, gp]; done))) | ((first | refine jaj ?_ | refine jai ?_ | refine jak ?_); try simp only [go_sem]) | refine jah ?_)
     refine jam ?_
     exact ⟨by trivial, _, rfl, by simp only [go_sem, h0], by simp only [go_sem, h2], .inr ⟨⟨c, List.mem_cons_self, hp⟩, by trivial⟩⟩
   | true =>
     rw [hp] at gp
     refine jas ?_
     repeat (first | refine jaf ?_ | ((first | (refine jad ?_ ?_; (focus rfl)) | (refine jac (gs := ?_) ?_ ?_; rotate_left; (focus rfl))); simp only [run1, go_sem, h0, h2, h3, h19, jae, ls, jag, e1, hx, gp, a1]) | (refine jab ?_ ?_; (focus (simp only [go_sem, h0, h2, h3, h19, jae, ls, jag, e1, hx, gp, a1]; done))) | (refine jaa ?_ ?_; (focus (simp only [go_sem, h0, h2, h3, h19, jae, ls, jag, e1, hx, gp, a1]; done))) | ((first | refine jaj ?_ | refine jai ?_ | refine jak ?_); try simp only [go_sem]) | refine jah ?_)
     rw [show e + (m + 1) + 29 = e + m + 30 from by omega]
     refine EndsC.mono (ih (i + 1) (by omega) (by simp only [go_sem, h0]) (by simp only [go_sem, h2]) (by simp only [go_sem]) (by simp only [go_sem, h19])) ?_
     rintro x r μ' ⟨g1, tm', g2, g3, g4, g5⟩
     refine ⟨g1, tm', g2, g3, g4, ?_⟩
     rcases g5 with ⟨g5, g6⟩ | ⟨⟨d, g5, g6⟩, g7⟩
     ·exact .inl ⟨fun d hd => by
       rcases List.mem_cons.1 hd with rfl | hd
       ·exact hp
       ·exact g5 d hd, g6⟩
     ·exact .inr ⟨⟨d, List.mem_cons_of_mem _ g5, g6⟩, g7⟩
theorem pn_no {s : ByteArray} (h : ¬ (Head s ∧ jde s)) {X : XT} {g : Nat} {μ : Mem} (hg : 200 ≤ g) : aFun Tryz.prog (jat Tryz.prog X S0 g) 5 [.string s] μ = some (.bool false, μ) := by
 obtain ⟨k, rfl⟩ := gle hg
 have ls := ja5 s
 refine jaQ ?_
 by_cases z : (bys s).length = 0
 ·have e1 : ieq (.ofNat (bys s).length) 0 = true := (jaO _ 0 0 rfl).trans (decide_eq_true z)
  refine jan Tryz.func5 rfl rfl (nbl rfl) ?_
  simp only [go_sem, Tryz.ntmps5]
  refine jaf ?_
  refine jad ?_ ?_
  ·rfl
  simp only [go_sem]
  refine jaf ?_
  refine jaf ?_
  refine jac (gs := ?_) ?_ ?_
  rotate_left
  ·rfl
  iterate 4 (refine jal (by first | rfl | (simp only [go_sem, undef, jae, ls, jag, e1])) (by simp only [go_sem, undef, jae, ls, jag, e1]; try exact rfl) rfl ?_)
  iterate 3 (refine jaA (by simp only [go_sem, undef, jae, ls, jag, e1]) rfl ?_)
  iterate 2 (refine jal (by first | rfl | (simp only [go_sem, undef, jae, ls, jag, e1])) (by simp only [go_sem, undef, jae, ls, jag, e1]; try exact rfl) rfl ?_)
  iterate 2 (refine jaA (by simp only [go_sem, undef, jae, ls, jag, e1]) rfl ?_)
  refine jal (by first | rfl | (simp only [go_sem, undef, jae, ls, jag, e1])) (by simp only [go_sem, undef, jae, ls, jag, e1]; try exact rfl) rfl ?_
  simp only [go_sem]
  repeat (first | refine jaf ?_ | ((first | (refine jad ?_ ?_; (focus rfl)) | (refine jac (gs := ?_) ?_ ?_; rotate_left; (focus rfl))); simp only [run1, go_sem]) | (refine jab ?_ ?_; (focus (simp only [go_sem]; done))) | (refine jaa ?_ ?_; (focus (simp only [go_sem]; done))) | ((first | refine jaj ?_ | refine jai ?_ | refine jak ?_); try simp only [go_sem]) | refine jah ?_)
  refine jam ?_
  refine ⟨rfl, _, ?_, rfl, rfl⟩
  simp only [go_sem, Tryz.results5]
 have e1 : ieq (.ofNat (bys s).length) 0 = false := (jaO _ 0 0 rfl).trans (decide_eq_false z)
 by_cases z2 : 40 < (bys s).length
 ·have e2 : ilt 40 (.ofNat (bys s).length) = true := (jav 40 _).trans (decide_eq_true z2)
  refine jan Tryz.func5 rfl rfl (nbl rfl) ?_
  simp only [go_sem, Tryz.ntmps5]
  refine jaf ?_
  refine jad ?_ ?_
  ·rfl
  simp only [go_sem]
  refine jaf ?_
  refine jaf ?_
  refine jac (gs := ?_) ?_ ?_
  rotate_left
  ·rfl
  iterate 9 (refine jal (by first | rfl | (simp only [go_sem, undef, jae, ls, jag, e1, e2])) (by simp only [go_sem, undef, jae, ls, jag, e1, e2]; try exact rfl) rfl ?_)
  iterate 2 (refine jaA (by simp only [go_sem, undef, jae, ls, jag, e1, e2]) rfl ?_)
  refine jal (by first | rfl | (simp only [go_sem, undef, jae, ls, jag, e1, e2])) (by simp only [go_sem, undef, jae, ls, jag, e1, e2]; try exact rfl) rfl ?_
  simp only [go_sem]
  repeat (first | refine jaf ?_ | ((first | (refine jad ?_ ?_; (focus rfl)) | (refine jac (gs := ?_) ?_ ?_; rotate_left; (focus rfl))); simp only [run1, go_sem]) | (refine jab ?_ ?_; (focus (simp only [go_sem]; done))) | (refine jaa ?_ ?_; (focus (simp only [go_sem]; done))) | ((first | refine jaj ?_ | refine jai ?_ | refine jak ?_); try simp only [go_sem]) | refine jah ?_)
  refine jam ?_
  refine ⟨rfl, _, ?_, rfl, rfl⟩
  simp only [go_sem, Tryz.results5]
 have e2 : ilt 40 (.ofNat (bys s).length) = false := (jav 40 _).trans (decide_eq_false z2)
 by_cases z3 : s = dotS
 ·have e3 : aStr .eql s ⟨List.toArray [46]⟩ = some (.bool true) := (str_eq s dotS).trans (by rw [decide_eq_true z3])
  refine jan Tryz.func5 rfl rfl (nbl rfl) ?_
  simp only [go_sem, Tryz.ntmps5]
  refine jaf ?_
  refine jad ?_ ?_
  ·rfl
  simp only [go_sem]
  refine jaf ?_
  refine jaf ?_
  refine jac (gs := ?_) ?_ ?_
  rotate_left
  ·rfl
  iterate 12 (refine jal (by first | rfl | (simp only [go_sem, undef, jae, ls, jag, e1, e2, e3])) (by simp only [go_sem, undef, jae, ls, jag, e1, e2, e3]; try exact rfl) rfl ?_)
  simp only [go_sem]
  repeat (first | refine jaf ?_ | ((first | (refine jad ?_ ?_; (focus rfl)) | (refine jac (gs := ?_) ?_ ?_; rotate_left; (focus rfl))); simp only [run1, go_sem]) | (refine jab ?_ ?_; (focus (simp only [go_sem]; done))) | (refine jaa ?_ ?_; (focus (simp only [go_sem]; done))) | ((first | refine jaj ?_ | refine jai ?_ | refine jak ?_); try simp only [go_sem]) | refine jah ?_)
  refine jam ?_
  refine ⟨rfl, _, ?_, rfl, rfl⟩
  simp only [go_sem, Tryz.results5]
 have e3 : aStr .eql s ⟨List.toArray [46]⟩ = some (.bool false) := (str_eq s dotS).trans (by rw [decide_eq_false z3])
 have hp : ¬ jde s := fun hp => h ⟨⟨by omega, by omega, z3⟩, hp⟩
 refine jan Tryz.func5 rfl rfl (nbl rfl) ?_
 simp only [go_sem, Tryz.ntmps5]
 refine jaf ?_
 refine jad ?_ ?_
 ·rfl
 simp only [go_sem]
 refine jaf ?_
 refine jaf ?_
 refine jac (gs := ?_) ?_ ?_
 rotate_left
 ·rfl
 iterate 12 (refine jal (by first | rfl | (simp only [go_sem, undef, jae, ls, jag, e1, e2, e3])) (by simp only [go_sem, undef, jae, ls, jag, e1, e2, e3]; try exact rfl) rfl ?_)
 simp only [go_sem]
 repeat (first | refine jaf ?_ | ((first | (refine jad ?_ ?_; (focus rfl)) | (refine jac (gs := ?_) ?_ ?_; rotate_left; (focus rfl))); simp only [run1, go_sem, jae, ls, jag]) | (refine jab ?_ ?_; (focus (simp only [go_sem, jae, ls, jag]; done))) | (refine jaa ?_ ?_; (focus (simp only [go_sem, jae, ls, jag]; done))) | ((first | refine jaj ?_ | refine jai ?_ | refine jak ?_); try simp only [go_sem]) | refine jah ?_)
 rw [show k + 195 = (k + 165 - (bys s).length) + (bys s).length + 30 from by omega]
 refine EndsC.mono (pn_loop (by omega) (bys s).length 0 (Nat.zero_add _) (by simp only [go_sem]) (by simp only [go_sem]) (by simp only [go_sem]; try rfl) (by simp only [go_sem])) ?_
 rintro x r μ' ⟨rfl, tm', rfl, h0, h2, h5⟩
 rcases h5 with ⟨h5, -⟩ | ⟨-, rfl⟩
 ·exact absurd h5 hp
 ·simp only [ja4]
  refine ⟨rfl, _, ?_, rfl, rfl⟩
  simp only [go_sem, Tryz.results5]
  rw [h2]
theorem rn_loop {s : ByteArray} (hl : (bys s).length ≤ 1000) : ∀ (m i : Nat), i + m = (bys s).length → ∀ {X : XT} {e : Nat} {tm : T Value} {μ : Mem}, jaq tm 0 = .string s → jaq tm 2 = .bool false → jaq tm 3 = .int .i64 (.ofNat i) →
  EndsC (jat Tryz.prog X S0 (e + m + 30) (.loop (jaL Tryz.f6 0)) ⟨36, tm, [], none⟩ μ) fun x r μ' => μ' = μ ∧ ∃ tm', r = ⟨36, tm', [], none⟩ ∧ jaq tm' 0 = .string s ∧ jaq tm' 2 = .bool false ∧ (((∀ c ∈ (bys s).drop i, plainL.contains c = true) ∧ x = .exit 0) ∨ ((∃ c ∈ (bys s).drop i, plainL.contains c = false) ∧ x = .ret)) := by
 have ls := ja5 s
 intro m
 induction m with
 | zero =>
   intro i hi X e tm μ h0 h2 h3
   have hi : i = (bys s).length := hi
   have e1 : ilt (.ofNat i) (.ofNat (bys s).length) = false := (jav _ _).trans (decide_eq_false (by omega))
   refine jas ?_
   repeat (first | refine jaf ?_ | ((first | (refine jad ?_ ?_; (focus rfl)) | (refine jac (gs := ?_) ?_ ?_; rotate_left; (focus rfl))); simp only [run1, go_sem, h0, h2, h3, jae, ls, jag, e1]) | (refine jab ?_ ?_; (focus (simp only [go_sem, h0, h2, h3, jae, ls, jag, e1]; done))) | (refine jaa ?_ ?_; (focus (simp only [go_sem, h0, h2, h3, jae, ls, jag, e1]; done))) | ((first | refine jaj ?_ | refine jai ?_ | refine jak ?_); try simp only [go_sem]) | refine jah ?_)
   exact ⟨by trivial, _, rfl, by simp only [go_sem, h0], by simp only [go_sem, h2],   .inl ⟨(by rw [hi, List.drop_length]; intro c hc; cases hc), by trivial⟩⟩
 | succ m ih =>
   intro i hi X e tm μ h0 h2 h3
   have hlt : i < (bys s).length := by omega
   have hdr : (bys s).drop i = (bys s)[i]'hlt :: (bys s).drop (i + 1) := List.drop_eq_getElem_cons hlt
   obtain ⟨c, hc⟩ : ∃ c, c = (bys s)[i]'hlt := ⟨_, rfl⟩
   have hc256 : c < 256 := by rw [hc]; exact jgR (List.getElem_mem hlt)
   rw [← hc] at hdr
   have hx : ∀ (r : Rg) (x y : Operand), aev Tryz.prog r x = .string s → aev Tryz.prog r y = .int .i64 (.ofNat i) → jbi Tryz.prog (aev Tryz.prog r) 9 x y = some (.int .u8 (.ofNat c)) := fun r x y h1 h2 => by rw [hc]; exact jbA hlt h1 h2
   have e1 : ilt (.ofNat i) (.ofNat (bys s).length) = true := (jav _ _).trans (decide_eq_true hlt)
   have a1 : jay .i64 (Int.add (.ofNat i) 1) = .ofNat (i + 1) := ja2 i 1 (by omega)
   have gp := fun (X : XT) (ev : Code → Rg → Mem → Option (Ax × Rg × Mem)) (μ : Mem) => g_plain2 hc256 (X := X) (ev := ev) μ
   clear hc
   rw [hdr]
   cases hp : plainL.contains c with
   | false =>
     rw [hp] at gp
     refine jas ?_
     repeat (first | refine jaf ?_ | ((first | (refine jad ?_ ?_; (focus rfl)) | (refine jac (gs := ?_) ?_ ?_; rotate_left; (focus rfl))); simp only [run1, go_sem, h0, h2, h3, jae, ls, jag, e1, hx, gp]) | (refine jab ?_ ?_; (focus (simp only [go_sem, h0, h2, h3, jae, ls, jag, e1, hx, gp]; done))) | (refine jaa ?_ ?_; (focus (simp only [go_sem, h0, h2, h3, jae, ls, jag, e1, hx, gp]; done))) | ((first | refine jaj ?_ | refine jai ?_ | refine jak ?_); try simp only [go_sem]) | refine jah ?_)
     refine jam ?_
     exact ⟨by trivial, _, rfl, by simp only [go_sem, h0], by simp only [go_sem, h2], .inr ⟨⟨c, List.mem_cons_self, hp⟩, by trivial⟩⟩
   | true =>
     rw [hp] at gp
     refine jas ?_
     repeat (first | refine jaf ?_ | ((first | (refine jad ?_ ?_; (focus rfl)) | (refine jac (gs := ?_) ?_ ?_; rotate_left; (focus rfl))); simp only [run1, go_sem, h0, h2, h3, jae, ls, jag, e1, hx, gp, a1]) | (refine jab ?_ ?_; (focus (simp only [go_sem, h0, h2, h3, jae, ls, jag, e1, hx, gp, a1]; done))) | (refine jaa ?_ ?_; (focus (simp only [go_sem, h0, h2, h3, jae, ls, jag, e1, hx, gp, a1]; done))) | ((first | refine jaj ?_ | refine jai ?_ | refine jak ?_); try simp only [go_sem]) | refine jah ?_)
     rw [show e + (m + 1) + 29 = e + m + 30 from by omega]
     refine EndsC.mono (ih (i + 1) (by omega) (by simp only [go_sem, h0]) (by simp only [go_sem, h2]) (by simp only [go_sem])) ?_
     rintro x r μ' ⟨g1, tm', g2, g3, g4, g5⟩
     refine ⟨g1, tm', g2, g3, g4, ?_⟩
     rcases g5 with ⟨g5, g6⟩ | ⟨⟨d, g5, g6⟩, g7⟩
     ·exact .inl ⟨fun d hd => by
       rcases List.mem_cons.1 hd with rfl | hd
       ·exact hp
       ·exact g5 d hd, g6⟩
     ·exact .inr ⟨⟨d, List.mem_cons_of_mem _ g5, g6⟩, g7⟩
theorem rn_no {s : ByteArray} (h : ¬ (Head s ∧ jde s)) {X : XT} {g : Nat} {μ : Mem} (hg : 200 ≤ g) : aFun Tryz.prog (jat Tryz.prog X S0 g) 6 [.string s] μ = some (.bool false, μ) := by
 obtain ⟨k, rfl⟩ := gle hg
 have ls := ja5 s
 refine jaQ ?_
 by_cases z : (bys s).length = 0
 ·have e1 : ilt (.ofNat (bys s).length) 1 = true := (jbx _ 1 1 rfl).trans (decide_eq_true (by omega))
  refine jan Tryz.func6 rfl rfl (nbl rfl) ?_
  simp only [go_sem, Tryz.ntmps6]
  refine jaf ?_
  refine jad ?_ ?_
  ·rfl
  simp only [go_sem]
  refine jaf ?_
  refine jaf ?_
  refine jac (gs := ?_) ?_ ?_
  rotate_left
  ·rfl
  iterate 4 (refine jal (by first | rfl | (simp only [go_sem, undef, jae, ls, jag, e1])) (by simp only [go_sem, undef, jae, ls, jag, e1]; try exact rfl) rfl ?_)
  iterate 3 (refine jaA (by simp only [go_sem, undef, jae, ls, jag, e1]) rfl ?_)
  iterate 2 (refine jal (by first | rfl | (simp only [go_sem, undef, jae, ls, jag, e1])) (by simp only [go_sem, undef, jae, ls, jag, e1]; try exact rfl) rfl ?_)
  iterate 2 (refine jaA (by simp only [go_sem, undef, jae, ls, jag, e1]) rfl ?_)
  refine jal (by first | rfl | (simp only [go_sem, undef, jae, ls, jag, e1])) (by simp only [go_sem, undef, jae, ls, jag, e1]; try exact rfl) rfl ?_
  simp only [go_sem]
  repeat (first | refine jaf ?_ | ((first | (refine jad ?_ ?_; (focus rfl)) | (refine jac (gs := ?_) ?_ ?_; rotate_left; (focus rfl))); simp only [run1, go_sem]) | (refine jab ?_ ?_; (focus (simp only [go_sem]; done))) | (refine jaa ?_ ?_; (focus (simp only [go_sem]; done))) | ((first | refine jaj ?_ | refine jai ?_ | refine jak ?_); try simp only [go_sem]) | refine jah ?_)
  refine jam ?_
  refine ⟨rfl, _, ?_, rfl, rfl⟩
  simp only [go_sem, Tryz.results6]
 have e1 : ilt (.ofNat (bys s).length) 1 = false := (jbx _ 1 1 rfl).trans (decide_eq_false (by omega))
 by_cases z2 : 40 < (bys s).length
 ·have e2 : ilt 40 (.ofNat (bys s).length) = true := (jav 40 _).trans (decide_eq_true z2)
  refine jan Tryz.func6 rfl rfl (nbl rfl) ?_
  simp only [go_sem, Tryz.ntmps6]
  refine jaf ?_
  refine jad ?_ ?_
  ·rfl
  simp only [go_sem]
  refine jaf ?_
  refine jaf ?_
  refine jac (gs := ?_) ?_ ?_
  rotate_left
  ·rfl
  iterate 9 (refine jal (by first | rfl | (simp only [go_sem, undef, jae, ls, jag, e1, e2])) (by simp only [go_sem, undef, jae, ls, jag, e1, e2]; try exact rfl) rfl ?_)
  iterate 2 (refine jaA (by simp only [go_sem, undef, jae, ls, jag, e1, e2]) rfl ?_)
  refine jal (by first | rfl | (simp only [go_sem, undef, jae, ls, jag, e1, e2])) (by simp only [go_sem, undef, jae, ls, jag, e1, e2]; try exact rfl) rfl ?_
  simp only [go_sem]
  repeat (first | refine jaf ?_ | ((first | (refine jad ?_ ?_; (focus rfl)) | (refine jac (gs := ?_) ?_ ?_; rotate_left; (focus rfl))); simp only [run1, go_sem]) | (refine jab ?_ ?_; (focus (simp only [go_sem]; done))) | (refine jaa ?_ ?_; (focus (simp only [go_sem]; done))) | ((first | refine jaj ?_ | refine jai ?_ | refine jak ?_); try simp only [go_sem]) | refine jah ?_)
  refine jam ?_
  refine ⟨rfl, _, ?_, rfl, rfl⟩
  simp only [go_sem, Tryz.results6]
 have e2 : ilt 40 (.ofNat (bys s).length) = false := (jav 40 _).trans (decide_eq_false z2)
 by_cases z3 : s = dotS
 ·have e3 : aStr .eql s ⟨List.toArray [46]⟩ = some (.bool true) := (str_eq s dotS).trans (by rw [decide_eq_true z3])
  refine jan Tryz.func6 rfl rfl (nbl rfl) ?_
  simp only [go_sem, Tryz.ntmps6]
  refine jaf ?_
  refine jad ?_ ?_
  ·rfl
  simp only [go_sem]
  refine jaf ?_
  refine jaf ?_
  refine jac (gs := ?_) ?_ ?_
  rotate_left
  ·rfl
  iterate 12 (refine jal (by first | rfl | (simp only [go_sem, undef, jae, ls, jag, e1, e2, e3])) (by simp only [go_sem, undef, jae, ls, jag, e1, e2, e3]; try exact rfl) rfl ?_)
  simp only [go_sem]
  repeat (first | refine jaf ?_ | ((first | (refine jad ?_ ?_; (focus rfl)) | (refine jac (gs := ?_) ?_ ?_; rotate_left; (focus rfl))); simp only [run1, go_sem]) | (refine jab ?_ ?_; (focus (simp only [go_sem]; done))) | (refine jaa ?_ ?_; (focus (simp only [go_sem]; done))) | ((first | refine jaj ?_ | refine jai ?_ | refine jak ?_); try simp only [go_sem]) | refine jah ?_)
  refine jam ?_
  refine ⟨rfl, _, ?_, rfl, rfl⟩
  simp only [go_sem, Tryz.results6]
 have e3 : aStr .eql s ⟨List.toArray [46]⟩ = some (.bool false) := (str_eq s dotS).trans (by rw [decide_eq_false z3])
 have hp : ¬ jde s := fun hp => h ⟨⟨by omega, by omega, z3⟩, hp⟩
 refine jan Tryz.func6 rfl rfl (nbl rfl) ?_
 simp only [go_sem, Tryz.ntmps6]
 refine jaf ?_
 refine jad ?_ ?_
 ·rfl
 simp only [go_sem]
 refine jaf ?_
 refine jaf ?_
 refine jac (gs := ?_) ?_ ?_
 rotate_left
 ·rfl
 iterate 12 (refine jal (by first | rfl | (simp only [go_sem, undef, jae, ls, jag, e1, e2, e3])) (by simp only [go_sem, undef, jae, ls, jag, e1, e2, e3]; try exact rfl) rfl ?_)
 simp only [go_sem]
 repeat (first | refine jaf ?_ | ((first | (refine jad ?_ ?_; (focus rfl)) | (refine jac (gs := ?_) ?_ ?_; rotate_left; (focus rfl))); simp only [run1, go_sem, jae, ls, jag]) | (refine jab ?_ ?_; (focus (simp only [go_sem, jae, ls, jag]; done))) | (refine jaa ?_ ?_; (focus (simp only [go_sem, jae, ls, jag]; done))) | ((first | refine jaj ?_ | refine jai ?_ | refine jak ?_); try simp only [go_sem]) | refine jah ?_)
 rw [show k + 195 = (k + 165 - (bys s).length) + (bys s).length + 30 from by omega]
 refine EndsC.mono (rn_loop (by omega) (bys s).length 0 (Nat.zero_add _) (by simp only [go_sem]) (by simp only [go_sem]) (by simp only [go_sem]; try rfl)) ?_
 rintro x r μ' ⟨rfl, tm', rfl, h0, h2, h5⟩
 rcases h5 with ⟨h5, -⟩ | ⟨-, rfl⟩
 ·exact absurd h5 hp
 ·simp only [ja4]
  refine ⟨rfl, _, ?_, rfl, rfl⟩
  simp only [go_sem, Tryz.results6]
  rw [h2]
end
noncomputable section
open Go.Proofs.YtdjoekhccbiaiaaGreatDoor.NumText (dig isE isS form next run jcX jeX)
section
set_option linter.defProp false
variable {X : XT} {ev : Code → Rg → Mem → Option (Ax × Rg × Mem)}
def gg51 := go_call (P := Tryz.prog) (X := X) (ev := ev) (S := S0) Tryz.func51 rfl rfl
def gg56 := go_call (P := Tryz.prog) (X := X) (ev := ev) (S := S0) Tryz.func56 rfl rfl
def gg33 := go_call (P := Tryz.prog) (X := X) (ev := ev) (S := S0) Tryz.func33 rfl rfl
def gg28 := go_call (P := Tryz.prog) (X := X) (ev := ev) (S := S0) Tryz.func28 rfl rfl
end
theorem next_x (st : Nat) : next st 120 = 9 := by
 unfold NumText.next
 repeat (first | rfl | split)
 all_goals (first | rfl | omega)
theorem run_forms : ∀ (l : List Nat) (st p : Nat), run st p l = true → ∀ c ∈ l, form c ≠ 120 := by
 intro l
 induction l with
 | nil => intro st p _ c hc; cases hc
 | cons d l ih =>
   intro st p h c hc
   rw [NumText.run] at h
   by_cases hd : form d = 120
   ·rw [hd, next_x, NumText.run9] at h; cases h
   ·rcases List.mem_cons.1 hc with rfl | hc
    ·exact hd
    ·exact ih _ _ h c hc
theorem form_nums {c : Nat} (h : form c ≠ 120) : c ∈ nums := by
 have hc : c = 43 ∨ c = 45 ∨ c = 46 ∨ (48 ≤ c ∧ c ≤ 57) ∨ c = 69 ∨ c = 101 := by
  refine Decidable.by_contra fun hn => h ?_
  refine NumText.form_x ?_ ?_ ?_ ?_
  ·simp only [dig, Bool.and_eq_false_iff, decide_eq_false_iff_not]; omega
  ·simp only [isS, Bool.or_eq_false_iff, decide_eq_false_iff_not]; omega
  ·omega
  ·simp only [isE, Bool.or_eq_false_iff, decide_eq_false_iff_not]; omega
 have h2 : ∀ c, c < 128 → c = 43 ∨ c = 45 ∨ c = 46 ∨ (48 ≤ c ∧ c ≤ 57) ∨ c = 69 ∨ c = 101 → c ∈ nums := by decide
 exact h2 c (by omega) hc
theorem jgb {s : ByteArray} (h : jcX (bys s) = true) : (∀ c ∈ bys s, c ∈ nums) ∧ 0 < (bys s).length := by
 have h2 : jeX (bys s) = true := by rw [← NumText.right_eq]; exact h
 refine ⟨fun c hc => form_nums (run_forms _ _ _ h2 c hc), ?_⟩
 cases hb : bys s with
 | nil => rw [hb] at h2; cases h2
 | cons c l => exact Nat.succ_pos _
def jbN (X : XT) : Prop := ∀ (n : Nat) μ, n < 18446744073709551616 → X 50 [.int .u64 (.ofNat n)] μ = some (.float .f64 n, μ)
theorem jbD {X : XT} {ev : Code → Rg → Mem → Option (Ax × Rg × Mem)} (args : List Value) (μ : Mem) : aGo Tryz.prog X (jbL Tryz.prog ev S0) 50 args μ = X 50 args μ := by
 unfold aGo
 simp only [Tryz.func50]
 rfl
def nanS : ByteArray := ⟨List.toArray [43, 110, 97, 110, 46, 48]⟩
def infS : ByteArray := ⟨List.toArray [43, 105, 110, 102, 46, 48]⟩
def ninS : ByteArray := ⟨List.toArray [45, 105, 110, 102, 46, 48]⟩
def named (s : ByteArray) : Bool := decide (s = nanS) || decide (s = infS) || decide (s = ninS)
def jdW (s : ByteArray) : Bool := named s || jcX (bys s)
theorem jez (a b : ByteArray) : aStr .eql a b = some (.bool (decide (a = b))) := by
 unfold aStr
 simp only [ji1]
theorem inf_ex {X : XT} {g : Nat} {μ : Mem} (hX : jbN X) (hg : 20 ≤ g) : aFun Tryz.prog (jat Tryz.prog X S0 g) 51 [.int .i64 1] μ = some (.float .f64 9218868437227405312, μ) ∧ aFun Tryz.prog (jat Tryz.prog X S0 g) 51 [.int .i64 (-1)] μ = some (.float .f64 18442240474082181120, μ) := by
 obtain ⟨k, rfl⟩ := gle hg
 have e1 : ilt 1 0 = false := rfl
 have e2 : ilt (-1) 0 = true := rfl
 have x1 : ∀ μ, X 50 [.int .u64 9218868437227405312] μ = some (.float .f64 9218868437227405312, μ) := fun μ => hX 9218868437227405312 μ (by decide)
 have x2 : ∀ μ, X 50 [.int .u64 18442240474082181120] μ = some (.float .f64 18442240474082181120, μ) := fun μ => hX 18442240474082181120 μ (by decide)
 constructor
 ·refine jaQ ?_
  refine jan Tryz.func51 rfl rfl (nbl rfl) ?_
  simp only [go_sem, Tryz.ntmps51]
  repeat (first | refine jaf ?_ | ((first | (refine jad ?_ ?_; (focus rfl)) | (refine jac (gs := ?_) ?_ ?_; rotate_left; (focus rfl))); simp only [run1, go_sem, e1, jbD, x1]) | (refine jab ?_ ?_; (focus (simp only [go_sem, e1, jbD, x1]; done))) | (refine jaa ?_ ?_; (focus (simp only [go_sem, e1, jbD, x1]; done))) | ((first | refine jaj ?_ | refine jai ?_ | refine jak ?_); try simp only [go_sem]) | refine jah ?_)
  refine jam ?_
  refine ⟨rfl, _, ?_, rfl, rfl⟩
  simp only [go_sem, Tryz.results51]
 ·refine jaQ ?_
  refine jan Tryz.func51 rfl rfl (nbl rfl) ?_
  simp only [go_sem, Tryz.ntmps51]
  repeat (first | refine jaf ?_ | ((first | (refine jad ?_ ?_; (focus rfl)) | (refine jac (gs := ?_) ?_ ?_; rotate_left; (focus rfl))); simp only [run1, go_sem, e2, jbD, x2]) | (refine jab ?_ ?_; (focus (simp only [go_sem, e2, jbD, x2]; done))) | (refine jaa ?_ ?_; (focus (simp only [go_sem, e2, jbD, x2]; done))) | ((first | refine jaj ?_ | refine jai ?_ | refine jak ?_); try simp only [go_sem]) | refine jah ?_)
  refine jam ?_
  refine ⟨rfl, _, ?_, rfl, rfl⟩
  simp only [go_sem, Tryz.results51]
theorem flo_ex {s : ByteArray} (hl : (bys s).length ≤ 700) {X : XT} {g : Nat} {μ : Mem} (hX : jbr X) (hX2 : jbN X) (hL : Lay μ) (hg : 14100 ≤ g) : ∃ f μ', aFun Tryz.prog (jat Tryz.prog X S0 g) 28 [.string s] μ = some (.tuple #[.float .f64 f, .int .i64 (if jdW s then 0 else 31)], μ') ∧ Grow μ μ' := by
 obtain ⟨k, rfl⟩ := gle hg
 have ls := ja5 s
 have s1 : aStr .eql s ⟨List.toArray [43, 110, 97, 110, 46, 48]⟩ = some (.bool (decide (s = nanS))) := jez s nanS
 have s2 : aStr .eql s ⟨List.toArray [43, 105, 110, 102, 46, 48]⟩ = some (.bool (decide (s = infS))) := jez s infS
 have s3 : aStr .eql s ⟨List.toArray [45, 105, 110, 102, 46, 48]⟩ = some (.bool (decide (s = ninS))) := jez s ninS
 have x0 : ∀ μ, X 50 [.int .u64 9221120237041090561] μ = some (.float .f64 9221120237041090561, μ) := fun μ => hX2 9221120237041090561 μ (by decide)
 have i1 : ∀ g (μ : Mem), 20 ≤ g → aFun Tryz.prog (jat Tryz.prog X S0 g) 51 [.int .i64 1] μ = some (.float .f64 9218868437227405312, μ) := fun g μ h => (inf_ex hX2 h).1
 have i2 : ∀ g (μ : Mem), 20 ≤ g → aFun Tryz.prog (jat Tryz.prog X S0 g) 51 [.int .i64 (-1)] μ = some (.float .f64 18442240474082181120, μ) := fun g μ h => (inf_ex hX2 h).2
 have e7 : ilt 700 (.ofNat (bys s).length) = false := (jav 700 _).trans (decide_eq_false (by omega))
 have key : EndsF (aFun Tryz.prog (jat Tryz.prog X S0 (k + 14100)) 28 [.string s] μ) fun v μ' => ∃ f, v = .tuple #[.float .f64 f, .int .i64 (if jdW s then 0 else 31)] ∧ Grow μ μ' := by
  unfold jdW named
  by_cases h1 : s = nanS
  ·rw [decide_eq_true h1] at s1 ⊢
   refine jan Tryz.func28 rfl rfl (nbl rfl) ?_
   simp only [go_sem, Tryz.ntmps28]
   repeat (first | refine jaf ?_ | ((first | (refine jad ?_ ?_; (focus rfl)) | (refine jac (gs := ?_) ?_ ?_; rotate_left; (focus rfl))); simp only [run1, go_sem, s1, jbD, x0]) | (refine jab ?_ ?_; (focus (simp only [go_sem, s1, jbD, x0]; done))) | (refine jaa ?_ ?_; (focus (simp only [go_sem, s1, jbD, x0]; done))) | ((first | refine jaj ?_ | refine jai ?_ | refine jak ?_); try simp only [go_sem]) | refine jah ?_)
   refine jam ?_
   refine ⟨rfl, .tuple #[.float .f64 9221120237041090561, .int .i64 0], ?_, 9221120237041090561, rfl, Grow.refl _⟩
   simp only [go_sem, Tryz.results28]
  rw [decide_eq_false h1] at s1 ⊢
  by_cases h2 : s = infS
  ·rw [decide_eq_true h2] at s2 ⊢
   refine jan Tryz.func28 rfl rfl (nbl rfl) ?_
   simp only [go_sem, Tryz.ntmps28]
   repeat (first | refine jaf ?_ | ((first | (refine jad ?_ ?_; (focus rfl)) | (refine jac (gs := ?_) ?_ ?_; rotate_left; (focus rfl))); simp only [run1, go_sem, s1, s2, gg51, i1, Nat.reduceLeDiff]) | (refine jab ?_ ?_; (focus (simp only [go_sem, s1, s2, gg51, i1, Nat.reduceLeDiff]; done))) | (refine jaa ?_ ?_; (focus (simp only [go_sem, s1, s2, gg51, i1, Nat.reduceLeDiff]; done))) | ((first | refine jaj ?_ | refine jai ?_ | refine jak ?_); try simp only [go_sem]) | refine jah ?_)
   refine jam ?_
   refine ⟨rfl, .tuple #[.float .f64 9218868437227405312, .int .i64 0], ?_, 9218868437227405312, rfl, Grow.refl _⟩
   simp only [go_sem, Tryz.results28]
  rw [decide_eq_false h2] at s2 ⊢
  by_cases h3 : s = ninS
  ·rw [decide_eq_true h3] at s3 ⊢
   refine jan Tryz.func28 rfl rfl (nbl rfl) ?_
   simp only [go_sem, Tryz.ntmps28]
   repeat (first | refine jaf ?_ | ((first | (refine jad ?_ ?_; (focus rfl)) | (refine jac (gs := ?_) ?_ ?_; rotate_left; (focus rfl))); simp only [run1, go_sem, s1, s2, s3, gg51, i2, Nat.reduceLeDiff]) | (refine jab ?_ ?_; (focus (simp only [go_sem, s1, s2, s3, gg51, i2, Nat.reduceLeDiff]; done))) | (refine jaa ?_ ?_; (focus (simp only [go_sem, s1, s2, s3, gg51, i2, Nat.reduceLeDiff]; done))) | ((first | refine jaj ?_ | refine jai ?_ | refine jak ?_); try simp only [go_sem]) | refine jah ?_)
   refine jam ?_
   refine ⟨rfl, .tuple #[.float .f64 18442240474082181120, .int .i64 0], ?_, 18442240474082181120, rfl, Grow.refl _⟩
   simp only [go_sem, Tryz.results28]
  rw [decide_eq_false h3] at s3 ⊢
  obtain ⟨c, hr⟩ := jin (s := s) (X := X) (g := k + 14095) (μ := μ) (by omega) (by omega)
  cases hb : jcX (bys s) with
  | false =>
    rw [hb] at hr
    refine jan Tryz.func28 rfl rfl (nbl rfl) ?_
    simp only [go_sem, Tryz.ntmps28]
    repeat (first | refine jaf ?_ | ((first | (refine jad ?_ ?_; (focus rfl)) | (refine jac (gs := ?_) ?_ ?_; rotate_left; (focus rfl))); simp only [run1, go_sem, s1, s2, s3, jae, ls, jag, e7, gg52, hr]) | (refine jab ?_ ?_; (focus (simp only [go_sem, s1, s2, s3, jae, ls, jag, e7, gg52, hr]; done))) | (refine jaa ?_ ?_; (focus (simp only [go_sem, s1, s2, s3, jae, ls, jag, e7, gg52, hr]; done))) | ((first | refine jaj ?_ | refine jai ?_ | refine jak ?_); try simp only [go_sem]) | refine jah ?_)
    refine jam ?_
    refine ⟨rfl, .tuple #[.float .f64 0, .int .i64 31], ?_, 0, rfl, jdr _ _⟩
    simp only [go_sem, Tryz.results28]
  | true =>
    rw [hb] at hr
    obtain ⟨n1, n2⟩ := jgb hb
    obtain ⟨f, hpf⟩ := jht n1 (by omega) n2
    obtain ⟨w, μ2, hr2, hw, hG⟩ := hpf (X := X) (g := k + 14095) (μ := ⟨μ.obs, μ.next + c⟩) hX (hL.grow (jdr _ _)) (by omega)
    refine jan Tryz.func28 rfl rfl (nbl rfl) ?_
    simp only [go_sem, Tryz.ntmps28]
    repeat (first | refine jaf ?_ | ((first | (refine jad ?_ ?_; (focus rfl)) | (refine jac (gs := ?_) ?_ ?_; rotate_left; (focus rfl))); simp only [run1, go_sem, s1, s2, s3, jae, ls, jag, e7, gg52, hr, gg53, hr2]) | (refine jab ?_ ?_; (focus (simp only [go_sem, s1, s2, s3, jae, ls, jag, e7, gg52, hr, gg53, hr2]; done))) | (refine jaa ?_ ?_; (focus (simp only [go_sem, s1, s2, s3, jae, ls, jag, e7, gg52, hr, gg53, hr2]; done))) | ((first | refine jaj ?_ | refine jai ?_ | refine jak ?_); try simp only [go_sem]) | refine jah ?_)
    refine jam ?_
    refine ⟨rfl, .tuple #[.float .f64 f, .int .i64 0], ?_, f, rfl, (jdr _ _).trans hG⟩
    simp only [go_sem, Tryz.results28]
 obtain ⟨v, μ', h1, f, rfl, h2⟩ := key
 exact ⟨f, μ', h1, h2⟩
theorem refFlo_ex {s : ByteArray} (hl : (bys s).length ≤ 700) {X : XT} {g : Nat} {μ : Mem} (hX : jbr X) (hX2 : jbN X) (hL : Lay μ) (hg : 14100 ≤ g) : ∃ f μ', aFun Tryz.prog (jat Tryz.prog X S0 g) 33 [.string s] μ = some (.tuple #[.float .f64 f, .int .i64 (if jdW s then 0 else 31)], μ') ∧ Grow μ μ' := by
 obtain ⟨k, rfl⟩ := gle hg
 have ls := ja5 s
 have s1 : aStr .eql s ⟨List.toArray [43, 110, 97, 110, 46, 48]⟩ = some (.bool (decide (s = nanS))) := jez s nanS
 have s2 : aStr .eql s ⟨List.toArray [43, 105, 110, 102, 46, 48]⟩ = some (.bool (decide (s = infS))) := jez s infS
 have s3 : aStr .eql s ⟨List.toArray [45, 105, 110, 102, 46, 48]⟩ = some (.bool (decide (s = ninS))) := jez s ninS
 have x0 : ∀ μ, X 50 [.int .u64 9221120237041090561] μ = some (.float .f64 9221120237041090561, μ) := fun μ => hX2 9221120237041090561 μ (by decide)
 have x1 : ∀ μ, X 50 [.int .u64 9218868437227405312] μ = some (.float .f64 9218868437227405312, μ) := fun μ => hX2 9218868437227405312 μ (by decide)
 have x2 : ∀ μ, X 50 [.int .u64 18442240474082181120] μ = some (.float .f64 18442240474082181120, μ) := fun μ => hX2 18442240474082181120 μ (by decide)
 have e7 : ilt 700 (.ofNat (bys s).length) = false := (jav 700 _).trans (decide_eq_false (by omega))
 have key : EndsF (aFun Tryz.prog (jat Tryz.prog X S0 (k + 14100)) 33 [.string s] μ) fun v μ' => ∃ f, v = .tuple #[.float .f64 f, .int .i64 (if jdW s then 0 else 31)] ∧ Grow μ μ' := by
  unfold jdW named
  by_cases h1 : s = nanS
  ·rw [decide_eq_true h1] at s1 ⊢
   refine jan Tryz.func33 rfl rfl (nbl rfl) ?_
   simp only [go_sem, Tryz.ntmps33]
   repeat (first | refine jaf ?_ | ((first | (refine jad ?_ ?_; (focus rfl)) | (refine jac (gs := ?_) ?_ ?_; rotate_left; (focus rfl))); simp only [run1, go_sem, s1, jbD, x0]) | (refine jab ?_ ?_; (focus (simp only [go_sem, s1, jbD, x0]; done))) | (refine jaa ?_ ?_; (focus (simp only [go_sem, s1, jbD, x0]; done))) | ((first | refine jaj ?_ | refine jai ?_ | refine jak ?_); try simp only [go_sem]) | refine jah ?_)
   refine jam ?_
   refine ⟨rfl, .tuple #[.float .f64 9221120237041090561, .int .i64 0], ?_, 9221120237041090561, rfl, Grow.refl _⟩
   simp only [go_sem, Tryz.results33]
  rw [decide_eq_false h1] at s1 ⊢
  by_cases h2 : s = infS
  ·rw [decide_eq_true h2] at s2 ⊢
   refine jan Tryz.func33 rfl rfl (nbl rfl) ?_
   simp only [go_sem, Tryz.ntmps33]
   repeat (first | refine jaf ?_ | ((first | (refine jad ?_ ?_; (focus rfl)) | (refine jac (gs := ?_) ?_ ?_; rotate_left; (focus rfl))); simp only [run1, go_sem, s1, s2, jbD, x1]) | (refine jab ?_ ?_; (focus (simp only [go_sem, s1, s2, jbD, x1]; done))) | (refine jaa ?_ ?_; (focus (simp only [go_sem, s1, s2, jbD, x1]; done))) | ((first | refine jaj ?_ | refine jai ?_ | refine jak ?_); try simp only [go_sem]) | refine jah ?_)
   refine jam ?_
   refine ⟨rfl, .tuple #[.float .f64 9218868437227405312, .int .i64 0], ?_, 9218868437227405312, rfl, Grow.refl _⟩
   simp only [go_sem, Tryz.results33]
  rw [decide_eq_false h2] at s2 ⊢
  by_cases h3 : s = ninS
  ·rw [decide_eq_true h3] at s3 ⊢
   refine jan Tryz.func33 rfl rfl (nbl rfl) ?_
   simp only [go_sem, Tryz.ntmps33]
   repeat (first | refine jaf ?_ | ((first | (refine jad ?_ ?_; (focus rfl)) | (refine jac (gs := ?_) ?_ ?_; rotate_left; (focus rfl))); simp only [run1, go_sem, s1, s2, s3, jbD, x2]) | (refine jab ?_ ?_; (focus (simp only [go_sem, s1, s2, s3, jbD, x2]; done))) | (refine jaa ?_ ?_; (focus (simp only [go_sem, s1, s2, s3, jbD, x2]; done))) | ((first | refine jaj ?_ | refine jai ?_ | refine jak ?_); try simp only [go_sem]) | refine jah ?_)
   refine jam ?_
   refine ⟨rfl, .tuple #[.float .f64 18442240474082181120, .int .i64 0], ?_, 18442240474082181120, rfl, Grow.refl _⟩
   simp only [go_sem, Tryz.results33]
  rw [decide_eq_false h3] at s3 ⊢
  have hr : ∀ g (μ : Mem), 1200 ≤ g → aFun Tryz.prog (jat Tryz.prog X S0 g) 56 [.string s] μ = some (.bool (jcX (bys s)), μ) := fun g μ h => by rw [NumText.right_eq]; exact jia (by omega) h
  cases hb : jcX (bys s) with
  | false =>
    rw [hb] at hr
    refine jan Tryz.func33 rfl rfl (nbl rfl) ?_
    simp only [go_sem, Tryz.ntmps33]
    repeat (first | refine jaf ?_ | ((first | (refine jad ?_ ?_; (focus rfl)) | (refine jac (gs := ?_) ?_ ?_; rotate_left; (focus rfl))); simp only [run1, go_sem, s1, s2, s3, jae, ls, jag, e7, gg56, hr, Nat.reduceLeDiff]) | (refine jab ?_ ?_; (focus (simp only [go_sem, s1, s2, s3, jae, ls, jag, e7, gg56, hr, Nat.reduceLeDiff]; done))) | (refine jaa ?_ ?_; (focus (simp only [go_sem, s1, s2, s3, jae, ls, jag, e7, gg56, hr, Nat.reduceLeDiff]; done))) | ((first | refine jaj ?_ | refine jai ?_ | refine jak ?_); try simp only [go_sem]) | refine jah ?_)
    refine jam ?_
    refine ⟨rfl, .tuple #[.float .f64 0, .int .i64 31], ?_, 0, rfl, Grow.refl _⟩
    simp only [go_sem, Tryz.results33]
  | true =>
    rw [hb] at hr
    obtain ⟨n1, n2⟩ := jgb hb
    obtain ⟨f, hpf⟩ := jht n1 (by omega) n2
    obtain ⟨w, μ2, hr2, hw, hG⟩ := hpf (X := X) (g := k + 14093) (μ := μ) hX hL (by omega)
    refine jan Tryz.func33 rfl rfl (nbl rfl) ?_
    simp only [go_sem, Tryz.ntmps33]
    repeat (first | refine jaf ?_ | ((first | (refine jad ?_ ?_; (focus rfl)) | (refine jac (gs := ?_) ?_ ?_; rotate_left; (focus rfl))); simp only [run1, go_sem, s1, s2, s3, jae, ls, jag, e7, gg56, hr, Nat.reduceLeDiff, gg53, hr2]) | (refine jab ?_ ?_; (focus (simp only [go_sem, s1, s2, s3, jae, ls, jag, e7, gg56, hr, Nat.reduceLeDiff, gg53, hr2]; done))) | (refine jaa ?_ ?_; (focus (simp only [go_sem, s1, s2, s3, jae, ls, jag, e7, gg56, hr, Nat.reduceLeDiff, gg53, hr2]; done))) | ((first | refine jaj ?_ | refine jai ?_ | refine jak ?_); try simp only [go_sem]) | refine jah ?_)
    refine jam ?_
    refine ⟨rfl, .tuple #[.float .f64 f, .int .i64 0], ?_, f, rfl, hG⟩
    simp only [go_sem, Tryz.results33]
 obtain ⟨v, μ', h1, f, rfl, h2⟩ := key
 exact ⟨f, μ', h1, h2⟩
end
noncomputable section
structure Own (e : TypeId) (μ0 μ : Mem) (v : Value) (xs : List Value) : Prop where
 good : GoodSl μ e v xs
 grow : Grow μ0 μ
 above : ∀ i, SlAt v i → μ0.next ≤ i ∧ i < μ.next
theorem Own.nil (e : TypeId) (μ : Mem) : Own e μ μ (.slice none 0 0) [] := ⟨.inl ⟨rfl, rfl⟩, Grow.refl _, fun i h => by obtain ⟨l, c, h⟩ := h; cases h⟩
theorem Own.keep {e : TypeId} {μ0 μ μ' : Mem} {v : Value} {xs : List Value} (h : Own e μ0 μ v xs) (hg : Grow μ μ') : Own e μ0 μ' v xs :=
 ⟨h.good.keep fun i hi => hg.2 i (h.above i hi).2, h.grow.trans hg, fun i hi => ⟨(h.above i hi).1, Nat.lt_of_lt_of_le (h.above i hi).2 hg.1⟩⟩
theorem Own.push {st e : TypeId} {inf : TypeInfo} {z0 : Value} (hu : Tryz.prog.underlying st = some (.slice e)) (hi : Tryz.prog.info? e = some inf) (hsz : inf.size = 1) (hby : Nat.ble inf.bytes 4096 = true) (hz : jbn Tryz.prog e = some z0) (hzl : (jbc z0).length = 1)
  {μ0 μ : Mem} {v x : Value} {xs : List Value} (h : Own e μ0 μ v xs) (hn : xs.length < 1000000) (hs : scalar x = true) :
  ∃ v' μ', jct Tryz.prog ⟨μ.obs.set μ.next (.cells 1 e #[x] .e 0 0 false false), Nat.add μ.next 1⟩ st st v (.slice (some ⟨μ.next, 0, none⟩) 1 2) = some (v', μ') ∧ Own e μ0 μ' v' (xs ++ [x]) := by
 have hg1 : Grow μ ⟨μ.obs.set μ.next (.cells 1 e #[x] .e 0 0 false false), Nat.add μ.next 1⟩ := jb2 μ _
 have h1 := h.keep hg1
 obtain ⟨v', μ', ha, hg, hnx, hat, hk⟩ := jj4 (P := Tryz.prog) (st := st) (x := x) (q := μ.next) hu hi hsz hby hz hzl h1.good (by show T.get _ _ = _; rw [T.get_set, if_pos rfl]) hn hs
 have hnx' : μ'.next = μ.next + 1 + 1 := hnx
 refine ⟨v', μ', ha, hg, ⟨?_, fun i hi => ?_⟩, fun i hi => ?_⟩
 ·have := h.grow.1; omega
 ·have h0 := h.grow.1
  rw [hk i (by show i ≠ μ.next + 1; omega) (fun hv => by have := (h1.above i hv).1; omega)]
  exact h1.grow.2 i hi
 ·obtain ⟨l, c, hv⟩ := hat
  obtain ⟨l', c', hv'⟩ := hi
  rw [hv] at hv'
  injection hv' with e1
  injection e1 with e2
  injection e2 with e3
  have e4 : i = μ.next + 1 := e3.symm
  have h0 := h.grow.1
  omega
def U32 (x : Value) : Prop := ∃ a, a < 4294967296 ∧ x = .int .u32 (.ofNat a)
theorem U32.one {x : Value} (h : U32 x) : one x = true := by obtain ⟨a, _, rfl⟩ := h; rfl
theorem z_u32 : jbn Tryz.prog 56 = some (.int .u32 0) := by unfold jbn; rw [jdJ]; rfl
theorem jeL (n : Int) : jbb Tryz.prog 56 85 (.int .u32 n) = some (.int .u64 (jay .u64 n)) := by
 simp only [jbb, Tryz.underlying85, Tryz.underlying56]
theorem jda (n : Int) : jbb Tryz.prog 85 56 (.int .u64 n) = some (.int .u32 (jay .u32 n)) := by
 simp only [jbb, Tryz.underlying85, Tryz.underlying56]
theorem q4 (m : Nat) : jay .u32 (.ofNat m) = .ofNat (m % 4294967296) := by
 rw [jbI]
 show IntKind.wrap .u32 _ = _
 unfold IntKind.wrap
 simp only [IntKind.bits, IntKind.signed]
 simp
def Cap (n c : Nat) : Prop := (c % 2 = 0 ∧ n ≤ c / 2) ∨ (c % 2 = 1 ∧ c / 2 = 1)
def Rd (μ : Mem) (v : Value) (n : Nat) : Prop :=
 (v = .slice none 0 0 ∧ n = 0) ∨ ∃ i c m z ov fx sh, v = .slice (some ⟨i, 0, none⟩) n c ∧ μ.obs.get i = some (.cells m 56 z ov 0 0 fx sh) ∧ n ≤ m ∧ i < μ.next ∧ (∀ k, k < n → U32 (cellAt z ov k)) ∧ Cap n c
theorem Rd.nil (μ : Mem) : Rd μ (.slice none 0 0) 0 := .inl ⟨rfl, rfl⟩
theorem Rd.grow {μ μ' : Mem} {v : Value} {n : Nat} (h : Rd μ v n) (g : Grow μ μ') : Rd μ' v n := by
 rcases h with h | ⟨i, c, m, z, ov, fx, sh, h1, h2, h3, h4, h5, h6⟩
 ·exact .inl h
 ·exact .inr ⟨i, c, m, z, ov, fx, sh, h1, (g.2 i h4).trans h2, h3, Nat.lt_of_lt_of_le h4 g.1, h5, h6⟩
theorem Rd.len {μ : Mem} {v : Value} {n : Nat} (h : Rd μ v n) : aLen Tryz.prog 25 v = some n := by
 unfold aLen
 rcases h with ⟨rfl, rfl⟩ | ⟨i, c, m, z, ov, fx, sh, rfl, _⟩ <;> simp only [Tryz.underlying25]
theorem Rd.one {μ : Mem} {v : Value} {n : Nat} (h : Rd μ v n) : one v = true := by
 rcases h with ⟨rfl, rfl⟩ | ⟨i, c, m, z, ov, fx, sh, rfl, _⟩ <;> rfl
theorem Rd.at {μ : Mem} {v : Value} {n k : Nat} (h : Rd μ v n) (hk : k < n) : ∃ i c a, v = .slice (some ⟨i, 0, none⟩) n c ∧ a < 4294967296 ∧ jau μ i k = some (.int .u32 (.ofNat a)) := by
 rcases h with ⟨_, rfl⟩ | ⟨i, c, m, z, ov, fx, sh, h1, h2, h3, h4, h5, h6⟩
 ·omega
 ·obtain ⟨a, ha, hc⟩ := h5 k hk
  refine ⟨i, c, a, h1, ha, ?_⟩
  unfold jau
  rw [h2]
  show (if k < m then some (cellAt z ov k) else none) = _
  rw [if_pos (by omega), hc]
theorem Rd.take {μ : Mem} {v : Value} {n k : Nat} (h : Rd μ v n) (hk : k ≤ n) : ∃ v', (∀ (ρ : Operand → Value) (x y : Operand), ρ x = v → ρ y = .int .i64 (.ofNat k) → jbG Tryz.prog ρ 25 x none (some y) none = some v') ∧ Rd μ v' k ∧ ∀ i, SlAt v' i → SlAt v i := by
 rcases h with ⟨rfl, rfl⟩ | ⟨i, c, m, z, ov, fx, sh, rfl, h2, h3, h4, h5, h6⟩
 ·obtain rfl : k = 0 := by omega
  refine ⟨.slice none 0 0, fun ρ x y hx hy => ?_, Rd.nil μ, fun i hi => hi⟩
  unfold jbG
  simp only [hx, Tryz.underlying25, jdJ, jbv, jcb, hy]
  try rfl
 ·refine ⟨.slice (some ⟨i, 0, none⟩) k c, fun ρ x y hx hy => ?_, .inr ⟨i, c, m, z, ov, fx, sh, rfl, h2, by omega, h4, fun j hj => h5 j (by omega), by unfold Cap at h6 ⊢; omega⟩, fun j hj => by
   obtain ⟨l', c', hv⟩ := hj
   injection hv with e1 e2 e3
   rw [e1]
   exact ⟨n, c, rfl⟩⟩
  unfold jbG
  rcases h6 with ⟨g1, g2⟩ | ⟨g1, g2⟩
  ·have e1 : Nat.beq (Nat.mod c 2) 0 = true := by rw [show Nat.mod c 2 = 0 from g1]; rfl
   have e3 : Nat.ble k (Nat.div c 2) = true := Nat.ble_eq_true_of_le (by show k ≤ c / 2; omega)
   simp only [hx, Tryz.underlying25, jdJ, e1, jbv, jcb, hy, e3]
   have e4 : Addr.add ⟨i, 0, none⟩ (Nat.mul 0 Tryz.t56.size) = ⟨i, 0, none⟩ := by rw [show Nat.mul 0 Tryz.t56.size = 0 from Nat.zero_mul _]; rfl
   have e5 : Nat.mul 2 (Nat.sub (Nat.div c 2) 0) = c := by show 2 * (c / 2 - 0) = c; omega
   have e6 : Nat.sub k 0 = k := rfl
   cases Nat.beq (Nat.div c 2) 0 <;> simp only [e4, e5, e6]
  ·have e1 : Nat.beq (Nat.mod c 2) 0 = false := by rw [show Nat.mod c 2 = 1 from g1]; rfl
   have e3 : Nat.ble k n = true := Nat.ble_eq_true_of_le hk
   simp only [hx, Tryz.underlying25, jdJ, e1, jbv, jcb, hy, e3]
   try rfl
def Lim (μ0 μ : Mem) (v : Value) (n : Nat) : Prop := ∃ xs, Own 56 μ0 μ v xs ∧ xs.length = n ∧ ∀ x ∈ xs, U32 x
theorem Lim.rd {μ0 μ : Mem} {v : Value} {n : Nat} (h : Lim μ0 μ v n) : Rd μ v n := by
 obtain ⟨xs, ho, rfl, hx⟩ := h
 rcases ho.good with ⟨h1, h2⟩ | ⟨i, m, z, ov, fx, sh, c, h1, h2, h3, h4, h5⟩
 ·exact .inl ⟨h1, by rw [h2]; rfl⟩
 ·exact .inr ⟨i, c, m, z, ov, fx, sh, h1, h2, h3, (ho.above i ⟨_, _, h1⟩).2, fun k hk => by rw [h4 k hk]; exact hx _ (List.getElem_mem hk), by unfold Cap; omega⟩
theorem Lim.grow {μ0 μ : Mem} {v : Value} {n : Nat} (h : Lim μ0 μ v n) : Grow μ0 μ := by obtain ⟨xs, ho, _⟩ := h; exact ho.grow
theorem Lim.nil (μ : Mem) : Lim μ μ (.slice none 0 0) 0 := ⟨[], Own.nil _ _, rfl, fun x h => by cases h⟩
theorem Lim.keep {μ0 μ μ' : Mem} {v : Value} {n : Nat} (h : Lim μ0 μ v n) (g : Grow μ μ') : Lim μ0 μ' v n := by
 obtain ⟨xs, ho, h1, h2⟩ := h
 exact ⟨xs, ho.keep g, h1, h2⟩
theorem Lim.push {μ0 μ : Mem} {v x : Value} {n : Nat} (h : Lim μ0 μ v n) (hn : n < 1000000) (hx : U32 x) : ∃ v' μ', jct Tryz.prog ⟨μ.obs.set μ.next (.cells 1 56 #[x] .e 0 0 false false), Nat.add μ.next 1⟩ 25 25 v (.slice (some ⟨μ.next, 0, none⟩) 1 2) = some (v', μ') ∧ Lim μ0 μ' v' (n + 1) := by
 obtain ⟨xs, ho, h1, h2⟩ := h
 obtain ⟨v', μ', ha, ho'⟩ := ho.push (st := 25) (x := x) Tryz.underlying25 jdJ rfl (by kernel_rfl) z_u32 rfl (by omega) (jeD hx.one)
 refine ⟨v', μ', ha, xs ++ [x], ho', by simp [h1], fun y hy => ?_⟩
 rcases List.mem_append.1 hy with hy | hy
 ·exact h2 y hy
 ·rw [List.mem_singleton.1 hy]; exact hx
theorem Lim.set {μ0 μ : Mem} {n k b i c : Nat} (h : Lim μ0 μ (.slice (some ⟨i, 0, none⟩) n c) n) (hk : k < n) (hb : b < 4294967296) :
  jbM Tryz.prog μ 56 (.pointer (some ⟨i, k, none⟩)) (.int .u32 (.ofNat b)) = some (undef, putL μ i k [.int .u32 (.ofNat b)]) ∧ Lim μ0 (putL μ i k [.int .u32 (.ofNat b)]) (.slice (some ⟨i, 0, none⟩) n c) n := by
 obtain ⟨xs, ho, h1, h2⟩ := h
 have hab := ho.above i ⟨_, _, rfl⟩
 rcases ho.good with ⟨h3, _⟩ | ⟨i', m, z, ov, fx, sh, c', h3, h4, h5, h6, h7⟩
 ·cases h3
 injection h3 with e1 e2 e3
 injection e1 with e1
 injection e1 with e1
 subst e1
 have hblk : Blk μ i m 56 := ⟨_, _, _, _, h4⟩
 refine ⟨jb4 jdJ rfl rfl hblk (by omega), xs.set k (.int .u32 (.ofNat b)), ⟨.inr ⟨i, m, z, ov.lay k [.int .u32 (.ofNat b)], fx, sh, c, by rw [List.length_set, h1], jgy h4, by rw [List.length_set]; exact h5, fun j hj => ?_, ?_⟩, ?_, fun j hj => ?_⟩, by rw [List.length_set, h1], fun x hx => ?_⟩
 ·rw [jcf]
  have hj' : j < xs.length := by rw [List.length_set] at hj; exact hj
  by_cases e : j = k
  ·subst e
   rw [dif_pos ⟨Nat.le_refl _, by simp⟩]
   simp
  ·rw [dif_neg (by simp; omega), h6 j hj', List.getElem_set_ne (by omega)]
 ·rw [List.length_set, e3]; exact h7
 ·exact ho.grow.put_new hab.1
 ·rw [jfr]; exact ho.above j hj
 ·rcases List.mem_or_eq_of_mem_set hx with hx | rfl
  ·exact h2 x hx
  ·exact ⟨b, hb, rfl⟩
end
noncomputable section
open Go.Proofs.YtdjoekhccbiaiaaGreatDoor.NumText (dig)
section
set_option linter.defProp false
variable {X : XT} {ev : Code → Rg → Mem → Option (Ax × Rg × Mem)}
def gg48 := go_call (P := Tryz.prog) (X := X) (ev := ev) (S := S0) Tryz.func48 rfl rfl
def gg77 := go_call (P := Tryz.prog) (X := X) (ev := ev) (S := S0) Tryz.func77 rfl rfl
def gg86 := go_call (P := Tryz.prog) (X := X) (ev := ev) (S := S0) Tryz.func86 rfl rfl
def jjW := go_call (P := Tryz.prog) (X := X) (ev := ev) (S := S0) Tryz.func101 rfl rfl
def gg23 := go_call (P := Tryz.prog) (X := X) (ev := ev) (S := S0) Tryz.func23 rfl rfl
end
structure RegL (tm : T Value) (s : ByteArray) (v : Value) (i : Nat) : Prop where
 r0 : jaq tm 0 = .string s
 r2 : jaq tm 2 = .slice none 0 0
 r3 : jaq tm 3 = .int .i64 0
 r4 : jaq tm 4 = v
 r18 : jaq tm 18 = .int .i64 (.ofNat (bys s).length)
 r19 : jaq tm 19 = .int .i64 (.ofNat i)
theorem jh2 (a : Nat) : jbg false .u64 (.ofNat (W a)) 32 = some (.int .u64 (.ofNat (W (W a / 2 ^ 32)))) := wShr a 32 (by decide)
theorem lp_in {s : ByteArray} {i n : Nat} (hn : n ≤ 1000000) : ∀ (m k : Nat), k + m = n → ∀ {X : XT} {e d : Nat} {tm : T Value} {v : Value} {μ0 μ : Mem}, Lim μ0 μ v n → RegL tm s v i → jaq tm 6 = u d → jaq tm 38 = .int .i64 (.ofNat n) → jaq tm 39 = .int .i64 (.ofNat k) →
  EndsC (jat Tryz.prog X S0 (e + m + 40) (.loop (jaL Tryz.f48 1)) ⟨70, tm, [], none⟩ μ) fun x r μ' => x = .exit 2 ∧ Lim μ0 μ' v n ∧ ∃ tm' d', r = ⟨70, tm', [], none⟩ ∧ RegL tm' s v i ∧ jaq tm' 6 = u d' := by
 intro m
 induction m with
 | zero =>
   intro k hk X e d tm v μ0 μ hL h h6 h38 h39
   have hk : k = n := hk
   have e1 : ilt (.ofNat k) (.ofNat n) = false := (jav _ _).trans (decide_eq_false (by omega))
   refine jas ?_
   repeat (first | refine jaf ?_ | ((first | (refine jad ?_ ?_; (focus rfl)) | (refine jac (gs := ?_) ?_ ?_; rotate_left; (focus rfl))); simp only [run1, go_sem, h38, h39, e1]) | (refine jab ?_ ?_; (focus (simp only [go_sem, h38, h39, e1]; done))) | (refine jaa ?_ ?_; (focus (simp only [go_sem, h38, h39, e1]; done))) | ((first | refine jaj ?_ | refine jai ?_ | refine jak ?_); try simp only [go_sem]) | refine jah ?_)
   exact ⟨by trivial, hL, _, d, rfl, (by constructor <;> simp only [go_sem, h.r0, h.r2, h.r3, h.r4, h.r18, h.r19]), (by simp only [go_sem, h6])⟩
 | succ m ih =>
   intro k hk X e d tm v μ0 μ hL h h6 h38 h39
   have hkn : k < n := by omega
   obtain ⟨bi, c, a, rfl, ha, hc⟩ := hL.rd.at hkn
   obtain ⟨x, hx⟩ : ∃ x, x = W (W a * 10) + W d := ⟨_, rfl⟩
   obtain ⟨hst, hL2⟩ := hL.set (b := W x % 4294967296) hkn (Nat.mod_lt _ (by decide))
   have e1 : ilt (.ofNat k) (.ofNat n) = true := (jav _ _).trans (decide_eq_true hkn)
   have q1 : jay .u64 (.ofNat a) = .ofNat (W a) := jbP a
   have q2 : jay .u64 (Int.add (.ofNat (W (W a * 10))) (.ofNat (W d))) = .ofNat (W x) := by rw [hx]; exact wAdd _ _
   have q3 : jay .u32 (.ofNat (W x)) = .ofNat (W x % 4294967296) := q4 _
   have q5 : jay .i64 (Int.add (.ofNat k) 1) = .ofNat (k + 1) := ja2 k 1 (by omega)
   have hix : ∀ (rg : Rg) (a b : Operand), aev Tryz.prog rg a = .slice (some ⟨bi, 0, none⟩) n c → aev Tryz.prog rg b = .int .i64 (.ofNat k) → jaE Tryz.prog (aev Tryz.prog rg) 25 a b = some (.pointer (some ⟨bi, k, none⟩)) := fun rg a b g1 g2 => by
    rw [jaZ (P := Tryz.prog) Tryz.underlying25 jdJ rfl g1 g2 hkn, Nat.zero_add]
   clear hx
   obtain ⟨b, hb⟩ : ∃ b, b = W x % 4294967296 := ⟨_, rfl⟩
   rw [← hb] at hst q3 hL2
   refine jas ?_
   repeat (first | refine jaf ?_ | ((first | (refine jad ?_ ?_; (focus rfl)) | (refine jac (gs := ?_) ?_ ?_; rotate_left; (focus rfl))); simp only [run1, go_sem, h.r0, h.r2, h.r3, h.r4, h.r18, h.r19, h6, h38, h39, e1, hix, jbX, hc, jeL, jda, q1, jcx, q2, q3, q5, hst, jh2]) | (refine jab ?_ ?_; (focus (simp only [go_sem, h.r0, h.r2, h.r3, h.r4, h.r18, h.r19, h6, h38, h39, e1, hix, jbX, hc, jeL, jda, q1, jcx, q2, q3, q5, hst, jh2]; done))) | (refine jaa ?_ ?_; (focus (simp only [go_sem, h.r0, h.r2, h.r3, h.r4, h.r18, h.r19, h6, h38, h39, e1, hix, jbX, hc, jeL, jda, q1, jcx, q2, q3, q5, hst, jh2]; done))) | ((first | refine jaj ?_ | refine jai ?_ | refine jak ?_); try simp only [go_sem]) | refine jah ?_)
   rw [show e + (m + 1) + 39 = e + m + 40 from by omega]
   exact ih (k + 1) (by omega) (d := W x / 2 ^ 32) hL2 (by constructor <;> simp only [go_sem, h.r0, h.r2, h.r3, h.r4, h.r18, h.r19]) (by simp only [go_sem]) (by simp only [go_sem, h38]) (by simp only [go_sem])
def jca (l : List Nat) : Prop := ∀ c ∈ l, dig c = true
theorem lp_out {s : ByteArray} (hl : (bys s).length ≤ 1000) : ∀ (m i : Nat), i + m = (bys s).length → ∀ {X : XT} {e n : Nat} {tm : T Value} {v : Value} {μ0 μ : Mem}, n ≤ i → Lim μ0 μ v n → RegL tm s v i →
  EndsC (jat Tryz.prog X S0 (e + m + 1200) (.loop (jaL Tryz.f48 0)) ⟨70, tm, [], none⟩ μ) fun x r μ' => Grow μ0 μ' ∧ ∃ tm', r = ⟨70, tm', [], none⟩ ∧ ((jca ((bys s).drop i) ∧ x = .exit 0 ∧ ∃ v' n', n' ≤ 1000 ∧ Lim μ0 μ' v' n' ∧ jaq tm' 4 = v') ∨ (¬ jca ((bys s).drop i) ∧ x = .ret ∧ jaq tm' 2 = .slice none 0 0 ∧ jaq tm' 3 = .int .i64 13)) := by
 intro m
 induction m with
 | zero =>
   intro i hi X e n tm v μ0 μ hni hL h
   have hi : i = (bys s).length := hi
   have e1 : ilt (.ofNat i) (.ofNat (bys s).length) = false := (jav _ _).trans (decide_eq_false (by omega))
   refine jas ?_
   repeat (first | refine jaf ?_ | ((first | (refine jad ?_ ?_; (focus rfl)) | (refine jac (gs := ?_) ?_ ?_; rotate_left; (focus rfl))); simp only [run1, go_sem, h.r0, h.r2, h.r3, h.r4, h.r18, h.r19, e1]) | (refine jab ?_ ?_; (focus (simp only [go_sem, h.r0, h.r2, h.r3, h.r4, h.r18, h.r19, e1]; done))) | (refine jaa ?_ ?_; (focus (simp only [go_sem, h.r0, h.r2, h.r3, h.r4, h.r18, h.r19, e1]; done))) | ((first | refine jaj ?_ | refine jai ?_ | refine jak ?_); try simp only [go_sem]) | refine jah ?_)
   exact ⟨hL.grow, _, rfl, .inl ⟨(by rw [hi, List.drop_length]; intro c hc; cases hc), by trivial, v, n, by omega, hL, by simp only [go_sem, h.r4]⟩⟩
 | succ m ih =>
   intro i hi X e n tm v μ0 μ hni hL h
   have hlt : i < (bys s).length := by omega
   have hdr : (bys s).drop i = (bys s)[i]'hlt :: (bys s).drop (i + 1) := List.drop_eq_getElem_cons hlt
   obtain ⟨c, hc⟩ : ∃ c, c = (bys s)[i]'hlt := ⟨_, rfl⟩
   have hc256 : c < 256 := by rw [hc]; exact jgR (List.getElem_mem hlt)
   rw [← hc] at hdr
   have hx : ∀ (r : Rg) (x y : Operand), aev Tryz.prog r x = .string s → aev Tryz.prog r y = .int .i64 (.ofNat i) → jbi Tryz.prog (aev Tryz.prog r) 9 x y = some (.int .u8 (.ofNat c)) := fun r x y h1 h2 => by rw [hc]; exact jbA hlt h1 h2
   have e1 : ilt (.ofNat i) (.ofNat (bys s).length) = true := (jav _ _).trans (decide_eq_true hlt)
   have a1 : jay .i64 (Int.add (.ofNat i) 1) = .ofNat (i + 1) := ja2 i 1 (by omega)
   clear hc
   rw [hdr]
   by_cases h48 : c < 48
   ·have d1 : ilt (.ofNat c) 48 = true := (jbx c 48 48 rfl).trans (decide_eq_true h48)
    refine jas ?_
    repeat (first | refine jaf ?_ | ((first | (refine jad ?_ ?_; (focus rfl)) | (refine jac (gs := ?_) ?_ ?_; rotate_left; (focus rfl))); simp only [run1, go_sem, h.r0, h.r2, h.r3, h.r4, h.r18, h.r19, e1, hx, d1, undef]) | (refine jab ?_ ?_; (focus (simp only [go_sem, h.r0, h.r2, h.r3, h.r4, h.r18, h.r19, e1, hx, d1, undef]; done))) | (refine jaa ?_ ?_; (focus (simp only [go_sem, h.r0, h.r2, h.r3, h.r4, h.r18, h.r19, e1, hx, d1, undef]; done))) | ((first | refine jaj ?_ | refine jai ?_ | refine jak ?_); try simp only [go_sem]) | refine jah ?_)
    refine jam ?_
    exact ⟨hL.grow, _, rfl, .inr ⟨fun ha => (by have := ha c List.mem_cons_self; simp [dig] at this; omega), by trivial, (by simp only [go_sem]), (by simp only [go_sem])⟩⟩
   have d1 : ilt (.ofNat c) 48 = false := (jbx c 48 48 rfl).trans (decide_eq_false h48)
   by_cases h57 : 57 < c
   ·have d2 : ilt 57 (.ofNat c) = true := (jdf c 57 57 rfl).trans (decide_eq_true h57)
    refine jas ?_
    repeat (first | refine jaf ?_ | ((first | (refine jad ?_ ?_; (focus rfl)) | (refine jac (gs := ?_) ?_ ?_; rotate_left; (focus rfl))); simp only [run1, go_sem, h.r0, h.r2, h.r3, h.r4, h.r18, h.r19, e1, hx, d1, d2, undef]) | (refine jab ?_ ?_; (focus (simp only [go_sem, h.r0, h.r2, h.r3, h.r4, h.r18, h.r19, e1, hx, d1, d2, undef]; done))) | (refine jaa ?_ ?_; (focus (simp only [go_sem, h.r0, h.r2, h.r3, h.r4, h.r18, h.r19, e1, hx, d1, d2, undef]; done))) | ((first | refine jaj ?_ | refine jai ?_ | refine jak ?_); try simp only [go_sem]) | refine jah ?_)
    refine jam ?_
    exact ⟨hL.grow, _, rfl, .inr ⟨fun ha => (by have := ha c List.mem_cons_self; simp [dig] at this; omega), by trivial, (by simp only [go_sem]), (by simp only [go_sem])⟩⟩
   have d2 : ilt 57 (.ofNat c) = false := (jdf c 57 57 rfl).trans (decide_eq_false h57)
   have hdc : dig c = true := by simp [dig]; omega
   have hall : ∀ l, jca (c :: l) ↔ jca l := fun l => ⟨fun h d hd => h d (List.mem_cons_of_mem _ hd), fun h d hd => by
    rcases List.mem_cons.1 hd with rfl | hd
    ·exact hdc
    ·exact h d hd⟩
   have q1 : jay .u8 (Int.sub (.ofNat c) 48) = .ofNat (c - 48) := n8_sub (b := 48) (by omega) (by omega)
   have q2 : jay .u64 (.ofNat (c - 48)) = .ofNat (W (c - 48)) := jbP _
   have lv := hL.rd.len
   refine jas ?_
   repeat (first | refine jaf ?_ | ((first | (refine jad ?_ ?_; (focus rfl)) | (refine jac (gs := ?_) ?_ ?_; rotate_left; (focus rfl))); simp only [run1, go_sem, h.r0, h.r2, h.r3, h.r4, h.r18, h.r19, e1, hx, d1, d2, undef, q1, jcs, q2, jae, lv, jag]) | (refine jab ?_ ?_; (focus (simp only [go_sem, h.r0, h.r2, h.r3, h.r4, h.r18, h.r19, e1, hx, d1, d2, undef, q1, jcs, q2, jae, lv, jag]; done))) | (refine jaa ?_ ?_; (focus (simp only [go_sem, h.r0, h.r2, h.r3, h.r4, h.r18, h.r19, e1, hx, d1, d2, undef, q1, jcs, q2, jae, lv, jag]; done))) | ((first | refine jaj ?_ | refine jai ?_ | refine jak ?_); try simp only [go_sem]) | refine jah ?_)
   rw [show e + (m + 1) + 1189 = (e + (m + 1) + 1149 - n) + n + 40 from by omega]
   refine EndsC.mono (lp_in (s := s) (i := i) (by omega) n 0 (Nat.zero_add _) hL (d := c - 48) (by constructor <;> simp only [go_sem, h.r0, h.r2, h.r3, h.r4, h.r18, h.r19]) (by simp only [go_sem]) (by simp only [go_sem]) (by simp only [go_sem]; try rfl)) ?_
   rintro x r μ1 ⟨rfl, hL1, tm1, d', rfl, h, h6⟩
   simp only [ja4, reduceIte, jao]
   by_cases hz : W d' = 0
   ·have z1 : ilt 0 (.ofNat (W d')) = false := (jav 0 _).trans (decide_eq_false (by omega))
    repeat (first | refine jaf ?_ | ((first | (refine jad ?_ ?_; (focus rfl)) | (refine jac (gs := ?_) ?_ ?_; rotate_left; (focus rfl))); simp only [run1, go_sem, h.r0, h.r2, h.r3, h.r4, h.r18, h.r19, h6, z1, a1]) | (refine jab ?_ ?_; (focus (simp only [go_sem, h.r0, h.r2, h.r3, h.r4, h.r18, h.r19, h6, z1, a1]; done))) | (refine jaa ?_ ?_; (focus (simp only [go_sem, h.r0, h.r2, h.r3, h.r4, h.r18, h.r19, h6, z1, a1]; done))) | ((first | refine jaj ?_ | refine jai ?_ | refine jak ?_); try simp only [go_sem]) | refine jah ?_)
    rw [show e + (m + 1) + 1199 = e + m + 1200 from by omega]
    refine EndsC.mono (ih (i + 1) (by omega) (n := n) (by omega) hL1 (by constructor <;> simp only [go_sem, h.r0, h.r2, h.r3, h.r4, h.r18, h.r19])) ?_
    rintro x r μ' ⟨g1, tm', g2, g3⟩
    refine ⟨g1, tm', g2, ?_⟩
    rcases g3 with ⟨g3, g4⟩ | ⟨g3, g4⟩
    ·exact .inl ⟨(hall _).2 g3, g4⟩
    ·exact .inr ⟨fun h => g3 ((hall _).1 h), g4⟩
   ·have z1 : ilt 0 (.ofNat (W d')) = true := (jav 0 _).trans (decide_eq_true (by omega))
    have q3 : jay .u32 (.ofNat (W d')) = .ofNat (W d' % 4294967296) := q4 _
    obtain ⟨b, hb⟩ : ∃ b, b = W d' % 4294967296 := ⟨_, rfl⟩
    have hbl : b < 4294967296 := by rw [hb]; exact Nat.mod_lt _ (by decide)
    rw [← hb] at q3
    obtain ⟨v', μ2, hap, hL2⟩ := hL1.push (x := .int .u32 (.ofNat b)) (by omega) ⟨b, hbl, rfl⟩
    have bs : ∀ (r : Rg) (x : Operand), aev Tryz.prog r x = .int .u32 (.ofNat b) → jbl Tryz.prog (aev Tryz.prog r) 25 1 #[(0, x)] = some (.cells 1 56 #[.int .u32 (.ofNat b)] .e 0 0 false false, fun id => .slice (some ⟨id, 0, none⟩) 1 2) := fun r x g => jcR Tryz.underlying25 jdJ rfl z_u32 rfl g rfl
    repeat (first | refine jaf ?_ | ((first | (refine jad ?_ ?_; (focus rfl)) | (refine jac (gs := ?_) ?_ ?_; rotate_left; (focus rfl))); simp only [run1, go_sem, h.r0, h.r2, h.r3, h.r4, h.r18, h.r19, h6, z1, a1, jda, q3, bs, jae, hap]) | (refine jab ?_ ?_; (focus (simp only [go_sem, h.r0, h.r2, h.r3, h.r4, h.r18, h.r19, h6, z1, a1, jda, q3, bs, jae, hap]; done))) | (refine jaa ?_ ?_; (focus (simp only [go_sem, h.r0, h.r2, h.r3, h.r4, h.r18, h.r19, h6, z1, a1, jda, q3, bs, jae, hap]; done))) | ((first | refine jaj ?_ | refine jai ?_ | refine jak ?_); try simp only [go_sem]) | refine jah ?_)
    rw [show e + (m + 1) + 1199 = e + m + 1200 from by omega]
    refine EndsC.mono (ih (i + 1) (by omega) (n := n + 1) (v := v') (by omega) hL2 (by constructor <;> simp only [go_sem, h.r0, h.r2, h.r3, h.r4, h.r18, h.r19])) ?_
    rintro x r μ' ⟨g1, tm', g2, g3⟩
    refine ⟨g1, tm', g2, ?_⟩
    rcases g3 with ⟨g3, g4⟩ | ⟨g3, g4⟩
    ·exact .inl ⟨(hall _).2 g3, g4⟩
    ·exact .inr ⟨fun h => g3 ((hall _).1 h), g4⟩
theorem src_rd {μ : Mem} {v : Value} {n : Nat} (h : Rd μ v n) : ∃ xs, jbw μ 1 n v = some xs ∧ xs.length = n ∧ ∀ x ∈ xs, U32 x := by
 rcases h with ⟨rfl, rfl⟩ | ⟨i, c, m, z, ov, fx, sh, rfl, h2, h3, h4, h5, h6⟩
 ·exact ⟨[], rfl, rfl, fun x h => by cases h⟩
 ·cases n with
  | zero => exact ⟨[], rfl, rfl, fun x h => by cases h⟩
  | succ n =>
    refine ⟨jaK z ov 0 (n + 1), ?_, jbt _ _, fun x hx => ?_⟩
    ·unfold jbw
     rw [show Nat.mul (n + 1) 1 = n + 1 from Nat.mul_one _]
     simp only [h2]
     rw [show Nat.ble (Nat.add 0 (n + 1)) m = true from Nat.ble_eq_true_of_le (by show 0 + (n + 1) ≤ m; omega)]
    ·obtain ⟨k, hk, rfl⟩ := List.getElem_of_mem hx
     have hk' : k < n + 1 := by rw [jbt] at hk; exact hk
     have := jdb (zero := z) (over := ov) (n + 1) 0 k hk'
     rw [List.getElem?_eq_getElem hk, Nat.zero_add] at this
     rw [Option.some.inj this]
     exact h5 k hk'
def ob0 : Ob := .cells 0 56 #[] .e 0 0 false false
theorem bs0 (ρ : Operand → Value) : jbl Tryz.prog ρ 25 0 #[] = some (ob0, fun id => .slice (some ⟨id, 0, none⟩) 0 0) := by
 unfold jbl
 simp only [Tryz.underlying25, jdJ]
 rfl
def New (μ : Mem) (v : Value) : Prop := ∀ i, SlAt v i → μ.next ≤ i
theorem New.nil (μ : Mem) : New μ (.slice none 0 0) := fun i hi => by obtain ⟨l, c, hv⟩ := hi; cases hv
theorem New.mk {μ : Mem} {j n c : Nat} (h : μ.next ≤ j) : New μ (.slice (some ⟨j, 0, none⟩) n c) := fun i hi => by
 obtain ⟨l, c', hv⟩ := hi
 injection hv with e1
 injection e1 with e1
 injection e1 with e1
 subst e1
 exact h
theorem jfO {μ : Mem} {v : Value} {n : Nat} (h : Rd μ v n) (hn : n ≤ 1000000) : ∃ v' μ', jct Tryz.prog ⟨μ.obs.set μ.next ob0, Nat.add μ.next 1⟩ 25 25 (.slice (some ⟨μ.next, 0, none⟩) 0 0) v = some (v', μ') ∧ Rd μ' v' n ∧ Grow μ μ' ∧ New μ v' := by
 have hg1 : Grow μ ⟨μ.obs.set μ.next ob0, Nat.add μ.next 1⟩ := jb2 μ _
 have h1 := h.grow hg1
 obtain ⟨xs, hs, hl, hx⟩ := src_rd h1
 have hlen : lenV v = some n := by
  rcases h with ⟨rfl, rfl⟩ | ⟨i, c, m, z, ov, fx, sh, rfl, _⟩ <;> rfl
 have e1 : Nat.ble Tryz.t56.bytes 4096 = true := by kernel_rfl
 have e2 : Nat.beq (jbc (.int .u32 0)).length 1 = true := by kernel_rfl
 have e3 : Nat.ble n 67108864 = true := Nat.ble_eq_true_of_le (by omega)
 have e4 : Tryz.t56.size = 1 := by kernel_rfl
 have e5 : Nat.beq xs.length (Nat.mul n 1) = true := by rw [hl, show Nat.mul n 1 = n from Nat.mul_one n]; exact Nat.beq_refl n
 have hap : jct Tryz.prog ⟨μ.obs.set μ.next ob0, Nat.add μ.next 1⟩ 25 25 (.slice (some ⟨μ.next, 0, none⟩) 0 0) v = jcn Tryz.prog ⟨μ.obs.set μ.next ob0, Nat.add μ.next 1⟩ 56 1 n xs (.slice (some ⟨μ.next, 0, none⟩) 0 0) := by
  unfold jct
  simp only [Tryz.underlying25, jdJ, e1, z_u32, e4, e2, hlen, e3, hs, e5]
 rw [hap]
 unfold jcn
 have e6 : Nat.ble (Nat.add 0 n) 67108864 = true := Nat.ble_eq_true_of_le (by show 0 + n ≤ _; omega)
 simp only [e6]
 cases n with
 | zero =>
   have hx0 : xs = [] := List.eq_nil_of_length_eq_zero hl
   subst hx0
   refine ⟨_, _, rfl, .inr ⟨μ.next, 0, 0, #[], .e, false, false, rfl, by show T.get _ _ = _; rw [T.get_set, if_pos rfl]; rfl, Nat.le_refl _, Nat.lt_succ_self _, fun k hk => by omega, .inl ⟨rfl, Nat.le_refl _⟩⟩, hg1, New.mk (Nat.le_refl _)⟩
 | succ n =>
   have e7 : Nat.ble (Nat.add 0 (n + 1)) (Nat.div 0 2) = false := by
    cases hb : Nat.ble (Nat.add 0 (n + 1)) (Nat.div 0 2) with
    | false => rfl
    | true => have := Nat.le_of_ble_eq_true hb; have h0 : Nat.div 0 2 = 0 := rfl; rw [h0] at this; have : 0 + (n + 1) ≤ 0 := this; omega
   simp only [show Nat.beq (Nat.mod 0 2) 0 = true from rfl, e7]
   refine ⟨_, _, rfl, .inr ⟨μ.next + 1, 3, xs.length, xs.toArray, .e, true, false, ?_, ?_, by omega, ?_, fun k hk => ?_, .inr ⟨rfl, rfl⟩⟩, ?_, New.mk (Nat.le_succ _)⟩
   ·show Value.slice (some ⟨Nat.add μ.next 1, 0, none⟩) (Nat.add 0 (n + 1)) _ = _
    rw [show Nat.add 0 (n + 1) = n + 1 from Nat.zero_add _]
   ·show T.get (T.set _ (Nat.add μ.next 1) _) _ = _
    rw [T.get_set, if_pos rfl]
    rfl
   ·show μ.next + 1 < μ.next + 1 + 1; omega
   ·rw [jce xs k (by omega)]
    exact hx _ (List.getElem_mem _)
   ·refine ⟨?_, fun i hi => ?_⟩
    ·show μ.next ≤ μ.next + 1 + 1; omega
    ·show T.get (T.set (T.set _ _ _) (Nat.add μ.next 1) _) i = _
     rw [T.get_set, if_neg (by show i ≠ μ.next + 1; omega), T.get_set, if_neg (by omega)]
theorem jj5 {μ : Mem} {v : Value} {n : Nat} (h : Rd μ v n) (hn : n ≤ 1000000) : ∃ v' μ', jct Tryz.prog ⟨μ.obs.set μ.next ob0, Nat.add μ.next 1⟩ 25 25 (.slice (some ⟨μ.next, 0, none⟩) 0 0) v = some (v', μ') ∧ Rd μ' v' n ∧ Grow μ μ' := by
 obtain ⟨v', μ', h1, h2, h3, _⟩ := jfO h hn
 exact ⟨v', μ', h1, h2, h3⟩
end
noncomputable section
open Go.Proofs.YtdjoekhccbiaiaaGreatDoor.NumText (dig unsg isS)
theorem an4 (a : Addr) (n c : Nat) : aNil Tryz.prog 25 (.slice (some a) n c) (.slice none 0 0) = true := by
 unfold aNil
 simp only [Tryz.underlying25]
theorem an5 : aNil Tryz.prog 25 (.slice none 0 0) (.slice none 0 0) = false := rfl
theorem p_sl (r : Rg) {d : Option Tmp} {yt ty : TypeId} {x : Operand} {ps : String} {af : Array Edge} {gd : Option (Nat × Bool)} (hx : aev Tryz.prog r x = .slice none 0 0) : ja0 Tryz.prog (aev Tryz.prog r) ⟨d, .binOp .eql 25 x (.const (.slice none 0 0)) yt, ty, ps, af, gd⟩ = some (.bool true) := by
 have hy : aev Tryz.prog r (.const (.slice none 0 0)) = .slice none 0 0 := rfl
 unfold ja0
 have e : pv Tryz.prog (execOp (aev Tryz.prog r) ⟨d, .binOp .eql 25 x (.const (.slice none 0 0)) yt, ty, ps, af, gd⟩) = some (.value (.bool true)) := by
  simp only [execOp, hx, hy]
  kernel_rfl
 simp only [opsOf, jb6, hx, hy, jaV, e]
theorem cloneL_ex {X : XT} {g n : Nat} {v : Value} {μ : Mem} (h : Rd μ v n) (hn : n ≤ 1000000) (hg : 20 ≤ g) : ∃ v' μ', aFun Tryz.prog (jat Tryz.prog X S0 g) 23 [v] μ = some (v', μ') ∧ Rd μ' v' n ∧ Grow μ μ' := by
 obtain ⟨k, rfl⟩ := gle hg
 obtain ⟨v', μ1, hap, hR, hG⟩ := jj5 h hn
 have key : EndsF (aFun Tryz.prog (jat Tryz.prog X S0 (k + 20)) 23 [v] μ) fun w μ' => Rd μ' w n ∧ Grow μ μ' := by
  rcases h with ⟨rfl, rfl⟩ | ⟨i, c, m, z, ov, fx, sh, rfl, h2, h3, h4, h5, h6⟩
  ·skip
   refine jan Tryz.func23 rfl rfl (nbl rfl) ?_
   simp only [go_sem, Tryz.ntmps23]
   repeat (first | refine jaf ?_ | ((first | (refine jad ?_ ?_; (focus rfl)) | (refine jac (gs := ?_) ?_ ?_; rotate_left; (focus rfl))); simp only [run1, go_sem, an5, p_sl]) | (refine jab ?_ ?_; (focus (simp only [go_sem, an5, p_sl]; done))) | (refine jaa ?_ ?_; (focus (simp only [go_sem, an5, p_sl]; done))) | ((first | refine jaj ?_ | refine jai ?_ | refine jak ?_); try simp only [go_sem]) | refine jah ?_)
   refine jam ?_
   refine ⟨rfl, .slice none 0 0, ?_, Rd.nil _, Grow.refl _⟩
   simp only [go_sem, Tryz.results23]
  ·skip
   refine jan Tryz.func23 rfl rfl (nbl rfl) ?_
   simp only [go_sem, Tryz.ntmps23]
   repeat (first | refine jaf ?_ | ((first | (refine jad ?_ ?_; (focus rfl)) | (refine jac (gs := ?_) ?_ ?_; rotate_left; (focus rfl))); simp only [run1, go_sem, an4, bs0, jae, hap]) | (refine jab ?_ ?_; (focus (simp only [go_sem, an4, bs0, jae, hap]; done))) | (refine jaa ?_ ?_; (focus (simp only [go_sem, an4, bs0, jae, hap]; done))) | ((first | refine jaj ?_ | refine jai ?_ | refine jak ?_); try simp only [go_sem]) | refine jah ?_)
   refine jam ?_
   refine ⟨rfl, v', ?_, hR, hG⟩
   simp only [go_sem, Tryz.results23]
 obtain ⟨w, μ', h1, h2, h3⟩ := key
 exact ⟨w, μ', h1, h2, h3⟩
theorem jjk {n : Nat} (hn : n ≤ 1000000) : ∀ k, k ≤ n → ∀ {X : XT} {e : Nat} {tm : T Value} {v : Value} {μ : Mem}, Rd μ v n → jaq tm 0 = v → jaq tm 3 = .int .i64 (.ofNat k) →
  EndsC (jat Tryz.prog X S0 (e + k + 20) (.loop (jaL Tryz.f86 0)) ⟨22, tm, [], none⟩ μ) fun x r μ' => x = .exit 0 ∧ μ' = μ ∧ ∃ tm' k', r = ⟨22, tm', [], none⟩ ∧ k' ≤ n ∧ jaq tm' 0 = v ∧ jaq tm' 3 = .int .i64 (.ofNat k') := by
 intro k
 induction k with
 | zero =>
   intro hk X e tm v μ h h0 h3
   have e1 : ilt 0 (.ofNat 0) = false := rfl
   refine jas ?_
   refine jaf ?_
   refine jaf ?_
   refine jac (gs := ?_) ?_ ?_
   rotate_left
   ·rfl
   iterate 3 (refine jal (by first | rfl | (simp only [go_sem, undef, h0, h3, e1])) (by simp only [go_sem, undef, h0, h3, e1]; try exact rfl) rfl ?_)
   iterate 6 (refine jaA (by simp only [go_sem, undef, h0, h3, e1]) rfl ?_)
   refine jal (by first | rfl | (simp only [go_sem, undef, h0, h3, e1])) (by simp only [go_sem, undef, h0, h3, e1]; try exact rfl) rfl ?_
   simp only [go_sem]
   refine jaa ?_ ?_
   ·simp only [go_sem]
   refine jak ?_
   simp only [jbm]
   exact ⟨by trivial, by trivial, _, 0, rfl, Nat.zero_le _, by simp only [go_sem, h0], by simp only [go_sem, h3]⟩
 | succ k ih =>
   intro hk X e tm v μ h h0 h3
   obtain ⟨bi, c, a, rfl, ha, hc⟩ := h.at (show k < n by omega)
   have e1 : ilt 0 (.ofNat (k + 1)) = true := (jav 0 (k + 1)).trans (decide_eq_true (Nat.succ_pos k))
   have q1 : jay .i64 (Int.sub (.ofNat (k + 1)) 1) = .ofNat k := jco (k + 1) 1 (by omega) (by omega)
   have hix : ∀ (rg : Rg) (a b : Operand), aev Tryz.prog rg a = .slice (some ⟨bi, 0, none⟩) n c → aev Tryz.prog rg b = .int .i64 (.ofNat k) → jaE Tryz.prog (aev Tryz.prog rg) 25 a b = some (.pointer (some ⟨bi, k, none⟩)) := fun rg a b g1 g2 => by
    rw [jaZ (P := Tryz.prog) Tryz.underlying25 jdJ rfl g1 g2 (by omega), Nat.zero_add]
   by_cases hz : a = 0
   ·have e2 : ieq (.ofNat a) 0 = true := (jaO _ 0 0 rfl).trans (decide_eq_true hz)
    refine jas ?_
    refine jaf ?_
    refine jaf ?_
    refine jac (gs := ?_) ?_ ?_
    rotate_left
    ·rfl
    iterate 10 (refine jal (by first | rfl | (simp only [go_sem, undef, h0, h3, e1, q1, hix, jbX, hc, e2])) (by simp only [go_sem, undef, h0, h3, e1, q1, hix, jbX, hc, e2]; try exact rfl) rfl ?_)
    simp only [go_sem]
    repeat (first | refine jaf ?_ | ((first | (refine jad ?_ ?_; (focus rfl)) | (refine jac (gs := ?_) ?_ ?_; rotate_left; (focus rfl))); simp only [run1, go_sem, h0, h3, q1]) | (refine jab ?_ ?_; (focus (simp only [go_sem, h0, h3, q1]; done))) | (refine jaa ?_ ?_; (focus (simp only [go_sem, h0, h3, q1]; done))) | ((first | refine jaj ?_ | refine jai ?_ | refine jak ?_); try simp only [go_sem]) | refine jah ?_)
    rw [show e + (k + 1) + 19 = e + k + 20 from by omega]
    exact ih (by omega) h (by simp only [go_sem, h0]) (by simp only [go_sem])
   ·have e2 : ieq (.ofNat a) 0 = false := (jaO _ 0 0 rfl).trans (decide_eq_false hz)
    refine jas ?_
    refine jaf ?_
    refine jaf ?_
    refine jac (gs := ?_) ?_ ?_
    rotate_left
    ·rfl
    iterate 10 (refine jal (by first | rfl | (simp only [go_sem, undef, h0, h3, e1, q1, hix, jbX, hc, e2])) (by simp only [go_sem, undef, h0, h3, e1, q1, hix, jbX, hc, e2]; try exact rfl) rfl ?_)
    simp only [go_sem]
    refine jaa ?_ ?_
    ·simp only [go_sem]
    refine jak ?_
    simp only [jbm]
    exact ⟨by trivial, by trivial, _, k + 1, rfl, hk, by simp only [go_sem, h0], by simp only [go_sem, h3]⟩
theorem trimL_ex {X : XT} {g n : Nat} {v : Value} {μ : Mem} (h : Rd μ v n) (hn : n ≤ 10000) (hg : 10100 ≤ g) : ∃ v' n' μ', aFun Tryz.prog (jat Tryz.prog X S0 g) 86 [v] μ = some (v', μ') ∧ n' ≤ n ∧ Rd μ' v' n' ∧ Grow μ μ' := by
 obtain ⟨k, rfl⟩ := gle hg
 have lv := h.len
 have key : EndsF (aFun Tryz.prog (jat Tryz.prog X S0 (k + 10100)) 86 [v] μ) fun w μ' => ∃ n', n' ≤ n ∧ Rd μ' w n' ∧ Grow μ μ' := by
  refine jan Tryz.func86 rfl rfl (nbl rfl) ?_
  simp only [go_sem, Tryz.ntmps86]
  repeat (first | refine jaf ?_ | ((first | (refine jad ?_ ?_; (focus rfl)) | (refine jac (gs := ?_) ?_ ?_; rotate_left; (focus rfl))); simp only [run1, go_sem, jae, lv, jag]) | (refine jab ?_ ?_; (focus (simp only [go_sem, jae, lv, jag]; done))) | (refine jaa ?_ ?_; (focus (simp only [go_sem, jae, lv, jag]; done))) | ((first | refine jaj ?_ | refine jai ?_ | refine jak ?_); try simp only [go_sem]) | refine jah ?_)
  rw [show k + 10096 = (k + 10076 - n) + n + 20 from by omega]
  refine EndsC.mono (jjk (by omega) n (Nat.le_refl _) h (by simp only [go_sem]) (by simp only [go_sem])) ?_
  rintro x r μ' ⟨rfl, rfl, tm', n', rfl, hn', h0, h3⟩
  simp only [ja4, reduceIte, jao]
  obtain ⟨v1, hsl, hR1, _⟩ := h.take hn'
  have hsl : ∀ (rg : Rg) (x y : Operand), aev Tryz.prog rg x = v → aev Tryz.prog rg y = .int .i64 (.ofNat n') → jbG Tryz.prog (aev Tryz.prog rg) 25 x none (some y) none = some v1 := fun rg x y g1 g2 => hsl _ x y g1 g2
  obtain ⟨v2, μ2, hr, hR2, hG⟩ := cloneL_ex (X := X) (g := k + 10095) hR1 (by omega) (by omega)
  repeat (first | refine jaf ?_ | ((first | (refine jad ?_ ?_; (focus rfl)) | (refine jac (gs := ?_) ?_ ?_; rotate_left; (focus rfl))); simp only [run1, go_sem, h0, h3, hsl, gg23, hr]) | (refine jab ?_ ?_; (focus (simp only [go_sem, h0, h3, hsl, gg23, hr]; done))) | (refine jaa ?_ ?_; (focus (simp only [go_sem, h0, h3, hsl, gg23, hr]; done))) | ((first | refine jaj ?_ | refine jai ?_ | refine jak ?_); try simp only [go_sem]) | refine jah ?_)
  refine jam ?_
  refine ⟨rfl, v2, ?_, n', hn', hR2, hG⟩
  simp only [go_sem, Tryz.results86]
 obtain ⟨w, μ', h1, n', h2, h3, h4⟩ := key
 exact ⟨w, n', μ', h1, h2, h3, h4⟩
theorem capped_ex {X : XT} {g n : Nat} {v : Value} {μ : Mem} (h : Rd μ v n) (hn : n ≤ 10000) (hg : 10200 ≤ g) : ∃ v' n' e μ', aFun Tryz.prog (jat Tryz.prog X S0 g) 77 [v] μ = some (.tuple #[v', .int .i64 e], μ') ∧ (e = 0 ∨ e = 11) ∧ n' ≤ n ∧ Rd μ' v' n' ∧ Grow μ μ' := by
 obtain ⟨k, rfl⟩ := gle hg
 obtain ⟨v1, n1, μ1, hr, hn1, hR, hG⟩ := trimL_ex (X := X) (g := k + 10197) h hn (by omega)
 have lv := hR.len
 have big : ∀ g, 10 ≤ g → aFun Tryz.prog (jat Tryz.prog X S0 g) 101 [v1] μ1 = some (.bool (decide (64 < n1)), μ1) := fun g hg => by
  obtain ⟨k, rfl⟩ := gle hg
  have e1 : ilt 64 (.ofNat n1) = decide (64 < n1) := jav 64 n1
  refine jaQ ?_
  refine jan Tryz.func101 rfl rfl (nbl rfl) ?_
  simp only [go_sem, Tryz.ntmps101]
  repeat (first | refine jaf ?_ | ((first | (refine jad ?_ ?_; (focus rfl)) | (refine jac (gs := ?_) ?_ ?_; rotate_left; (focus rfl))); simp only [run1, go_sem, jae, lv, jag, e1]) | (refine jab ?_ ?_; (focus (simp only [go_sem, jae, lv, jag, e1]; done))) | (refine jaa ?_ ?_; (focus (simp only [go_sem, jae, lv, jag, e1]; done))) | ((first | refine jaj ?_ | refine jai ?_ | refine jak ?_); try simp only [go_sem]) | refine jah ?_)
  refine jam ?_
  refine ⟨rfl, _, ?_, rfl, rfl⟩
  simp only [go_sem, Tryz.results101]
 have key : EndsF (aFun Tryz.prog (jat Tryz.prog X S0 (k + 10200)) 77 [v] μ) fun w μ' => ∃ v' n' e, w = .tuple #[v', .int .i64 e] ∧ (e = 0 ∨ e = 11) ∧ n' ≤ n ∧ Rd μ' v' n' ∧ Grow μ μ' := by
  by_cases hb : 64 < n1
  ·rw [decide_eq_true hb] at big
   refine jan Tryz.func77 rfl rfl (nbl rfl) ?_
   simp only [go_sem, Tryz.ntmps77]
   repeat (first | refine jaf ?_ | ((first | (refine jad ?_ ?_; (focus rfl)) | (refine jac (gs := ?_) ?_ ?_; rotate_left; (focus rfl))); simp only [run1, go_sem, gg86, hr, jjW, big, Nat.reduceLeDiff]) | (refine jab ?_ ?_; (focus (simp only [go_sem, gg86, hr, jjW, big, Nat.reduceLeDiff]; done))) | (refine jaa ?_ ?_; (focus (simp only [go_sem, gg86, hr, jjW, big, Nat.reduceLeDiff]; done))) | ((first | refine jaj ?_ | refine jai ?_ | refine jak ?_); try simp only [go_sem]) | refine jah ?_)
   refine jam ?_
   refine ⟨rfl, .tuple #[.slice none 0 0, .int .i64 11], ?_, _, 0, 11, rfl, .inr rfl, Nat.zero_le _, Rd.nil _, hG⟩
   simp only [go_sem, Tryz.results77]
  ·rw [decide_eq_false hb] at big
   refine jan Tryz.func77 rfl rfl (nbl rfl) ?_
   simp only [go_sem, Tryz.ntmps77]
   repeat (first | refine jaf ?_ | ((first | (refine jad ?_ ?_; (focus rfl)) | (refine jac (gs := ?_) ?_ ?_; rotate_left; (focus rfl))); simp only [run1, go_sem, gg86, hr, jjW, big, Nat.reduceLeDiff]) | (refine jab ?_ ?_; (focus (simp only [go_sem, gg86, hr, jjW, big, Nat.reduceLeDiff]; done))) | (refine jaa ?_ ?_; (focus (simp only [go_sem, gg86, hr, jjW, big, Nat.reduceLeDiff]; done))) | ((first | refine jaj ?_ | refine jai ?_ | refine jak ?_); try simp only [go_sem]) | refine jah ?_)
   refine jam ?_
   refine ⟨rfl, .tuple #[v1, .int .i64 0], ?_, v1, n1, 0, rfl, .inl rfl, hn1, hR, hG⟩
   simp only [go_sem, Tryz.results77]
 obtain ⟨w, μ', h1, v', n', e, rfl, h2, h3, h4, h5⟩ := key
 exact ⟨v', n', e, μ', h1, h2, h3, h4, h5⟩
theorem jhy {s : ByteArray} (hl : (bys s).length ≤ 700) {X : XT} {g : Nat} {μ : Mem} (hg : 12000 ≤ g) : ∃ v n e μ', aFun Tryz.prog (jat Tryz.prog X S0 g) 48 [.string s] μ = some (.tuple #[v, .int .i64 e], μ') ∧ ((0 < (bys s).length ∧ jca (bys s)) → e = 0 ∨ e = 11) ∧ (¬ (0 < (bys s).length ∧ jca (bys s)) → e = 13) ∧ Rd μ' v n ∧ Grow μ μ' := by
 obtain ⟨k, rfl⟩ := gle hg
 have ls := ja5 s
 have key : EndsF (aFun Tryz.prog (jat Tryz.prog X S0 (k + 12000)) 48 [.string s] μ) fun w μ' => ∃ v n e, w = .tuple #[v, .int .i64 e] ∧ ((0 < (bys s).length ∧ jca (bys s)) → e = 0 ∨ e = 11) ∧ (¬ (0 < (bys s).length ∧ jca (bys s)) → e = 13) ∧ Rd μ' v n ∧ Grow μ μ' := by
  by_cases h0 : (bys s).length = 0
  ·have e1 : ieq (.ofNat (bys s).length) 0 = true := (jaO _ 0 0 rfl).trans (decide_eq_true h0)
   refine jan Tryz.func48 rfl rfl (nbl rfl) ?_
   simp only [go_sem, Tryz.ntmps48]
   repeat (first | refine jaf ?_ | ((first | (refine jad ?_ ?_; (focus rfl)) | (refine jac (gs := ?_) ?_ ?_; rotate_left; (focus rfl))); simp only [run1, go_sem, undef, jae, ls, jag, e1]) | (refine jab ?_ ?_; (focus (simp only [go_sem, undef, jae, ls, jag, e1]; done))) | (refine jaa ?_ ?_; (focus (simp only [go_sem, undef, jae, ls, jag, e1]; done))) | ((first | refine jaj ?_ | refine jai ?_ | refine jak ?_); try simp only [go_sem]) | refine jah ?_)
   refine jam ?_
   refine ⟨rfl, .tuple #[.slice none 0 0, .int .i64 13], ?_, .slice none 0 0, 0, 13, rfl, fun h => by omega, fun _ => rfl, Rd.nil _, Grow.refl _⟩
   simp only [go_sem, Tryz.results48]
  have e1 : ieq (.ofNat (bys s).length) 0 = false := (jaO _ 0 0 rfl).trans (decide_eq_false h0)
  have e7 : ilt 700 (.ofNat (bys s).length) = false := (jav 700 _).trans (decide_eq_false (by omega))
  refine jan Tryz.func48 rfl rfl (nbl rfl) ?_
  simp only [go_sem, Tryz.ntmps48]
  repeat (first | refine jaf ?_ | ((first | (refine jad ?_ ?_; (focus rfl)) | (refine jac (gs := ?_) ?_ ?_; rotate_left; (focus rfl))); simp only [run1, go_sem, undef, jae, ls, jag, e1, e7]) | (refine jab ?_ ?_; (focus (simp only [go_sem, undef, jae, ls, jag, e1, e7]; done))) | (refine jaa ?_ ?_; (focus (simp only [go_sem, undef, jae, ls, jag, e1, e7]; done))) | ((first | refine jaj ?_ | refine jai ?_ | refine jak ?_); try simp only [go_sem]) | refine jah ?_)
  rw [show k + 11994 = (k + 10794 - (bys s).length) + (bys s).length + 1200 from by omega]
  refine EndsC.mono (lp_out (by omega) (bys s).length 0 (Nat.zero_add _) (n := 0) (v := .slice none 0 0) (Nat.le_refl _) (Lim.nil μ) (by constructor <;> (simp only [go_sem]; try rfl))) ?_
  rintro x r μ' ⟨hG, tm', rfl, ⟨ha, rfl, v', n', hn', hL, h4⟩ | ⟨ha, rfl, h2, h3⟩⟩
  ·rw [List.drop_zero] at ha
   simp only [ja4, reduceIte, jao]
   obtain ⟨v2, n2, e, μ2, hr, he, hn2, hR2, hG2⟩ := capped_ex (X := X) (g := k + 11994) hL.rd (by omega) (by omega)
   repeat (first | refine jaf ?_ | ((first | (refine jad ?_ ?_; (focus rfl)) | (refine jac (gs := ?_) ?_ ?_; rotate_left; (focus rfl))); simp only [run1, go_sem, h4, gg77, hr]) | (refine jab ?_ ?_; (focus (simp only [go_sem, h4, gg77, hr]; done))) | (refine jaa ?_ ?_; (focus (simp only [go_sem, h4, gg77, hr]; done))) | ((first | refine jaj ?_ | refine jai ?_ | refine jak ?_); try simp only [go_sem]) | refine jah ?_)
   refine jam ?_
   refine ⟨rfl, .tuple #[v2, .int .i64 e], ?_, v2, n2, e, rfl, fun _ => he, fun h => absurd ⟨by omega, ha⟩ h, hR2, hG.trans hG2⟩
   simp only [go_sem, Tryz.results48]
  ·rw [List.drop_zero] at ha
   simp only [ja4]
   refine ⟨rfl, .tuple #[.slice none 0 0, .int .i64 13], ?_, .slice none 0 0, 0, 13, rfl, fun h => absurd h.2 ha, fun _ => rfl, Rd.nil _, hG⟩
   simp only [go_sem, Tryz.results48]
   rw [h2, h3]
 obtain ⟨w, μ', h1, v, n, e, rfl, h2, h3, h4, h5⟩ := key
 exact ⟨v, n, e, μ', h1, h2, h3, h4, h5⟩
end
noncomputable section
open Go.Proofs.YtdjoekhccbiaiaaGreatDoor.NumText (dig unsg isS)
section
set_option linter.defProp false
variable {X : XT} {ev : Code → Rg → Mem → Option (Ax × Rg × Mem)}
def gg26 := go_call (P := Tryz.prog) (X := X) (ev := ev) (S := S0) Tryz.func26 rfl rfl
def gg49 := go_call (P := Tryz.prog) (X := X) (ev := ev) (S := S0) Tryz.func49 rfl rfl
def gg27 := go_call (P := Tryz.prog) (X := X) (ev := ev) (S := S0) Tryz.func27 rfl rfl
def gg29 := go_call (P := Tryz.prog) (X := X) (ev := ev) (S := S0) Tryz.func29 rfl rfl
end
def obI : Ob := .cells 2 27 #[.bool false, .slice none 0 0] .e 0 0 false false
theorem z_I : jbn Tryz.prog 27 = some (.agg #[.bool false, .slice none 0 0]) := by kernel_rfl
theorem al_I : je2 Tryz.prog 27 = some (obI, fun id => .pointer (some ⟨id, 0, none⟩)) := by kernel_rfl
def obN : Ob := .cells 4 29 #[.bool false, .float .f64 0, .bool false, .slice none 0 0] .e 0 0 false false
theorem z_N : jbn Tryz.prog 29 = some (.agg #[.bool false, .float .f64 0, .bool false, .slice none 0 0]) := by kernel_rfl
theorem al_N : je2 Tryz.prog 29 = some (obN, fun id => .pointer (some ⟨id, 0, none⟩)) := by kernel_rfl
theorem build_I {ρ : Operand → Value} {a b : Operand} {p x : Value} (ha : ρ a = p) (hb : ρ b = x) (hp : one p = true) (hx : one x = true) : jb9 Tryz.prog ρ 27 #[(0, a), (1, b)] = some (.agg #[p, x]) := by
 have hpl : ∃ f, Tryz.prog.underlying 27 = some (.struct f) ∧ jcI Tryz.prog f.toList = some [(0, 1), (1, 1)] := ⟨_, Tryz.underlying27, by kernel_rfl⟩
 obtain ⟨f, h1, h2⟩ := hpl
 refine jb0 (cs := [p, x]) z_I h1 h2 ?_
 simp only [List.map_cons, List.map_nil, ha, hb]
 show jdg _ [.bool false, .slice none 0 0] [(0, p), (1, x)] = _
 rw [jdw (off := 0) rfl hp (by decide)]
 show jdg _ [p, .slice none 0 0] [(1, x)] = _
 rw [jdw (off := 1) rfl hx (by simp)]
 rfl
theorem jbB (ρ : Operand → Value) : jb9 Tryz.prog ρ 27 #[] = some (.agg #[.bool false, .slice none 0 0]) := by
 have hpl : ∃ f, Tryz.prog.underlying 27 = some (.struct f) ∧ jcI Tryz.prog f.toList = some [(0, 1), (1, 1)] := ⟨_, Tryz.underlying27, by kernel_rfl⟩
 obtain ⟨f, h1, h2⟩ := hpl
 exact jb0 (cs := [.bool false, .slice none 0 0]) z_I h1 h2 rfl
theorem blkI {μ : Mem} : Blk ⟨μ.obs.set μ.next obI, μ.next + 1⟩ μ.next 2 27 := ⟨_, _, _, _, by show T.get _ _ = _; rw [T.get_set, if_pos rfl]; rfl⟩
theorem blkN {μ : Mem} : Blk ⟨μ.obs.set μ.next obN, μ.next + 1⟩ μ.next 4 29 := ⟨_, _, _, _, by show T.get _ _ = _; rw [T.get_set, if_pos rfl]; rfl⟩
theorem st_I {μ : Mem} {i : Nat} {x y : Value} (h : Blk μ i 2 27) (hx : one x = true) (hy : one y = true) : jbM Tryz.prog μ 27 (.pointer (some ⟨i, 0, none⟩)) (.agg #[x, y]) = some (undef, putL μ i 0 [x, y]) := jf7 (vs := [x, y]) i_Int rfl (by simp [hx, hy]) h (by simp)
theorem ld_I {μ : Mem} {i : Nat} {x y : Value} (h : Blk μ i 2 27) : jci Tryz.prog (putL μ i 0 [x, y]) 27 (.pointer (some ⟨i, 0, none⟩)) = some (.agg #[x, y]) := (Has.of_put (vs := [x, y]) h (by simp)).load Tryz.underlying27 i_Int rfl
theorem signed_ex {X : XT} {g n : Nat} {v : Value} {b : Bool} {μ : Mem} (h : Rd μ v n) (hg : 20 ≤ g) : ∃ b' μ', aFun Tryz.prog (jat Tryz.prog X S0 g) 49 [.bool b, v] μ = some (.agg #[.bool b', v], μ') ∧ Grow μ μ' := by
 obtain ⟨k, rfl⟩ := gle hg
 have lv := (h.grow (jb2 μ obI)).len
 have e1 : ilt 0 (.ofNat n) = decide (0 < n) := jav 0 n
 have key : EndsF (aFun Tryz.prog (jat Tryz.prog X S0 (k + 20)) 49 [.bool b, v] μ) fun w μ' => ∃ b', w = .agg #[.bool b', v] ∧ Grow μ μ' := by
  have hb : ∀ (c : Bool) (r : Rg) (x y : Operand), aev Tryz.prog r x = .bool c → aev Tryz.prog r y = v → jb9 Tryz.prog (aev Tryz.prog r) 27 #[(0, x), (1, y)] = some (.agg #[.bool c, v]) := fun c r x y g1 g2 => build_I g1 g2 rfl h.one
  have hs : ∀ c : Bool, jbM Tryz.prog ⟨μ.obs.set μ.next obI, μ.next + 1⟩ 27 (.pointer (some ⟨μ.next, 0, none⟩)) (.agg #[.bool c, v]) = some (undef, putL ⟨μ.obs.set μ.next obI, μ.next + 1⟩ μ.next 0 [.bool c, v]) := fun c => st_I blkI rfl h.one
  cases b with
  | false =>
    have hb := hb false
    refine jan Tryz.func49 rfl rfl (nbl rfl) ?_
    simp only [go_sem, Tryz.ntmps49]
    refine jaf ?_
    refine jad ?_ ?_
    ·rfl
    simp only [go_sem, al_I, Nat.add_eq]
    refine jaf ?_
    refine jac (gs := ?_) ?_ ?_
    rotate_left
    ·rfl
    iterate 2 (refine jal (by first | rfl | (simp only [go_sem, undef, jae, lv, jag, e1, hb, hs])) (by simp only [go_sem, undef, jae, lv, jag, e1, hb, hs]; try exact rfl) rfl ?_)
    iterate 3 (refine jaA (by simp only [go_sem, undef, jae, lv, jag, e1, hb, hs]) rfl ?_)
    iterate 4 (refine jal (by first | rfl | (simp only [go_sem, undef, jae, lv, jag, e1, hb, hs])) (by simp only [go_sem, undef, jae, lv, jag, e1, hb, hs]; try exact rfl) rfl ?_)
    simp only [go_sem]
    refine jam ?_
    refine ⟨rfl, .agg #[.bool false, v], ?_, false, rfl, (jb2 μ obI).put_new (Nat.le_refl _)⟩
    simp only [go_sem, Tryz.results49]
    rw [ld_I blkI]
  | true =>
    have hb := hb (decide (0 < n))
    refine jan Tryz.func49 rfl rfl (nbl rfl) ?_
    simp only [go_sem, Tryz.ntmps49]
    refine jaf ?_
    refine jad ?_ ?_
    ·rfl
    simp only [go_sem, al_I, Nat.add_eq]
    refine jaf ?_
    refine jac (gs := ?_) ?_ ?_
    rotate_left
    ·rfl
    iterate 9 (refine jal (by first | rfl | (simp only [go_sem, undef, jae, lv, jag, e1, hb, hs])) (by simp only [go_sem, undef, jae, lv, jag, e1, hb, hs]; try exact rfl) rfl ?_)
    simp only [go_sem]
    refine jam ?_
    refine ⟨rfl, .agg #[.bool (decide (0 < n)), v], ?_, _, rfl, (jb2 μ obI).put_new (Nat.le_refl _)⟩
    simp only [go_sem, Tryz.results49]
    rw [ld_I blkI]
 obtain ⟨w, μ', h1, b', rfl, h2⟩ := key
 exact ⟨b', μ', h1, h2⟩
def isInt (s : ByteArray) : Prop := 0 < (unsg (bys s)).length ∧ jca (unsg (bys s))
theorem se0 : (jaB Tryz.f26) = .seq (jaW 0 (jaB Tryz.f26)) (.seq (jaW 1 (jaB Tryz.f26)) (.seq (jaW 2 (jaB Tryz.f26)) (ja1 3 (jaB Tryz.f26)))) := by kernel_rfl
theorem se3 : ja1 3 (jaB Tryz.f26) = .seq (jaW 3 (jaB Tryz.f26)) (.seq (jaW 4 (jaB Tryz.f26)) (.seq (jaW 5 (jaB Tryz.f26)) (ja1 6 (jaB Tryz.f26)))) := by kernel_rfl
theorem se6 : ja1 6 (jaB Tryz.f26) = .ret := by kernel_rfl
attribute [local irreducible] ja1
def FinE (s : ByteArray) (μ0 : Mem) (i : Nat) : Ax → Rg → Mem → Prop := fun x r μ' => x = .ret ∧ Grow μ0 μ' ∧ ∃ tm b v e, r = ⟨37, tm, [], none⟩ ∧ jaq tm 2 = .pointer (some ⟨i, 0, none⟩) ∧ jaq tm 3 = .int .i64 e ∧ jci Tryz.prog μ' 27 (.pointer (some ⟨i, 0, none⟩)) = some (.agg #[.bool b, v]) ∧ (isInt s → e = 0 ∨ e = 11) ∧ (¬ isInt s → e = 13) ∧ one v = true
theorem ep3 {s : ByteArray} (hl : (bys s).length ≤ 700) {X : XT} {k i : Nat} {b : Bool} {tm : T Value} {μ0 μ : Mem} (hG0 : Grow μ0 μ) (hi : μ0.next ≤ i) (hi2 : i < μ.next) (hb : Blk μ i 2 27) (h0 : jaq tm 0 = .string (jbH s)) (h2 : jaq tm 2 = .pointer (some ⟨i, 0, none⟩)) (h4 : jaq tm 4 = .bool b) :
  EndsC (jat Tryz.prog X S0 (k + 12500) (ja1 3 (jaB Tryz.f26)) ⟨37, tm, [], none⟩ μ) (FinE s μ0 i) := by
 have hb1 : bys (jbH s) = unsg (bys s) := jd3 s
 have hl1 : (bys (jbH s)).length ≤ 700 := by rw [hb1]; have := je9 (bys s); omega
 obtain ⟨v, n, e, μ1, hr, he1, he2, hR, hG⟩ := jhy hl1 (X := X) (g := k + 12498) (μ := μ) (by omega)
 rw [hb1] at he1 he2
 have hB1 : Blk μ1 i 2 27 := hb.of_get (hG.2 i hi2)
 by_cases hI : isInt s
 ·rcases he1 hI with rfl | rfl
  ·have z1 : ieq 0 0 = true := rfl
   obtain ⟨b', μ2, hr2, hG2⟩ := signed_ex (b := b) (X := X) (g := k + 12496) hR (by omega)
   have hR2 := hR.grow hG2
   have hi1 : i < μ1.next := Nat.lt_of_lt_of_le hi2 hG.1
   have hB2 : Blk μ2 i 2 27 := hB1.of_get (hG2.2 i hi1)
   have hst := st_I (x := .bool b') (y := v) hB2 rfl hR.one
   rw [se3]
   repeat (first | refine jaf ?_ | ((first | (refine jad ?_ ?_; (focus rfl)) | (refine jac (gs := ?_) ?_ ?_; rotate_left; (focus rfl))); simp only [run1, go_sem, h0, h2, h4, gg48, hr, z1, gg49, hr2, hst]) | (refine jab ?_ ?_; (focus (simp only [go_sem, h0, h2, h4, gg48, hr, z1, gg49, hr2, hst]; done))) | (refine jaa ?_ ?_; (focus (simp only [go_sem, h0, h2, h4, gg48, hr, z1, gg49, hr2, hst]; done))) | ((first | refine jaj ?_ | refine jai ?_ | refine jak ?_); try simp only [go_sem]) | refine jah ?_)
   rw [se6]
   refine jam ?_
   exact ⟨by trivial, ((hG0.trans hG).trans hG2).put_new hi, _, b', v, 0, rfl, (by simp only [go_sem, h2]), (by simp only [go_sem]), ld_I hB2, fun _ => .inl rfl, fun h => absurd hI h, hR.one⟩
  ·have z1 : ieq 11 0 = false := rfl
   have hst := st_I (x := .bool false) (y := .slice none 0 0) hB1 rfl rfl
   rw [se3]
   repeat (first | refine jaf ?_ | ((first | (refine jad ?_ ?_; (focus rfl)) | (refine jac (gs := ?_) ?_ ?_; rotate_left; (focus rfl))); simp only [run1, go_sem, h0, h2, h4, gg48, hr, z1, jbB, hst]) | (refine jab ?_ ?_; (focus (simp only [go_sem, h0, h2, h4, gg48, hr, z1, jbB, hst]; done))) | (refine jaa ?_ ?_; (focus (simp only [go_sem, h0, h2, h4, gg48, hr, z1, jbB, hst]; done))) | ((first | refine jaj ?_ | refine jai ?_ | refine jak ?_); try simp only [go_sem]) | refine jah ?_)
   refine jam ?_
   exact ⟨by trivial, (hG0.trans hG).put_new hi, _, false, .slice none 0 0, 11, rfl, (by simp only [go_sem, h2]), (by simp only [go_sem]), ld_I hB1, fun _ => .inr rfl, fun h => absurd hI h, rfl⟩
 ·obtain rfl := he2 hI
  have z1 : ieq 13 0 = false := rfl
  have hst := st_I (x := .bool false) (y := .slice none 0 0) hB1 rfl rfl
  rw [se3]
  repeat (first | refine jaf ?_ | ((first | (refine jad ?_ ?_; (focus rfl)) | (refine jac (gs := ?_) ?_ ?_; rotate_left; (focus rfl))); simp only [run1, go_sem, h0, h2, h4, gg48, hr, z1, jbB, hst]) | (refine jab ?_ ?_; (focus (simp only [go_sem, h0, h2, h4, gg48, hr, z1, jbB, hst]; done))) | (refine jaa ?_ ?_; (focus (simp only [go_sem, h0, h2, h4, gg48, hr, z1, jbB, hst]; done))) | ((first | refine jaj ?_ | refine jai ?_ | refine jak ?_); try simp only [go_sem]) | refine jah ?_)
  refine jam ?_
  exact ⟨by trivial, (hG0.trans hG).put_new hi, _, false, .slice none 0 0, 13, rfl, (by simp only [go_sem, h2]), (by simp only [go_sem]), ld_I hB1, fun h => absurd h hI, fun _ => rfl, rfl⟩
theorem jgN {s : ByteArray} (hl : (bys s).length ≤ 700) {X : XT} {g : Nat} {μ : Mem} (hg : 13000 ≤ g) : ∃ b v e μ', aFun Tryz.prog (jat Tryz.prog X S0 g) 26 [.string s] μ = some (.tuple #[.agg #[.bool b, v], .int .i64 e], μ') ∧ (isInt s → e = 0 ∨ e = 11) ∧ (¬ isInt s → e = 13) ∧ one v = true ∧ Grow μ μ' := by
 obtain ⟨k, rfl⟩ := gle hg
 have ls := ja5 s
 have hG1 : Grow μ ⟨μ.obs.set μ.next obI, μ.next + 1⟩ := jb2 μ obI
 have key : EndsF (aFun Tryz.prog (jat Tryz.prog X S0 (k + 13000)) 26 [.string s] μ) fun w μ' => ∃ b v e, w = .tuple #[.agg #[.bool b, v], .int .i64 e] ∧ (isInt s → e = 0 ∨ e = 11) ∧ (¬ isInt s → e = 13) ∧ one v = true ∧ Grow μ μ' := by
  have fin : ∀ x r μ', FinE s μ μ.next x r μ' → retQ Tryz.prog Tryz.f26 (fun w μ' => ∃ b v e, w = .tuple #[.agg #[.bool b, v], .int .i64 e] ∧ (isInt s → e = 0 ∨ e = 11) ∧ (¬ isInt s → e = 13) ∧ one v = true ∧ Grow μ μ') x r μ' := by
   rintro x r μ' ⟨rfl, g1, tm, b, v, e, rfl, g2, g3, g4, g5, g6, g7⟩
   refine ⟨rfl, .tuple #[.agg #[.bool b, v], .int .i64 e], ?_, b, v, e, rfl, g5, g6, g7, g1⟩
   simp only [go_sem, Tryz.results26]
   simp only [g2, g3, g4]
  refine jan Tryz.func26 rfl rfl (nbl rfl) ?_
  simp only [go_sem, Tryz.ntmps26]
  change EndsC (jat Tryz.prog X S0 _ (jaB Tryz.f26) _ _) _
  rw [se0]
  refine jaf ?_
  refine jad ?_ ?_
  ·rfl
  simp only [go_sem, al_I, Nat.add_eq]
  refine jaf ?_
  refine jad ?_ ?_
  ·rfl
  simp only [go_sem]
  cases h : bys s with
  | nil =>
    have hu : jbH s = s := by unfold jbH; rw [h]
    have e1 : ilt 0 (.ofNat (bys s).length) = false := (jav 0 _).trans (decide_eq_false (by rw [h]; decide))
    refine jaf ?_
    refine jaf ?_
    refine jac (gs := ?_) ?_ ?_
    rotate_left
    ·rfl
    iterate 4 (refine jal (by first | rfl | (simp only [go_sem, undef, jae, ls, jag, e1])) (by simp only [go_sem, undef, jae, ls, jag, e1]; try exact rfl) rfl ?_)
    iterate 8 (refine jaA (by simp only [go_sem, undef, jae, ls, jag, e1]) rfl ?_)
    refine jal (by first | rfl | (simp only [go_sem, undef, jae, ls, jag, e1])) (by simp only [go_sem, undef, jae, ls, jag, e1]; try exact rfl) rfl ?_
    simp only [go_sem]
    refine jaa ?_ ?_
    ·simp only [go_sem]
    refine jaj ?_
    simp only [jao]
    refine EndsC.mono (ep3 hl (k := k + 497) (b := false) hG1 (Nat.le_refl _) (Nat.lt_succ_self _) blkI (by rw [hu]; simp only [go_sem]) (by simp only [go_sem]) (by simp only [go_sem])) fin
  | cons c l =>
    have e1 : ilt 0 (.ofNat (bys s).length) = true := (jav 0 _).trans (decide_eq_true (by rw [h]; exact Nat.succ_pos _))
    have hx : ∀ (r : Rg) (x : Operand), aev Tryz.prog r x = .string s → jbi Tryz.prog (aev Tryz.prog r) 9 x (.const (.int .i64 0)) = some (.int .u8 (.ofNat c)) := fun r x h1 => at0 (kd := .i64) h h1 rfl
    have hsl : ∀ (r : Rg) (x : Operand), aev Tryz.prog r x = .string s → jbG Tryz.prog (aev Tryz.prog r) 9 x (some (.const (.int .i64 1))) none none = some (.string (jcv s 1)) := fun r x h1 => jbV (k := 1) (kd := .i64) h1 rfl (by rw [h]; exact Nat.succ_le_succ (Nat.zero_le _))
    by_cases h43 : c = 43
    ·have s1 : ieq (.ofNat c) 43 = true := (jaO _ 43 43 rfl).trans (decide_eq_true h43)
     have hu : jbH s = jcv s 1 := by unfold jbH; rw [h]; simp only; rw [if_pos (by rw [h43]; decide)]
     have e45 : ieq (.ofNat c) 45 = false := (jaO _ 45 45 rfl).trans (by rw [h43]; rfl)
     refine jaf ?_
     refine jaf ?_
     refine jac (gs := ?_) ?_ ?_
     rotate_left
     ·rfl
     iterate 8 (refine jal (by first | rfl | (simp only [go_sem, undef, jae, ls, jag, e1, hx, s1])) (by simp only [go_sem, undef, jae, ls, jag, e1, hx, s1]; try exact rfl) rfl ?_)
     iterate 3 (refine jaA (by simp only [go_sem, undef, jae, ls, jag, e1, hx, s1]) rfl ?_)
     iterate 2 (refine jal (by first | rfl | (simp only [go_sem, undef, jae, ls, jag, e1, hx, s1])) (by simp only [go_sem, undef, jae, ls, jag, e1, hx, s1]; try exact rfl) rfl ?_)
     simp only [go_sem]
     refine jab ?_ ?_
     ·simp only [go_sem]
     refine jaU (n := 7) (ms := [0, 1, 3, 0, 8, 7, 63]) (ord := [0, 1, 2, 3, 4, 5, 6]) (ds := ?_) ?_ ?_ ?_ ?_ ?_ ?_
     rotate_left
     ·kernel_rfl
     ·kernel_rfl
     ·kernel_rfl
     ·rfl
     ·rfl
     iterate 7 (refine jaS (by first | rfl | (simp only [go_sem, hx, e45, hsl])) (by simp only [jaT, heavy, jba, jaJ, go_sem, hx, e45, hsl]; try exact rfl) rfl ?_)
     simp only [dRun, jaM, jao]
     repeat (first | refine jaf ?_ | ((first | (refine jad ?_ ?_; (focus rfl)) | (refine jac (gs := ?_) ?_ ?_; rotate_left; (focus rfl))); simp only [run1, go_sem]) | (refine jab ?_ ?_; (focus (simp only [go_sem]; done))) | (refine jaa ?_ ?_; (focus (simp only [go_sem]; done))) | ((first | refine jaj ?_ | refine jai ?_ | refine jak ?_); try simp only [go_sem]) | refine jah ?_)
     refine EndsC.mono (ep3 hl (k := k + 497) (b := false) (hG1.trans (jdr _ _)) (Nat.le_refl _) (Nat.lt_of_lt_of_le (Nat.lt_succ_self _) (Nat.le_add_right _ _)) (blk_up blkI) (by rw [hu]; simp only [go_sem]) (by simp only [go_sem]) (by simp only [go_sem])) fin
    have s1 : ieq (.ofNat c) 43 = false := (jaO _ 43 43 rfl).trans (decide_eq_false h43)
    by_cases h45 : c = 45
    ·have s2 : ieq (.ofNat c) 45 = true := (jaO _ 45 45 rfl).trans (decide_eq_true h45)
     have hu : jbH s = jcv s 1 := by unfold jbH; rw [h]; simp only; rw [if_pos (by rw [h45]; decide)]
     have e45 : ieq (.ofNat c) 45 = true := (jaO _ 45 45 rfl).trans (by rw [h45]; rfl)
     refine jaf ?_
     refine jaf ?_
     refine jac (gs := ?_) ?_ ?_
     rotate_left
     ·rfl
     iterate 13 (refine jal (by first | rfl | (simp only [go_sem, undef, jae, ls, jag, e1, hx, s1, s2])) (by simp only [go_sem, undef, jae, ls, jag, e1, hx, s1, s2]; try exact rfl) rfl ?_)
     simp only [go_sem]
     refine jab ?_ ?_
     ·simp only [go_sem]
     refine jaU (n := 7) (ms := [0, 1, 3, 0, 8, 7, 63]) (ord := [0, 1, 2, 3, 4, 5, 6]) (ds := ?_) ?_ ?_ ?_ ?_ ?_ ?_
     rotate_left
     ·kernel_rfl
     ·kernel_rfl
     ·kernel_rfl
     ·rfl
     ·rfl
     iterate 7 (refine jaS (by first | rfl | (simp only [go_sem, hx, e45, hsl])) (by simp only [jaT, heavy, jba, jaJ, go_sem, hx, e45, hsl]; try exact rfl) rfl ?_)
     simp only [dRun, jaM, jao]
     repeat (first | refine jaf ?_ | ((first | (refine jad ?_ ?_; (focus rfl)) | (refine jac (gs := ?_) ?_ ?_; rotate_left; (focus rfl))); simp only [run1, go_sem]) | (refine jab ?_ ?_; (focus (simp only [go_sem]; done))) | (refine jaa ?_ ?_; (focus (simp only [go_sem]; done))) | ((first | refine jaj ?_ | refine jai ?_ | refine jak ?_); try simp only [go_sem]) | refine jah ?_)
     refine EndsC.mono (ep3 hl (k := k + 497) (b := true) (hG1.trans (jdr _ _)) (Nat.le_refl _) (Nat.lt_of_lt_of_le (Nat.lt_succ_self _) (Nat.le_add_right _ _)) (blk_up blkI) (by rw [hu]; simp only [go_sem]) (by simp only [go_sem]) (by simp only [go_sem])) fin
    have s2 : ieq (.ofNat c) 45 = false := (jaO _ 45 45 rfl).trans (decide_eq_false h45)
    have hu : jbH s = s := by unfold jbH; rw [h]; simp only; rw [if_neg (by simp [isS, h43, h45])]
    refine jaf ?_
    refine jaf ?_
    refine jac (gs := ?_) ?_ ?_
    rotate_left
    ·rfl
    iterate 13 (refine jal (by first | rfl | (simp only [go_sem, undef, jae, ls, jag, e1, hx, s1, s2])) (by simp only [go_sem, undef, jae, ls, jag, e1, hx, s1, s2]; try exact rfl) rfl ?_)
    simp only [go_sem]
    refine jaa ?_ ?_
    ·simp only [go_sem]
    refine jaj ?_
    simp only [jao]
    refine EndsC.mono (ep3 hl (k := k + 497) (b := false) hG1 (Nat.le_refl _) (Nat.lt_succ_self _) blkI (by rw [hu]; simp only [go_sem]) (by simp only [go_sem]) (by simp only [go_sem])) fin
 obtain ⟨w, μ', h1, b, v, e, rfl, h2, h3, h4, h5⟩ := key
 exact ⟨b, v, e, μ', h1, h2, h3, h4, h5⟩
end
noncomputable section
section
set_option linter.defProp false
variable {X : XT} {ev : Code → Rg → Mem → Option (Ax × Rg × Mem)}
def gg34 := go_call (P := Tryz.prog) (X := X) (ev := ev) (S := S0) Tryz.func34 rfl rfl
end
theorem pl_N : ∃ f, Tryz.prog.underlying 29 = some (.struct f) ∧ jcI Tryz.prog f.toList = some [(0, 1), (1, 1), (2, 2)] := ⟨_, Tryz.underlying29, by kernel_rfl⟩
theorem jbR (ρ : Operand → Value) : jb9 Tryz.prog ρ 29 #[] = some (.agg #[.bool false, .float .f64 0, .bool false, .slice none 0 0]) := by
 obtain ⟨f, h1, h2⟩ := pl_N
 exact jb0 (cs := [.bool false, .float .f64 0, .bool false, .slice none 0 0]) z_N h1 h2 rfl
theorem ji4 {ρ : Operand → Value} {a : Operand} {p x : Value} (ha : ρ a = .agg #[p, x]) : jb9 Tryz.prog ρ 29 #[(2, a)] = some (.agg #[.bool false, .float .f64 0, p, x]) := by
 obtain ⟨f, h1, h2⟩ := pl_N
 refine jb0 (cs := [.bool false, .float .f64 0, p, x]) z_N h1 h2 ?_
 simp only [List.map_cons, List.map_nil, ha]
 rfl
theorem build_NF {ρ : Operand → Value} {a b : Operand} {f : Nat} (ha : ρ a = .bool true) (hb : ρ b = .float .f64 f) : jb9 Tryz.prog ρ 29 #[(0, a), (1, b)] = some (.agg #[.bool true, .float .f64 f, .bool false, .slice none 0 0]) := by
 obtain ⟨fl, h1, h2⟩ := pl_N
 refine jb0 (cs := [.bool true, .float .f64 f, .bool false, .slice none 0 0]) z_N h1 h2 ?_
 simp only [List.map_cons, List.map_nil, ha, hb]
 rfl
theorem st_N {μ : Mem} {i : Nat} {a b x y : Value} (h : Blk μ i 4 29) (h1 : one a = true) (h2 : one b = true) (hx : one x = true) (hy : one y = true) : jbM Tryz.prog μ 29 (.pointer (some ⟨i, 0, none⟩)) (.agg #[a, b, x, y]) = some (undef, putL μ i 0 [a, b, x, y]) := jf7 (vs := [a, b, x, y]) i_Num rfl (by simp [h1, h2, hx, hy]) h (by simp)
theorem ld_N {μ : Mem} {i : Nat} {a b x y : Value} (h : Blk μ i 4 29) : jci Tryz.prog (putL μ i 0 [a, b, x, y]) 29 (.pointer (some ⟨i, 0, none⟩)) = some (.agg #[a, b, x, y]) := (Has.of_put (vs := [a, b, x, y]) h (by simp)).load Tryz.underlying29 i_Num rfl
theorem flo_num {X : XT} {g f : Nat} {μ : Mem} (hg : 20 ≤ g) : (∃ μ', aFun Tryz.prog (jat Tryz.prog X S0 g) 29 [.float .f64 f] μ = some (.agg #[.bool true, .float .f64 f, .bool false, .slice none 0 0], μ') ∧ Grow μ μ') ∧ ∃ μ', aFun Tryz.prog (jat Tryz.prog X S0 g) 34 [.float .f64 f] μ = some (.agg #[.bool true, .float .f64 f, .bool false, .slice none 0 0], μ') ∧ Grow μ μ' := by
 obtain ⟨k, rfl⟩ := gle hg
 have hst : jbM Tryz.prog ⟨μ.obs.set μ.next obN, μ.next + 1⟩ 29 (.pointer (some ⟨μ.next, 0, none⟩)) (.agg #[.bool true, .float .f64 f, .bool false, .slice none 0 0]) = some (undef, putL ⟨μ.obs.set μ.next obN, μ.next + 1⟩ μ.next 0 [.bool true, .float .f64 f, .bool false, .slice none 0 0]) := st_N blkN rfl rfl rfl rfl
 have hb : ∀ (r : Rg) (y : Operand), aev Tryz.prog r y = .float .f64 f → jb9 Tryz.prog (aev Tryz.prog r) 29 #[(0, .const (.bool true)), (1, y)] = some (.agg #[.bool true, .float .f64 f, .bool false, .slice none 0 0]) := fun r y g => build_NF rfl g
 constructor
 ·refine ⟨_, jaQ ?_, (jb2 μ obN).put_new (o := 0) (vs := [.bool true, .float .f64 f, .bool false, .slice none 0 0]) (Nat.le_refl _)⟩
  refine jan Tryz.func29 rfl rfl (nbl rfl) ?_
  simp only [go_sem, Tryz.ntmps29]
  repeat (first | refine jaf ?_ | ((first | (refine jad ?_ ?_; (focus rfl)) | (refine jac (gs := ?_) ?_ ?_; rotate_left; (focus rfl))); simp only [run1, go_sem, al_N, Nat.add_eq, hb, hst]) | (refine jab ?_ ?_; (focus (simp only [go_sem, al_N, Nat.add_eq, hb, hst]; done))) | (refine jaa ?_ ?_; (focus (simp only [go_sem, al_N, Nat.add_eq, hb, hst]; done))) | ((first | refine jaj ?_ | refine jai ?_ | refine jak ?_); try simp only [go_sem]) | refine jah ?_)
  refine jam ?_
  refine ⟨rfl, _, ?_, rfl, rfl⟩
  simp only [go_sem, Tryz.results29]
  rw [ld_N blkN]
 ·refine ⟨_, jaQ ?_, (jb2 μ obN).put_new (o := 0) (vs := [.bool true, .float .f64 f, .bool false, .slice none 0 0]) (Nat.le_refl _)⟩
  refine jan Tryz.func34 rfl rfl (nbl rfl) ?_
  simp only [go_sem, Tryz.ntmps34]
  repeat (first | refine jaf ?_ | ((first | (refine jad ?_ ?_; (focus rfl)) | (refine jac (gs := ?_) ?_ ?_; rotate_left; (focus rfl))); simp only [run1, go_sem, al_N, Nat.add_eq, hb, hst]) | (refine jab ?_ ?_; (focus (simp only [go_sem, al_N, Nat.add_eq, hb, hst]; done))) | (refine jaa ?_ ?_; (focus (simp only [go_sem, al_N, Nat.add_eq, hb, hst]; done))) | ((first | refine jaj ?_ | refine jai ?_ | refine jak ?_); try simp only [go_sem]) | refine jah ?_)
  refine jam ?_
  refine ⟨rfl, _, ?_, rfl, rfl⟩
  simp only [go_sem, Tryz.results34]
  rw [ld_N blkN]
def obIv (p x : Value) : Ob := .cells 2 27 #[p, x] .e 0 0 false false
theorem jgT (p x : Value) : aBox 27 (.agg #[p, x]) = some (obIv p x, fun id => .pointer (some ⟨id, 0, none⟩)) := rfl
theorem whole_ex {X : XT} {g : Nat} {p x : Value} {μ : Mem} (hp : one p = true) (hx : one x = true) (hg : 20 ≤ g) : ∃ μ', aFun Tryz.prog (jat Tryz.prog X S0 g) 27 [.agg #[p, x]] μ = some (.agg #[.bool false, .float .f64 0, p, x], μ') ∧ Grow μ μ' := by
 obtain ⟨k, rfl⟩ := gle hg
 obtain ⟨μ1, hμ1⟩ : ∃ μ1 : Mem, μ1 = ⟨μ.obs.set μ.next (obIv p x), μ.next + 1⟩ := ⟨_, rfl⟩
 have hN : Blk ⟨μ1.obs.set μ1.next obN, μ1.next + 1⟩ μ1.next 4 29 := blkN
 have hst := st_N (a := .bool false) (b := .float .f64 0) hN rfl rfl hp hx
 have hld := ld_N (a := .bool false) (b := .float .f64 0) (x := p) (y := x) hN
 have hi : jci Tryz.prog ⟨μ1.obs.set μ1.next obN, μ1.next + 1⟩ 27 (.pointer (some ⟨μ.next, 0, none⟩)) = some (.agg #[p, x]) := by
  have h0 : μ1.obs.get μ.next = some (obIv p x) := by rw [hμ1]; show T.get _ _ = _; rw [T.get_set, if_pos rfl]
  have h1 : (⟨μ1.obs.set μ1.next obN, μ1.next + 1⟩ : Mem).obs.get μ.next = some (obIv p x) := by
   show T.get (T.set _ _ _) _ = _
   rw [T.get_set, if_neg (by rw [hμ1]; show μ.next ≠ μ.next + 1; omega), h0]
  exact (Has.new (l := [p, x]) h1).load Tryz.underlying27 i_Int rfl
 have hG : Grow μ μ1 := by rw [hμ1]; exact jb2 _ _
 have hb : ∀ (r : Rg) (y : Operand), aev Tryz.prog r y = .agg #[p, x] → jb9 Tryz.prog (aev Tryz.prog r) 29 #[(2, y)] = some (.agg #[.bool false, .float .f64 0, p, x]) := fun r y g => ji4 g
 refine ⟨_, jaQ ?_, (hG.trans (jb2 μ1 obN)).put_new (o := 0) (vs := [.bool false, .float .f64 0, p, x]) hG.1⟩
 rw [hμ1] at hst hld hi ⊢
 refine jan Tryz.func27 rfl rfl (nbl rfl) ?_
 simp only [go_sem, Tryz.ntmps27]
 repeat (first | refine jaf ?_ | ((first | (refine jad ?_ ?_; (focus rfl)) | (refine jac (gs := ?_) ?_ ?_; rotate_left; (focus rfl))); simp only [run1, go_sem, jgT, al_N, Nat.add_eq, hi, hb, hst]) | (refine jab ?_ ?_; (focus (simp only [go_sem, jgT, al_N, Nat.add_eq, hi, hb, hst]; done))) | (refine jaa ?_ ?_; (focus (simp only [go_sem, jgT, al_N, Nat.add_eq, hi, hb, hst]; done))) | ((first | refine jaj ?_ | refine jai ?_ | refine jak ?_); try simp only [go_sem]) | refine jah ?_)
 refine jam ?_
 refine ⟨rfl, _, ?_, rfl, rfl⟩
 simp only [go_sem, Tryz.results27]
 rw [hld]
end
noncomputable section
theorem jgt {s : ByteArray} (hl : (bys s).length ≤ 700) {X : XT} {g : Nat} {μ : Mem} (hX : jbr X) (hX2 : jbN X) (hL : Lay μ) (hg : 15000 ≤ g) :
  ∃ a b c d e μ', aFun Tryz.prog (jat Tryz.prog X S0 g) 15 [.string s] μ = some (.tuple #[.agg #[a, b, c, d], .int .i64 e], μ') ∧ (one a = true ∧ one b = true ∧ one c = true ∧ one d = true) ∧ (isInt s → e = 0 ∨ e = 11) ∧ (¬ isInt s → e = if jdW s then 0 else 13) ∧ Grow μ μ' := by
 obtain ⟨k, rfl⟩ := gle hg
 have hG1 : Grow μ ⟨μ.obs.set μ.next obN, μ.next + 1⟩ := jb2 μ obN
 obtain ⟨b, v, e, μ2, hr, he1, he2, hv, hG2⟩ := jgN hl (X := X) (g := k + 14997) (μ := ⟨μ.obs.set μ.next obN, μ.next + 1⟩) (by omega)
 have hB2 : Blk μ2 μ.next 4 29 := blkN.of_get (hG2.2 μ.next (Nat.lt_succ_self _))
 have hst1 := st_I (x := .bool b) (y := v) (blkI (μ := μ2)) rfl hv
 have hld1 := ld_I (x := .bool b) (y := v) (blkI (μ := μ2))
 obtain ⟨μ4, hμ4⟩ : ∃ μ4, μ4 = putL ⟨μ2.obs.set μ2.next obI, μ2.next + 1⟩ μ2.next 0 [.bool b, v] := ⟨_, rfl⟩
 have hG4 : Grow μ2 μ4 := by rw [hμ4]; exact (jb2 μ2 obI).put_new (Nat.le_refl _)
 have hlt2 : μ.next < μ2.next := Nat.lt_of_lt_of_le (Nat.lt_succ_self _) hG2.1
 have hB4 : Blk μ4 μ.next 4 29 := hB2.of_get (hG4.2 μ.next hlt2)
 have hlt4 : μ.next < μ4.next := Nat.lt_of_lt_of_le hlt2 hG4.1
 rw [← hμ4] at hst1 hld1
 have hGa : Grow μ μ4 := (hG1.trans hG2).trans hG4
 have key : EndsF (aFun Tryz.prog (jat Tryz.prog X S0 (k + 15000)) 15 [.string s] μ) fun w μ' => ∃ a b c d e, w = .tuple #[.agg #[a, b, c, d], .int .i64 e] ∧ (one a = true ∧ one b = true ∧ one c = true ∧ one d = true) ∧ (isInt s → e = 0 ∨ e = 11) ∧ (¬ isInt s → e = if jdW s then 0 else 13) ∧ Grow μ μ' := by
  by_cases hI : isInt s
  ·rcases he1 hI with rfl | rfl
   ·have z1 : ieq 0 0 = true := rfl
    obtain ⟨μ5, hr5, hG5⟩ := whole_ex (p := .bool b) (x := v) (X := X) (g := k + 14991) (μ := μ4) rfl hv (by omega)
    have hB5 : Blk μ5 μ.next 4 29 := hB4.of_get (hG5.2 μ.next hlt4)
    have hst := st_N (a := .bool false) (b := .float .f64 0) (x := .bool b) (y := v) hB5 rfl rfl rfl hv
    refine jan Tryz.func15 rfl rfl (nbl rfl) ?_
    simp only [go_sem, Tryz.ntmps15]
    repeat (first | refine jaf ?_ | ((first | (refine jad ?_ ?_; (focus rfl)) | (refine jac (gs := ?_) ?_ ?_; rotate_left; (focus rfl))); simp only [run1, go_sem, al_N, Nat.add_eq, gg26, hr, al_I, hst1, z1, hld1, gg27, hr5, hst]) | (refine jab ?_ ?_; (focus (simp only [go_sem, al_N, Nat.add_eq, gg26, hr, al_I, hst1, z1, hld1, gg27, hr5, hst]; done))) | (refine jaa ?_ ?_; (focus (simp only [go_sem, al_N, Nat.add_eq, gg26, hr, al_I, hst1, z1, hld1, gg27, hr5, hst]; done))) | ((first | refine jaj ?_ | refine jai ?_ | refine jak ?_); try simp only [go_sem]) | refine jah ?_)
    refine jam ?_
    refine ⟨rfl, .tuple #[.agg #[.bool false, .float .f64 0, .bool b, v], .int .i64 0], ?_, _, _, _, _, _, rfl, ⟨rfl, rfl, rfl, hv⟩, fun _ => .inl rfl, fun h => absurd hI h, (hGa.trans hG5).put_new (Nat.le_refl _)⟩
    simp only [go_sem, Tryz.results15]
    rw [ld_N hB5]
   ·have z1 : ieq 11 0 = false := rfl
    have z2 : ieq 11 11 = true := rfl
    have hst := st_N (a := .bool false) (b := .float .f64 0) (x := .bool false) (y := .slice none 0 0) hB4 rfl rfl rfl rfl
    refine jan Tryz.func15 rfl rfl (nbl rfl) ?_
    simp only [go_sem, Tryz.ntmps15]
    repeat (first | refine jaf ?_ | ((first | (refine jad ?_ ?_; (focus rfl)) | (refine jac (gs := ?_) ?_ ?_; rotate_left; (focus rfl))); simp only [run1, go_sem, al_N, Nat.add_eq, gg26, hr, al_I, hst1, z1, z2, jbR, hst]) | (refine jab ?_ ?_; (focus (simp only [go_sem, al_N, Nat.add_eq, gg26, hr, al_I, hst1, z1, z2, jbR, hst]; done))) | (refine jaa ?_ ?_; (focus (simp only [go_sem, al_N, Nat.add_eq, gg26, hr, al_I, hst1, z1, z2, jbR, hst]; done))) | ((first | refine jaj ?_ | refine jai ?_ | refine jak ?_); try simp only [go_sem]) | refine jah ?_)
    refine jam ?_
    refine ⟨rfl, .tuple #[.agg #[.bool false, .float .f64 0, .bool false, .slice none 0 0], .int .i64 11], ?_, _, _, _, _, _, rfl, ⟨rfl, rfl, rfl, rfl⟩, fun _ => .inr rfl, fun h => absurd hI h, hGa.put_new (Nat.le_refl _)⟩
    simp only [go_sem, Tryz.results15]
    rw [ld_N hB4]
  ·obtain rfl := he2 hI
   have z1 : ieq 13 0 = false := rfl
   have z2 : ieq 13 11 = false := rfl
   obtain ⟨f, μ5, hr5, hG5⟩ := flo_ex hl (X := X) (g := k + 14995) (μ := μ4) hX hX2 (hL.grow hGa) (by omega)
   cases hf : jdW s with
   | true =>
     rw [hf, if_pos rfl] at hr5
     have z3 : ieq 0 0 = true := rfl
     obtain ⟨⟨μ6, hr6, hG6⟩, _⟩ := flo_num (f := f) (X := X) (g := k + 14993) (μ := μ5) (by omega)
     have hB6 : Blk μ6 μ.next 4 29 := hB4.of_get ((hG5.trans hG6).2 μ.next hlt4)
     have hst := st_N (a := .bool true) (b := .float .f64 f) (x := .bool false) (y := .slice none 0 0) hB6 rfl rfl rfl rfl
     refine jan Tryz.func15 rfl rfl (nbl rfl) ?_
     simp only [go_sem, Tryz.ntmps15]
     repeat (first | refine jaf ?_ | ((first | (refine jad ?_ ?_; (focus rfl)) | (refine jac (gs := ?_) ?_ ?_; rotate_left; (focus rfl))); simp only [run1, go_sem, al_N, Nat.add_eq, gg26, hr, al_I, hst1, z1, z2, gg28, hr5, z3, gg29, hr6, hst]) | (refine jab ?_ ?_; (focus (simp only [go_sem, al_N, Nat.add_eq, gg26, hr, al_I, hst1, z1, z2, gg28, hr5, z3, gg29, hr6, hst]; done))) | (refine jaa ?_ ?_; (focus (simp only [go_sem, al_N, Nat.add_eq, gg26, hr, al_I, hst1, z1, z2, gg28, hr5, z3, gg29, hr6, hst]; done))) | ((first | refine jaj ?_ | refine jai ?_ | refine jak ?_); try simp only [go_sem]) | refine jah ?_)
     refine jam ?_
     refine ⟨rfl, .tuple #[.agg #[.bool true, .float .f64 f, .bool false, .slice none 0 0], .int .i64 0], ?_, _, _, _, _, _, rfl, ⟨rfl, rfl, rfl, rfl⟩, fun h => absurd h hI, fun _ => rfl, ((hGa.trans hG5).trans hG6).put_new (Nat.le_refl _)⟩
     simp only [go_sem, Tryz.results15]
     rw [ld_N hB6]
   | false =>
     rw [hf, if_neg (by decide)] at hr5
     have z3 : ieq 31 0 = false := rfl
     have hB5 : Blk μ5 μ.next 4 29 := hB4.of_get (hG5.2 μ.next hlt4)
     have hst := st_N (a := .bool false) (b := .float .f64 0) (x := .bool false) (y := .slice none 0 0) hB5 rfl rfl rfl rfl
     refine jan Tryz.func15 rfl rfl (nbl rfl) ?_
     simp only [go_sem, Tryz.ntmps15]
     repeat (first | refine jaf ?_ | ((first | (refine jad ?_ ?_; (focus rfl)) | (refine jac (gs := ?_) ?_ ?_; rotate_left; (focus rfl))); simp only [run1, go_sem, al_N, Nat.add_eq, gg26, hr, al_I, hst1, z1, z2, gg28, hr5, z3, jbR, hst]) | (refine jab ?_ ?_; (focus (simp only [go_sem, al_N, Nat.add_eq, gg26, hr, al_I, hst1, z1, z2, gg28, hr5, z3, jbR, hst]; done))) | (refine jaa ?_ ?_; (focus (simp only [go_sem, al_N, Nat.add_eq, gg26, hr, al_I, hst1, z1, z2, gg28, hr5, z3, jbR, hst]; done))) | ((first | refine jaj ?_ | refine jai ?_ | refine jak ?_); try simp only [go_sem]) | refine jah ?_)
     refine jam ?_
     refine ⟨rfl, .tuple #[.agg #[.bool false, .float .f64 0, .bool false, .slice none 0 0], .int .i64 13], ?_, _, _, _, _, _, rfl, ⟨rfl, rfl, rfl, rfl⟩, fun h => absurd h hI, fun _ => rfl, (hGa.trans hG5).put_new (Nat.le_refl _)⟩
     simp only [go_sem, Tryz.results15]
     rw [ld_N hB5]
 obtain ⟨w, μ', h1, a, b, c, d, e, rfl, h2, h3, h4, h5⟩ := key
 exact ⟨a, b, c, d, e, μ', h1, h2, h3, h4, h5⟩
end
noncomputable section
section
set_option linter.defProp false
variable {X : XT} {ev : Code → Rg → Mem → Option (Ax × Rg × Mem)}
def gg107 := go_call (P := Tryz.prog) (X := X) (ev := ev) (S := S0) Tryz.func107 rfl rfl
def jgK := go_call (P := Tryz.prog) (X := X) (ev := ev) (S := S0) Tryz.func108 rfl rfl
def gg82 := go_call (P := Tryz.prog) (X := X) (ev := ev) (S := S0) Tryz.func82 rfl rfl
def gg83 := go_call (P := Tryz.prog) (X := X) (ev := ev) (S := S0) Tryz.func83 rfl rfl
def gg84 := go_call (P := Tryz.prog) (X := X) (ev := ev) (S := S0) Tryz.func84 rfl rfl
def gg54 := go_call (P := Tryz.prog) (X := X) (ev := ev) (S := S0) Tryz.func54 rfl rfl
end
theorem at_ex {v : Value} {n i : Nat} {μ : Mem} (h : Rd μ v n) : ∃ a, a < 4294967296 ∧ (n ≤ i → a = 0) ∧ ∀ {X : XT} {g : Nat}, 20 ≤ g → aFun Tryz.prog (jat Tryz.prog X S0 g) 107 [v, .int .i64 (.ofNat i)] μ = some (.int .u64 (.ofNat a), μ) := by
 have lv := h.len
 by_cases hi : i < n
 ·obtain ⟨bi, c, a, rfl, ha, hc⟩ := h.at hi
  have e1 : ilt (.ofNat i) (.ofNat n) = true := (jav _ _).trans (decide_eq_true hi)
  have q1 : jay .u64 (.ofNat a) = .ofNat a := nw (by omega)
  have hix : ∀ (rg : Rg) (a b : Operand), aev Tryz.prog rg a = .slice (some ⟨bi, 0, none⟩) n c → aev Tryz.prog rg b = .int .i64 (.ofNat i) → jaE Tryz.prog (aev Tryz.prog rg) 25 a b = some (.pointer (some ⟨bi, i, none⟩)) := fun rg a b g1 g2 => by
   rw [jaZ (P := Tryz.prog) Tryz.underlying25 jdJ rfl g1 g2 hi, Nat.zero_add]
  refine ⟨a, ha, fun h => by omega, fun {X g} hg => ?_⟩
  obtain ⟨k, rfl⟩ := gle hg
  refine jaQ ?_
  refine jan Tryz.func107 rfl rfl (nbl rfl) ?_
  simp only [go_sem, Tryz.ntmps107]
  repeat (first | refine jaf ?_ | ((first | (refine jad ?_ ?_; (focus rfl)) | (refine jac (gs := ?_) ?_ ?_; rotate_left; (focus rfl))); simp only [run1, go_sem, jae, lv, jag, e1, hix, jbX, hc, jeL, q1]) | (refine jab ?_ ?_; (focus (simp only [go_sem, jae, lv, jag, e1, hix, jbX, hc, jeL, q1]; done))) | (refine jaa ?_ ?_; (focus (simp only [go_sem, jae, lv, jag, e1, hix, jbX, hc, jeL, q1]; done))) | ((first | refine jaj ?_ | refine jai ?_ | refine jak ?_); try simp only [go_sem]) | refine jah ?_)
  refine jam ?_
  refine ⟨rfl, _, ?_, rfl, rfl⟩
  simp only [go_sem, Tryz.results107]
 ·have e1 : ilt (.ofNat i) (.ofNat n) = false := (jav _ _).trans (decide_eq_false hi)
  refine ⟨0, by decide, fun _ => rfl, fun {X g} hg => ?_⟩
  obtain ⟨k, rfl⟩ := gle hg
  refine jaQ ?_
  refine jan Tryz.func107 rfl rfl (nbl rfl) ?_
  simp only [go_sem, Tryz.ntmps107]
  repeat (first | refine jaf ?_ | ((first | (refine jad ?_ ?_; (focus rfl)) | (refine jac (gs := ?_) ?_ ?_; rotate_left; (focus rfl))); simp only [run1, go_sem, jae, lv, jag, e1]) | (refine jab ?_ ?_; (focus (simp only [go_sem, jae, lv, jag, e1]; done))) | (refine jaa ?_ ?_; (focus (simp only [go_sem, jae, lv, jag, e1]; done))) | ((first | refine jaj ?_ | refine jai ?_ | refine jak ?_); try simp only [go_sem]) | refine jah ?_)
  refine jam ?_
  refine ⟨rfl, _, ?_, rfl, rfl⟩
  simp only [go_sem, Tryz.results107]
  rfl
theorem jjj : ∀ n, n ≤ 1000000 → ∀ {X : XT} {e : Nat} {tm : T Value} {v : Value} {μ : Mem}, Rd μ v n → jaq tm 3 = v →
  EndsC (jat Tryz.prog X S0 (e + n + 20) (.loop (jaL Tryz.f108 0)) ⟨25, tm, [], none⟩ μ) fun x r μ' => x = .exit 0 ∧ μ' = μ ∧ ∃ tm' v' n', r = ⟨25, tm', [], none⟩ ∧ n' ≤ n ∧ Rd μ v' n' ∧ jaq tm' 3 = v' ∧ ∀ i, SlAt v' i → SlAt v i := by
 intro n
 induction n with
 | zero =>
   intro hn X e tm v μ h h3
   have lv := h.len
   have e1 : ilt 0 (.ofNat 0) = false := rfl
   refine jas ?_
   refine jaf ?_
   refine jaf ?_
   refine jac (gs := ?_) ?_ ?_
   rotate_left
   ·rfl
   iterate 4 (refine jal (by first | rfl | (simp only [go_sem, undef, h3, jae, lv, jag, e1])) (by simp only [go_sem, undef, h3, jae, lv, jag, e1]; try exact rfl) rfl ?_)
   iterate 7 (refine jaA (by simp only [go_sem, undef, h3, jae, lv, jag, e1]) rfl ?_)
   refine jal (by first | rfl | (simp only [go_sem, undef, h3, jae, lv, jag, e1])) (by simp only [go_sem, undef, h3, jae, lv, jag, e1]; try exact rfl) rfl ?_
   simp only [go_sem]
   refine jaa ?_ ?_
   ·simp only [go_sem]
   refine jak ?_
   simp only [jbm]
   exact ⟨by trivial, by trivial, _, v, 0, rfl, Nat.le_refl _, h, by simp only [go_sem, h3], fun i hi => hi⟩
 | succ n ih =>
   intro hn X e tm v μ h h3
   have lv := h.len
   obtain ⟨v', hsl, hR', hS'⟩ := h.take (Nat.le_succ n)
   obtain ⟨bi, c, a, hv, ha, hc⟩ := h.at (Nat.lt_succ_self n)
   have e1 : ilt 0 (.ofNat (n + 1)) = true := (jav 0 (n + 1)).trans (decide_eq_true (Nat.succ_pos n))
   have q1 : jay .i64 (Int.sub (.ofNat (n + 1)) 1) = .ofNat n := jco (n + 1) 1 (by omega) (by omega)
   have hix : ∀ (rg : Rg) (a b : Operand), aev Tryz.prog rg a = v → aev Tryz.prog rg b = .int .i64 (.ofNat n) → jaE Tryz.prog (aev Tryz.prog rg) 25 a b = some (.pointer (some ⟨bi, n, none⟩)) := fun rg a b g1 g2 => by
    rw [hv] at g1
    rw [jaZ (P := Tryz.prog) Tryz.underlying25 jdJ rfl g1 g2 (by omega), Nat.zero_add]
   have hsl : ∀ (rg : Rg) (x y : Operand), aev Tryz.prog rg x = v → aev Tryz.prog rg y = .int .i64 (.ofNat n) → jbG Tryz.prog (aev Tryz.prog rg) 25 x none (some y) none = some v' := fun rg x y g1 g2 => hsl _ x y g1 g2
   by_cases hz : a = 0
   ·have e2 : ieq (.ofNat a) 0 = true := (jaO _ 0 0 rfl).trans (decide_eq_true hz)
    refine jas ?_
    refine jaf ?_
    refine jaf ?_
    refine jac (gs := ?_) ?_ ?_
    rotate_left
    ·rfl
    iterate 12 (refine jal (by first | rfl | (simp only [go_sem, undef, h3, jae, lv, jag, e1, q1, hix, jbX, hc, e2])) (by simp only [go_sem, undef, h3, jae, lv, jag, e1, q1, hix, jbX, hc, e2]; try exact rfl) rfl ?_)
    simp only [go_sem]
    repeat (first | refine jaf ?_ | ((first | (refine jad ?_ ?_; (focus rfl)) | (refine jac (gs := ?_) ?_ ?_; rotate_left; (focus rfl))); simp only [run1, go_sem, h3, jae, lv, jag, q1, hsl]) | (refine jab ?_ ?_; (focus (simp only [go_sem, h3, jae, lv, jag, q1, hsl]; done))) | (refine jaa ?_ ?_; (focus (simp only [go_sem, h3, jae, lv, jag, q1, hsl]; done))) | ((first | refine jaj ?_ | refine jai ?_ | refine jak ?_); try simp only [go_sem]) | refine jah ?_)
    rw [show e + (n + 1) + 19 = e + n + 20 from by omega]
    refine EndsC.mono (ih (by omega) hR' (by simp only [go_sem])) ?_
    rintro x r μ' ⟨g1, g2, tm', w, n', g3, g4, g5, g6, g7⟩
    exact ⟨g1, g2, tm', w, n', g3, by omega, g5, g6, fun i hi => hS' i (g7 i hi)⟩
   ·have e2 : ieq (.ofNat a) 0 = false := (jaO _ 0 0 rfl).trans (decide_eq_false hz)
    refine jas ?_
    refine jaf ?_
    refine jaf ?_
    refine jac (gs := ?_) ?_ ?_
    rotate_left
    ·rfl
    iterate 12 (refine jal (by first | rfl | (simp only [go_sem, undef, h3, jae, lv, jag, e1, q1, hix, jbX, hc, e2])) (by simp only [go_sem, undef, h3, jae, lv, jag, e1, q1, hix, jbX, hc, e2]; try exact rfl) rfl ?_)
    simp only [go_sem]
    refine jaa ?_ ?_
    ·simp only [go_sem]
    refine jak ?_
    simp only [jbm]
    exact ⟨by trivial, by trivial, _, v, n + 1, rfl, Nat.le_refl _, h, by simp only [go_sem, h3], fun i hi => hi⟩
theorem jgr {X : XT} {g n : Nat} {v : Value} {μ : Mem} (h : Rd μ v n) (hn : n ≤ 60000) (hg : 60100 ≤ g) : ∃ v' n' μ', aFun Tryz.prog (jat Tryz.prog X S0 g) 108 [v] μ = some (v', μ') ∧ n' ≤ n ∧ Rd μ' v' n' ∧ Grow μ μ' ∧ New μ v' := by
 obtain ⟨k, rfl⟩ := gle hg
 obtain ⟨v1, μ1, hap, hR, hG, hN⟩ := jfO h (by omega)
 have key : EndsF (aFun Tryz.prog (jat Tryz.prog X S0 (k + 60100)) 108 [v] μ) fun w μ' => ∃ n', n' ≤ n ∧ Rd μ' w n' ∧ Grow μ μ' ∧ New μ w := by
  refine jan Tryz.func108 rfl rfl (nbl rfl) ?_
  simp only [go_sem, Tryz.ntmps108]
  repeat (first | refine jaf ?_ | ((first | (refine jad ?_ ?_; (focus rfl)) | (refine jac (gs := ?_) ?_ ?_; rotate_left; (focus rfl))); simp only [run1, go_sem, bs0, jae, hap]) | (refine jab ?_ ?_; (focus (simp only [go_sem, bs0, jae, hap]; done))) | (refine jaa ?_ ?_; (focus (simp only [go_sem, bs0, jae, hap]; done))) | ((first | refine jaj ?_ | refine jai ?_ | refine jak ?_); try simp only [go_sem]) | refine jah ?_)
  rw [show k + 60096 = (k + 60076 - n) + n + 20 from by omega]
  refine EndsC.mono (jjj n (by omega) hR (by simp only [go_sem])) ?_
  rintro x r μ' ⟨rfl, rfl, tm', v', n', rfl, hn', hR', h3, hS⟩
  simp only [ja4, reduceIte, jao]
  repeat (first | refine jaf ?_ | ((first | (refine jad ?_ ?_; (focus rfl)) | (refine jac (gs := ?_) ?_ ?_; rotate_left; (focus rfl))); simp only [run1, go_sem, h3]) | (refine jab ?_ ?_; (focus (simp only [go_sem, h3]; done))) | (refine jaa ?_ ?_; (focus (simp only [go_sem, h3]; done))) | ((first | refine jaj ?_ | refine jai ?_ | refine jak ?_); try simp only [go_sem]) | refine jah ?_)
  refine jam ?_
  refine ⟨rfl, v', ?_, n', hn', hR', hG, fun i hi => hN i (hS i hi)⟩
  simp only [go_sem, Tryz.results108]
 obtain ⟨w, μ', h1, n', h2, h3, h4⟩ := key
 exact ⟨w, n', μ', h1, h2, h3, h4⟩
theorem n_div32 {a : Nat} (ha : a < 18446744073709551616) : aDiv false .u64 .u64 (.ofNat a) 4294967296 = some (.int .u64 (.ofNat (a / 4294967296))) := by
 show some (Value.int .u64 (jay .u64 (.ofNat (a / 4294967296)))) = _
 rw [nw (Nat.lt_of_le_of_lt (Nat.div_le_self _ _) ha)]
theorem n_rem32 (a : Nat) : aDiv true .u64 .u64 (.ofNat a) 4294967296 = some (.int .u64 (.ofNat (a % 4294967296))) := rfl
theorem lbP : (jaL Tryz.f82 0) = .seq (jaW 0 (jaL Tryz.f82 0)) (.seq (jaW 1 (jaL Tryz.f82 0)) (ja1 2 (jaL Tryz.f82 0))) := by kernel_rfl
theorem plus_loop {na nb : Nat} {va vb : Value} (hna : na ≤ 50000) (hnb : nb ≤ 50000) : ∀ (m i c : Nat), i + m = (if na < nb then nb else na) + 1 → c ≤ 1 → (m = 0 → c = 0) → ∀ {X : XT} {e : Nat} {tm : T Value} {v : Value} {μ0 μ : Mem}, Rd μ0 va na → Rd μ0 vb nb → Lim μ0 μ v i → jaq tm 0 = va → jaq tm 1 = vb → jaq tm 5 = v → jaq tm 6 = .int .u64 (.ofNat c) → jaq tm 7 = .int .i64 (.ofNat i) →
  EndsC (jat Tryz.prog X S0 (e + m + 100) (.loop (jaL Tryz.f82 0)) ⟨45, tm, [], none⟩ μ) fun x r μ' => x = .exit 0 ∧ ∃ tm' v' n', r = ⟨45, tm', [], none⟩ ∧ n' ≤ (if na < nb then nb else na) + 1 ∧ Lim μ0 μ' v' n' ∧ jaq tm' 5 = v' := by
 obtain ⟨M, hM⟩ : ∃ M, M = (if na < nb then nb else na) := ⟨_, rfl⟩
 have hM1 : na ≤ M ∧ nb ≤ M ∧ M ≤ 50000 ∧ (M = na ∨ M = nb) := by rw [hM]; split <;> omega
 rw [← hM]
 intro m
 induction m with
 | zero =>
   intro i c hi hc hm X e tm v μ0 μ hA hB hL h0 h1 h5 h6 h7
   obtain rfl := hm rfl
   have la := (hA.grow hL.grow).len
   have lb := (hB.grow hL.grow).len
   have e1 : ilt (.ofNat i) (.ofNat na) = false := (jav _ _).trans (decide_eq_false (by omega))
   have e2 : ilt (.ofNat i) (.ofNat nb) = false := (jav _ _).trans (decide_eq_false (by omega))
   have e3 : ilt 0 (.ofNat 0) = false := rfl
   refine jas ?_
   refine jaf ?_
   refine jaf ?_
   refine jac (gs := ?_) ?_ ?_
   rotate_left
   ·rfl
   iterate 14 (refine jal (by first | rfl | (simp only [go_sem, undef, h0, h1, h5, h6, h7, jae, la, lb, jag, e1, e2, e3])) (by simp only [go_sem, undef, h0, h1, h5, h6, h7, jae, la, lb, jag, e1, e2, e3]; try exact rfl) rfl ?_)
   simp only [go_sem]
   refine jaa ?_ ?_
   ·simp only [go_sem]
   refine jak ?_
   simp only [jbm]
   exact ⟨by trivial, _, v, i, rfl, by omega, hL, by simp only [go_sem, h5]⟩
 | succ m ih =>
   intro i c hi hc hm X e tm v μ0 μ hA hB hL h0 h1 h5 h6 h7
   have hA' := hA.grow hL.grow
   have hB' := hB.grow hL.grow
   have la := hA'.len
   have lb := hB'.len
   obtain ⟨a, ha, ha0, hat⟩ := at_ex (i := i) hA'
   obtain ⟨b, hb, hb0, hbt⟩ := at_ex (i := i) hB'
   have hat := fun (g : Nat) (hg : 20 ≤ g) => hat (X := X) hg
   have hbt := fun (g : Nat) (hg : 20 ≤ g) => hbt (X := X) hg
   by_cases hdone : i = M ∧ c = 0
   ·obtain ⟨rfl, rfl⟩ := hdone
    have e1 : ilt (.ofNat i) (.ofNat na) = false := (jav _ _).trans (decide_eq_false (by omega))
    have e2 : ilt (.ofNat i) (.ofNat nb) = false := (jav _ _).trans (decide_eq_false (by omega))
    have e3 : ilt 0 (.ofNat 0) = false := rfl
    refine jas ?_
    refine jaf ?_
    refine jaf ?_
    refine jac (gs := ?_) ?_ ?_
    rotate_left
    ·rfl
    iterate 14 (refine jal (by first | rfl | (simp only [go_sem, undef, h0, h1, h5, h6, h7, jae, la, lb, jag, e1, e2, e3])) (by simp only [go_sem, undef, h0, h1, h5, h6, h7, jae, la, lb, jag, e1, e2, e3]; try exact rfl) rfl ?_)
    simp only [go_sem]
    refine jaa ?_ ?_
    ·simp only [go_sem]
    refine jak ?_
    simp only [jbm]
    exact ⟨by trivial, _, v, i, rfl, by omega, hL, by simp only [go_sem, h5]⟩
   obtain ⟨t, ht⟩ : ∃ t, t = a + b + c := ⟨_, rfl⟩
   have q1 : jay .u64 (Int.add (.ofNat a) (.ofNat b)) = .ofNat (a + b) := jgD (by omega)
   have q2 : jay .u64 (Int.add (.ofNat (a + b)) (.ofNat c)) = .ofNat t := by rw [ht]; exact jgD (by omega)
   have q3 := n_rem32 t
   have q4' : jay .u32 (.ofNat (t % 4294967296)) = .ofNat (t % 4294967296) := by rw [q4, Nat.mod_mod]
   have q5 := n_div32 (a := t) (by omega)
   have q6 : jay .i64 (Int.add (.ofNat i) 1) = .ofNat (i + 1) := ja2 i 1 (by omega)
   have hc' : t / 4294967296 ≤ 1 := by omega
   have hc0 : m = 0 → t / 4294967296 = 0 := fun hm0 => by
    have hiM : i = M := by omega
    rw [ht, ha0 (by omega), hb0 (by omega)]
    omega
   obtain ⟨w, hw⟩ : ∃ w, w = t % 4294967296 := ⟨_, rfl⟩
   have hwl : w < 4294967296 := by rw [hw]; exact Nat.mod_lt _ (by decide)
   obtain ⟨c', hcc⟩ : ∃ c', c' = t / 4294967296 := ⟨_, rfl⟩
   rw [← hw] at q3 q4'
   rw [← hcc] at q5 hc' hc0
   obtain ⟨v', μ2, hap, hL2⟩ := hL.push (x := .int .u32 (.ofNat w)) (by omega) ⟨w, hwl, rfl⟩
   have bs : ∀ (r : Rg) (x : Operand), aev Tryz.prog r x = .int .u32 (.ofNat w) → jbl Tryz.prog (aev Tryz.prog r) 25 1 #[(0, x)] = some (.cells 1 56 #[.int .u32 (.ofNat w)] .e 0 0 false false, fun id => .slice (some ⟨id, 0, none⟩) 1 2) := fun r x g => jcR Tryz.underlying25 jdJ rfl z_u32 rfl g rfl
   have go : ∀ {tm1 : T Value}, (∀ j, j < 10 → jaq tm1 j = jaq tm j) → EndsC (jat Tryz.prog X S0 (e + (m + 1) + 97) (jaW 1 (jaL Tryz.f82 0)) ⟨45, tm1, [], none⟩ μ) fun x r μ' => x = .normal ∧ μ' = μ2 ∧ ∃ tm', r = ⟨45, tm', [], none⟩ ∧ jaq tm' 0 = va ∧ jaq tm' 1 = vb ∧ jaq tm' 5 = v' ∧ jaq tm' 6 = .int .u64 (.ofNat c') ∧ jaq tm' 7 = .int .i64 (.ofNat i) := by
    intro tm1 hr
    have h0 := (hr 0 (by decide)).trans h0
    have h1 := (hr 1 (by decide)).trans h1
    have h5 := (hr 5 (by decide)).trans h5
    have h6 := (hr 6 (by decide)).trans h6
    have h7 := (hr 7 (by decide)).trans h7
    clear hr
    repeat (first | refine jaf ?_ | ((first | (refine jad ?_ ?_; (focus rfl)) | (refine jac (gs := ?_) ?_ ?_; rotate_left; (focus rfl))); simp only [run1, go_sem, h0, h1, h5, h6, h7, gg107, hat, hbt, Nat.reduceLeDiff, q1, q2, q3, jda, q4', bs, jae, hap, q5]) | (refine jab ?_ ?_; (focus (simp only [go_sem, h0, h1, h5, h6, h7, gg107, hat, hbt, Nat.reduceLeDiff, q1, q2, q3, jda, q4', bs, jae, hap, q5]; done))) | (refine jaa ?_ ?_; (focus (simp only [go_sem, h0, h1, h5, h6, h7, gg107, hat, hbt, Nat.reduceLeDiff, q1, q2, q3, jda, q4', bs, jae, hap, q5]; done))) | ((first | refine jaj ?_ | refine jai ?_ | refine jak ?_); try simp only [go_sem]) | refine jah ?_)
    try simp only [ja4, jao]
    exact ⟨by trivial, by trivial, _, rfl, by simp only [go_sem, h0], by simp only [go_sem, h1], by simp only [go_sem], by simp only [go_sem], by simp only [go_sem, h7]⟩
   have fin : ∀ {tm' : T Value}, jaq tm' 0 = va → jaq tm' 1 = vb → jaq tm' 5 = v' → jaq tm' 6 = .int .u64 (.ofNat c') → jaq tm' 7 = .int .i64 (.ofNat i) → EndsC (jat Tryz.prog X S0 (e + (m + 1) + 97) (ja1 2 (jaL Tryz.f82 0)) ⟨45, tm', [], none⟩ μ2) (jha (e + (m + 1) + 99) Tryz.prog X S0 (.loop (jaL Tryz.f82 0)) fun x r μ' => x = .exit 0 ∧ ∃ tm' v' n', r = ⟨45, tm', [], none⟩ ∧ n' ≤ M + 1 ∧ Lim μ0 μ' v' n' ∧ jaq tm' 5 = v') := by
    intro tm' h0 h1 h5 h6 h7
    repeat (first | refine jaf ?_ | ((first | (refine jad ?_ ?_; (focus rfl)) | (refine jac (gs := ?_) ?_ ?_; rotate_left; (focus rfl))); simp only [run1, go_sem, h7, q6]) | (refine jab ?_ ?_; (focus (simp only [go_sem, h7, q6]; done))) | (refine jaa ?_ ?_; (focus (simp only [go_sem, h7, q6]; done))) | ((first | refine jaj ?_ | refine jai ?_ | refine jak ?_); try simp only [go_sem]) | refine jah ?_)
    rw [show e + (m + 1) + 99 = e + m + 100 from by omega]
    exact ih (i + 1) c' (by omega) hc' hc0 hA hB hL2 (by simp only [go_sem, h0]) (by simp only [go_sem, h1]) (by simp only [go_sem, h5]) (by simp only [go_sem, h6]) (by simp only [go_sem])
   by_cases c1 : i < na
   ·have e1 : ilt (.ofNat i) (.ofNat na) = true := (jav _ _).trans (decide_eq_true c1)
    refine jas ?_
    rw [lbP]
    refine jaf ?_
    refine jaf ?_
    refine jac (gs := ?_) ?_ ?_
    rotate_left
    ·rfl
    iterate 5 (refine jal (by first | rfl | (simp only [go_sem, undef, h0, h1, h5, h6, h7, jae, la, lb, jag, e1])) (by simp only [go_sem, undef, h0, h1, h5, h6, h7, jae, la, lb, jag, e1]; try exact rfl) rfl ?_)
    iterate 4 (refine jaA (by simp only [go_sem, undef, h0, h1, h5, h6, h7, jae, la, lb, jag, e1]) rfl ?_)
    iterate 2 (refine jal (by first | rfl | (simp only [go_sem, undef, h0, h1, h5, h6, h7, jae, la, lb, jag, e1])) (by simp only [go_sem, undef, h0, h1, h5, h6, h7, jae, la, lb, jag, e1]; try exact rfl) rfl ?_)
    iterate 2 (refine jaA (by simp only [go_sem, undef, h0, h1, h5, h6, h7, jae, la, lb, jag, e1]) rfl ?_)
    refine jal (by first | rfl | (simp only [go_sem, undef, h0, h1, h5, h6, h7, jae, la, lb, jag, e1])) (by simp only [go_sem, undef, h0, h1, h5, h6, h7, jae, la, lb, jag, e1]; try exact rfl) rfl ?_
    simp only [go_sem]
    refine jab ?_ ?_
    ·simp only [go_sem]
    refine jaj ?_
    simp only [jao]
    refine jaf (EndsC.mono (go (by intro j hj; rcases (by omega : j = 0 ∨ j = 1 ∨ j = 2 ∨ j = 3 ∨ j = 4 ∨ j = 5 ∨ j = 6 ∨ j = 7 ∨ j = 8 ∨ j = 9) with rfl | rfl | rfl | rfl | rfl | rfl | rfl | rfl | rfl | rfl <;> simp only [go_sem])) ?_)
    rintro x r μ' ⟨rfl, rfl, tm', rfl, h0, h1, h5, h6, h7⟩
    simp only [jao]
    exact fin h0 h1 h5 h6 h7
   have e1 : ilt (.ofNat i) (.ofNat na) = false := (jav _ _).trans (decide_eq_false c1)
   by_cases c2 : i < nb
   ·have e2 : ilt (.ofNat i) (.ofNat nb) = true := (jav _ _).trans (decide_eq_true c2)
    refine jas ?_
    rw [lbP]
    refine jaf ?_
    refine jaf ?_
    refine jac (gs := ?_) ?_ ?_
    rotate_left
    ·rfl
    iterate 11 (refine jal (by first | rfl | (simp only [go_sem, undef, h0, h1, h5, h6, h7, jae, la, lb, jag, e1, e2])) (by simp only [go_sem, undef, h0, h1, h5, h6, h7, jae, la, lb, jag, e1, e2]; try exact rfl) rfl ?_)
    iterate 2 (refine jaA (by simp only [go_sem, undef, h0, h1, h5, h6, h7, jae, la, lb, jag, e1, e2]) rfl ?_)
    refine jal (by first | rfl | (simp only [go_sem, undef, h0, h1, h5, h6, h7, jae, la, lb, jag, e1, e2])) (by simp only [go_sem, undef, h0, h1, h5, h6, h7, jae, la, lb, jag, e1, e2]; try exact rfl) rfl ?_
    simp only [go_sem]
    refine jab ?_ ?_
    ·simp only [go_sem]
    refine jaj ?_
    simp only [jao]
    refine jaf (EndsC.mono (go (by intro j hj; rcases (by omega : j = 0 ∨ j = 1 ∨ j = 2 ∨ j = 3 ∨ j = 4 ∨ j = 5 ∨ j = 6 ∨ j = 7 ∨ j = 8 ∨ j = 9) with rfl | rfl | rfl | rfl | rfl | rfl | rfl | rfl | rfl | rfl <;> simp only [go_sem])) ?_)
    rintro x r μ' ⟨rfl, rfl, tm', rfl, h0, h1, h5, h6, h7⟩
    simp only [jao]
    exact fin h0 h1 h5 h6 h7
   have e2 : ilt (.ofNat i) (.ofNat nb) = false := (jav _ _).trans (decide_eq_false c2)
   have e3 : ilt 0 (.ofNat c) = true := (jav 0 c).trans (decide_eq_true (by omega))
   refine jas ?_
   rw [lbP]
   refine jaf ?_
   refine jaf ?_
   refine jac (gs := ?_) ?_ ?_
   rotate_left
   ·rfl
   iterate 14 (refine jal (by first | rfl | (simp only [go_sem, undef, h0, h1, h5, h6, h7, jae, la, lb, jag, e1, e2, e3])) (by simp only [go_sem, undef, h0, h1, h5, h6, h7, jae, la, lb, jag, e1, e2, e3]; try exact rfl) rfl ?_)
   simp only [go_sem]
   refine jab ?_ ?_
   ·simp only [go_sem]
   refine jaj ?_
   simp only [jao]
   refine jaf (EndsC.mono (go (by intro j hj; rcases (by omega : j = 0 ∨ j = 1 ∨ j = 2 ∨ j = 3 ∨ j = 4 ∨ j = 5 ∨ j = 6 ∨ j = 7 ∨ j = 8 ∨ j = 9) with rfl | rfl | rfl | rfl | rfl | rfl | rfl | rfl | rfl | rfl <;> simp only [go_sem])) ?_)
   rintro x r μ' ⟨rfl, rfl, tm', rfl, h0, h1, h5, h6, h7⟩
   simp only [jao]
   exact fin h0 h1 h5 h6 h7
theorem Lim.empty (μ : Mem) : Lim μ ⟨μ.obs.set μ.next ob0, Nat.add μ.next 1⟩ (.slice (some ⟨μ.next, 0, none⟩) 0 0) 0 :=
 ⟨[], ⟨.inr ⟨μ.next, 0, #[], .e, false, false, 0, rfl, by show T.get _ _ = _; rw [T.get_set, if_pos rfl]; rfl, Nat.le_refl _, (fun k h => absurd h (Nat.not_lt_zero _)), .inl ⟨rfl, rfl⟩⟩, jb2 μ _, fun i hi => by
  obtain ⟨l, c, hv⟩ := hi
  injection hv with e1
  injection e1 with e1
  injection e1 with e1
  subst e1
  exact ⟨Nat.le_refl _, Nat.lt_succ_self _⟩⟩, rfl, (fun x h => by cases h)⟩
theorem jih {na nb : Nat} {va vb : Value} (hna : na ≤ 50000) (hnb : nb ≤ 50000) {X : XT} {g : Nat} {μ : Mem} (hA : Rd μ va na) (hB : Rd μ vb nb) (hg : 70000 ≤ g) : ∃ v n μ', aFun Tryz.prog (jat Tryz.prog X S0 g) 82 [va, vb] μ = some (v, μ') ∧ n ≤ (if na < nb then nb else na) + 1 ∧ Rd μ' v n ∧ Grow μ μ' ∧ New μ v := by
 obtain ⟨k, rfl⟩ := gle hg
 have hM : (if na < nb then nb else na) ≤ 50000 := by split <;> omega
 have key : EndsF (aFun Tryz.prog (jat Tryz.prog X S0 (k + 70000)) 82 [va, vb] μ) fun w μ' => ∃ n, n ≤ (if na < nb then nb else na) + 1 ∧ Rd μ' w n ∧ Grow μ μ' ∧ New μ w := by
  refine jan Tryz.func82 rfl rfl (nbl rfl) ?_
  simp only [go_sem, Tryz.ntmps82]
  repeat (first | refine jaf ?_ | ((first | (refine jad ?_ ?_; (focus rfl)) | (refine jac (gs := ?_) ?_ ?_; rotate_left; (focus rfl))); simp only [run1, go_sem, bs0]) | (refine jab ?_ ?_; (focus (simp only [go_sem, bs0]; done))) | (refine jaa ?_ ?_; (focus (simp only [go_sem, bs0]; done))) | ((first | refine jaj ?_ | refine jai ?_ | refine jak ?_); try simp only [go_sem]) | refine jah ?_)
  rw [show k + 69994 = (k + 69893 - (if na < nb then nb else na)) + ((if na < nb then nb else na) + 1) + 100 from by omega]
  refine EndsC.mono (plus_loop hna hnb _ 0 0 (Nat.zero_add _) (Nat.zero_le _) (fun h => rfl) hA hB (Lim.empty μ) (by simp only [go_sem]) (by simp only [go_sem]) (by simp only [go_sem]) (by simp only [go_sem]; try rfl) (by simp only [go_sem]; try rfl)) ?_
  rintro x r μ1 ⟨rfl, tm', v', n', rfl, hn', hL, h5⟩
  simp only [ja4, reduceIte, jao]
  obtain ⟨v2, n2, μ2, hr, hn2, hR, hG, hN⟩ := jgr (X := X) (g := k + 69994) hL.rd (by omega) (by omega)
  repeat (first | refine jaf ?_ | ((first | (refine jad ?_ ?_; (focus rfl)) | (refine jac (gs := ?_) ?_ ?_; rotate_left; (focus rfl))); simp only [run1, go_sem, h5, jgK, hr]) | (refine jab ?_ ?_; (focus (simp only [go_sem, h5, jgK, hr]; done))) | (refine jaa ?_ ?_; (focus (simp only [go_sem, h5, jgK, hr]; done))) | ((first | refine jaj ?_ | refine jai ?_ | refine jak ?_); try simp only [go_sem]) | refine jah ?_)
  refine jam ?_
  refine ⟨rfl, v2, ?_, n2, by omega, hR, hL.grow.trans hG, fun i hi => Nat.le_trans hL.grow.1 (hN i hi)⟩
  simp only [go_sem, Tryz.results82]
 obtain ⟨w, μ', h1, n, h2, h3, h4⟩ := key
 exact ⟨w, n, μ', h1, h2, h3, h4⟩
end
end Go.Proofs.YtdjoekhccbiaiaaGreatDoor.dw
