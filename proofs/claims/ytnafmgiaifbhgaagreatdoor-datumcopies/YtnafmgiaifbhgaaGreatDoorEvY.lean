/-
  The evaluator, part Y: a region that draws its order.
-/
import Derived.Test.YtnafmgiaifbhgaaGreatDoorEvX
set_option linter.unusedSimpArgs false
set_option linter.unusedVariables false
namespace Go.Proofs.YtnafmgiaifbhgaaGreatDoor.Ev
noncomputable section
variable {P : Program}
section dr
variable {X : FuncId → List Value → Mem → Option (Value × Mem)} {callF : FuncId → List Value → Mem → Option (Value × Mem)} {roundF : Nat → List Value → Mem → Option (Value × Mem)} {ops : Array Oper} {ms ord : List Nat} {x0 : Option (Nat × Nat)} {bs : Nat} {S : Nat → St} {J0 : Nat → Loc} {μ0 : Mem} {w0 : World} {rd : Option Nat} {r0 : Rg}
theorem jfF {o : Oper} {i : Nat} {s s' : St} {v : Value} (h : Skips ops o v s s') : ∀ ob v2, ¬ jio P ops ms bs i o v2 ob s s' := fun ob v2 hm => by
 have := h.1.symm.trans hm.1
 cases this
theorem je8 {o : Oper} {i : Nat} {s s' : St} {v : Value} (h : Yieldt P ops ms i o v s s') : ∀ ob v2, ¬ jio P ops ms bs i o v2 ob s s' := fun ob v2 hm => by
 rcases h.2.2.2 with h | ⟨_, h⟩
 ·have := h.symm.trans hm.2.2.1; cases this
 ·have := h.symm.trans hm.2.2.2.1; cases this
theorem op_turn (hN : jdc P) (hX : XOk P X) (hF : jfC P callF) (hR : jc9 P roundF) (D : DOk ops.toList ms ord x0) (T : ∀ (q i : Nat), ord[q]? = some i → jdE P X callF roundF ops.toList ms bs i (S q) = some (S (q + 1))) {m0 : Nat × Mem} (hS0 : (S 0).2 = (m0.2, [m0])) {E : Nat → Prop} {J : Nat → Loc} {a : Act} {w : World} {p : Nat} (I : Inv P ops ms ord bs S J0 μ0 w0 rd r0 E J a w p) (h0 : (S 0).1 = r0) (hbs : μ0.next ≤ bs) (hr0 : Rel J0 μ0 w0)
  {n : Nat} {Q : Exit → Act → World → Prop} {K : Act → World → Prop} {q i : Nat} (hi : ord[q]? = some i) (hE : ¬ E i) (hpre : ∀ k, k < ops.size → bef ms k i = true → E k)
  (hK : ∀ J' a' w' p', Inv P ops ms ord bs S J0 μ0 w0 rd r0 (more E i) J' a' w' p' → K a' w') : wpOpIn (fen rd) n P ops Q i K a w := by
 obtain ⟨o, v, ho, hput, hkind⟩ := jcw (T q i hi)
 have hpq : p ≤ q := Nat.le_of_not_lt fun h => hE (I.before q i h hi)
 unfold wpOpIn
 rw [ho]
 dsimp only
 rcases hkind with h | h | h | ⟨ob, h⟩
 ·rw [I.wanted D T h0 hi ho hE hpre h.1]
  simp only [Bool.false_eq_true, if_false]
  refine ⟨fun _ _ => trivial, hK J _ w p ?_⟩
  have hv : v = undef := h.2.1
  rw [hv] at hput
  exact I.calm D T h0 hi ho hE hpre hput jdV h.2.2 (jfF h)
 ·rw [I.wanted D T h0 hi ho hE hpre h.1]
  simp only [if_true]
  refine ⟨fun _ _ => trivial, ?_⟩
  obtain ⟨hrel, hnext⟩ := I.turn D T h0 hbs hr0 hi ho hE hpre hput h
  have hρ := I.operand D hi ho hE hpre
  have hfine : Fine P rd J (S q).2.1 w v (S (q + 1)).2.1 ((o.semAt rd a.eval).run P w) := by
   rcases h.2.2.2 with ht | hc
   ·exact aT_fine hρ hrel ht
   ·exact aC_fine hN hX hF hR hρ hrel I.base hc
  exact hfine n o a K Q fun J' v' w' h1 h2 h3 => hK J' _ w' _ (hnext J' v' w' h1 h2 h3)
 ·rw [I.wanted D T h0 hi ho hE hpre h.1]
  simp only [if_true]
  refine ⟨fun _ _ => trivial, ?_⟩
  have hρ := I.operand D hi ho hE hpre
  have hval : ∃ v', VRel J v v' ∧ (o.semAt rd a.eval).run P w = .ok (.value v') w := by
   rcases h.2.2.2 with hp | ⟨_, hrd⟩
   ·exact aP_fine hρ I.base.stop hp
   ·have hq := je7 D hi
    have := reads_at D T hS0 (ρ := aev P (S q).1) (o := o) (i := i) I.last (q - p) v (by omega) (fun q2 h2 g1 g2 g3 g4 => ?_) (by rw [show p + (q - p) = q by omega]; exact hrd)
    ·exact aR_fine hρ I.rel this
    ·have hne := I.later q2 h2 g1 g3 g4
     have hlt : h2 < ops.size := by have := D.lt h2 (List.mem_of_getElem? g3); simpa using this
     cases hb : bef ms h2 i with
     | false => rfl
     | true => exact absurd (hpre h2 hlt hb) hne
  obtain ⟨v', hv, hrun⟩ := hval
  have : (o.semAt (fen rd).round a.eval).run P w = .ok (.value v') w := hrun
  rw [this]
  exact hK J _ w p (I.calm D T h0 hi ho hE hpre hput hv h.2.1 (je8 h))
 ·rw [I.wanted D T h0 hi ho hE hpre h.1]
  simp only [if_true]
  refine ⟨fun _ _ => trivial, ?_⟩
  obtain ⟨J', v', w', hrun, hI⟩ := I.make D T h0 hbs hr0 hi ho hE hpre hput h
  have : (o.semAt (fen rd).round a.eval).run P w = .ok (.value v') w' := hrun
  rw [this]
  exact hK J' _ w' p hI
theorem jiG {l : Array Bool} {i j : Nat} (h : i < l.size) : (l.setIfInBounds i true).getD j false = true ↔ l.getD j false = true ∨ j = i := by
 simp only [Array.getD_eq_getD_getElem?, Array.getElem?_setIfInBounds]
 by_cases e : i = j
 ·subst e; simp [h]
 ·rw [if_neg e]
  exact ⟨.inl, fun h => h.resolve_right fun x => e x.symm⟩
theorem cnt_set {l : Array Bool} {i : Nat} (h : l.getD i true = false) : (l.setIfInBounds i true).toList.countP id = l.toList.countP id + 1 := by
 have hlt : i < l.size := by
  rcases Nat.lt_or_ge i l.size with h1 | h1
  ·exact h1
  ·simp [Array.getD, Nat.not_lt.2 h1] at h
 have hli : l[i] = false := by simpa [Array.getD, hlt] using h
 rw [Array.toList_setIfInBounds, List.countP_set (by simpa using hlt)]
 simp [hli]
theorem all_set {l : Array Bool} (h : l.size ≤ l.toList.countP id) {i : Nat} (hi : i < l.size) : l.getD i false = true := by
 have h1 : l.toList.countP id = l.toList.length := Nat.le_antisymm List.countP_le_length (by simpa using h)
 have h2 := List.countP_eq_length.1 h1 l[i] (by simp)
 simpa [Array.getD, hi] using h2
theorem any_sound (hN : jdc P) (hX : XOk P X) (hF : jfC P callF) (hR : jc9 P roundF) (D : DOk ops.toList ms ord x0) (T : ∀ (q i : Nat), ord[q]? = some i → jdE P X callF roundF ops.toList ms bs i (S q) = some (S (q + 1))) {m0 : Nat × Mem} (hS0 : (S 0).2 = (m0.2, [m0])) (h0 : (S 0).1 = r0) (hbs : μ0.next ≤ bs) (hr0 : Rel J0 μ0 w0) {n : Nat} {Q : Exit → Act → World → Prop}
  (hQ : ∀ J a w, Rel J (S ops.size).2.1 w → RgRel J rd (S ops.size).1 a → Step J0 μ0 w0 J (S ops.size).2.1 w → Q .normal a w) :
  ∀ (fuel : Nat) (listed : Array Bool), listed.size = ops.size → ops.size ≤ fuel + listed.toList.countP id → (∀ b c, x0 = some (b, c) → listed.getD b false = true) → ∀ J a w p, Inv P ops ms ord bs S J0 μ0 w0 rd r0 (fun i => listed.getD i false = true) J a w p →
   wpAnyIn (fen rd) n P .any ops Q fuel listed a w := by
 have hdone : ∀ (listed : Array Bool), (∀ i, i < ops.size → listed.getD i false = true) → ∀ J a w p, Inv P ops ms ord bs S J0 μ0 w0 rd r0 (fun i => listed.getD i false = true) J a w p → Q .normal a w := by
  intro listed hall J a w p I
  obtain ⟨g1, g2, _, _⟩ := I.adv D T hbs (ops.size - p) (by have := I.hp; omega) fun q i _ _ hi => hall i (by have := D.lt i (List.mem_of_getElem? hi); simpa using this)
  rw [show p + (ops.size - p) = ops.size by have := I.hp; omega] at g1 g2
  obtain ⟨k1, k2, k3⟩ := jgi D T ops.size (Nat.le_refl _)
  refine hQ J a w g1 ⟨by rw [I.size, k1, h0], fun d => ?_, by rw [k2, h0]; exact I.marks, by rw [k3, h0]; exact I.rdr⟩ g2
  exact I.regs d ops.size (Nat.le_refl _) fun q' i o hi ho hd => ⟨fun _ => je7 D hi, fun _ => hall i (Array.getElem?_eq_some_iff.1 ho).1⟩
 have hready : ∀ (listed : Array Bool), listed.size = ops.size → ∀ i ∈ Region.ready .any ops listed, (∀ b c, x0 = some (b, c) → listed.getD b false = true) → (∀ i j, i < ops.size → bef ms i j = true → listed.getD j false = true → listed.getD i false = true) →
   ¬ listed.getD i false = true ∧ i < ops.size ∧ ∀ k, k < ops.size → bef ms k i = true → listed.getD k false = true := by
  intro listed hls i hi hxx hdown
  obtain ⟨h1, o, ho, h2⟩ := mem_ready.1 hi
  have hlt : i < ops.size := (Array.getElem?_eq_some_iff.1 ho).1
  refine ⟨fun h => ?_, hlt, fun k hk hb => ?_⟩
  ·have : i < listed.size := by omega
   simp [Array.getD, this] at h h1
   rw [h] at h1; cases h1
  ·rcases D.conv i o (by simpa using ho) k (by simpa using hk) hb with ⟨b, hx1, hx2⟩ | ⟨e, he, hbd, hor⟩
   ·have he' := hxx b i hx1
    rcases hx2 with rfl | hor
    ·exact he'
    ·exact hdown k b hk hor he'
   ·have he' := h2 e he hbd
    rcases hor with rfl | hor
    ·exact he'
    ·exact hdown k e.on hk hor he'
 have hnone : ∀ (listed : Array Bool), listed.size = ops.size → Region.ready .any ops listed = [] → ∀ i, i < ops.size → listed.getD i false = true := by
  intro listed hls hr
  have : ∀ (q i : Nat), ord[q]? = some i → listed.getD i false = true := by
   intro q
   induction q using Nat.strongRecOn with
   | _ q ih =>
     intro i hi
     cases hli : listed.getD i false with
     | true => rfl
     | false =>
       exfalso
       have hlt : i < ops.size := by have := D.lt i (List.mem_of_getElem? hi); simpa using this
       have hm : i ∈ Region.ready .any ops listed := mem_ready.2 ⟨by
         have : i < listed.size := by omega
         simp [Array.getD, this] at hli ⊢
         exact hli, ops[i], Array.getElem?_eq_getElem hlt, fun e he hb => by
         have hbf := D.aft i ops[i] (by simp [hlt]) e he hb
         obtain ⟨k, hk, hk2⟩ := D.pre q i hi e.on (D.on i ops[i] (by simp [hlt]) e he hb) hbf
         exact ih k hk e.on hk2⟩
       rw [hr] at hm
       cases hm
  intro i hi
  obtain ⟨q, hq⟩ := pos_of D hi
  exact this q i hq
 intro fuel
 induction fuel with
 | zero =>
   intro listed hls hcnt hxx J a w p I
   have hall : ∀ i, i < ops.size → listed.getD i false = true := fun i hi => all_set (by omega) (by omega)
   refine ⟨?_, hdone listed hall J a w p I⟩
   cases hr : Region.ready .any ops listed with
   | nil => rfl
   | cons i l =>
     obtain ⟨h1, h2, _⟩ := hready listed hls i (by rw [hr]; simp) hxx fun i j hi hb hj => I.down i j hi hb hj
     exact absurd (hall i h2) h1
 | succ fuel ih =>
   intro listed hls hcnt hxx J a w p I
   refine ⟨fun hr => hdone listed (hnone listed hls hr) J a w p I, fun i hi => ?_⟩
   obtain ⟨h1, h2, h3⟩ := hready listed hls i hi hxx fun i j hi hb hj => I.down i j hi hb hj
   obtain ⟨q, hq⟩ := pos_of D h2
   have hun : listed.getD i true = false := (mem_ready.1 hi).1
   refine op_turn hN hX hF hR D T hS0 I h0 hbs hr0 hq h1 h3 fun J' a' w' p' I' => ih (listed.setIfInBounds i true) (by simpa using hls) ?_ (fun b c e => (jiG (by omega)).2 (.inl (hxx b c e))) J' a' w' p' ?_
   ·rw [cnt_set hun]; omega
   ·have e : (fun j => (listed.setIfInBounds i true).getD j false = true) = more (fun j => listed.getD j false = true) i := by
     funext j
     exact propext (jiG (by omega))
    rw [e]
    exact I'
end dr
end
end Go.Proofs.YtnafmgiaifbhgaaGreatDoor.Ev
