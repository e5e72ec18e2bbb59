/-
  The evaluator, part U: one operation; a region in its written order.
-/
import Derived.Test.YtnafmgiaifbhgaaGreatDoorEvT
import Derived.TacticsIn
set_option linter.unusedSimpArgs false
set_option linter.unusedVariables false
namespace Go.Proofs.YtnafmgiaifbhgaaGreatDoor.Ev
noncomputable section
variable {P : Program} {J : Nat → Loc}
theorem Makes.turn {ρ' : Operand → Value} {o : Oper} {ob : Ob} {mk : Nat → Value} {w : World} {o' : Obj} {s : Nat} {v' : Value} {w' : World} (h : Makes P J ρ' o ob mk w o' s v' w') {μ : Mem} (hr : Rel J μ w)
  {i nx : Nat} (hu : μ.next ≤ i) (hi : i < nx) (hnx : μ.next ≤ nx) : Step J μ w (upd J i (.at w.heap.size s)) ⟨μ.obs.set i ob, nx⟩ w' := by
 have st := Step.alloc hr s ob o' hu hi hnx
 have e : w'.heap = (w.alloc o').heap := by rw [h.heap]; rfl
 exact ⟨st.at_, st.dead, st.unborn, st.born, st.next, st.gone_, by rw [e]; exact st.size, fun b hb ha => by rw [e]; exact st.frame b hb ha, h.os, h.tape, h.output⟩
section
variable {X : FuncId → List Value → Mem → Option (Value × Mem)} {callF : FuncId → List Value → Mem → Option (Value × Mem)} {roundF : Nat → List Value → Mem → Option (Value × Mem)}
open Classical in
def lim (o : Oper) (ρ : Operand → Value) : Operand → Value := fun x => if x ∈ o.op.operands then ρ x else .chan none
theorem jg7 {o : Oper} {ρ : Operand → Value} : ∀ x ∈ o.op.operands, ρ x = lim o ρ x := fun x hx => by simp [lim, hx]
theorem jfc {o : Oper} {ρ ρ' : Operand → Value} (h : ∀ x ∈ o.op.operands, VRel J (ρ x) (ρ' x)) : ∀ x, VRel J (lim o ρ x) (ρ' x) := fun x => by
 unfold lim
 split
 ·rename_i hx; exact h x hx
 ·exact .any _ _
theorem jjk {ρ : Operand → Value} {o : Oper} {v : Value} (h : aP P ρ o = some v) : ∀ c, o.op ≠ .defer c := fun c hc => by simp [aP, hc] at h
theorem jjj {μ : Mem} {ρ : Operand → Value} {o : Oper} {v : Value} (h : aR P μ ρ o = some v) : ∀ c, o.op ≠ .defer c := fun c hc => by simp [aR, hc] at h
theorem jfW {ρ : Operand → Value} {o : Oper} {v : Ob × (Nat → Value)} (h : aA P ρ o = some v) : ∀ c, o.op ≠ .defer c := fun c hc => by simp [aA, hc] at h
theorem jji {μ : Mem} {ρ : Operand → Value} {o : Oper} {v : Value × Mem} (h : aT P μ ρ o = some v) : ∀ c, o.op ≠ .defer c := fun c hc => by simp [aT, hc] at h
theorem jjl {μ : Mem} {ρ : Operand → Value} {o : Oper} {v : Value × Mem} (h : jew P X callF roundF ρ μ o = some v) : ∀ c, o.op ≠ .defer c := fun c hc => by simp [jew, hc] at h
section pieces
variable {rd : Option Nat} {ρ ρ' : Operand → Value} {o : Oper} {μ : Mem} {w : World}
theorem aP_fine (hρ : ∀ x ∈ o.op.operands, VRel J (ρ x) (ρ' x)) (hD : J P.globals.size = .dead) {v : Value} (h : aP P ρ o = some v) : ∃ v', VRel J v v' ∧ (o.semAt rd ρ').run P w = .ok (.value v') w := by
 rw [aP_congr (P := P) (jg7 (o := o) (ρ := ρ))] at h
 obtain ⟨v', h1, h2⟩ := aP_sound (jfc hρ) hD h
 exact ⟨v', h1, by rw [Oper.semAt_eq rd ρ' o (jjk h)]; exact h2 w⟩
theorem aR_fine (hρ : ∀ x ∈ o.op.operands, VRel J (ρ x) (ρ' x)) (hr : Rel J μ w) {v : Value} (h : aR P μ ρ o = some v) : ∃ v', VRel J v v' ∧ (o.semAt rd ρ').run P w = .ok (.value v') w := by
 rw [aR_congr (P := P) (jg7 (o := o) (ρ := ρ))] at h
 obtain ⟨v', h1, h2⟩ := aR_sound (jfc hρ) hr h
 exact ⟨v', h1, by rw [Oper.semAt_eq rd ρ' o (jjj h)]; exact h2⟩
theorem jiX (hρ : ∀ x ∈ o.op.operands, VRel J (ρ x) (ρ' x)) {ob : Ob} {mk : Nat → Value} (h : aA P ρ o = some (ob, mk)) : ∃ o' s v' w', Makes P J ρ' o ob mk w o' s v' w' := by
 rw [aA_congr (P := P) (jg7 (o := o) (ρ := ρ))] at h
 exact aA_sound (jfc hρ) h w
theorem aT_fine (hρ : ∀ x ∈ o.op.operands, VRel J (ρ x) (ρ' x)) (hr : Rel J μ w) {v : Value} {μ' : Mem} (h : aT P μ ρ o = some (v, μ')) : Fine P rd J μ w v μ' ((o.semAt rd ρ').run P w) := by
 rw [aT_congr (P := P) (jg7 (o := o) (ρ := ρ))] at h
 obtain ⟨J', v', w', h1, h2, h3, h4⟩ := aT_sound (jfc hρ) hr h
 rw [Oper.semAt_eq rd ρ' o (jji h)]
 rcases h1 with h1 | ⟨h1, rfl⟩
 ·rw [h1]; exact jcR h2 h3 h4
 ·rw [h1]; exact fun n o a next Q hk => hk J' _ w' h2 h3 h4
theorem aC_fine (hN : jdc P) (hX : XOk P X) (hF : jfC P callF) (hR : jc9 P roundF) (hρ : ∀ x ∈ o.op.operands, VRel J (ρ x) (ρ' x)) (hr : Rel J μ w) (hB : Base P J) {v : Value} {μ' : Mem} (h : jew P X callF roundF ρ μ o = some (v, μ')) : Fine P rd J μ w v μ' ((o.semAt rd ρ').run P w) := by
 rw [jim (P := P) (jg7 (o := o) (ρ := ρ))] at h
 rw [Oper.semAt_eq rd ρ' o (jjl h)]
 exact jjQ hN hX hF hR (jfc hρ) h hr hB
end pieces
theorem aOne_fine (hN : jdc P) (hX : XOk P X) (hF : jfC P callF) (hR : jc9 P roundF) {rd : Option Nat} {r : Rg} {μ μ' : Mem} {o : Oper} {v : Value} (h : aOne P X callF roundF r μ o = some (v, μ')) {w : World} {a : Act} (hr : Rel J μ w) (hB : Base P J)
  (hρ : ∀ x ∈ o.op.operands, VRel J (aev P r x) (a.eval x)) : Fine P rd J μ w v μ' ((o.semAt rd a.eval).run P w) := by
 unfold aOne at h
 split at h
 ·rename_i v1 e
  cases h
  obtain ⟨v', h1, h2⟩ := aP_fine (rd := rd) (w := w) hρ hB.stop e
  rw [h2]; exact jcR h1 hr (Step.refl _ _ _)
 ·split at h
  ·rename_i v1 e
   cases h
   obtain ⟨v', h1, h2⟩ := aR_fine (rd := rd) hρ hr e
   rw [h2]; exact jcR h1 hr (Step.refl _ _ _)
  ·split at h
   ·rename_i ob mk e
    cases h
    obtain ⟨o', s, v', w', hm⟩ := jiX (w := w) hρ e
    rw [Oper.semAt_eq rd a.eval o (jfW e), hm.run]
    obtain ⟨h1, h2⟩ := hm.step hr (hr.fresh _ (Nat.le_refl _)) (Nat.lt_succ_self _) (Nat.le_succ _)
    exact jcR h1 h2 (hm.turn hr (Nat.le_refl _) (Nat.lt_succ_self _) (Nat.le_succ _))
   ·split at h
    ·rename_i e
     cases h
     exact aT_fine hρ hr e
    ·exact aC_fine hN hX hF hR hρ hr hB h
theorem jjO (hN : jdc P) (hX : XOk P X) (hF : jfC P callF) (hR : jc9 P roundF) {rd : Option Nat} {n : Nat} {ops : Array Oper} {Q : Exit → Act → World → Prop} : ∀ (l : List Oper) (r : Rg) (μ : Mem) (r' : Rg) (μ' : Mem), aOps P X callF roundF ops.toList l r μ = some (r', μ') →
  ∀ (J : Nat → Loc) (a : Act) (w : World), Rel J μ w → Base P J → RgRel J rd r a →
   (∀ J' a' w', Rel J' μ' w' → RgRel J' rd r' a' → Step J μ w J' μ' w' → Q .normal a' w') → wpListIn (fen rd) n P ops Q l a w := by
 intro l
 induction l with
 | nil =>
   intro r μ r' μ' h J a w hr hB hg hk
   simp only [aOps] at h
   cases h
   exact hk J a w hr hg (Step.refl _ _ _)
 | cons o l ih =>
   intro r μ r' μ' h J a w hr hB hg hk
   simp only [aOps] at h
   simp only [wpListIn]
   split at h
   ·cases h
   ·rename_i hw
    rw [jei hg.size (fun j w oj d _ _ _ => hg.regs d) hw]
    simp only [Bool.false_eq_true, if_false]
    refine ⟨fun _ _ => trivial, ?_⟩
    split at h
    ·rename_i r1 hp
     exact ih r1 μ r' μ' h J _ w hr hB (hg.put hp jdV) hk
    ·cases h
   ·rename_i hw
    rw [jei hg.size (fun j w oj d _ _ _ => hg.regs d) hw]
    simp only [if_true]
    split at h
    ·cases h
    ·rename_i v μ1 hone
     split at h
     ·rename_i r1 hp
      refine ⟨fun _ _ => trivial, aOne_fine hN hX hF hR hone hr hB (fun x _ => jgx hB fun d _ => hg.regs d) n o a _ Q fun J1 v' w1 h1 h2 h3 => ?_⟩
      refine ih r1 μ1 r' μ' h J1 _ w1 h2 (hB.mono h3.ext) ((hg.mono h3.ext).put hp h1) fun J2 a2 w2 h4 h5 h6 => hk J2 a2 w2 h4 h5 (h3.trans hr h6)
     ·cases h
end
end
end Go.Proofs.YtnafmgiaifbhgaaGreatDoor.Ev
