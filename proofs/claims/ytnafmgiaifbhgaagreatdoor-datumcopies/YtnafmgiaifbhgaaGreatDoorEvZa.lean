/-
  The evaluator, part Za: code.
-/
import Derived.Test.YtnafmgiaifbhgaaGreatDoorEvY2
import Derived.Test.YtnafmgiaifbhgaaGreatDoorEvY2
import Derived.Test.YtnafmgiaifbhgaaGreatDoorEvZl
import Derived.Scope
set_option linter.unusedSimpArgs false
set_option linter.unusedVariables false
namespace Go.Proofs.YtnafmgiaifbhgaaGreatDoor.Ev
noncomputable section
variable {P : Program}
def inScope (F : Fence) (n : Nat) (P : Program) (c : Code) (Q : Exit → Act → World → Prop) : Exit → Act → World → Prop
 | .goto l, a, w => ∃ rest, findLabel c l = some rest ∧ rest.wpIn F n P (Exit.noGoto Q) a w
 | e, a, w => Q e a w
theorem jb4 {P : Program} {b : Frame} {a : Act} {k : List Item} {cs : List Frame} {w : World} {c : Code} : step P (lone (b.atR a (.code (.scope c) :: k)) cs w) = .next (lone (b.atR a (.code c :: .inScope c :: k)) cs w) :=
 step_lone_go (by simp [stepG, stepG.exec, Frame.atR])
theorem jdX {P : Program} {b : Frame} {a : Act} {k : List Item} {cs : List Frame} {w : World} {c : Code} : step P (lone (b.atR a (.inScope c :: k)) cs w) = .next (lone (b.atR a k) cs w) :=
 step_lone_go (by simp [stepG, stepG.exec, Frame.atR])
theorem jdd {F : Fence} {n : Nat} {P : Program} {Q : Exit → Act → World → Prop} {a : Act} {w : World} {c : Code} (h : c.wpIn F n P (inScope F n P c Q) a w) : (Code.scope c).wpIn F n P Q a w := by
 intro b k cs hro hb hr
 have h0 : (lone (b.atR a (.code (.scope c) :: k)) cs w).fenced P F := fenced_calm hb hr rfl
 have hx : ∀ id, exitTo id (.inScope c :: k) = exitTo id k := fun id => by simp [exitTo]
 obtain ⟨e, a₁, w₁, hq, harr⟩ := h b (.inScope c :: k) cs hro hb hr
 cases e with
 | normal => exact ⟨.normal, a₁, w₁, hq, .head h0 jb4 (StepsIn.trans harr (.one (fenced_calm hb hr rfl) jdX))⟩
 | exit id => exact ⟨.exit id, a₁, w₁, hq, fun k' hk => .head h0 jb4 (harr.1 k' (by rw [hx]; exact hk)),
   fun hr' hk => let ⟨k₁, h1, h2⟩ := harr.2 hr' (by rw [hx]; exact hk); ⟨k₁, h1, .head h0 jb4 h2⟩⟩
 | goto l =>
   obtain ⟨rest, hf, hw⟩ := hq
   have hg : gotoIn l (.inScope c :: k) = some (.code rest :: .inScope c :: k) := by simp [gotoIn, hf]
   obtain ⟨e₂, a₂, w₂, hq₂, harr₂⟩ := hw b (.inScope c :: k) cs hro hb hr
   have go : StepsIn (Machine.fenced P F) P (lone (b.atR a (.code (.scope c) :: k)) cs w) (lone (b.atR a₁ (.code rest :: .inScope c :: k)) cs w₁) := .head h0 jb4 (harr.1 _ hg)
   cases e₂ with
   | normal => exact ⟨.normal, a₂, w₂, hq₂, StepsIn.trans go (StepsIn.trans harr₂ (.one (fenced_calm hb hr rfl) jdX))⟩
   | exit id => exact ⟨.exit id, a₂, w₂, hq₂, fun k' hk => StepsIn.trans go (harr₂.1 k' (by rw [hx]; exact hk)),
     fun hr' hk => let ⟨k₁, h1, h2⟩ := harr₂.2 hr' (by rw [hx]; exact hk); ⟨k₁, h1, StepsIn.trans go h2⟩⟩
   | goto l => exact hq₂.elim
   | ret => exact ⟨_, a₂, w₂, hq₂, .of_steps go harr₂⟩
   | panic ch => exact ⟨_, a₂, w₂, hq₂, .of_steps go harr₂⟩
   | outgrown => exact ⟨_, a₂, w₂, hq₂, .of_steps go harr₂⟩
 | ret => exact ⟨_, a₁, w₁, hq, .of_steps (.one h0 jb4) harr⟩
 | panic ch => exact ⟨_, a₁, w₁, hq, .of_steps (.one h0 jb4) harr⟩
 | outgrown => exact ⟨_, a₁, w₁, hq, .of_steps (.one h0 jb4) harr⟩
def LoopOk (P : Program) (ev : Code → Rg → Mem → Option (Ax × Rg × Mem)) (k : Nat) : Prop :=
 ∀ c r μ x r' μ', ev (.loop c) r μ = some (x, r', μ') → ∀ J a w rd n (Q : Exit → Act → World → Prop), Rel J μ w → Base P J → RgRel J rd r a →
  (∀ J' a' w', Rel J' μ' w' → RgRel J' rd r' a' → Step J μ w J' μ' w' → Q (jeX x) a' w') → Code.roundsIn (fen rd) n P c Q k a w
theorem jia {X : FuncId → List Value → Mem → Option (Value × Mem)} (hN : jdc P) (hX : XOk P X) (hm : P.follows .mixedOrders = true) {S : List (FuncId × LK)} (hS : SumsOk P S) : ∀ k, EvOk P (jao P X S k) ∧ LoopOk P (jao P X S k) k := by
 intro k
 induction k with
 | zero => exact ⟨fun c r μ x r' μ' h => by simp [jf7] at h, fun c r μ x r' μ' h => by simp [jf7] at h⟩
 | succ k ih =>
   obtain ⟨ihE, ihL⟩ := ih
   have hF := calls_ok ihE hS
   have hRo := round_ok ihE
   have loop : LoopOk P (jao P X S (k + 1)) (k + 1) := by
    intro c r μ x r' μ' h J a w rd n Q hr hB hg hk
    simp only [jaJ, jbG] at h
    rw [roundsIn_succ]
    split at h
    ·rename_i r1 μ1 h1
     refine ihE c r μ _ r1 μ1 h1 J a w rd n _ hr hB hg fun J1 a1 w1 g1 g2 g3 => ?_
     exact ihL c r1 μ1 x r' μ' h J1 a1 w1 rd n Q g1 (hB.mono g3.ext) g2 fun J2 a2 w2 k1 k2 k3 => hk J2 a2 w2 k1 k2 (g3.trans hr k3)
    ·rename_i hno
     refine ihE c r μ x r' μ' h J a w rd n _ hr hB hg fun J1 a1 w1 g1 g2 g3 => ?_
     have := hk J1 a1 w1 g1 g2 g3
     cases x with
     | normal => exact absurd h (hno r' μ')
     | exit id => exact this
     | ret => exact this
     | goto l => exact this
   refine ⟨?_, loop⟩
   intro c r μ x r' μ' h J a w rd n Q hr hB hg hk
   cases c with
   | loop c => exact wpIn_loop_rounds (k + 1) (loop c r μ x r' μ' h J a w rd n Q hr hB hg hk)
   | skip => simp only [jaJ, jbG] at h; cases h; exact wpIn_skip (hk J a w hr hg (Step.refl _ _ _))
   | label l => simp only [jaJ, jbG] at h; cases h; exact wpIn_label (hk J a w hr hg (Step.refl _ _ _))
   | ret => simp only [jaJ, jbG] at h; cases h; exact wpIn_ret (hk J a w hr hg (Step.refl _ _ _))
   | exit id => simp only [jaJ, jbG] at h; cases h; exact wpIn_exit (hk J a w hr hg (Step.refl _ _ _))
   | goto l => simp only [jaJ, jbG] at h; cases h; exact wpIn_goto (hk J a w hr hg (Step.refl _ _ _))
   | scope c =>
     simp only [jaJ, jbG] at h
     split at h
     ·rename_i l r1 μ1 h1
      split at h
      ·rename_i rest hf
       refine jdd ?_
       refine ihE c r μ _ r1 μ1 h1 J a w rd n _ hr hB hg fun J1 a1 w1 g1 g2 g3 => ?_
       refine ⟨rest, hf, ?_⟩
       split at h
       ·cases h
       ·rename_i hno
        refine ihE rest r1 μ1 x r' μ' h J1 a1 w1 rd n _ g1 (hB.mono g3.ext) g2 fun J2 a2 w2 k1 k2 k3 => ?_
        have := hk J2 a2 w2 k1 k2 (g3.trans hr k3)
        cases x with
        | normal => exact this
        | exit id => exact this
        | ret => exact this
        | goto l => exact absurd h (hno l r' μ')
      ·cases h
     ·rename_i hno
      refine jdd ?_
      refine ihE c r μ x r' μ' h J a w rd n _ hr hB hg fun J1 a1 w1 g1 g2 g3 => ?_
      have := hk J1 a1 w1 g1 g2 g3
      cases x with
      | normal => exact this
      | exit id => exact this
      | ret => exact this
      | goto l => exact absurd h (hno l r' μ')
   | region id ops draw =>
     cases draw with
     | false =>
       simp only [jaJ, jbG, jgA] at h
       split at h
       ·rename_i r1 μ1 h1
        cases h
        exact wpIn_region_list (jjO hN hX hF hRo ops.toList r μ r' μ' h1 J a w hr hB hg hk)
       ·cases h
     | true =>
       simp only [jaJ, jbG] at h
       split at h
       ·cases h
       ·rename_i hd
        split at h
        ·rename_i r1 μ1 sn h1
         cases h
         exact jjy hN hX hF hRo hm hd h1 hr hB hg hk
        ·cases h
   | seq c d =>
     simp only [jaJ, jbG] at h
     refine wpIn_seq ?_
     split at h
     ·rename_i r1 μ1 h1
      refine ihE c r μ _ r1 μ1 h1 J a w rd n _ hr hB hg fun J1 a1 w1 g1 g2 g3 => ?_
      exact ihE d r1 μ1 x r' μ' h J1 a1 w1 rd n Q g1 (hB.mono g3.ext) g2 fun J2 a2 w2 k1 k2 k3 => hk J2 a2 w2 k1 k2 (g3.trans hr k3)
     ·rename_i hno
      refine ihE c r μ x r' μ' h J a w rd n _ hr hB hg fun J1 a1 w1 g1 g2 g3 => ?_
      have := hk J1 a1 w1 g1 g2 g3
      cases x with
      | normal => exact absurd h (hno r' μ')
      | exit id => exact this
      | ret => exact this
      | goto l => exact this
   | cond o c d =>
     simp only [jaJ, jbG] at h
     have hv : VRel J (aev P r o) (a.eval o) := jgx hB fun d _ => hg.regs d
     split at h
     ·rename_i e
      rw [e] at hv
      exact wpIn_cond_true (jec hv) (ihE c r μ x r' μ' h J a w rd n Q hr hB hg hk)
     ·rename_i e
      rw [e] at hv
      exact wpIn_cond_false (jec hv) (ihE d r μ x r' μ' h J a w rd n Q hr hB hg hk)
     ·cases h
   | block id c =>
     simp only [jaJ, jbG] at h
     refine wpIn_block ?_
     split at h
     ·rename_i id' r1 μ1 h1
      split at h
      ·rename_i hid
       cases h
       refine ihE c r μ _ r' μ' h1 J a w rd n _ hr hB hg fun J1 a1 w1 g1 g2 g3 => ?_
       have e : id' = id := Nat.eq_of_beq_eq_true hid
       subst e
       simp only [jeX, Exit.inBlock, if_true]
       exact hk J1 a1 w1 g1 g2 g3
      ·rename_i hid
       cases h
       refine ihE c r μ _ r' μ' h1 J a w rd n _ hr hB hg fun J1 a1 w1 g1 g2 g3 => ?_
       have e : id' ≠ id := Nat.ne_of_beq_eq_false hid
       simp only [jeX, Exit.inBlock, if_neg e]
       exact hk J1 a1 w1 g1 g2 g3
     ·rename_i hno
      refine ihE c r μ x r' μ' h J a w rd n _ hr hB hg fun J1 a1 w1 g1 g2 g3 => ?_
      have := hk J1 a1 w1 g1 g2 g3
      cases x with
      | exit id' => exact absurd h (hno id' r' μ')
      | normal => exact this
      | ret => exact this
      | goto l => exact this
   | rangeFunc f ps asg body =>
     simp only [jaJ, jbG] at h
     exact range_ok hN ihE h hr hB hg hk
   | _ => simp [jaJ, jbG] at h
end
end Go.Proofs.YtnafmgiaifbhgaaGreatDoor.Ev
