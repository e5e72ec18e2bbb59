/-
  The evaluator, part Za: code.
-/
import Derived.Test.YtohkikbhgcgmfaaGreatDoorEvY2
import Derived.Test.YtohkikbhgcgmfaaGreatDoorEvYc
import Derived.Test.YtohkikbhgcgmfaaGreatDoorEvZl
set_option linter.unusedSimpArgs false
set_option linter.unusedVariables false
namespace Go.Proofs.YtohkikbhgcgmfaaGreatDoor.Ev
noncomputable section
variable {P : Program}
def LoopOk (P : Program) (ev : Code → Rg → Mem → Option (Ax × Rg × Mem)) (k : Nat) : Prop :=
 ∀ c r μ x r' μ', ev (.loop c) r μ = some (x, r', μ') → ∀ J a w rd n (Q : Exit → Act → World → Prop), Rel J μ w → Base P J → RgRel J rd r a →
  (∀ J' a' w', Rel J' μ' w' → RgRel J' rd r' a' → Step J μ w J' μ' w' → Q (toExit x) a' w') → Code.roundsIn (fen rd) n P c Q k a w
theorem code_ok {X : FuncId → List Value → Mem → Option (Value × Mem)} (hN : Named P) (hX : XOk P X) (hm : P.follows .mixedOrders = true) {S : List (FuncId × LK)} (hS : SumsOk P S) : ∀ k, EvOk P (aCode P X S k) ∧ LoopOk P (aCode P X S k) k := by
 intro k
 induction k with
 | zero => exact ⟨fun c r μ x r' μ' h => by simp [aCode_zero] at h, fun c r μ x r' μ' h => by simp [aCode_zero] at h⟩
 | succ k ih =>
   obtain ⟨ihE, ihL⟩ := ih
   have hF := calls_ok ihE hS
   have hRo := round_ok ihE
   have loop : LoopOk P (aCode P X S (k + 1)) (k + 1) := by
    intro c r μ x r' μ' h J a w rd n Q hr hB hg hk
    simp only [aCode_succ, aStep] at h
    rw [roundsIn_succ]
    split at h
    ·rename_i r1 μ1 h1
     refine ihE c r μ _ r1 μ1 h1 J a w rd n _ hr hB hg fun J1 a1 w1 g1 g2 g3 => ?_
     exact ihL c r1 μ1 x r' μ' h J1 a1 w1 rd n Q g1 (hB.mono g3.ext) g2 fun J2 a2 w2 k1 k2 k3 => hk J2 a2 w2 k1 k2 (g3.trans hr k3)
    ·rename_i hno
     refine ihE c r μ x r' μ' h J a w rd n _ hr hB hg fun J1 a1 w1 g1 g2 g3 => ?_
     have := hk J1 a1 w1 g1 g2 g3
     cases x with
     | normal => exact absurd h (hno r' μ')
     | exit id => exact this
     | ret => exact this
   refine ⟨?_, loop⟩
   intro c r μ x r' μ' h J a w rd n Q hr hB hg hk
   cases c with
   | loop c => exact wpIn_loop_rounds (k + 1) (loop c r μ x r' μ' h J a w rd n Q hr hB hg hk)
   | skip => simp only [aCode_succ, aStep] at h; cases h; exact wpIn_skip (hk J a w hr hg (Step.refl _ _ _))
   | label l => simp only [aCode_succ, aStep] at h; cases h; exact wpIn_label (hk J a w hr hg (Step.refl _ _ _))
   | ret => simp only [aCode_succ, aStep] at h; cases h; exact wpIn_ret (hk J a w hr hg (Step.refl _ _ _))
   | exit id => simp only [aCode_succ, aStep] at h; cases h; exact wpIn_exit (hk J a w hr hg (Step.refl _ _ _))
   | region id ops draw =>
     cases draw with
     | false =>
       simp only [aCode_succ, aStep, aOpsQ_eq] at h
       split at h
       ·rename_i r1 μ1 h1
        cases h
        exact wpIn_region_list (aOps_sound hN hX hF hRo ops.toList r μ r' μ' h1 J a w hr hB hg hk)
       ·cases h
     | true =>
       simp only [aCode_succ, aStep] at h
       split at h
       ·exact split_sound hN hX hF hRo hm h hr hB hg hk
       ·rename_i hd
        split at h
        ·rename_i r1 μ1 sn h1
         cases h
         exact draw_sound hN hX hF hRo hm hd h1 hr hB hg hk
        ·cases h
   | seq c d =>
     simp only [aCode_succ, aStep] at h
     refine wpIn_seq ?_
     split at h
     ·rename_i r1 μ1 h1
      refine ihE c r μ _ r1 μ1 h1 J a w rd n _ hr hB hg fun J1 a1 w1 g1 g2 g3 => ?_
      exact ihE d r1 μ1 x r' μ' h J1 a1 w1 rd n Q g1 (hB.mono g3.ext) g2 fun J2 a2 w2 k1 k2 k3 => hk J2 a2 w2 k1 k2 (g3.trans hr k3)
     ·rename_i hno
      refine ihE c r μ x r' μ' h J a w rd n _ hr hB hg fun J1 a1 w1 g1 g2 g3 => ?_
      have := hk J1 a1 w1 g1 g2 g3
      cases x with
      | normal => exact absurd h (hno r' μ')
      | exit id => exact this
      | ret => exact this
   | cond o c d =>
     simp only [aCode_succ, aStep] at h
     have hv : VRel J (aev P r o) (a.eval o) := aev_rel hB fun d _ => hg.regs d
     split at h
     ·rename_i e
      rw [e] at hv
      exact wpIn_cond_true (bool_inv hv) (ihE c r μ x r' μ' h J a w rd n Q hr hB hg hk)
     ·rename_i e
      rw [e] at hv
      exact wpIn_cond_false (bool_inv hv) (ihE d r μ x r' μ' h J a w rd n Q hr hB hg hk)
     ·cases h
   | block id c =>
     simp only [aCode_succ, aStep] at h
     refine wpIn_block ?_
     split at h
     ·rename_i id' r1 μ1 h1
      split at h
      ·rename_i hid
       cases h
       refine ihE c r μ _ r' μ' h1 J a w rd n _ hr hB hg fun J1 a1 w1 g1 g2 g3 => ?_
       have e : id' = id := Nat.eq_of_beq_eq_true hid
       subst e
       simp only [toExit, Exit.inBlock, if_true]
       exact hk J1 a1 w1 g1 g2 g3
      ·rename_i hid
       cases h
       refine ihE c r μ _ r' μ' h1 J a w rd n _ hr hB hg fun J1 a1 w1 g1 g2 g3 => ?_
       have e : id' ≠ id := Nat.ne_of_beq_eq_false hid
       simp only [toExit, Exit.inBlock, if_neg e]
       exact hk J1 a1 w1 g1 g2 g3
     ·rename_i hno
      refine ihE c r μ x r' μ' h J a w rd n _ hr hB hg fun J1 a1 w1 g1 g2 g3 => ?_
      have := hk J1 a1 w1 g1 g2 g3
      cases x with
      | exit id' => exact absurd h (hno id' r' μ')
      | normal => exact this
      | ret => exact this
   | rangeFunc f ps asg body =>
     simp only [aCode_succ, aStep] at h
     exact range_ok hN ihE h hr hB hg hk
   | _ => simp [aCode_succ, aStep] at h
end
end Go.Proofs.YtohkikbhgcgmfaaGreatDoor.Ev
