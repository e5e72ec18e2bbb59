/-
  The evaluator, part Za: code.
-/
import Derived.Test.YthldbloahpfchaaGreatDoorEvY2
import Derived.Test.YthldbloahpfchaaGreatDoorEvYc
set_option linter.unusedSimpArgs false
set_option linter.unusedVariables false
namespace Go.Proofs.YthldbloahpfchaaGreatDoor.Ev
noncomputable section
variable {P : Program}

/-- what is left behind: every block that lay there lies there as it was -/
structure Same (W W' : World) : Prop where
  os : W'.os = W.os
  output : W'.output = W.output
  size : W.heap.size ≤ W'.heap.size
  heap : ∀ b : Nat, b < W.heap.size → W'.heap[b]? = W.heap[b]?
  tape : W'.tape = W.tape

/-- functions without arguments that return true and leave all as it was, where some arrays are laid -/
structure SumsOk (P : Program) (S : List FuncId × List (Nat × List Value × TypeId)) : Prop where
  lt : ∀ x ∈ S.2, x.1 < P.globals.size
  calls : ∀ g ∈ S.1, ∀ (w : World) (n : Nat) (R : Ending → World → Prop), (∀ x ∈ S.2, w.heap[x.1]? = some (.cells x.2.1.toArray x.2.2 (0, 0))) → (∀ w', Same w w' → R (.returned (.bool true)) w') → CallsIn Fence.wide n P g #[] w R

theorem SumsOk.none (P : Program) : SumsOk P ([], []) := ⟨fun x h => (by cases h), fun g h => (by cases h)⟩

theorem romKept_heap {J : Nat → Loc} {μ : Mem} {w : World} (hr : Rel J μ w) (hB : Base P J) {roms : List (Nat × List Value × TypeId)} (hlt : ∀ x ∈ roms, x.1 < P.globals.size) (hk : romKept μ roms = true) :
    ∀ x ∈ roms, w.heap[x.1]? = some (.cells x.2.1.toArray x.2.2 (0, 0)) := by
  intro x hx
  have := List.all_eq_true.1 hk x hx
  split at this
  · rename_i l t hob
    simp only [Bool.and_eq_true] at this
    have e1 : l = x.2.1 := veqs_eq (veq_eq 5) _ _ this.1
    have e2 : t = x.2.2 := Nat.eq_of_beq_eq_true this.2
    subst e1 e2
    obtain ⟨b, s, hb, hc, _⟩ := hr.obj _ _ hob (by simp)
    rcases hB.glob x.1 (hlt x hx) with ⟨s2, e⟩ | e
    · rw [e] at hb; cases hb; exact hc
    · rw [e] at hb; cases hb
  · cases this

theorem calls_ok {ev : Code → Rg → Mem → Option (Ax × Rg × Mem)} {S : List FuncId × List (Nat × List Value × TypeId)} (hE : EvOk P ev) (hS : SumsOk P S) : FunOk P (aCallS P ev S) := by
  intro g args μ v μ' h J w args' hr hB ha n R hR
  unfold aCallS at h
  split at h
  · rename_i hg
    split at h
    · split at h
      · rename_i hk
        cases h
        have hgm : g ∈ S.1 := by simpa using hg
        have hargs : args' = #[] := by
          have := ha.size
          simp at this
          exact Array.eq_empty_of_size_eq_zero this.symm
        subst hargs
        refine hS.calls g hgm w n R (romKept_heap hr hB hS.lt hk) fun w' hs => hR J (.bool true) w' (.bool true) ?_ ?_
        · exact ⟨hr.inj, fun i b s e => Nat.lt_of_lt_of_le (hr.bnd i b s e) hs.size, hr.fresh, fun i o ho hd => by
            obtain ⟨b, s, hb, hob⟩ := hr.obj i o ho hd
            exact ⟨b, s, hb, hob.keep (Ext.refl J) (hs.heap b (hr.bnd i b s hb))⟩⟩
        · exact ⟨fun i b s e => .inl e, fun i e => e, fun i _ e => e, fun i b s e e2 => (by rw [e] at e2; cases e2), Nat.le_refl _, fun i _ hg => hg, hs.size, fun b hb _ => hs.heap b hb, hs.os, hs.tape, hs.output⟩
      · cases h
    · cases h
  · exact fun_ok hE g args μ v μ' h J w args' hr hB ha n R hR

def LoopOk (P : Program) (ev : Code → Rg → Mem → Option (Ax × Rg × Mem)) (k : Nat) : Prop :=
  ∀ c r μ x r' μ', ev (.loop c) r μ = some (x, r', μ') → ∀ J a w rd n (Q : Exit → Act → World → Prop), Rel J μ w → Base P J → RgRel J rd r a →
    (∀ J' a' w', Rel J' μ' w' → RgRel J' rd r' a' → Step J μ w J' μ' w' → Q (toExit x) a' w') → Code.roundsIn (fen rd) n P c Q k a w

theorem code_ok {X : FuncId → List Value → Mem → Option (Value × Mem)} (hN : Named P) (hX : XOk P X) (hm : P.follows .mixedOrders = true) {S : List FuncId × List (Nat × List Value × TypeId)} (hS : SumsOk P S) : ∀ k, EvOk P (aCode P X S k) ∧ LoopOk P (aCode P X S k) k := by
  intro k
  induction k with
  | zero => exact ⟨fun c r μ x r' μ' h => by simp [aCode_zero] at h, fun c r μ x r' μ' h => by simp [aCode_zero] at h⟩
  | succ k ih =>
    obtain ⟨ihE, ihL⟩ := ih
    have hF := calls_ok ihE hS
    have hRo := round_ok ihE
    have loop : LoopOk P (aCode P X S (k + 1)) (k + 1) := by
      intro c r μ x r' μ' h J a w rd n Q hr hB hg hk
      simp only [aCode_succ, aStep] at h
      rw [roundsIn_succ]
      split at h
      · rename_i r1 μ1 h1
        refine ihE c r μ _ r1 μ1 h1 J a w rd n _ hr hB hg fun J1 a1 w1 g1 g2 g3 => ?_
        exact ihL c r1 μ1 x r' μ' h J1 a1 w1 rd n Q g1 (hB.mono g3.ext) g2 fun J2 a2 w2 k1 k2 k3 => hk J2 a2 w2 k1 k2 (g3.trans hr k3)
      · rename_i hno
        refine ihE c r μ x r' μ' h J a w rd n _ hr hB hg fun J1 a1 w1 g1 g2 g3 => ?_
        have := hk J1 a1 w1 g1 g2 g3
        cases x with
        | normal => exact absurd h (hno r' μ')
        | exit id => exact this
        | ret => exact this
    refine ⟨?_, loop⟩
    intro c r μ x r' μ' h J a w rd n Q hr hB hg hk
    cases c with
    | loop c => exact wpIn_loop_rounds (k + 1) (loop c r μ x r' μ' h J a w rd n Q hr hB hg hk)
    | skip => simp only [aCode_succ, aStep] at h; cases h; exact wpIn_skip (hk J a w hr hg (Step.refl _ _ _))
    | label l => simp only [aCode_succ, aStep] at h; cases h; exact wpIn_label (hk J a w hr hg (Step.refl _ _ _))
    | ret => simp only [aCode_succ, aStep] at h; cases h; exact wpIn_ret (hk J a w hr hg (Step.refl _ _ _))
    | exit id => simp only [aCode_succ, aStep] at h; cases h; exact wpIn_exit (hk J a w hr hg (Step.refl _ _ _))
    | region id ops draw =>
      cases draw with
      | false =>
        simp only [aCode_succ, aStep, aOpsQ_eq] at h
        split at h
        · rename_i r1 μ1 h1
          cases h
          exact wpIn_region_list (aOps_sound hN hX hF hRo ops.toList r μ r' μ' h1 J a w hr hB hg hk)
        · cases h
      | true =>
        simp only [aCode_succ, aStep] at h
        split at h
        · exact split_sound hN hX hF hRo hm h hr hB hg hk
        · rename_i hd
          split at h
          · rename_i r1 μ1 sn h1
            cases h
            exact draw_sound hN hX hF hRo hm hd h1 hr hB hg hk
          · cases h
    | seq c d =>
      simp only [aCode_succ, aStep] at h
      refine wpIn_seq ?_
      split at h
      · rename_i r1 μ1 h1
        refine ihE c r μ _ r1 μ1 h1 J a w rd n _ hr hB hg fun J1 a1 w1 g1 g2 g3 => ?_
        exact ihE d r1 μ1 x r' μ' h J1 a1 w1 rd n Q g1 (hB.mono g3.ext) g2 fun J2 a2 w2 k1 k2 k3 => hk J2 a2 w2 k1 k2 (g3.trans hr k3)
      · rename_i hno
        refine ihE c r μ x r' μ' h J a w rd n _ hr hB hg fun J1 a1 w1 g1 g2 g3 => ?_
        have := hk J1 a1 w1 g1 g2 g3
        cases x with
        | normal => exact absurd h (hno r' μ')
        | exit id => exact this
        | ret => exact this
    | cond o c d =>
      simp only [aCode_succ, aStep] at h
      have hv : VRel J (aev P r o) (a.eval o) := aev_rel hB fun d _ => hg.regs d
      split at h
      · rename_i e
        rw [e] at hv
        exact wpIn_cond_true (bool_inv hv) (ihE c r μ x r' μ' h J a w rd n Q hr hB hg hk)
      · rename_i e
        rw [e] at hv
        exact wpIn_cond_false (bool_inv hv) (ihE d r μ x r' μ' h J a w rd n Q hr hB hg hk)
      · cases h
    | block id c =>
      simp only [aCode_succ, aStep] at h
      refine wpIn_block ?_
      split at h
      · rename_i id' r1 μ1 h1
        split at h
        · rename_i hid
          cases h
          refine ihE c r μ _ r' μ' h1 J a w rd n _ hr hB hg fun J1 a1 w1 g1 g2 g3 => ?_
          have e : id' = id := Nat.eq_of_beq_eq_true hid
          subst e
          simp only [toExit, Exit.inBlock, if_true]
          exact hk J1 a1 w1 g1 g2 g3
        · rename_i hid
          cases h
          refine ihE c r μ _ r' μ' h1 J a w rd n _ hr hB hg fun J1 a1 w1 g1 g2 g3 => ?_
          have e : id' ≠ id := Nat.ne_of_beq_eq_false hid
          simp only [toExit, Exit.inBlock, if_neg e]
          exact hk J1 a1 w1 g1 g2 g3
      · rename_i hno
        refine ihE c r μ x r' μ' h J a w rd n _ hr hB hg fun J1 a1 w1 g1 g2 g3 => ?_
        have := hk J1 a1 w1 g1 g2 g3
        cases x with
        | exit id' => exact absurd h (hno id' r' μ')
        | normal => exact this
        | ret => exact this
    | rangeFunc f ps asg body =>
      simp only [aCode_succ, aStep] at h
      exact range_ok hN ihE h hr hB hg hk
    | _ => simp [aCode_succ, aStep] at h

/-- a call, run out -/
theorem runs {X : FuncId → List Value → Mem → Option (Value × Mem)} (hN : Named P) (hX : XOk P X) (hm : P.follows .mixedOrders = true) {S : List FuncId × List (Nat × List Value × TypeId)} (hS : SumsOk P S) {k : Nat} {g : FuncId} {args : List Value} {μ μ' : Mem} {v : Value}
    (h : aFun P (aCode P X S k) g args μ = some (v, μ')) {J : Nat → Loc} {w : World} {args' : Array Value} (hr : Rel J μ w) (hB : Base P J) (ha : ARel J args.toArray args') {R : Ending → World → Prop}
    (hR : ∀ J' v' w', VRel J' v v' → Rel J' μ' w' → Step J μ w J' μ' w' → R (.returned v') w') : Calls P g args' w R :=
  callsIn_wide.1 (fun_ok (code_ok hN hX hm hS k).1 g args μ v μ' h J w args' hr hB ha 0 R hR)
end
end Go.Proofs.YthldbloahpfchaaGreatDoor.Ev
