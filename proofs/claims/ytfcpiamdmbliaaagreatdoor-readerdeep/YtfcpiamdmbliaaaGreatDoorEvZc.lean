/-
  The evaluator, part Zc: a run without arguments, nothing laid.
-/
import Derived.Test.YtfcpiamdmbliaaaGreatDoorEvZb
set_option linter.unusedSimpArgs false
set_option linter.unusedVariables false
namespace Go.Proofs.YtfcpiamdmbliaaaGreatDoor.Ev
noncomputable section
variable {P : Program}

def isTrue (x : Option (Value × Mem)) : Bool := match x with
  | some (.bool b, _) => b
  | _ => false

theorem named_of {P : Program} (h : (P.funcs.toList.all fun fn => !(fn.name == "runtime.NumGoroutine")) = true) : Named P := fun g fn hf => by
  have := List.all_eq_true.1 h fn (by simpa using Array.mem_of_getElem? hf)
  simpa using this

theorem Same.kept {W W' : World} (h : Same W W') (may : MemPlace → Prop) : W.keptBut W' may := by
  refine ⟨h.os, h.output, fun i hi => ?_⟩
  rw [h.heap i hi]
  cases W.heap[i]? with
  | none => rfl
  | some o => cases o <;> first | rfl | exact ⟨rfl, rfl, rfl, fun _ _ => rfl⟩ | exact .inr ⟨rfl, rfl⟩

/-- nothing is known of what lies there -/
def noneKnown (nx : Nat) : Nat → Loc := fun i => if i < nx then .dead else .unborn

theorem closed_run {X : FuncId → List Value → Mem → Option (Value × Mem)} (hN : Named P) (hX : XOk P X) (hm : P.follows .mixedOrders = true) {S : List (FuncId × LK)} (hS : SumsOk P S) {k : Nat} {g : FuncId} {nx : Nat} (hnx : P.globals.size < nx)
    (h : isTrue (aFun P (aCode P X S k) g [] ⟨.e, nx⟩) = true) (W : World) : Calls P g #[] W fun e W' => e = .returned (.bool true) ∧ Same W W' := by
  unfold isTrue at h
  split at h
  · rename_i b μ' hrun
    subst h
    have hnone : ∀ i b s, noneKnown nx i ≠ .at b s := fun i b s e => by unfold noneKnown at e; split at e <;> cases e
    have hr : Rel (noneKnown nx) ⟨.e, nx⟩ W := ⟨fun i j b s t e _ => absurd e (hnone _ _ _), fun i b s e => absurd e (hnone _ _ _), fun i hi => if_neg (Nat.not_lt.2 hi), fun i o ho _ => by simp [T.get_e] at ho⟩
    have hB : Base P (noneKnown nx) := ⟨fun g hg => .inr (if_pos (Nat.lt_trans hg hnx)), if_pos hnx⟩
    refine runs hN hX hm hS hrun hr hB ⟨rfl, fun i a b ha => by simp at ha⟩ fun J' v' w' h1 h2 h3 => ?_
    refine ⟨by cases h1; rfl, h3.os, h3.output, h3.size, fun b hb => h3.frame b hb (fun i s e => absurd e (hnone _ _ _)), h3.tape⟩
  · cases h
end
end Go.Proofs.YtfcpiamdmbliaaaGreatDoor.Ev
