/-
  The evaluator, part Zc: a run without arguments, nothing laid.
-/
import Derived.Test.YtnafmgiaifbhgaaGreatDoorEvZb
set_option linter.unusedSimpArgs false
set_option linter.unusedVariables false
namespace Go.Proofs.YtnafmgiaifbhgaaGreatDoor.Ev
noncomputable section
variable {P : Program}
theorem named_of {P : Program} (h : (P.funcs.toList.all fun fn => !(fn.name == "runtime.NumGoroutine")) = true) : jdc P := fun g fn hf => by
 have := List.all_eq_true.1 h fn (by simpa using Array.mem_of_getElem? hf)
 simpa using this
theorem Same.kept {W W' : World} (h : Same W W') (may : MemPlace → Prop) : W.keptBut W' may := by
 refine ⟨h.os, h.output, fun i hi => ?_⟩
 rw [h.heap i hi]
 cases W.heap[i]? with
 | none => rfl
 | some o => cases o <;> first | rfl | exact ⟨rfl, rfl, rfl, fun _ _ => rfl⟩ | exact .inr ⟨rfl, rfl⟩
def jby (nx : Nat) : Nat → Loc := fun i => if i < nx then .dead else .unborn
end
end Go.Proofs.YtnafmgiaifbhgaaGreatDoor.Ev
