/-
  The evaluator, part Ze: a run over one block that was handed in, and laid variables.
-/
import Derived.Test.YtnafmgiaifbhgaaGreatDoorEvZd
set_option linter.unusedSimpArgs false
set_option linter.unusedVariables false
namespace Go.Proofs.YtnafmgiaifbhgaaGreatDoor.Ev
noncomputable section
variable {P : Program}
end
end Go.Proofs.YtnafmgiaifbhgaaGreatDoor.Ev
