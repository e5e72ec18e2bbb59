/-
  distafflaw19.TableNames: the closed facts of its row.
-/
import Derived.Test.YtnplnmhanjffkaaGreatDoorCards
import Derived.Test.YtnplnmhanjffkaaGreatDoorTie
import Derived.ProofKit
import Derived.OpenShut
import Derived.Deep.DeepHandedRow
import Derived.Lay
import Derived.JoinedCond
namespace Go.Proofs.YtnplnmhanjffkaaGreatDoor.tn
open Go.ChangeShapes Go.WideShapes Go.ChangeAt Go.RowKit

theorem and_mk {a b : Bool} (h : a = true) (g : b = true) : (a && b) = true := by rw [h, g]; rfl
theorem found : Tryz.pinned.checked.prog.funcNamed Rows.tableNamesRow.func = some 5 := by kernel_rfl
set_option maxHeartbeats 40000000 in
set_option maxRecDepth 1000000 in
theorem closed : joinedFacts Tryz.pinned.checked.prog 5 Tryz.f5 (OpenSpec.ofChange Rows.tableNamesSpec).bare Rows.tableNamesRow = true := by
  unfold joinedFacts
  repeat' (with_reducible refine and_mk ?_ ?_)
  all_goals decide +kernel
theorem inst : Tryz.f5.isInstance Tryz.pinned.checked.prog Rows.tableNamesRow.origin Rows.tableNamesRow.targs := of_decide_eq_true (by kernel_rfl)
theorem wrap : Tryz.f5.isWrapper Tryz.pinned.checked.prog Rows.tableNamesRow.wrapper Rows.tableNamesRow.mainSum := by
  unfold Func.isWrapper
  first | (rw [if_pos (by decide +kernel)]; kernel_rfl) | (rw [if_neg (by decide +kernel)]; exact ⟨rfl, rfl⟩)

end Go.Proofs.YtnplnmhanjffkaaGreatDoor.tn
