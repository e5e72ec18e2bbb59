/-
  distafflaw06.ReaderNames: the closed facts of its row.
-/
import Derived.Test.YtnplnmhanjffkaaGreatDoorCards
import Derived.Test.YtnplnmhanjffkaaGreatDoorTie
import Derived.ProofKit
import Derived.OpenShut
import Derived.Deep.DeepHandedRow
import Derived.Lay
import Derived.JoinedCond
namespace Go.Proofs.YtnplnmhanjffkaaGreatDoor.rn
open Go.ChangeShapes Go.WideShapes Go.ChangeAt Go.RowKit

theorem and_mk {a b : Bool} (h : a = true) (g : b = true) : (a && b) = true := by rw [h, g]; rfl
theorem found : Tryz.pinned.checked.prog.funcNamed Rows.readerNamesRow.func = some 4 := by kernel_rfl
set_option maxHeartbeats 40000000 in
set_option maxRecDepth 1000000 in
theorem closed : joinedFacts Tryz.pinned.checked.prog 4 Tryz.f4 (OpenSpec.ofChange Rows.readerNamesSpec).bare Rows.readerNamesRow = true := by
  unfold joinedFacts
  repeat' (with_reducible refine and_mk ?_ ?_)
  all_goals decide +kernel
theorem inst : Tryz.f4.isInstance Tryz.pinned.checked.prog Rows.readerNamesRow.origin Rows.readerNamesRow.targs := of_decide_eq_true (by kernel_rfl)
theorem wrap : Tryz.f4.isWrapper Tryz.pinned.checked.prog Rows.readerNamesRow.wrapper Rows.readerNamesRow.mainSum := by
  unfold Func.isWrapper
  first | (rw [if_pos (by decide +kernel)]; kernel_rfl) | (rw [if_neg (by decide +kernel)]; exact ⟨rfl, rfl⟩)

end Go.Proofs.YtnplnmhanjffkaaGreatDoor.rn
