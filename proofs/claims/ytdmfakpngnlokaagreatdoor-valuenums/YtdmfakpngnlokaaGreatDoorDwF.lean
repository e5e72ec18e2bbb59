/-
  distafflaw18.ValueNums: the closed facts of its row.
-/
import Derived.Test.YtdmfakpngnlokaaGreatDoorCards
import Derived.Test.YtdmfakpngnlokaaGreatDoorTie
import Derived.SliceStrings
import Derived.Carry
import Derived.ProofKit
import Derived.OpenShut
import Derived.Deep.DeepHandedRow
import Derived.Lay
import Derived.LaidLaws
import GoSem.PinnedTables
import Derived.JoinedCond
namespace Go.Proofs.YtdmfakpngnlokaaGreatDoor.nu
open Go.ChangeShapes Go.WideShapes Go.ChangeAt Go.RowKit

theorem and_mk {a b : Bool} (h : a = true) (g : b = true) : (a && b) = true := by rw [h, g]; rfl
theorem found : Tryz.pinned.checked.prog.funcNamed Rows.valueNumsRow.func = some 3 := by kernel_rfl
set_option maxHeartbeats 40000000 in
set_option maxRecDepth 1000000 in
theorem closed : joinedFacts Tryz.pinned.checked.prog 3 Tryz.f3 (OpenSpec.ofChange Rows.valueNumsSpec).bare Rows.valueNumsRow = true := by
  unfold joinedFacts
  repeat' (with_reducible refine and_mk ?_ ?_)
  all_goals decide +kernel
theorem inst : Tryz.f3.isInstance Tryz.pinned.checked.prog Rows.valueNumsRow.origin Rows.valueNumsRow.targs := of_decide_eq_true (by kernel_rfl)
theorem wrap : Tryz.f3.isWrapper Tryz.pinned.checked.prog Rows.valueNumsRow.wrapper Rows.valueNumsRow.mainSum := by
  unfold Func.isWrapper
  first | (rw [if_pos (by decide +kernel)]; kernel_rfl) | (rw [if_neg (by decide +kernel)]; exact ⟨rfl, rfl⟩)

end Go.Proofs.YtdmfakpngnlokaaGreatDoor.nu
