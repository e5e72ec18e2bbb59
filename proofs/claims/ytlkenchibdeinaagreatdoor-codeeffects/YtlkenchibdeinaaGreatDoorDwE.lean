/-
  distafflaw10.CodeEffects: its row and its card hold. No conditions.
-/
import Derived.Test.YtlkenchibdeinaaGreatDoorDw
import Derived.Test.YtlkenchibdeinaaGreatDoorDwF
namespace Go.Proofs.YtlkenchibdeinaaGreatDoor.ce
open Go.ChangeShapes Go.WideShapes Go.ChangeAt Go.RowKit

theorem said : Rows.CodeEffectsUptoSaid :=
  OpenClaim.holds_of_cond 3 Tryz.f3 rfl rfl rfl rfl rfl rfl rfl ⟨rfl, rfl, rfl, rfl, rfl⟩ rfl rfl rfl rfl rfl found Tryz.func3 closed inst wrap
    (fun os started H enc _ F => by rw [OpenClaim.pre_eq_preRow]; exact lifted os started H enc F)

theorem plain (f : FuncId) (fn : Func) (hf : Tryz.pinned.checked.prog.funcNamed "distaff/distafflaw10.CodeEffects" = some f) (hfn : Tryz.pinned.checked.prog.funcs[f]? = some fn) :
    true = Tryz.pinned.checked.prog.looks [] ∧ ∀ (j : Nat) t, fn.params[j]? = some t → Tryz.pinned.checked.prog.wantsStandIn t = false := by
  obtain rfl : f = 3 := Option.some.inj ((show Tryz.prog.funcNamed "distaff/distafflaw10.CodeEffects" = some 3 by kernel_rfl).symm.trans hf) |>.symm
  obtain rfl : fn = Tryz.f3 := (Option.some.inj (Tryz.func3.symm.trans hfn)).symm
  refine ⟨by kernel_rfl, fun j t ht => ?_⟩
  rw [Tryz.params3] at ht
  match j with
  | 0 =>
    obtain rfl : t = 23 := by simpa using ht.symm
    exact (show Tryz.prog.wantsStandIn 23 = false by kernel_rfl)
  | 1 =>
    obtain rfl : t = 28 := by simpa using ht.symm
    exact (show Tryz.prog.wantsStandIn 28 = false by kernel_rfl)
  | j + 2 => simp at ht

theorem proved : Rows.CodeEffectsUptoCardSaid :=
  Claim7.holds_tied_plain_at .later [] _ _ _ _ said (fun _ h => by cases h) (by kernel_rfl) (fun _ h => by cases h) codeEffectsUpto_row_tie rfl ⟨rfl, rfl⟩ (by kernel_rfl) rfl plain (by kernel_rfl)
end Go.Proofs.YtlkenchibdeinaaGreatDoor.ce
