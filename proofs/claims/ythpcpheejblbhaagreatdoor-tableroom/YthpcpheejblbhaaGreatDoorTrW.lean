/-
  distafflaw19.TableRoom, part W: what is known ahead. No conditions.
-/
import Derived.Test.YthpcpheejblbhaaGreatDoorTrS
set_option linter.unusedSimpArgs false
set_option linter.unusedVariables false
set_option linter.unusedSectionVars false
namespace Go.Proofs.YthpcpheejblbhaaGreatDoor.tr
open Go Go.Proofs Go.Proofs.YthpcpheejblbhaaGreatDoor.Ev
noncomputable section
theorem rom_list : (List.range 20).map (fun k => cellsAt ⟨t00 (.rom rom5 248) (.rom rom6 266), 900⟩ 5 k) = (List.range 20).map (fun k => some (Value.int .u64 (.ofNat (10 ^ k)))) := by kernel_rfl
theorem rom_ok : Rom ⟨t00 (.rom rom5 248) (.rom rom6 266), 900⟩ := ⟨by decide, fun k hk => List.map_inj_left.1 rom_list k (List.mem_range.2 hk)⟩
theorem ranAlive : isTrueR roms (aFun Tryz.prog (aCode Tryz.prog (aExt xs) [] 4000) 4 [] ⟨romObs roms, 900⟩) = true := by kernel_rfl
theorem sums : SumsOk Tryz.prog S0 :=
 SumsOk.cons (sum_of named (aExt_ok rows) mixed (SumsOk.none _) (by decide +kernel) roms (by kernel_rfl) ranAlive) (SumsOk.none _)
end
end Go.Proofs.YthpcpheejblbhaaGreatDoor.tr
