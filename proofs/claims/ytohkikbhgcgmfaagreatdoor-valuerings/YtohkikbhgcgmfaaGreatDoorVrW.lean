/-
  distafflaw18.ValueRings, part W: what is known ahead. No conditions.
-/
import Derived.Test.YtohkikbhgcgmfaaGreatDoorVrR
set_option linter.unusedSimpArgs false
set_option linter.unusedVariables false
set_option linter.unusedSectionVars false
namespace Go.Proofs.YtohkikbhgcgmfaaGreatDoor.vr
open Go Go.Proofs Go.Proofs.YtohkikbhgcgmfaaGreatDoor.Ev
noncomputable section
theorem rom_list : (List.range 20).map (fun k => cellsAt ⟨t00 (.rom rom5 316) (.rom rom6 362), 900⟩ 7 k) = (List.range 20).map (fun k => some (Value.int .u64 (.ofNat (10 ^ k)))) := by kernel_rfl
theorem rom_ok : Rom ⟨t00 (.rom rom5 316) (.rom rom6 362), 900⟩ := ⟨by decide, fun k hk => List.map_inj_left.1 rom_list k (List.mem_range.2 hk)⟩
theorem ranAlive : isTrueR roms (aFun Tryz.prog (aCode Tryz.prog (aExt xs) [] 4000) 4 [] ⟨romObs roms, 900⟩) = true := by kernel_rfl
theorem sums : SumsOk Tryz.prog S0 :=
 SumsOk.cons (sum_of named (aExt_ok rows) mixed (SumsOk.none _) (by decide +kernel) roms (by kernel_rfl) ranAlive) (SumsOk.none _)
end
end Go.Proofs.YtohkikbhgcgmfaaGreatDoor.vr
