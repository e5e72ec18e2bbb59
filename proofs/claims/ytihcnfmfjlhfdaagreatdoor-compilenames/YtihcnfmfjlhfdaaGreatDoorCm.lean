/-
  distafflaw12.CompileNames: its run, by the evaluator; the row; the card.
-/
import Derived.Test.YtihcnfmfjlhfdaaGreatDoorCards
import Derived.Test.YtihcnfmfjlhfdaaGreatDoorTie
import Derived.Test.YtihcnfmfjlhfdaaGreatDoorEvZd
import Derived.Test.YtihcnfmfjlhfdaaGreatDoorCmL
import Derived.ProofKit
import Derived.OpenShut
import Derived.Deep.DeepHandedRow
import Derived.Lay
namespace Go.Proofs.YtihcnfmfjlhfdaaGreatDoor.cm
open Go.ChangeShapes Go.WideShapes Go.ChangeAt Go.RowKit Go.Proofs.YtihcnfmfjlhfdaaGreatDoor.Ev

theorem own : ownKnob Tryz.prog.godebug = none := by kernel_rfl
theorem named : Named Tryz.prog := named_of (by kernel_rfl)
theorem mixed : Tryz.prog.follows .mixedOrders = true := by kernel_rfl

def xs : List (FuncId × XK) := [(186, .same), (190, .f64from), (250, .f64bits), (285, .noZero 5), (306, .f64from), (310, .f64bits), (185, .indexByte), (248, .indexByte)]

theorem rows : ∀ x ∈ xs, ∃ fn, XRow Tryz.prog x.1 x.2 fn := by
  intro x hx
  simp only [xs, List.mem_cons, List.not_mem_nil, or_false] at hx
  rcases hx with rfl | rfl | rfl | rfl | rfl | rfl | rfl | rfl
  · exact ⟨_, Tryz.func186, by kernel_rfl, by kernel_rfl, by kernel_rfl, by kernel_rfl, fun e h => by cases h⟩
  · exact ⟨_, Tryz.func190, by kernel_rfl, by kernel_rfl, by kernel_rfl, by kernel_rfl, fun e h => by cases h⟩
  · exact ⟨_, Tryz.func250, by kernel_rfl, by kernel_rfl, by kernel_rfl, by kernel_rfl, fun e h => by cases h⟩
  · exact ⟨_, Tryz.func285, by kernel_rfl, by kernel_rfl, by kernel_rfl, by kernel_rfl, fun e h => by cases h; exact ⟨Tryz.f285.resultTypes.getD 0 0, by kernel_rfl, by kernel_rfl⟩⟩
  · exact ⟨_, Tryz.func306, by kernel_rfl, by kernel_rfl, by kernel_rfl, by kernel_rfl, fun e h => by cases h⟩
  · exact ⟨_, Tryz.func310, by kernel_rfl, by kernel_rfl, by kernel_rfl, by kernel_rfl, fun e h => by cases h⟩
  · exact ⟨_, Tryz.func185, by kernel_rfl, by kernel_rfl, by kernel_rfl, by kernel_rfl, fun e h => by cases h⟩
  · exact ⟨_, Tryz.func248, by kernel_rfl, by kernel_rfl, by kernel_rfl, by kernel_rfl, fun e h => by cases h⟩

def rom0 : List Value := (flatL 3 Rows.laid_strings_asciiSpace).getD []
def roms : List (Nat × List Value × TypeId) := [(0, rom0, 81), (4, [.chan none], 3)]
theorem flat_some {m : Nat} {d : DataW Unit} (h : (flatL m d).isSome = true) : flatL m d = some ((flatL m d).getD []) := by
  cases e : flatL m d with
  | none => rw [e] at h; cases h
  | some l => rfl
theorem rom0_eq : flatL 3 Rows.laid_strings_asciiSpace = some rom0 := flat_some (m := 3) (d := Rows.laid_strings_asciiSpace) (by kernel_rfl)
set_option maxRecDepth 1000000 in
theorem rom_at {W : World} (hL : laidMetH Tryz.prog Rows.compileNamesRow.laid W) (hS : W.ShapedOpen Tryz.prog) : ∀ x ∈ roms, RomAt W x := by
  intro x hx
  simp only [roms, List.mem_cons, List.not_mem_nil, or_false] at hx
  rcases hx with rfl | rfl
  · refine romAt_known (by kernel_rfl) ?_
    show W.heap[0]? = some (.cells rom0.toArray 81 (0, 0))
    exact rom_of (d := Rows.laid_strings_asciiSpace) (l := rom0) (t := 81) hL (by kernel_rfl) hS (m := 3) (k := 3) (List.mem_of_getElem? (i := 13) rfl) (by kernel_rfl) (by kernel_rfl) (by kernel_rfl) rom0_eq (by kernel_rfl)
  · exact opn_of (P := Tryz.prog) (zero := #[.int .i64 0]) hS (by decide +kernel) (by kernel_rfl) rfl (by kernel_rfl) (by kernel_rfl) Tryz.underlying3

theorem ran : isTrueR roms (aFun Tryz.prog (aCode Tryz.prog (aExt xs) sums0 4000) 3 [] ⟨romObs roms, 900⟩) = true := by kernel_rfl

theorem walk (W : World) (hR : ∀ x ∈ roms, RomAt W x) : Calls Tryz.prog 3 #[] W fun e W' => e = .returned (.bool true) ∧ Same W W' :=
  rom_run named (aExt_ok rows) mixed known (by decide +kernel) roms (by kernel_rfl) hR ran

theorem contract (H : Type) (enc : TypeId × Value → H) (W : World) (args : Array Value) (ds gs : List (DataW H)) (before : List MemPlace)
    (hW : DataW.Whole enc Tryz.prog Tryz.f3.params.toList Rows.compileNamesSpec.vars false W args.toList ds gs before) (hL : laidMetH Tryz.prog Rows.compileNamesRow.laid W) (hS : W.ShapedOpen Tryz.prog) :
    Calls Tryz.prog 3 args W fun e W' => ∃ v, e = .returned v ∧ Rows.compileNamesSpec.post enc Tryz.prog Tryz.f3 false true false false W args v W' := by
  have hW' := hW
  obtain ⟨p, q, hA0, hV, rfl, hfz, hnd⟩ := hW
  have hA : DataW.TrodAll enc Tryz.prog W 0 (fun _ => true) true Tryz.f3.params.toList args.toList ds p := hA0
  rw [Tryz.params3] at hA
  obtain ⟨hargs, rfl, rfl⟩ := trodAll_nil hA
  obtain rfl : args = #[] := by cases args; simp_all
  obtain ⟨rfl, rfl⟩ := trodVars_none hV
  refine (walk W (rom_at hL hS)).mono fun e W' ⟨he, hs⟩ => ⟨_, he, [], [], [], [], [], [], hW', ?_, ?_, ?_, hs.kept _, fun h => by cases h⟩
  · exact trodAll_cons_mk (shut_bool Tryz.underlying4 _) trodAll_mk0
  · exact trodAll_mk0
  · exact rfl

/-! ### the row -/
set_option maxRecDepth 100000 in
theorem laid_met (os : Os) : laidMet Tryz.prog Rows.compileNamesRow.laid ((World.laidAll Tryz.prog os Rows.compileNamesRow.laid).forCall (fun _ _ => 0) ⟨#[], #[], []⟩).memory :=
  laidMet_laidAll _ (by kernel_rfl) (by kernel_rfl)
theorem reads (os : Os) {H : Type} (enc : TypeId × Value → H) : ∃ places, DataW.whole enc Tryz.prog ((World.laidAll Tryz.prog os Rows.compileNamesRow.laid).forCall (fun _ _ => 0) ⟨#[], #[], []⟩).memory Tryz.f3.params.toList Rows.compileNamesSpec.vars false (#[] : Array Value).toList 8 = some ([], [], places) :=
  ⟨[], by kernel_rfl⟩
theorem shaped (os : Os) : ((World.laidAll Tryz.prog os Rows.compileNamesRow.laid).forCall (fun _ _ => 0) ⟨#[], #[], []⟩).Shaped Tryz.prog :=
  World.shaped_of_ZipB (by kernel_rfl) (by kernel_rfl)
theorem okIn (os : Os) : Input.okWideB Tryz.prog ((World.laidAll Tryz.prog os Rows.compileNamesRow.laid).forCall (fun _ _ => 0) ⟨#[], #[], []⟩) 3 ⟨#[], #[], []⟩ = true := by kernel_rfl

theorem witness (os : Os) (H : Type) (enc : TypeId × Value → H) : ∃ (w : World) (tape : Tape) (i : Input), w.os = os ∧ (w.forCall tape i).Shaped Tryz.checked.prog ∧ i.vars = [] ∧ Input.okWide Tryz.checked.prog (w.forCall tape i) .any w.heap.size 3 i ∧
    (OpenSpec.ofChange Rows.compileNamesSpec).preRow enc Tryz.checked.prog Tryz.f3 Rows.compileNamesRow.domain false Rows.compileNamesRow.laid (w.forCall tape i).memory i.args ∧ ({} : Assume).holds Tryz.checked.prog (lone (Frame.enter Tryz.checked.prog 3 i.args .normal) [] (w.forCall tape i)) := by
  obtain ⟨places, hx⟩ := reads os enc
  refine ⟨World.laidAll Tryz.prog os Rows.compileNamesRow.laid, fun _ _ => 0, ⟨#[], #[], []⟩, World.laidAll_os _ _ _, shaped os, (Input.okWide_of_okWideB (base := 0) (okIn os)).1, (Input.okWide_of_okWideB (okIn os)).2,
    OpenSpec.preRow_of_cond 8 hx (by kernel_rfl) (fun k hk => by cases hk) (by kernel_rfl) (laid_met os), ?_⟩
  simp only [Assume.holds]
  exact ⟨by simp, by simp, (fun h => by cases h), by simp, by simp⟩

set_option maxRecDepth 100000 in
theorem lifted (os : Os) (started : os.Started) (H : Type) (enc : TypeId × Value → H) (F : Stop.Interp) :
    ReturnsInHanded {} Tryz.checked os 3 .any ((OpenSpec.ofChange Rows.compileNamesSpec).preRow enc Tryz.prog Tryz.f3 Rows.compileNamesRow.domain false Rows.compileNamesRow.laid) (((OpenSpec.ofChange Rows.compileNamesSpec).at F).post enc Tryz.prog Tryz.f3 false true false false) := by
  refine returnsInHanded_of_row (C := Tryz.checked) (s := OpenSpec.ofChange Rows.compileNamesSpec) own started (by kernel_rfl) Tryz.func3 (witness os H enc) ?_
  intro W base args ds gs before hval hW _ _ _ hL hS _
  exact contract H enc W args ds gs before hW hL hS

end Go.Proofs.YtihcnfmfjlhfdaaGreatDoor.cm
