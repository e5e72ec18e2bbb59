/-
  distafflaw19.TableNames: its run, by the evaluator; the row; the card.
-/
import Derived.Test.YtnplnmhanjffkaaGreatDoorCards
import Derived.Test.YtnplnmhanjffkaaGreatDoorTie
import Derived.Test.YtnplnmhanjffkaaGreatDoorEwZd
import Derived.ProofKit
import Derived.OpenShut
import Derived.Deep.DeepHandedRow
import Derived.Lay
namespace Go.Proofs.YtnplnmhanjffkaaGreatDoor.tn
open Go.ChangeShapes Go.WideShapes Go.ChangeAt Go.RowKit Go.Proofs.YtnplnmhanjffkaaGreatDoor.Ev

theorem own : ownKnob Tryz.prog.godebug = none := by kernel_rfl
theorem named : Named Tryz.prog := named_of (by kernel_rfl)
theorem mixed : Tryz.prog.follows .mixedOrders = true := by kernel_rfl

def xs : List (FuncId × XK) := [(192, .f64bits), (139, .f64from), (200, .same), (243, .noZero 5), (271, .f64bits), (199, .indexByte), (260, .indexByte)]

theorem rows : ∀ x ∈ xs, ∃ fn, XRow Tryz.prog x.1 x.2 fn := by
  intro x hx
  simp only [xs, List.mem_cons, List.not_mem_nil, or_false] at hx
  rcases hx with rfl | rfl | rfl | rfl | rfl | rfl | rfl
  · exact ⟨_, Tryz.func192, by kernel_rfl, by kernel_rfl, by kernel_rfl, by kernel_rfl, fun e h => by cases h⟩
  · exact ⟨_, Tryz.func139, by kernel_rfl, by kernel_rfl, by kernel_rfl, by kernel_rfl, fun e h => by cases h⟩
  · exact ⟨_, Tryz.func200, by kernel_rfl, by kernel_rfl, by kernel_rfl, by kernel_rfl, fun e h => by cases h⟩
  · exact ⟨_, Tryz.func243, by kernel_rfl, by kernel_rfl, by kernel_rfl, by kernel_rfl, fun e h => by cases h; exact ⟨Tryz.f243.resultTypes.getD 0 0, by kernel_rfl, by kernel_rfl⟩⟩
  · exact ⟨_, Tryz.func271, by kernel_rfl, by kernel_rfl, by kernel_rfl, by kernel_rfl, fun e h => by cases h⟩
  · exact ⟨_, Tryz.func199, by kernel_rfl, by kernel_rfl, by kernel_rfl, by kernel_rfl, fun e h => by cases h⟩
  · exact ⟨_, Tryz.func260, by kernel_rfl, by kernel_rfl, by kernel_rfl, by kernel_rfl, fun e h => by cases h⟩

def rom10 : List Value := (flatL 3 Rows.laid_internal_strconv_pow10Tab).getD []
def rom7 : List Value := (flatL 3 Rows.laid_internal_strconv_uint64pow10).getD []
def roms : List (Nat × List Value × TypeId) := [(10, rom10, 411), (7, rom7, 368)]
theorem flat_some {m : Nat} {d : DataW Unit} (h : (flatL m d).isSome = true) : flatL m d = some ((flatL m d).getD []) := by
  cases e : flatL m d with
  | none => rw [e] at h; cases h
  | some l => rfl
theorem rom10_eq : flatL 3 Rows.laid_internal_strconv_pow10Tab = some rom10 := flat_some (m := 3) (d := Rows.laid_internal_strconv_pow10Tab) (by kernel_rfl)
theorem rom7_eq : flatL 3 Rows.laid_internal_strconv_uint64pow10 = some rom7 := flat_some (m := 3) (d := Rows.laid_internal_strconv_uint64pow10) (by kernel_rfl)
set_option maxRecDepth 1000000 in
theorem rom_at {W : World} (hL : laidMetH Tryz.prog Rows.tableNamesRow.laid W) (hS : W.ShapedOpen Tryz.prog) : ∀ x ∈ roms, W.heap[x.1]? = some (.cells x.2.1.toArray x.2.2 (0, 0)) := by
  intro x hx
  simp only [roms, List.mem_cons, List.not_mem_nil, or_false] at hx
  rcases hx with rfl | rfl
  · show W.heap[10]? = some (.cells rom10.toArray 411 (0, 0))
    exact rom_of (d := Rows.laid_internal_strconv_pow10Tab) (l := rom10) (t := 411) hL (by kernel_rfl) hS (m := 3) (k := 3) (List.mem_of_getElem? (i := 7) rfl) (by kernel_rfl) (by kernel_rfl) (by kernel_rfl) rom10_eq (by kernel_rfl)
  · show W.heap[7]? = some (.cells rom7.toArray 368 (0, 0))
    exact rom_of (d := Rows.laid_internal_strconv_uint64pow10) (l := rom7) (t := 368) hL (by kernel_rfl) hS (m := 3) (k := 3) (List.mem_of_getElem? (i := 3) rfl) (by kernel_rfl) (by kernel_rfl) (by kernel_rfl) rom7_eq (by kernel_rfl)

theorem ranAlive : isTrueR roms (aFun Tryz.prog (aCode Tryz.prog (aExt xs) ([], []) 4000) 19 [] ⟨romObs roms, 500⟩) = true := by kernel_rfl

theorem sums : SumsOk Tryz.prog ([19], roms) := sum_of named (aExt_ok rows) mixed (SumsOk.none _) (by decide +kernel) roms (by kernel_rfl) ranAlive
theorem ran : isTrueR roms (aFun Tryz.prog (aCode Tryz.prog (aExt xs) ([19], roms) 4000) 5 [] ⟨romObs roms, 500⟩) = true := by kernel_rfl

theorem walk (W : World) (hR : ∀ x ∈ roms, W.heap[x.1]? = some (.cells x.2.1.toArray x.2.2 (0, 0))) : Calls Tryz.prog 5 #[] W fun e W' => e = .returned (.bool true) ∧ Same W W' :=
  rom_run named (aExt_ok rows) mixed sums (by decide +kernel) roms (by kernel_rfl) hR ran

theorem contract (H : Type) (enc : TypeId × Value → H) (W : World) (args : Array Value) (ds gs : List (DataW H)) (before : List MemPlace)
    (hW : DataW.Whole enc Tryz.prog Tryz.f5.params.toList Rows.tableNamesSpec.vars false W args.toList ds gs before) (hL : laidMetH Tryz.prog Rows.tableNamesRow.laid W) (hS : W.ShapedOpen Tryz.prog) :
    Calls Tryz.prog 5 args W fun e W' => ∃ v, e = .returned v ∧ Rows.tableNamesSpec.post enc Tryz.prog Tryz.f5 false true false false W args v W' := by
  have hW' := hW
  obtain ⟨p, q, hA0, hV, rfl, hfz, hnd⟩ := hW
  have hA : DataW.TrodAll enc Tryz.prog W 0 (fun _ => true) true Tryz.f5.params.toList args.toList ds p := hA0
  rw [Tryz.params5] at hA
  obtain ⟨hargs, rfl, rfl⟩ := trodAll_nil hA
  obtain rfl : args = #[] := by cases args; simp_all
  obtain ⟨rfl, rfl⟩ := trodVars_none hV
  refine (walk W (rom_at hL hS)).mono fun e W' ⟨he, hs⟩ => ⟨_, he, [], [], [], [], [], [], hW', ?_, ?_, ?_, hs.kept _, fun h => by cases h⟩
  · exact trodAll_cons_mk (shut_bool Tryz.underlying4 _) trodAll_mk0
  · exact trodAll_mk0
  · exact rfl

/-! ### the row -/
set_option maxRecDepth 100000 in
theorem laid_met (os : Os) : laidMet Tryz.prog Rows.tableNamesRow.laid ((World.laidAll Tryz.prog os Rows.tableNamesRow.laid).forCall (fun _ _ => 0) ⟨#[], #[], []⟩).memory :=
  laidMet_laidAll _ (by kernel_rfl) (by kernel_rfl)
theorem reads (os : Os) {H : Type} (enc : TypeId × Value → H) : ∃ places, DataW.whole enc Tryz.prog ((World.laidAll Tryz.prog os Rows.tableNamesRow.laid).forCall (fun _ _ => 0) ⟨#[], #[], []⟩).memory Tryz.f5.params.toList Rows.tableNamesSpec.vars false (#[] : Array Value).toList 8 = some ([], [], places) :=
  ⟨[], by kernel_rfl⟩
theorem shaped (os : Os) : ((World.laidAll Tryz.prog os Rows.tableNamesRow.laid).forCall (fun _ _ => 0) ⟨#[], #[], []⟩).Shaped Tryz.prog :=
  World.shaped_of_ZipB (by kernel_rfl) (by kernel_rfl)
theorem okIn (os : Os) : Input.okWideB Tryz.prog ((World.laidAll Tryz.prog os Rows.tableNamesRow.laid).forCall (fun _ _ => 0) ⟨#[], #[], []⟩) 5 ⟨#[], #[], []⟩ = true := by kernel_rfl

theorem witness (os : Os) (H : Type) (enc : TypeId × Value → H) : ∃ (w : World) (tape : Tape) (i : Input), w.os = os ∧ (w.forCall tape i).Shaped Tryz.checked.prog ∧ i.vars = [] ∧ Input.okWide Tryz.checked.prog (w.forCall tape i) .any w.heap.size 5 i ∧
    (OpenSpec.ofChange Rows.tableNamesSpec).preRow enc Tryz.checked.prog Tryz.f5 Rows.tableNamesRow.domain false Rows.tableNamesRow.laid (w.forCall tape i).memory i.args ∧ ({} : Assume).holds Tryz.checked.prog (lone (Frame.enter Tryz.checked.prog 5 i.args .normal) [] (w.forCall tape i)) := by
  obtain ⟨places, hx⟩ := reads os enc
  refine ⟨World.laidAll Tryz.prog os Rows.tableNamesRow.laid, fun _ _ => 0, ⟨#[], #[], []⟩, World.laidAll_os _ _ _, shaped os, (Input.okWide_of_okWideB (base := 0) (okIn os)).1, (Input.okWide_of_okWideB (okIn os)).2,
    OpenSpec.preRow_of_cond 8 hx (by kernel_rfl) (fun k hk => by cases hk) (by kernel_rfl) (laid_met os), ?_⟩
  simp only [Assume.holds]
  exact ⟨by simp, by simp, (fun h => by cases h), by simp, by simp⟩

set_option maxRecDepth 100000 in
theorem lifted (os : Os) (started : os.Started) (H : Type) (enc : TypeId × Value → H) (F : Stop.Interp) :
    ReturnsInHanded {} Tryz.checked os 5 .any ((OpenSpec.ofChange Rows.tableNamesSpec).preRow enc Tryz.prog Tryz.f5 Rows.tableNamesRow.domain false Rows.tableNamesRow.laid) (((OpenSpec.ofChange Rows.tableNamesSpec).at F).post enc Tryz.prog Tryz.f5 false true false false) := by
  refine returnsInHanded_of_row (C := Tryz.checked) (s := OpenSpec.ofChange Rows.tableNamesSpec) own started (by kernel_rfl) Tryz.func5 (witness os H enc) ?_
  intro W base args ds gs before hval hW _ _ _ hL hS _
  exact contract H enc W args ds gs before hW hL hS

end Go.Proofs.YtnplnmhanjffkaaGreatDoor.tn
