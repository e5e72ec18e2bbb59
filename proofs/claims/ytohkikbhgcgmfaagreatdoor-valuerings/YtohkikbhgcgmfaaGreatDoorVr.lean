/-
  distafflaw18.ValueRings: its run, by the evaluator; the row; the card.
-/
import Derived.Test.YtohkikbhgcgmfaaGreatDoorCards
import Derived.Test.YtohkikbhgcgmfaaGreatDoorTie
import Derived.Test.YtohkikbhgcgmfaaGreatDoorEvZe
import Derived.Test.YtohkikbhgcgmfaaGreatDoorEvZd
import Derived.Test.YtohkikbhgcgmfaaGreatDoorVrW
import Derived.SliceStrings
import Derived.Carry
import Derived.ProofKit
import Derived.OpenShut
import Derived.Deep.DeepHandedRow
import Derived.Lay
namespace Go.Proofs.YtohkikbhgcgmfaaGreatDoor.vr
open Go.ChangeShapes Go.WideShapes Go.ChangeAt Go.RowKit Go.Proofs.YtohkikbhgcgmfaaGreatDoor.Ev

theorem own : ownKnob Tryz.prog.godebug = none := by kernel_rfl
theorem laidOut : laidOutB Tryz.prog = true := by kernel_rfl

/-! ### the laid variables -/
theorem flat_some {m : Nat} {d : DataW Unit} (h : (flatL m d).isSome = true) : flatL m d = some ((flatL m d).getD []) := by
  cases e : flatL m d with
  | none => rw [e] at h; cases h
  | some l => rfl
theorem rom5_eq : flatL 3 Rows.laid_internal_strconv_uint64pow10 = some rom5 := flat_some (m := 3) (d := Rows.laid_internal_strconv_uint64pow10) (by kernel_rfl)
theorem rom6_eq : flatL 3 Rows.laid_internal_strconv_pow10Tab = some rom6 := flat_some (m := 3) (d := Rows.laid_internal_strconv_pow10Tab) (by kernel_rfl)
set_option maxRecDepth 1000000 in
theorem laid_at {W : World} (hL : laidMetH Tryz.prog Rows.valueRingsRow.laid W) (hS : W.ShapedOpen Tryz.prog) : Laid W rom5 rom6 316 362 := by
  refine ⟨?_, ?_, by kernel_rfl, by kernel_rfl, by kernel_rfl, by kernel_rfl, by kernel_rfl, by kernel_rfl, rom_ok⟩
  · show W.heap[7]? = some (.cells rom5.toArray 316 (0, 0))
    exact rom_of (d := Rows.laid_internal_strconv_uint64pow10) (l := rom5) (t := 316) hL (by kernel_rfl) hS (m := 3) (k := 3) (List.mem_of_getElem? (i := 8) rfl) (by kernel_rfl) (by kernel_rfl) (by kernel_rfl) rom5_eq (by kernel_rfl)
  · show W.heap[10]? = some (.cells rom6.toArray 362 (0, 0))
    exact rom_of (d := Rows.laid_internal_strconv_pow10Tab) (l := rom6) (t := 362) hL (by kernel_rfl) hS (m := 3) (k := 3) (List.mem_of_getElem? (i := 13) rfl) (by kernel_rfl) (by kernel_rfl) (by kernel_rfl) rom6_eq (by kernel_rfl)

set_option maxRecDepth 100000 in
theorem contract (H : Type) (enc : TypeId × Value → H) (W : World) (base : Nat) (args : Array Value) (ds gs : List (DataW H)) (before : List MemPlace)
    (hval : ∀ (j : Nat) t v, Tryz.f3.params[j]? = some t → args[j]? = some v → Value.okWide Tryz.prog W .any base t v)
    (hW : DataW.Whole enc Tryz.prog Tryz.f3.params.toList Rows.valueRingsSpec.vars false W args.toList ds gs before) (hL : laidMetH Tryz.prog Rows.valueRingsRow.laid W) (hS : W.ShapedOpen Tryz.prog) :
    Calls Tryz.prog 3 args W fun e W' => ∃ v, e = .returned v ∧ Rows.valueRingsSpec.post enc Tryz.prog Tryz.f3 false true false false W args v W' := by
  have hW' := hW
  obtain ⟨p, q, hA0, hV, rfl, hfz, hnd⟩ := hW
  have hA : DataW.TrodAll enc Tryz.prog W 0 (fun _ => true) true Tryz.f3.params.toList args.toList ds p := hA0
  rw [Tryz.params3] at hA hval
  obtain ⟨v0, vs0, d0, ds0, p0, q0, hargs, rfl, rfl, h0, r0⟩ := trodAll_cons hA
  obtain ⟨v1, vs1, d1, ds1, p1, q1, rfl, rfl, rfl, h1, r1⟩ := trodAll_cons r0
  obtain ⟨rfl, rfl, rfl⟩ := trodAll_nil r1
  obtain rfl : args = #[v0, v1] := by cases args; simp_all
  obtain ⟨rfl, rfl⟩ := trodVars_none hV
  clear hA0
  have hlt0 : ∀ x ∈ p0, x.block < W.heap.size := fun x hx => hW'.lt x (by simp [hx])
  have hlt1 : ∀ x ∈ p1, x.block < W.heap.size := fun x hx => hW'.lt x (by simp [hx])
  have h0k := h0
  have h1k := h1
  have hv0 : Value.okWide Tryz.prog W .any base 22 v0 := hval 0 22 v0 rfl rfl
  have hv1 : Value.okWide Tryz.prog W .any base 3 v1 := hval 1 3 v1 rfl rfl
  obtain ⟨a0, len, cap, hv⟩ := okWide_slice Tryz.underlying22 hv0
  subst hv
  obtain ⟨fr, hv⟩ := okWide_int Tryz.underlying3 hv1
  subst hv
  have rd0 : Reads W (.slice a0 len cap) .i64 := by
    obtain ⟨fuel, hf⟩ := h0
    rcases open_ints Tryz.underlying22 Tryz.underlying3 (by kernel_rfl) hf with ⟨hcs, _⟩ | ⟨a, len', cap', zs, hcs, _, hl, _, hz, _, hcell, hwf⟩
    · have e : Value.slice a0 len cap = .slice none 0 0 := by simpa [Value.cells] using hcs
      rw [e]
      exact reads_nil W _
    · have e : Value.slice a0 len cap = .slice (some a) len' cap' := by simpa [Value.cells] using hcs
      rw [e]
      simp only [if_true] at hz
      exact reads_some hl (by omega) hcell
  have hrun : Calls Tryz.prog 3 #[.slice a0 len cap, .int .i64 fr] W fun e W' => e = .returned (.bool true) ∧ Same W W' := ran_any sums (laid_at hL hS) rd0
  refine hrun.mono fun e W' ⟨he, hs⟩ => ⟨_, he, [d0, d1], [], _, [], p0 ++ p1, [], hW', ?_, ?_, ?_, hs.kept _, fun h => by cases h⟩
  · exact trodAll_cons_mk (shut_bool Tryz.underlying4 _) trodAll_mk0
  · rw [Tryz.params3]
    exact trodAll_mk2 (Below.trod laidOut (by kernel_rfl) (of_decide_eq_true (by kernel_rfl)) h0k ⟨hs.os, hs.tape, hs.output, hs.size, hs.heap⟩ hlt0) (Below.trod laidOut (by kernel_rfl) (of_decide_eq_true (by kernel_rfl)) h1k ⟨hs.os, hs.tape, hs.output, hs.size, hs.heap⟩ hlt1)
  · exact rfl

/-! ### the row -/
set_option maxRecDepth 100000 in
theorem laid_met (os : Os) : laidMet Tryz.prog Rows.valueRingsRow.laid ((World.laidAll Tryz.prog os Rows.valueRingsRow.laid).forCall (fun _ _ => 0) ⟨#[], #[.slice none 0 0, .int .i64 0], []⟩).memory :=
  laidMet_laidAll _ (by kernel_rfl) (by kernel_rfl)
theorem reads (os : Os) {H : Type} (enc : TypeId × Value → H) : ∃ places, DataW.whole enc Tryz.prog ((World.laidAll Tryz.prog os Rows.valueRingsRow.laid).forCall (fun _ _ => 0) ⟨#[], #[.slice none 0 0, .int .i64 0], []⟩).memory Tryz.f3.params.toList Rows.valueRingsSpec.vars false (#[.slice none 0 0, .int .i64 0] : Array Value).toList 8 = some ([.nil, .lit (.int .i64 0)], [], places) :=
  ⟨[], by kernel_rfl⟩
theorem shaped (os : Os) : ((World.laidAll Tryz.prog os Rows.valueRingsRow.laid).forCall (fun _ _ => 0) ⟨#[], #[.slice none 0 0, .int .i64 0], []⟩).Shaped Tryz.prog :=
  World.shaped_of_ZipB (by kernel_rfl) (by kernel_rfl)
theorem okIn (os : Os) : Input.okWideB Tryz.prog ((World.laidAll Tryz.prog os Rows.valueRingsRow.laid).forCall (fun _ _ => 0) ⟨#[], #[.slice none 0 0, .int .i64 0], []⟩) 3 ⟨#[], #[.slice none 0 0, .int .i64 0], []⟩ = true := by kernel_rfl

theorem witness (os : Os) (H : Type) (enc : TypeId × Value → H) : ∃ (w : World) (tape : Tape) (i : Input), w.os = os ∧ (w.forCall tape i).Shaped Tryz.checked.prog ∧ i.vars = [] ∧ Input.okWide Tryz.checked.prog (w.forCall tape i) .any w.heap.size 3 i ∧
    (OpenSpec.ofChange Rows.valueRingsSpec).preRow enc Tryz.checked.prog Tryz.f3 Rows.valueRingsRow.domain false Rows.valueRingsRow.laid (w.forCall tape i).memory i.args ∧ ({} : Assume).holds Tryz.checked.prog (lone (Frame.enter Tryz.checked.prog 3 i.args .normal) [] (w.forCall tape i)) := by
  obtain ⟨places, hx⟩ := reads os enc
  refine ⟨World.laidAll Tryz.prog os Rows.valueRingsRow.laid, fun _ _ => 0, ⟨#[], #[.slice none 0 0, .int .i64 0], []⟩, World.laidAll_os _ _ _, shaped os, (Input.okWide_of_okWideB (base := 0) (okIn os)).1, (Input.okWide_of_okWideB (okIn os)).2,
    OpenSpec.preRow_of_cond 8 hx (by kernel_rfl) (fun k hk => by cases hk) (by kernel_rfl) (laid_met os), ?_⟩
  simp only [Assume.holds]
  exact ⟨by simp, by simp, (fun h => by cases h), by simp, by simp⟩

set_option maxRecDepth 100000 in
theorem lifted (os : Os) (started : os.Started) (H : Type) (enc : TypeId × Value → H) (F : Stop.Interp) :
    ReturnsInHanded {} Tryz.checked os 3 .any ((OpenSpec.ofChange Rows.valueRingsSpec).preRow enc Tryz.prog Tryz.f3 Rows.valueRingsRow.domain false Rows.valueRingsRow.laid) (((OpenSpec.ofChange Rows.valueRingsSpec).at F).post enc Tryz.prog Tryz.f3 false true false false) := by
  refine returnsInHanded_of_row (C := Tryz.checked) (s := OpenSpec.ofChange Rows.valueRingsSpec) own started (by kernel_rfl) Tryz.func3 (witness os H enc) ?_
  intro W base args ds gs before hval hW _ _ _ hL hS _
  exact contract H enc W base args ds gs before hval hW hL hS

end Go.Proofs.YtohkikbhgcgmfaaGreatDoor.vr
