/-
  distafflaw18.ValueNums: its run, by the evaluator; the row; the card.
-/
import Derived.Test.YtdmfakpngnlokaaGreatDoorCards
import Derived.Test.YtdmfakpngnlokaaGreatDoorTie
import Derived.Test.YtdmfakpngnlokaaGreatDoorEvSk
import Derived.Test.YtdmfakpngnlokaaGreatDoorDwQn
import Derived.SliceStrings
import Derived.Carry
import Derived.ProofKit
import Derived.OpenShut
import Derived.Deep.DeepHandedRow
import Derived.Lay
import Derived.LaidLaws
import GoSem.PinnedTables
namespace Go.Proofs.YtdmfakpngnlokaaGreatDoor.nu
open Go.ChangeShapes Go.WideShapes Go.ChangeAt Go.RowKit Go.Proofs.YtdmfakpngnlokaaGreatDoor.Ev

theorem own : ownKnob Tryz.prog.godebug = none := by kernel_rfl
theorem laidOut : laidOutB Tryz.prog = true := by kernel_rfl

/-! ### the laid variables -/
theorem jbT : (Rows.valueNumsRow.laid.all fun x => x.2.handleName?.isNone) = true := by kernel_rfl
theorem flat_some {m : Nat} {d : DataW Unit} (h : (flatL m d).isSome = true) : flatL m d = some ((flatL m d).getD []) := by
  cases e : flatL m d with
  | none => rw [e] at h; cases h
  | some l => rfl
theorem jdH {α β : Type} {f : α → β} {l : List α} {k : Nat} {d : α} (h : k < l.length) : (l.map f)[k]? = some (f (l.getD k d)) := by simp [List.getD, h]
variable {W : World}
theorem laid_opt (hL : laidMetH Tryz.prog Rows.valueNumsRow.laid W) : ∃ t, W.heap[(1 : Nat)]? = some (.cells [Value.bool true].toArray t (0, 0)) :=
  jgJ (k := 3) (m := 3) (t := 4) hL jbT (List.mem_of_getElem? (i := 4) rfl) (by kernel_rfl) (by kernel_rfl) (by kernel_rfl) (by kernel_rfl) (by decide)
theorem laid_fi (hL : laidMetH Tryz.prog Rows.valueNumsRow.laid W) : ∃ t, W.heap[(11 : Nat)]? = some (.cells [Value.int .u64 52, .int .u64 11, .int .i64 (-1023)].toArray t (0, 0)) :=
  jgJ (k := 3) (m := 3) (t := 344) hL jbT (List.mem_of_getElem? (i := 3) rfl) (by kernel_rfl) (by kernel_rfl) (by kernel_rfl) (by kernel_rfl) (by decide)
set_option maxRecDepth 1000000 in
theorem ptab_eq : flatL 3 Rows.laid_internal_strconv_pow10Tab = some ptab := flat_some (m := 3) (d := Rows.laid_internal_strconv_pow10Tab) (by kernel_rfl)
set_option maxRecDepth 1000000 in
theorem laid_pt (hL : laidMetH Tryz.prog Rows.valueNumsRow.laid W) : ∃ t, W.heap[(6 : Nat)]? = some (.cells ptab.toArray t (0, 0)) :=
  jgJ (k := 3) (m := 3) (d := Rows.laid_internal_strconv_pow10Tab) (t := 311) hL jbT (List.mem_of_getElem? (i := 13) rfl) (by kernel_rfl) (by kernel_rfl) (by kernel_rfl) ptab_eq (by rw [jjr]; decide)
theorem laid_fp (hL : laidMetH Tryz.prog Rows.valueNumsRow.laid W) : ∃ y o cap t, SlotAt W 16 23 y o cap t ∧ ∀ k, k < 23 → y.2.1[o + k]? = some (.float .f64 (fpows.getD k 0)) := by
  obtain ⟨y, o, cap, tb, h1, h2⟩ := jgr (e := 22) (ls := fpows.map fun b => [Value.float .f64 b]) (w := 1) (k := 3) (m := 2) (g := 16) (t := 359) hL jbT (List.mem_of_getElem? (i := 6) rfl) (by kernel_rfl) (by kernel_rfl) Tryz.underlying359 (by kernel_rfl) (by decide) (by kernel_rfl) (by kernel_rfl) (by decide)
  refine ⟨y, o, cap, tb, h1, fun k hk => ?_⟩
  have := h2 k _ 0 _ (jdH (d := 0) (show k < fpows.length from hk)) rfl
  rw [show o + k * 1 + 0 = o + k from by omega] at this
  exact this
theorem laid_pw (hL : laidMetH Tryz.prog Rows.valueNumsRow.laid W) : ∃ y o cap t, SlotAt W 15 9 y o cap t ∧ ∀ k, k < 9 → y.2.1[o + k]? = some (.int .i64 (.ofNat (powts.getD k 0))) := by
  obtain ⟨y, o, cap, tb, h1, h2⟩ := jgr (e := 3) (ls := powts.map fun b => [Value.int .i64 (.ofNat b)]) (w := 1) (k := 3) (m := 2) (g := 15) (t := 41) hL jbT (List.mem_of_getElem? (i := 5) rfl) (by kernel_rfl) (by kernel_rfl) Tryz.underlying41 (by kernel_rfl) (by decide) (by kernel_rfl) (by kernel_rfl) (by decide)
  refine ⟨y, o, cap, tb, h1, fun k hk => ?_⟩
  have := h2 k _ 0 _ (jdH (d := 0) (show k < powts.length from hk)) rfl
  rw [show o + k * 1 + 0 = o + k from by omega] at this
  exact this
theorem jfw : Go.Pinned.cheatRows.length = 61 := by kernel_rfl
theorem laid_lc (hL : laidMetH Tryz.prog Rows.valueNumsRow.laid W) : ∃ y o cap t, SlotAt W 7 61 y o cap t ∧ ∀ k, k < 61 → y.2.1[o + 2 * k]? = some (.int .i64 (.ofNat (dlt k))) ∧ y.2.1[o + 2 * k + 1]? = some (.string (cut k)) := by
  obtain ⟨y, o, cap, tb, h1, h2⟩ := jgr (e := 317) (ls := Go.Pinned.cheatRows.map fun r => [Value.int .i64 (.ofNat r.1), .string ⟨r.2.toArray⟩]) (w := 2) (k := 3) (m := 2) (g := 7) (t := 318) hL jbT (List.mem_of_getElem? (i := 12) rfl) (by kernel_rfl) (by kernel_rfl) Tryz.underlying318 (by kernel_rfl) (by decide) (by kernel_rfl) (by kernel_rfl) (by rw [List.length_map, jfw]; decide)
  rw [List.length_map, jfw] at h1
  refine ⟨y, o, cap, tb, h1, fun k hk => ?_⟩
  have hk' : k < Go.Pinned.cheatRows.length := by rw [jfw]; exact hk
  have a := h2 k _ 0 _ (jdH (d := (0, [])) hk') rfl
  have b := h2 k _ 1 _ (jdH (d := (0, [])) hk') rfl
  rw [show o + k * 2 + 0 = o + 2 * k from by omega] at a
  rw [show o + k * 2 + 1 = o + 2 * k + 1 from by omega] at b
  exact ⟨a, b⟩
theorem laid_er (hL : laidMetH Tryz.prog Rows.valueNumsRow.laid W) : ∃ t u v, W.heap[(9 : Nat)]? = some (.cells #[.iface u v] t (0, 0)) :=
  jjH (t := 142) hL jbT (List.mem_of_getElem? (i := 10) rfl) (by kernel_rfl) (by kernel_rfl) Tryz.underlying142
theorem laid_es (hL : laidMetH Tryz.prog Rows.valueNumsRow.laid W) : ∃ t u v, W.heap[(8 : Nat)]? = some (.cells #[.iface u v] t (0, 0)) :=
  jjH (t := 142) hL jbT (List.mem_of_getElem? (i := 11) rfl) (by kernel_rfl) (by kernel_rfl) Tryz.underlying142
theorem laid_at (hL : laidMetH Tryz.prog Rows.valueNumsRow.laid W) : Laid W := ⟨laid_opt hL, laid_fi hL, laid_pt hL, laid_fp hL, laid_pw hL, laid_lc hL, laid_er hL, laid_es hL⟩
theorem pp_eq : flatL 3 Rows.laid_internal_strconv_uint64pow10 = some ((List.range 20).map fun k => u (10 ^ k)) := by
  rw [show ((List.range 20).map fun k => u (10 ^ k)) = (List.range 20).map fun k => Value.int .u64 (.ofNat (10 ^ k)) from List.map_congr_left fun k hk => (u_of (Nat.lt_of_le_of_lt (Nat.pow_le_pow_right (n := 10) (Nat.succ_pos 9) (show k ≤ 19 from Nat.le_of_lt_succ (List.mem_range.1 hk))) (show 10 ^ 19 < 18446744073709551616 by decide))).symm]
  kernel_rfl
theorem laid_pp (hL : laidMetH Tryz.prog Rows.valueNumsRow.laid W) : ∃ t, W.heap[(4 : Nat)]? = some (.cells ((List.range 20).map fun k => u (10 ^ k)).toArray t (0, 0)) :=
  jgJ (k := 3) (m := 3) (t := 288) hL jbT (List.mem_of_getElem? (i := 8) rfl) (by kernel_rfl) (by kernel_rfl) (by kernel_rfl) pp_eq (by decide)
theorem laidp_at (hL : laidMetH Tryz.prog Rows.valueNumsRow.laid W) : LaidP W := ⟨laid_pp hL⟩

set_option maxRecDepth 100000 in
theorem contract (H : Type) (enc : TypeId × Value → H) (W : World) (base : Nat) (args : Array Value) (ds gs : List (DataW H)) (before : List MemPlace)
    (hval : ∀ (j : Nat) t v, Tryz.f3.params[j]? = some t → args[j]? = some v → Value.okWide Tryz.prog W .any base t v)
    (hW : DataW.Whole enc Tryz.prog Tryz.f3.params.toList Rows.valueNumsSpec.vars false W args.toList ds gs before) (hL : laidMetH Tryz.prog Rows.valueNumsRow.laid W) (_ : W.ShapedOpen Tryz.prog) :
    Calls Tryz.prog 3 args W fun e W' => ∃ v, e = .returned v ∧ Rows.valueNumsSpec.post enc Tryz.prog Tryz.f3 false true false false W args v W' := by
  have hW' := hW
  obtain ⟨p, q, hA0, hV, rfl, hfz, hnd⟩ := hW
  have hA : DataW.TrodAll enc Tryz.prog W 0 (fun _ => true) true Tryz.f3.params.toList args.toList ds p := hA0
  rw [Tryz.params3] at hA hval
  obtain ⟨v0, vs0, d0, ds0, p0, q0, hargs, rfl, rfl, h0, r0⟩ := trodAll_cons hA
  obtain ⟨rfl, rfl, rfl⟩ := trodAll_nil r0
  obtain rfl : args = #[v0] := by cases args; simp_all
  obtain ⟨rfl, rfl⟩ := trodVars_none hV
  clear hA0
  have hlt0 : ∀ x ∈ p0, x.block < W.heap.size := fun x hx => hW'.lt x (by simp [hx])
  have h0k := h0
  have hv0 : Value.okWide Tryz.prog W .any base 27 v0 := hval 0 27 v0 rfl rfl
  obtain ⟨a0, hv, _⟩ := okWide_struct Tryz.underlying27 hv0
  subst hv
  obtain ⟨f0, hf0⟩ := h0
  have hf0' : DataW.trod enc Tryz.prog W 0 (fun _ => true) true f0 27 a0.toList = some (d0, p0) := by simpa [Value.cells] using hf0
  have hrun : Calls Tryz.prog 3 #[.agg a0] W fun e W' => e = .returned (.bool true) ∧ Same W W' := ranN (laid_at hL) (laidp_at hL) hf0'
  refine hrun.mono fun e W' ⟨he, hs⟩ => ⟨_, he, [d0], [], _, [], p0, [], hW', ?_, ?_, ?_, hs.kept _, fun h => by cases h⟩
  · exact trodAll_cons_mk (shut_bool Tryz.underlying4 _) trodAll_mk0
  · rw [Tryz.params3]
    exact trodAll_mk1 (Below.trod laidOut (by kernel_rfl) (of_decide_eq_true (by kernel_rfl)) h0k ⟨hs.os, hs.tape, hs.output, hs.size, hs.heap⟩ hlt0)
  · exact rfl

/-! ### the row -/
set_option maxRecDepth 100000 in
theorem laid_met (os : Os) : laidMet Tryz.prog Rows.valueNumsRow.laid ((World.laidAll Tryz.prog os Rows.valueNumsRow.laid).forCall (fun _ _ => 0) ⟨#[], #[.agg #[.bool false, .float .f64 0, .bool false, .slice none 0 0]], []⟩).memory :=
  laidMet_laidAll _ (by kernel_rfl) (by kernel_rfl)
theorem reads (os : Os) {H : Type} (enc : TypeId × Value → H) : ∃ places, DataW.whole enc Tryz.prog ((World.laidAll Tryz.prog os Rows.valueNumsRow.laid).forCall (fun _ _ => 0) ⟨#[], #[.agg #[.bool false, .float .f64 0, .bool false, .slice none 0 0]], []⟩).memory Tryz.f3.params.toList Rows.valueNumsSpec.vars false (#[.agg #[.bool false, .float .f64 0, .bool false, .slice none 0 0]] : Array Value).toList 8 = some ([.agg [.lit (.bool false), .lit (.float .f64 0), .agg [.lit (.bool false), .nil]]], [], places) :=
  ⟨[], by kernel_rfl⟩
theorem shaped (os : Os) : ((World.laidAll Tryz.prog os Rows.valueNumsRow.laid).forCall (fun _ _ => 0) ⟨#[], #[.agg #[.bool false, .float .f64 0, .bool false, .slice none 0 0]], []⟩).Shaped Tryz.prog :=
  World.shaped_of_ZipB (by kernel_rfl) (by kernel_rfl)
theorem okIn (os : Os) : Input.okWideB Tryz.prog ((World.laidAll Tryz.prog os Rows.valueNumsRow.laid).forCall (fun _ _ => 0) ⟨#[], #[.agg #[.bool false, .float .f64 0, .bool false, .slice none 0 0]], []⟩) 3 ⟨#[], #[.agg #[.bool false, .float .f64 0, .bool false, .slice none 0 0]], []⟩ = true := by kernel_rfl

theorem witness (os : Os) (H : Type) (enc : TypeId × Value → H) : ∃ (w : World) (tape : Tape) (i : Input), w.os = os ∧ (w.forCall tape i).Shaped Tryz.checked.prog ∧ i.vars = [] ∧ Input.okWide Tryz.checked.prog (w.forCall tape i) .any w.heap.size 3 i ∧
    (OpenSpec.ofChange Rows.valueNumsSpec).preRow enc Tryz.checked.prog Tryz.f3 Rows.valueNumsRow.domain false Rows.valueNumsRow.laid (w.forCall tape i).memory i.args ∧ ({} : Assume).holds Tryz.checked.prog (lone (Frame.enter Tryz.checked.prog 3 i.args .normal) [] (w.forCall tape i)) := by
  obtain ⟨places, hx⟩ := reads os enc
  refine ⟨World.laidAll Tryz.prog os Rows.valueNumsRow.laid, fun _ _ => 0, ⟨#[], #[.agg #[.bool false, .float .f64 0, .bool false, .slice none 0 0]], []⟩, World.laidAll_os _ _ _, shaped os, (Input.okWide_of_okWideB (base := 0) (okIn os)).1, (Input.okWide_of_okWideB (okIn os)).2,
    OpenSpec.preRow_of_cond 8 hx (by kernel_rfl) (fun k hk => by cases hk) (by kernel_rfl) (laid_met os), ?_⟩
  simp only [Assume.holds]
  exact ⟨by simp, by simp, (fun h => by cases h), by simp, by simp⟩

set_option maxRecDepth 100000 in
theorem lifted (os : Os) (started : os.Started) (H : Type) (enc : TypeId × Value → H) (F : Stop.Interp) :
    ReturnsInHanded {} Tryz.checked os 3 .any ((OpenSpec.ofChange Rows.valueNumsSpec).preRow enc Tryz.prog Tryz.f3 Rows.valueNumsRow.domain false Rows.valueNumsRow.laid) (((OpenSpec.ofChange Rows.valueNumsSpec).at F).post enc Tryz.prog Tryz.f3 false true false false) := by
  refine returnsInHanded_of_row (C := Tryz.checked) (s := OpenSpec.ofChange Rows.valueNumsSpec) own started (by kernel_rfl) Tryz.func3 (witness os H enc) ?_
  intro W base args ds gs before hval hW _ _ _ hL hS _
  exact contract H enc W base args ds gs before hval hW hL hS

end Go.Proofs.YtdmfakpngnlokaaGreatDoor.nu
