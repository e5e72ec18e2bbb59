/-
  distafflaw18.ValueSymbols: the walk over what is not known; tables of what small functions return; the run over any list of texts. No conditions.
-/
import Derived.Test.YtnolapdoeeamdaaGreatDoorEvZv
import Derived.Test.YtnolapdoeeamdaaGreatDoorEvZe
import Derived.Test.YtnolapdoeeamdaaGreatDoorRows
set_option linter.unusedSimpArgs false
set_option linter.unusedVariables false
namespace Go.Proofs.YtnolapdoeeamdaaGreatDoor.vs
open Go Go.Proofs Go.Proofs.YtnolapdoeeamdaaGreatDoor.Ev
noncomputable section

/-- a text's place in a list -/
def pos (x : ByteArray) : List ByteArray → Nat → Option Nat
  | [], _ => none
  | y :: r, j => if x = y then some j else pos x r (j + 1)

theorem pos_spec (x : ByteArray) : ∀ (ns : List ByteArray) (j q : Nat), pos x ns j = some q → j ≤ q ∧ ns[q - j]? = some x := by
  intro ns
  induction ns with
  | nil => intro j q h; simp [pos] at h
  | cons y r ih =>
    intro j q h
    unfold pos at h
    split at h
    · rename_i e; cases h; subst e; exact ⟨Nat.le_refl _, by simp⟩
    · obtain ⟨h1, h2⟩ := ih _ _ h
      exact ⟨by omega, by rw [show q - j = (q - (j + 1)) + 1 from by omega, List.getElem?_cons_succ]; exact h2⟩

theorem pos_app (x : ByteArray) : ∀ (ns ms : List ByteArray) (j q : Nat), pos x ns j = some q → pos x (ns ++ ms) j = some q := by
  intro ns
  induction ns with
  | nil => intro ms j q h; simp [pos] at h
  | cons y r ih =>
    intro ms j q h
    unfold pos at h ⊢
    simp only [List.cons_append]
    split at h
    · rename_i e; rw [if_pos e]; exact h
    · rename_i e; rw [if_neg e]; exact ih _ _ _ h

theorem pos_new (x : ByteArray) : ∀ (ns : List ByteArray) (j : Nat), pos x ns j = none → pos x (ns ++ [x]) j = some (j + ns.length) := by
  intro ns
  induction ns with
  | nil => intro j _; simp [pos]
  | cons y r ih =>
    intro j h
    unfold pos at h ⊢
    simp only [List.cons_append]
    split at h
    · cases h
    · rename_i e; rw [if_neg e, ih _ h]; simp; omega

/-- the map's entries -/
def esFrom (ns : List ByteArray) (j : Nat) : List (Value × Value × Nat) := match ns with
  | [] => []
  | s :: r => (.string s, .int .i64 (.ofNat j), j) :: esFrom r (j + 1)

theorem esFrom_app : ∀ (ns : List ByteArray) (j : Nat) (x : ByteArray), esFrom (ns ++ [x]) j = esFrom ns j ++ [(.string x, .int .i64 (.ofNat (j + ns.length)), j + ns.length)] := by
  intro ns
  induction ns with
  | nil => intro j x; rfl
  | cons y r ih => intro j x; simp only [List.cons_append, esFrom, ih, List.length_cons]; rw [show j + 1 + r.length = j + (r.length + 1) from by omega]

theorem mfind_es (x : ByteArray) : ∀ (ns : List ByteArray) (j : Nat), mfind (.string x) (esFrom ns j) j = some (match pos x ns j with
    | some q => some (q, .int .i64 (.ofNat q))
    | none => none) := by
  intro ns
  induction ns with
  | nil => intro j; rfl
  | cons y r ih =>
    intro j
    unfold esFrom mfind pos
    have hk : skey (.string x) (.string y) = some (decide (x = y)) := by
      unfold skey
      simp only [bytes_eq]
    simp only [hk]
    by_cases h : x = y
    · simp only [h, decide_true, if_true]
    · simp only [h, decide_false, if_false]
      exact ih (j + 1)

variable {X : FuncId → List Value → Mem → Option (Value × Mem)} {S : List (FuncId × LK)}

theorem i57 : Tryz.prog.info? 57 = some Tryz.t57 := by kernel_rfl
theorem i22 : Tryz.prog.info? 22 = some Tryz.t22 := by kernel_rfl
theorem i9 : Tryz.prog.info? 9 = some Tryz.t9 := by kernel_rfl
theorem i3 : Tryz.prog.info? 3 = some Tryz.t3 := by kernel_rfl
theorem i28 : Tryz.prog.info? 28 = some Tryz.t28 := by kernel_rfl
theorem fa2 (ρ : Operand → Value) (x : Operand) : aFieldAddr Tryz.prog ρ 59 x 2 = (match ρ x with | .pointer (some a) => some (.pointer (some (a.add 2))) | _ => none) := fieldAddr_at (ft := 57) (off := 2) Tryz.underlying59 rfl i57 rfl ρ x
theorem fa1 (ρ : Operand → Value) (x : Operand) : aFieldAddr Tryz.prog ρ 59 x 1 = (match ρ x with | .pointer (some a) => some (.pointer (some (a.add 1))) | _ => none) := fieldAddr_at (ft := 22) (off := 1) Tryz.underlying59 rfl i22 rfl ρ x
theorem ldM (μ : Mem) (i o : Nat) : aLoad Tryz.prog μ 57 (.pointer (some ⟨i, o, none⟩)) = cellsAt μ i o := load_at Tryz.underlying57 rfl μ i o
theorem ldS (μ : Mem) (i o : Nat) : aLoad Tryz.prog μ 22 (.pointer (some ⟨i, o, none⟩)) = cellsAt μ i o := load_at Tryz.underlying22 rfl μ i o
theorem ldT (μ : Mem) (i o : Nat) : aLoad Tryz.prog μ 9 (.pointer (some ⟨i, o, none⟩)) = cellsAt μ i o := load_at Tryz.underlying9 rfl μ i o
theorem ldW (μ : Mem) (i o : Nat) : aLoad Tryz.prog μ 28 (.pointer (some ⟨i, o, none⟩)) = cellsAt μ i o := load_at Tryz.underlying28 rfl μ i o
theorem z3 : aZeroOf Tryz.prog 3 = some (.int .i64 0) := by unfold aZeroOf; rw [i3]; rfl
theorem z9 : aZeroOf Tryz.prog 9 = some (.string ByteArray.empty) := by unfold aZeroOf; rw [i9]; rfl
theorem bsS (ρ : Operand → Value) (x : Operand) (hv : one (ρ x) = true) : aBuildSlice Tryz.prog ρ 22 1 #[(0, x)] = some (.cells 1 9 #[ρ x] .e 0 0 false false, fun id => .slice (some ⟨id, 0, none⟩) 1 2) := buildSlice_if Tryz.underlying22 i9 rfl z9 rfl ρ x hv
theorem z28 : aZeroOf Tryz.prog 28 = some (.int .u64 0) := by unfold aZeroOf; rw [i28]; rfl

/-- nothing lies where nothing was born -/
def Fresh (μ : Mem) : Prop := ∀ i, μ.next ≤ i → μ.obs.get i = none

/-- a space of texts -/
structure Space (μ : Mem) (sp mp : Nat) (ns : List ByteArray) : Prop where
  fresh : Fresh μ
  map : μ.obs.get mp = some (.map (esFrom ns 0) ns.length)
  sp : ∃ z ov fx sh, μ.obs.get sp = some (.cells 3 59 z ov 0 0 fx sh) ∧ cellAt z ov 2 = .map (some mp) ∧ GoodSl μ 9 (cellAt z ov 1) (ns.map .string)

/-- what is kept -/
def Kept (μ μ' : Mem) (sp mp : Nat) : Prop := ∀ i, i < μ.next → i ≠ sp → i ≠ mp → (∀ m z ov lo hi fx sh, μ.obs.get i ≠ some (.cells m 9 z ov lo hi fx sh)) → μ'.obs.get i = μ.obs.get i

theorem Kept.refl (μ : Mem) (sp mp : Nat) : Kept μ μ sp mp := fun _ _ _ _ _ => rfl

theorem Fresh.lt {μ : Mem} (h : Fresh μ) {i : Nat} {o : Ob} (ho : μ.obs.get i = some o) : i < μ.next := by
  rcases Nat.lt_or_ge i μ.next with h1 | h1
  · exact h1
  · rw [h i h1] at ho; cases ho

/-- the word of a number -/
def wordOf (q : Nat) : Value := .int .u64 (.ofNat (8 * q + 3))


set_option maxHeartbeats 4000000 in
theorem sym_found {k sp mp : Nat} {x : ByteArray} {ns : List ByteArray} {μ : Mem} {q : Nat} (hI : Space μ sp mp ns) (hp : pos x ns 0 = some q) (hw : ∀ k, aCallS Tryz.prog (aCode Tryz.prog X S k) S 15 [.int .i64 (.ofNat q)] μ = some (wordOf q, μ)) :
    EndsF (aFun Tryz.prog (aCode Tryz.prog X S (k + 20)) 6 [.pointer (some ⟨sp, 0, none⟩), .string x] μ) fun v μ' => v = wordOf q ∧ μ' = μ := by
  obtain ⟨z, ov, fx, sh, hsp, hc2, hnm⟩ := hI.sp
  have hl2 : cellsAt μ sp 2 = some (.map (some mp)) := by rw [cellsAt_of (n := 3) (z := z) (ov := ov) (by rw [hsp]; rfl) (by decide), hc2]
  have hmp := hI.map
  have hf : mfind (.string x) (esFrom ns 0) 0 = some (some (q, .int .i64 (.ofNat q))) := by rw [mfind_es, hp]
  refine fun_enter Tryz.func6 rfl rfl (by show 2 ≤ 41; decide) ?_
  simp only [T.lay, Nat.zero_add, Tryz.ntmps6]
  refine code_seq ?_
  refine code_region ?_ ?_
  · rfl
  simp only [run1, aOne, aP, aev, regAt_set, aput_mk, ends_some, Nat.reduceLT, if_true, plainV, then_normal, Nat.reduceEqDiff, if_false, reduceIte]
  refine code_seq ?_
  refine code_region ?_ ?_
  · rfl
  simp only [run1, aOne, aP, aR, aA, aT, aCall, aev, regAt_set, aput_mk, aNilCheck, fa2, ldM, hl2, aLookup, Tryz.underlying57, Tryz.underlying9, keyOk, hmp, hf, aExtract, List.getElem?_cons_zero, List.getElem?_cons_succ, Addr.add, Nat.zero_add,
    ends_some, Nat.reduceLT, if_true, then_normal, Nat.reduceEqDiff, if_false, reduceIte, reduceCtorEq]
  refine code_seq ?_
  refine code_seq ?_
  refine code_region ?_ ?_
  · rfl
  simp only [run1, aOne, aP, aR, aA, aT, aCall, aev, regAt_set, aput_mk, ends_some, Nat.reduceLT, if_true, then_normal, Nat.reduceEqDiff, if_false, reduceIte, reduceCtorEq, Bool.not_true]
  refine code_cond_false ?_ ?_
  · simp only [aev, regAt_set, Nat.reduceEqDiff, reduceIte]
  refine code_skip ?_
  simp only [then_normal]
  refine code_seq ?_
  refine code_region ?_ ?_
  · rfl
  simp only [run1, aOne, aP, aR, aA, aT, aCall, aCallVal, go_body Tryz.func15 rfl, hw, aev, regAt_set, aput_mk, ends_some, Nat.reduceLT, if_true, then_normal, Nat.reduceEqDiff, if_false, reduceIte, reduceCtorEq, List.map_cons, List.map_nil, List.nil_append, List.append_nil]
  refine code_ret ?_
  refine ⟨rfl, _, ?_, rfl, rfl⟩
  simp only [aResults, Tryz.results6, aRes, regAt_set, Nat.reduceEqDiff, reduceIte]

set_option maxHeartbeats 4000000 in
theorem sym_new {k sp mp : Nat} {x : ByteArray} {ns : List ByteArray} {μ : Mem} (hI : Space μ sp mp ns) (hp : pos x ns 0 = none) (hn : ns.length < 101) (hw : ∀ k μ, aCallS Tryz.prog (aCode Tryz.prog X S k) S 15 [.int .i64 (.ofNat ns.length)] μ = some (wordOf ns.length, μ)) :
    EndsF (aFun Tryz.prog (aCode Tryz.prog X S (k + 20)) 6 [.pointer (some ⟨sp, 0, none⟩), .string x] μ) fun v μ' => v = wordOf ns.length ∧ Space μ' sp mp (ns ++ [x]) ∧ μ.next ≤ μ'.next ∧ Kept μ μ' sp mp := by
  obtain ⟨z, ov, fx, sh, hsp, hc2, hnm⟩ := hI.sp
  have hl2 : cellsAt μ sp 2 = some (.map (some mp)) := by rw [cellsAt_of (n := 3) (z := z) (ov := ov) (by rw [hsp]; rfl) (by decide), hc2]
  have hmp := hI.map
  have hf : mfind (.string x) (esFrom ns 0) 0 = some none := by rw [mfind_es, hp]
  obtain ⟨a, c, hnv, _⟩ := good_len hnm
  rw [List.length_map] at hnv
  have hl1 : cellsAt μ sp 1 = some (.slice a ns.length c) := by rw [cellsAt_of (n := 3) (z := z) (ov := ov) (by rw [hsp]; rfl) (by decide), hnv]
  have hne : sp ≠ mp := fun e => by rw [e, hmp] at hsp; cases hsp
  have hlt1 := hI.fresh.lt hsp
  have hlt2 := hI.fresh.lt hmp
  have hl1' : ∀ M, cellsAt ⟨μ.obs.set mp M, μ.next⟩ sp 1 = some (.slice a ns.length c) := fun M => by
    rw [← hl1]; unfold cellsAt; rw [T.get_set, if_neg hne]
  have hg2 : GoodSl ⟨(μ.obs.set mp (.map (esFrom ns 0 ++ [(.string x, .int .i64 (.ofNat ns.length), ns.length)]) (Nat.add ns.length 1))).set μ.next (.cells 1 9 #[.string x] .e 0 0 false false), Nat.add μ.next 1⟩ 9 (.slice a ns.length c) (ns.map .string) := by
    rw [← hnv]
    refine hnm.keep fun i hi => ?_
    obtain ⟨l, c', hi⟩ := hi
    rcases hnm with ⟨h1, _⟩ | ⟨i', m, z', ov', fx', sh', c'', h1, hob, _⟩
    · rw [h1] at hi; cases hi
    · rw [h1] at hi; cases hi
      have : i < μ.next := hI.fresh.lt hob
      rw [T.get_set, if_neg (by omega), T.get_set, if_neg]
      intro e; subst e; rw [hmp] at hob; cases hob
  obtain ⟨nv', μ3, hap, hg3, hnx3, hat3, hk3⟩ := append_one (P := Tryz.prog) (st := 22) (x := .string x) (q := μ.next) Tryz.underlying22 i9 rfl rfl z9 rfl hg2 (by rw [T.get_set, if_pos rfl]) (by rw [List.length_map]; omega) rfl
  have hsp3 : μ3.obs.get sp = some (.cells 3 59 z ov 0 0 fx sh) := by
    rw [hk3 sp (by show sp ≠ μ.next + 1; omega) ?_]
    · show T.get _ sp = _
      rw [T.get_set, if_neg (by omega), T.get_set, if_neg hne]; exact hsp
    · rintro ⟨l, c', h1⟩
      rw [← hnv] at h1
      rcases hnm with ⟨h2, _⟩ | ⟨i', m, z', ov', fx', sh', c'', h2, hob, _⟩
      · rw [h2] at h1; cases h1
      · rw [h2] at h1; cases h1; rw [hsp] at hob; cases hob
  obtain ⟨ln, cn, hnv'⟩ := hat3
  have hst := store_one (P := Tryz.prog) (t := 22) (v := nv') (o := 1) i22 rfl (by rw [hnv']; rfl) hsp3 (by decide)
  refine fun_enter Tryz.func6 rfl rfl (by show 2 ≤ 41; decide) ?_
  simp only [T.lay, Nat.zero_add, Tryz.ntmps6]
  refine code_seq ?_
  refine code_region ?_ ?_
  · rfl
  simp only [run1, aOne, aP, aev, regAt_set, aput_mk, ends_some, Nat.reduceLT, if_true, plainV, then_normal, Nat.reduceEqDiff, if_false, reduceIte]
  refine code_seq ?_
  refine code_region ?_ ?_
  · rfl
  simp only [run1, aOne, aP, aR, aA, aT, aCall, aev, regAt_set, aput_mk, aNilCheck, fa2, ldM, hl2, aLookup, Tryz.underlying57, Tryz.underlying9, keyOk, hmp, hf, z3, aExtract, List.getElem?_cons_zero, List.getElem?_cons_succ, Addr.add, Nat.zero_add,
    ends_some, Nat.reduceLT, if_true, then_normal, Nat.reduceEqDiff, if_false, reduceIte, reduceCtorEq]
  refine code_seq ?_
  refine code_seq ?_
  refine code_region ?_ ?_
  · rfl
  simp only [run1, aOne, aP, aR, aA, aT, aCall, aev, regAt_set, aput_mk, ends_some, Nat.reduceLT, if_true, then_normal, Nat.reduceEqDiff, if_false, reduceIte, reduceCtorEq, Bool.not_false]
  refine code_cond_true ?_ ?_
  · simp only [aev, regAt_set, Nat.reduceEqDiff, reduceIte]
  refine code_seq ?_
  refine code_region ?_ ?_
  · rfl
  simp only [run1, aOne, aP, aR, aA, aT, aCall, aev, regAt_set, aput_mk, aNilCheck, fa1, ldS, hl1, aBuiltin, aLen, cast_nat, Tryz.underlying22, Addr.add, Nat.zero_add, ends_some, Nat.reduceLT, if_true, then_normal, Nat.reduceEqDiff, if_false, reduceIte, reduceCtorEq]
  refine code_seq ?_
  refine code_region ?_ ?_
  · rfl
  simp only [run1, aOne, aP, aR, aA, aT, aCall, aev, regAt_set, aput_mk, aput_none, aNilCheck, fa2, ldM, hl2, aMapPut, Tryz.underlying57, Tryz.underlying9, keyOk, hmp, hf, Addr.add, Nat.zero_add, ends_some, Nat.reduceLT, if_true, then_normal, Nat.reduceEqDiff, if_false, reduceIte, reduceCtorEq]
  refine code_region ?_ ?_
  · rfl
  simp only [run1, aOne, aP, aR, aA, aT, aCall, aev, regAt_set, aput_mk, aput_none, aNilCheck, fa1, ldS, hl1', aBuiltin, bsS, one, hap, hst, Addr.add, Nat.zero_add, ends_some, Nat.reduceLT, if_true, then_normal, Nat.reduceEqDiff, if_false, reduceIte, reduceCtorEq]
  refine code_seq ?_
  refine code_region ?_ ?_
  · rfl
  simp only [run1, aOne, aP, aR, aA, aT, aCall, aCallVal, go_body Tryz.func15 rfl, hw, aev, regAt_set, aput_mk, ends_some, Nat.reduceLT, if_true, then_normal, Nat.reduceEqDiff, if_false, reduceIte, reduceCtorEq, List.map_cons, List.map_nil, List.nil_append, List.append_nil]
  refine code_ret ?_
  refine ⟨rfl, wordOf ns.length, ?_, ?_⟩
  · simp only [aResults, Tryz.results6, aRes, regAt_set, Nat.reduceEqDiff, reduceIte]
  refine ⟨rfl, ⟨?_, ?_, ?_⟩, ?_, ?_⟩
  · -- nothing beyond
    intro i hi
    have hi : μ3.next ≤ i := hi
    have hnx : μ3.next = μ.next + 1 + 1 := hnx3
    show (μ3.obs.set sp _).get i = none
    rw [T.get_set, if_neg (by omega), hk3 i (by show i ≠ μ.next + 1; omega) ?_]
    · show T.get _ i = none
      rw [T.get_set, if_neg (by omega), T.get_set, if_neg (by omega)]
      exact hI.fresh i (by omega)
    · rintro ⟨l, c', h1⟩
      rw [← hnv] at h1
      rcases hnm with ⟨h2, _⟩ | ⟨i', m, z', ov', fx', sh', c'', h2, hob, _⟩
      · rw [h2] at h1; cases h1
      · rw [h2] at h1; cases h1
        have := hI.fresh.lt hob
        omega
  · -- the map
    show (μ3.obs.set sp _).get mp = _
    rw [T.get_set, if_neg (fun e => hne e.symm), hk3 mp (by show mp ≠ μ.next + 1; omega) ?_]
    · show T.get _ mp = _
      rw [T.get_set, if_neg (by omega), T.get_set, if_pos rfl, esFrom_app, Nat.zero_add, List.length_append]
      rfl
    · rintro ⟨l, c', h1⟩
      rw [← hnv] at h1
      rcases hnm with ⟨h2, _⟩ | ⟨i', m, z', ov', fx', sh', c'', h2, hob, _⟩
      · rw [h2] at h1; cases h1
      · rw [h2] at h1; cases h1; rw [hmp] at hob; cases hob
  · -- the space
    refine ⟨z, ov.set 1 nv', fx, sh, by show (μ3.obs.set sp _).get sp = _; rw [T.get_set, if_pos rfl], ?_, ?_⟩
    · rw [cellAt_set, if_neg (by decide), hc2]
    · rw [cellAt_set, if_pos rfl, List.map_append]
      refine hg3.keep fun i hi => ?_
      obtain ⟨l, c', hi⟩ := hi
      show (μ3.obs.set sp _).get i = _
      rw [T.get_set, if_neg]
      intro e
      subst e
      rw [hnv'] at hi
      have hi : (Value.slice (some ⟨μ.next + 1, 0, none⟩) ln cn) = .slice (some ⟨i, 0, none⟩) l c' := hi
      cases hi
      omega
  · show μ.next ≤ μ3.next
    have hnx : μ3.next = μ.next + 1 + 1 := hnx3
    omega
  · intro i h1 h2 h3 h4
    show (μ3.obs.set sp _).get i = _
    rw [T.get_set, if_neg h2, hk3 i (by show i ≠ μ.next + 1; omega) ?_]
    · show T.get _ i = _
      rw [T.get_set, if_neg (by omega), T.get_set, if_neg h3]
    · rintro ⟨l, c', h5⟩
      rw [← hnv] at h5
      rcases hnm with ⟨h6, _⟩ | ⟨i', m, z', ov', fx', sh', c'', h6, hob, _⟩
      · rw [h6] at h5; cases h5
      · rw [h6] at h5; cases h5
        exact h4 _ _ _ _ _ _ _ hob

theorem symbol {k sp mp : Nat} {x : ByteArray} {ns : List ByteArray} {μ : Mem} (hI : Space μ sp mp ns) (hn : ns.length < 101) (hw : ∀ q k μ, q < 101 → aCallS Tryz.prog (aCode Tryz.prog X S k) S 15 [.int .i64 (.ofNat q)] μ = some (wordOf q, μ)) :
    EndsF (aFun Tryz.prog (aCode Tryz.prog X S (k + 20)) 6 [.pointer (some ⟨sp, 0, none⟩), .string x] μ) fun v μ' => ∃ q ms, pos x (ns ++ ms) 0 = some q ∧ ms.length ≤ 1 ∧ v = wordOf q ∧ Space μ' sp mp (ns ++ ms) ∧ μ.next ≤ μ'.next ∧ Kept μ μ' sp mp := by
  cases hp : pos x ns 0 with
  | some q =>
    obtain ⟨_, h2⟩ := pos_spec _ _ _ _ hp
    have hq : q < ns.length := by have := (List.getElem?_eq_some_iff.1 h2).1; omega
    exact (sym_found hI hp fun k => hw q k μ (by omega)).mono fun v μ' ⟨h3, h4⟩ => ⟨q, [], by rw [List.append_nil]; exact hp, by simp, h3, by rw [h4, List.append_nil]; exact hI, by rw [h4]; exact Nat.le_refl _, by rw [h4]; exact Kept.refl _ _ _⟩
  | none =>
    refine (sym_new hI hp hn fun k μ => hw ns.length k μ hn).mono fun v μ' ⟨h3, h4, h5, h6⟩ => ⟨ns.length, [x], ?_, by simp, h3, h4, h5, h6⟩
    rw [pos_new _ _ _ hp, Nat.zero_add]

theorem ilt_zero (q : Nat) : ilt (.ofNat q) 0 = false := rfl

set_option maxHeartbeats 4000000 in
theorem name_yes {k sp mp q : Nat} {x : ByteArray} {ns : List ByteArray} {μ : Mem} (hI : Space μ sp mp ns) (hx : ns[q]? = some x) (hK : ∀ k, aCallS Tryz.prog (aCode Tryz.prog X S k) S 17 [wordOf q] μ = some (.int .i64 3, μ)) (hV : ∀ k, aCallS Tryz.prog (aCode Tryz.prog X S k) S 16 [wordOf q] μ = some (.int .i64 (.ofNat q), μ)) :
    EndsF (aFun Tryz.prog (aCode Tryz.prog X S (k + 20)) 7 [.pointer (some ⟨sp, 0, none⟩), wordOf q] μ) fun v μ' => v = .string x ∧ μ' = μ := by
  obtain ⟨z, ov, fx, sh, hsp, hc2, hnm⟩ := hI.sp
  obtain ⟨hq, hxq⟩ := List.getElem?_eq_some_iff.1 hx
  obtain ⟨a, c, hnv, ha⟩ := good_len hnm
  rw [List.length_map] at hnv ha
  obtain ⟨i, rfl⟩ := ha (by omega)
  have hl1 : cellsAt μ sp 1 = some (.slice (some ⟨i, 0, none⟩) ns.length c) := by rw [cellsAt_of (n := 3) (z := z) (ov := ov) (by rw [hsp]; rfl) (by decide), hnv]
  have hel : cellsAt μ i q = some (.string x) := by
    rw [cellsAt_good hnm hnv (by rw [List.length_map]; exact hq)]
    simp [hxq]
  have hia : ∀ ρ : Operand → Value, ∀ a b, ρ a = .slice (some ⟨i, 0, none⟩) ns.length c → ρ b = .int .i64 (.ofNat q) → aIndexAddr Tryz.prog ρ 22 a b = some (.pointer (some ⟨i, q, none⟩)) := fun ρ a b h1 h2 => by
    rw [indexAddr_slice (P := Tryz.prog) Tryz.underlying22 i9 rfl h1 h2 hq, Nat.zero_add]
  refine fun_enter Tryz.func7 rfl rfl (by show 2 ≤ 31; decide) ?_
  simp only [T.lay, Nat.zero_add, Tryz.ntmps7]
  refine code_seq ?_
  refine code_region ?_ ?_
  · rfl
  simp only [run1, aOne, aP, aev, regAt_set, aput_mk, ends_some, Nat.reduceLT, if_true, plainV, then_normal, Nat.reduceEqDiff, if_false, reduceIte]
  refine code_seq ?_
  refine code_region ?_ ?_
  · rfl
  simp only [run1, aOne, aP, aR, aA, aT, aCall, aCallVal, go_body Tryz.func16 rfl, hV, aev, regAt_set, aput_mk, ends_some, Nat.reduceLT, if_true, then_normal, Nat.reduceEqDiff, if_false, reduceIte, reduceCtorEq, List.map_cons, List.map_nil, List.nil_append, List.append_nil]
  refine code_seq ?_
  refine code_seq ?_
  refine code_guards (gs := ?_) ?_ ?_
  rotate_left
  · rfl
  simp only [run2, wanted, aOne, aP, aR, aA, aT, aCall, aCallVal, go_body Tryz.func17 rfl, hK, aev, regAt_set, aput_mk, plainV, aBin, aInt, ieq_eq, ilt_zero, ilt_nat, hq, aNilCheck, fa1, ldS, hl1, aBuiltin, aLen, Tryz.underlying22, cast_nat, aPick, Addr.add, Nat.zero_add,
    ends_some, Nat.reduceLT, if_true, then_normal, Nat.reduceEqDiff, if_false, reduceIte, reduceCtorEq, List.map_cons, List.map_nil, List.nil_append, List.append_nil, decide_true, decide_false, Bool.not_true, Bool.not_false, beq_self_eq_true, Bool.true_eq_false]
  refine code_cond_false ?_ ?_
  · simp only [aev, regAt_set, Nat.reduceEqDiff, reduceIte]
  refine code_skip ?_
  simp only [then_normal]
  refine code_seq ?_
  refine code_region ?_ ?_
  · rfl
  simp only [run1, aOne, aP, aR, aA, aT, aCall, aev, regAt_set, aput_mk, aNilCheck, fa1, ldS, hl1, hia, ldT, hel, Addr.add, Nat.zero_add,
    ends_some, Nat.reduceLT, if_true, then_normal, Nat.reduceEqDiff, if_false, reduceIte, reduceCtorEq]
  refine code_ret ?_
  refine ⟨rfl, .string x, ?_, rfl, rfl⟩
  simp only [aResults, Tryz.results7, aRes, regAt_set, Nat.reduceEqDiff, reduceIte]

set_option maxHeartbeats 4000000 in
theorem name_no {k sp mp q : Nat} {w : Value} {kd : Int} {ns : List ByteArray} {μ : Mem} (hI : Space μ sp mp ns) (hK : ∀ k, aCallS Tryz.prog (aCode Tryz.prog X S k) S 17 [w] μ = some (.int .i64 kd, μ)) (hV : ∀ k, aCallS Tryz.prog (aCode Tryz.prog X S k) S 16 [w] μ = some (.int .i64 (.ofNat q), μ))
    (hno : kd = 0 ∨ (kd = 3 ∧ ns.length ≤ q)) :
    EndsF (aFun Tryz.prog (aCode Tryz.prog X S (k + 20)) 7 [.pointer (some ⟨sp, 0, none⟩), w] μ) fun v μ' => v = .string ⟨#[]⟩ ∧ μ' = μ := by
  obtain ⟨z, ov, fx, sh, hsp, hc2, hnm⟩ := hI.sp
  obtain ⟨a, c, hnv, _⟩ := good_len hnm
  rw [List.length_map] at hnv
  have hl1 : cellsAt μ sp 1 = some (.slice a ns.length c) := by rw [cellsAt_of (n := 3) (z := z) (ov := ov) (by rw [hsp]; rfl) (by decide), hnv]
  refine fun_enter Tryz.func7 rfl rfl (by show 2 ≤ 31; decide) ?_
  simp only [T.lay, Nat.zero_add, Tryz.ntmps7]
  refine code_seq ?_
  refine code_region ?_ ?_
  · rfl
  simp only [run1, aOne, aP, aev, regAt_set, aput_mk, ends_some, Nat.reduceLT, if_true, plainV, then_normal, Nat.reduceEqDiff, if_false, reduceIte]
  refine code_seq ?_
  refine code_region ?_ ?_
  · rfl
  simp only [run1, aOne, aP, aR, aA, aT, aCall, aCallVal, go_body Tryz.func16 rfl, hV, aev, regAt_set, aput_mk, ends_some, Nat.reduceLT, if_true, then_normal, Nat.reduceEqDiff, if_false, reduceIte, reduceCtorEq, List.map_cons, List.map_nil, List.nil_append, List.append_nil]
  refine code_seq ?_
  refine code_seq ?_
  refine code_guards (gs := ?_) ?_ ?_
  rotate_left
  · rfl
  rcases hno with rfl | ⟨rfl, hle⟩
  · simp only [run2, wanted, aOne, aP, aR, aA, aT, aCall, aCallVal, go_body Tryz.func17 rfl, hK, aev, regAt_set, aput_mk, plainV, aBin, aInt, ieq_eq, ilt_zero, ilt_nat, aNilCheck, fa1, ldS, hl1, aBuiltin, aLen, Tryz.underlying22, cast_nat, aPick, Addr.add, Nat.zero_add,
      ends_some, Nat.reduceLT, if_true, then_normal, Nat.reduceEqDiff, if_false, reduceIte, reduceCtorEq, List.map_cons, List.map_nil, List.nil_append, List.append_nil, decide_true, decide_false, Bool.not_true, Bool.not_false, beq_self_eq_true, Bool.true_eq_false, Int.reduceBEq, beq_tf, beq_ft]
    refine code_cond_true ?_ ?_
    · simp only [aev, regAt_set, Nat.reduceEqDiff, reduceIte]
    refine code_seq ?_
    refine code_region ?_ ?_
    · rfl
    simp only [run1, aOne, aP, aev, regAt_set, aput_mk, ends_some, Nat.reduceLT, if_true, plainV, then_normal, Nat.reduceEqDiff, if_false, reduceIte]
    refine code_ret ?_
    refine ⟨rfl, .string ⟨#[]⟩, ?_, rfl, rfl⟩
    simp only [aResults, Tryz.results7, aRes, regAt_set, Nat.reduceEqDiff, reduceIte]
  · have hnl : ¬ q < ns.length := by omega
    simp only [run2, wanted, aOne, aP, aR, aA, aT, aCall, aCallVal, go_body Tryz.func17 rfl, hK, aev, regAt_set, aput_mk, plainV, aBin, aInt, ieq_eq, ilt_zero, ilt_nat, hnl, aNilCheck, fa1, ldS, hl1, aBuiltin, aLen, Tryz.underlying22, cast_nat, aPick, Addr.add, Nat.zero_add,
      ends_some, Nat.reduceLT, if_true, then_normal, Nat.reduceEqDiff, if_false, reduceIte, reduceCtorEq, List.map_cons, List.map_nil, List.nil_append, List.append_nil, decide_true, decide_false, Bool.not_true, Bool.not_false, beq_self_eq_true, Bool.true_eq_false, Int.reduceBEq, beq_tf, beq_ft]
    refine code_cond_true ?_ ?_
    · simp only [aev, regAt_set, Nat.reduceEqDiff, reduceIte]
    refine code_seq ?_
    refine code_region ?_ ?_
    · rfl
    simp only [run1, aOne, aP, aev, regAt_set, aput_mk, ends_some, Nat.reduceLT, if_true, plainV, then_normal, Nat.reduceEqDiff, if_false, reduceIte]
    refine code_ret ?_
    refine ⟨rfl, .string ⟨#[]⟩, ?_, rfl, rfl⟩
    simp only [aResults, Tryz.results7, aRes, regAt_set, Nat.reduceEqDiff, reduceIte]


theorem ilt_100 (n : Nat) : ilt 100 (.ofNat n) = decide (100 < n) := ilt_nat 100 n
theorem bs0 (ρ : Operand → Value) : aBuildSlice Tryz.prog ρ 26 0 #[] = some (.cells 0 28 #[] .e 0 0 false false, fun id => .slice (some ⟨id, 0, none⟩) 0 0) := by
  unfold aBuildSlice
  simp only [Tryz.underlying26, i28]
  rfl
theorem zero_nat : (0 : Int) = Int.ofNat 0 := rfl
theorem one_nat : (1 : Int) = Int.ofNat 1 := rfl

/-- what is known of the functions that the law calls -/
structure Known (X : FuncId → List Value → Mem → Option (Value × Mem)) (S : List (FuncId × LK)) : Prop where
  alive : ∀ k μ, aCallS Tryz.prog (aCode Tryz.prog X S k) S 4 [] μ = some (.bool true, μ)
  word : ∀ q k μ, q < 101 → aCallS Tryz.prog (aCode Tryz.prog X S k) S 15 [.int .i64 (.ofNat q)] μ = some (wordOf q, μ)
  value : ∀ q k μ, q < 101 → aCallS Tryz.prog (aCode Tryz.prog X S k) S 16 [wordOf q] μ = some (.int .i64 (.ofNat q), μ)
  kind : ∀ q k μ, q < 101 → aCallS Tryz.prog (aCode Tryz.prog X S k) S 17 [wordOf q] μ = some (.int .i64 3, μ)
  value8 : ∀ k μ, aCallS Tryz.prog (aCode Tryz.prog X S k) S 16 [.int .u64 8] μ = some (.int .i64 (.ofNat 1), μ)
  kind8 : ∀ k μ, aCallS Tryz.prog (aCode Tryz.prog X S k) S 17 [.int .u64 8] μ = some (.int .i64 0, μ)
  value5 : ∀ k μ, aCallS Tryz.prog (aCode Tryz.prog X S k) S 16 [.int .u64 40003] μ = some (.int .i64 (.ofNat 5000), μ)
  kind5 : ∀ k μ, aCallS Tryz.prog (aCode Tryz.prog X S k) S 17 [.int .u64 40003] μ = some (.int .i64 3, μ)
  made : ∀ k μ, aCallS Tryz.prog (aCode Tryz.prog X S k) S 8 [.int .i64 3, .int .i64 5000] μ = some (.int .u64 40003, μ)
  new : lkOf S 5 = none
  symbol : lkOf S 6 = none
  name : lkOf S 7 = none

/-- what a list of texts that was handed in lies as -/
structure Handed (l : List ByteArray) (hob : Option Ob) (H o : Nat) (ad : Option Addr) (c cp : Nat) : Prop where
  addr : 0 < l.length → ad = some ⟨H, o, none⟩
  cap : 0 < l.length → c = 2 * cp ∧ l.length ≤ cp
  at_ : ∀ j x, l[j]? = some x → (match obCells hob with
    | some (n, zero, over) => if o + j < n then some (cellAt zero over (o + j)) else none
    | none => none) = some (.string x)
  noCells : ∀ n t z ov lo hi fx sh, hob ≠ some (.cells n t z ov lo hi fx sh)
  noMap : ∀ es c, hob ≠ some (.map es c)

/-- what stands at a loop's head -/
structure Inv (l : List ByteArray) (hob : Option Ob) (H sp mp j : Nat) (fv : Value) (ns : List ByteArray) (fs : List Value) (μ : Mem) : Prop where
  space : Space μ sp mp ns
  first : GoodSl μ 28 fv fs
  len : fs.length = j
  nslen : ns.length ≤ j
  known : ∀ i, i < j → ∃ x q, l[i]? = some x ∧ pos x ns 0 = some q ∧ fs[i]? = some (wordOf q)
  held : μ.obs.get H = hob
  hlt : H < μ.next

theorem good_at {μ : Mem} {e : TypeId} {v : Value} {xs : List Value} (h : GoodSl μ e v xs) {i : Nat} (hi : SlAt v i) : ∃ m z ov fx sh, μ.obs.get i = some (.cells m e z ov 0 0 fx sh) := by
  obtain ⟨l, c, hi⟩ := hi
  rcases h with ⟨h1, _⟩ | ⟨i', m, z, ov, fx, sh, c', h1, hob, _⟩
  · rw [h1] at hi; cases hi
  · rw [h1] at hi; cases hi; exact ⟨_, _, _, _, _, hob⟩

theorem Space.keep {μ μ' : Mem} {sp mp : Nat} {ns : List ByteArray} (h : Space μ sp mp ns) (hf : Fresh μ') (h1 : μ'.obs.get sp = μ.obs.get sp) (h2 : μ'.obs.get mp = μ.obs.get mp)
    (h3 : ∀ i m z ov fx sh, μ.obs.get i = some (.cells m 9 z ov 0 0 fx sh) → μ'.obs.get i = μ.obs.get i) : Space μ' sp mp ns := by
  obtain ⟨z, ov, fx, sh, hsp, hc2, hnm⟩ := h.sp
  refine ⟨hf, h2.trans h.map, z, ov, fx, sh, h1.trans hsp, hc2, hnm.keep fun i hi => ?_⟩
  obtain ⟨m, z', ov', fx', sh', hob⟩ := good_at hnm hi
  exact h3 i _ _ _ _ _ hob

set_option maxHeartbeats 4000000 in
theorem law_long (hS : Known X S) {ad : Option Addr} {n c : Nat} {μ : Mem} (hn : 100 < n) : EndsF (aFun Tryz.prog (aCode Tryz.prog X S 600) 3 [.slice ad n c] μ) fun v μ' => v = .bool true ∧ μ' = μ := by
  refine fun_enter Tryz.func3 rfl rfl (by show 1 ≤ 89; decide) ?_
  simp only [T.lay, Nat.zero_add, Tryz.ntmps3]
  refine code_seq ?_
  refine code_region ?_ ?_
  · rfl
  simp only [run1, aOne, aP, aev, regAt_set, aput_mk, ends_some, Nat.reduceLT, if_true, plainV, then_normal, Nat.reduceEqDiff, if_false, reduceIte]
  refine code_seq ?_
  refine code_seq ?_
  refine code_region ?_ ?_
  · rfl
  simp only [run1, aOne, aP, aR, aA, aT, aCall, aCallVal, go_body Tryz.func4 rfl, hS.alive, aev, regAt_set, aput_mk, ends_some, Nat.reduceLT, if_true, then_normal, Nat.reduceEqDiff, if_false, reduceIte, reduceCtorEq, List.map_cons, List.map_nil, List.nil_append, List.append_nil, Bool.not_true]
  refine code_cond_false ?_ ?_
  · simp only [aev, regAt_set, Nat.reduceEqDiff, reduceIte]
  refine code_skip ?_
  simp only [then_normal]
  refine code_seq ?_
  refine code_seq ?_
  refine code_region ?_ ?_
  · rfl
  simp only [run1, aOne, aP, aR, aA, aT, aCall, aev, regAt_set, aput_mk, aBuiltin, aLen, Tryz.underlying22, cast_nat, plainV, aBin, aInt, ilt_100, hn, decide_true, ends_some, Nat.reduceLT, if_true, then_normal, Nat.reduceEqDiff, if_false, reduceIte, reduceCtorEq]
  refine code_cond_true ?_ ?_
  · simp only [aev, regAt_set, Nat.reduceEqDiff, reduceIte]
  refine code_seq ?_
  refine code_region ?_ ?_
  · rfl
  simp only [run1, aOne, aP, aev, regAt_set, aput_mk, ends_some, Nat.reduceLT, if_true, plainV, then_normal, Nat.reduceEqDiff, if_false, reduceIte]
  refine code_ret ?_
  refine ⟨rfl, .bool true, ?_, rfl, rfl⟩
  simp only [aResults, Tryz.results3, aRes, regAt_set, Nat.reduceEqDiff, reduceIte]


theorem one_word (q : Nat) : one (wordOf q) = true := rfl
theorem bsW (ρ : Operand → Value) (x : Operand) (hv : one (ρ x) = true) : aBuildSlice Tryz.prog ρ 26 1 #[(0, x)] = some (.cells 1 28 #[ρ x] .e 0 0 false false, fun id => .slice (some ⟨id, 0, none⟩) 1 2) := buildSlice_if Tryz.underlying26 i28 rfl z28 rfl ρ x hv

/-- behind the first loop -/
def Post1 (l : List ByteArray) (hob : Option Ob) (H sp mp : Nat) (ad : Option Addr) (c : Nat) (x : Ax) (r : Rg) (μ' : Mem) : Prop := x = .exit 0 ∧ ∃ tm' fv' ns' fs', r = ⟨89, tm', [], none⟩ ∧ Inv l hob H sp mp l.length fv' ns' fs' μ' ∧
        regAt tm' 0 = .slice ad l.length c ∧ regAt tm' 3 = .pointer (some ⟨sp, 0, none⟩) ∧ regAt tm' 4 = fv'

set_option maxHeartbeats 4000000 in
theorem loop1 (hS : Known X S) {l : List ByteArray} {hob : Option Ob} {H o sp mp c cp : Nat} {ad : Option Addr} (hH : Handed l hob H o ad c cp) (hl : l.length ≤ 100) :
    ∀ (e m j : Nat) (tm : T Value) (fv : Value) (ns : List ByteArray) (fs : List Value) (μ : Mem), j + m = l.length → Inv l hob H sp mp j fv ns fs μ → regAt tm 0 = .slice ad l.length c → regAt tm 3 = .pointer (some ⟨sp, 0, none⟩) → regAt tm 4 = fv →
      regAt tm 17 = .slice ad l.length c → regAt tm 18 = .int .i64 (.ofNat l.length) → regAt tm 19 = .int .i64 (.ofNat j) →
      EndsC (aCode Tryz.prog X S (e + m + 60) (.loop (loopBody Tryz.f3 0)) ⟨89, tm, [], none⟩ μ) (Post1 l hob H sp mp ad c) := by
  intro e m
  induction m with
  | zero =>
    intro j tm fv ns fs μ hj hI h0 h3 h4 h17 h18 h19
    obtain rfl : j = l.length := by omega
    refine code_loop ?_
    refine code_seq ?_
    refine code_region ?_ ?_
    · rfl
    simp only [run1, aOne, aP, aev, regAt_set, aput_mk, h18, h19, aBin, aInt, ilt_nat, Nat.lt_irrefl, decide_true, decide_false, ends_some, Nat.reduceLT, if_true, then_normal, Nat.reduceEqDiff, if_false, reduceIte]
    refine code_seq ?_
    refine code_cond_false ?_ ?_
    · simp only [aev, regAt_set, Nat.reduceEqDiff, reduceIte]
    refine code_exit ?_
    simp only [then_exit]
    exact ⟨rfl, _, fv, ns, fs, rfl, hI, by simp only [regAt_set, Nat.reduceEqDiff, reduceIte, h0], by simp only [regAt_set, Nat.reduceEqDiff, reduceIte, h3], by simp only [regAt_set, Nat.reduceEqDiff, reduceIte, h4]⟩
  | succ m ih =>
    intro j tm fv ns fs μ hj hI h0 h3 h4 h17 h18 h19
    have hjl : j < l.length := by omega
    obtain ⟨x, hx⟩ : ∃ x, l[j]? = some x := ⟨l[j], List.getElem?_eq_getElem hjl⟩
    have had := hH.addr (by omega)
    subst had
    have hel : cellsAt μ H (o + j) = some (.string x) := by
      unfold cellsAt
      rw [hI.held]
      exact hH.at_ j x hx
    have hia : ∀ ρ : Operand → Value, ∀ a b, ρ a = .slice (some ⟨H, o, none⟩) l.length c → ρ b = .int .i64 (.ofNat j) → aIndexAddr Tryz.prog ρ 22 a b = some (.pointer (some ⟨H, o + j, none⟩)) := fun ρ a b h1 h2 =>
      indexAddr_slice (P := Tryz.prog) Tryz.underlying22 i9 rfl h1 h2 hjl
    refine code_loop ?_
    refine code_seq ?_
    refine code_region ?_ ?_
    · rfl
    simp only [run1, aOne, aP, aev, regAt_set, aput_mk, h18, h19, aBin, aInt, ilt_nat, hjl, decide_true, decide_false, ends_some, Nat.reduceLT, if_true, then_normal, Nat.reduceEqDiff, if_false, reduceIte]
    refine code_seq ?_
    refine code_cond_true ?_ ?_
    · simp only [aev, regAt_set, Nat.reduceEqDiff, reduceIte]
    refine code_skip ?_
    simp only [then_normal]
    refine code_seq ?_
    refine code_block ?_
    refine code_seq ?_
    refine code_region ?_ ?_
    · rfl
    simp only [run1, aOne, aP, aR, aA, aT, aev, regAt_set, aput_mk, h17, h19, hia, ldT, hel, ends_some, Nat.reduceLT, if_true, then_normal, Nat.reduceEqDiff, if_false, reduceIte]
    refine code_region ?_ ?_
    · rfl
    -- the call
    obtain ⟨v, μ2, hcall, q, ms, hp, hms, hv, hsp2, hnx2, hkp⟩ := symbol (X := X) (S := S) (k := e + (m + 1) + 33) (x := x) hI.space (by have := hI.nslen; omega) hS.word
    subst hv
    have hcall : aFun Tryz.prog (aCode Tryz.prog X S (e + (m + 1) + 53)) 6 [.pointer (some ⟨sp, 0, none⟩), .string x] μ = some (wordOf q, μ2) := hcall
    obtain ⟨z, ov, fx, sh, hspo, _, _⟩ := hI.space.sp
    obtain ⟨z2, ov2, fx2, sh2, hspo2, _, _⟩ := hsp2.sp
    have hg2 : GoodSl μ2 28 fv fs := hI.first.keep fun i hi => by
      obtain ⟨m', z', ov', fx', sh', hob'⟩ := good_at hI.first hi
      refine hkp i (hI.space.fresh.lt hob') (fun e' => ?_) (fun e' => ?_) (fun m2 z2 ov2 lo hi fx2 sh2 e' => ?_)
      · subst e'; rw [hspo] at hob'; cases hob'
      · subst e'; rw [hI.space.map] at hob'; cases hob'
      · rw [hob'] at e'; cases e'
    have hg3 : GoodSl ⟨μ2.obs.set μ2.next (.cells 1 28 #[wordOf q] .e 0 0 false false), Nat.add μ2.next 1⟩ 28 fv fs := hg2.keep fun i hi => by
      obtain ⟨m', z', ov', fx', sh', hob'⟩ := good_at hg2 hi
      have := hsp2.fresh.lt hob'
      show T.get _ i = _
      rw [T.get_set, if_neg (by omega)]
    obtain ⟨fv', μ4, hap, hg4, hnx4, hat4, hk4⟩ := append_one (P := Tryz.prog) (st := 26) (x := wordOf q) (q := μ2.next) Tryz.underlying26 i28 rfl rfl z28 rfl hg3 (by rw [T.get_set, if_pos rfl]) (by have := hI.len; omega) rfl
    have hnx4 : μ4.next = μ2.next + 1 + 1 := hnx4
    have hk4' : ∀ i, i < μ2.next → ¬ SlAt fv i → μ4.obs.get i = μ2.obs.get i := fun i hi hns => by
      rw [hk4 i (by show i ≠ μ2.next + 1; omega) hns]
      show T.get _ i = _
      rw [T.get_set, if_neg (by omega)]
    have hns9 : ∀ i n t z ov lo hi fx sh, t ≠ 28 → μ2.obs.get i = some (.cells n t z ov lo hi fx sh) → ¬ SlAt fv i := fun i n t z ov lo hi fx sh ht ho hat => by
      obtain ⟨m', z', ov', fx', sh', hob'⟩ := good_at hg2 hat
      rw [ho] at hob'; cases hob'; exact ht rfl
    have hfr4 : Fresh μ4 := fun i hi => by
      rw [hk4 i (by show i ≠ μ2.next + 1; omega) ?_]
      · show T.get _ i = _
        rw [T.get_set, if_neg (by omega)]
        exact hsp2.fresh i (by omega)
      · intro hat
        obtain ⟨m', z', ov', fx', sh', hob'⟩ := good_at hg2 hat
        have := hsp2.fresh.lt hob'
        omega
    have hsp4 : Space μ4 sp mp (ns ++ ms) := hsp2.keep hfr4 (hk4' sp (hsp2.fresh.lt hspo2) (hns9 _ _ _ _ _ _ _ _ _ (by decide) hspo2))
      (hk4' mp (hsp2.fresh.lt hsp2.map) (fun hat => by
        obtain ⟨m', z', ov', fx', sh', hob'⟩ := good_at hg2 hat
        rw [hsp2.map] at hob'; cases hob'))
      (fun i m' z' ov' fx' sh' ho => hk4' i (hsp2.fresh.lt ho) (hns9 _ _ _ _ _ _ _ _ _ (by decide) ho))
    have hheld : μ4.obs.get H = hob := by
      have h2 : μ2.obs.get H = hob := by
        rw [← hI.held]
        refine hkp H hI.hlt (fun e' => ?_) (fun e' => ?_) (fun m2 z2 ov2 lo hi fx2 sh2 e' => ?_)
        · rw [e'] at hI; have := hI.held; rw [hspo] at this; exact hH.noCells _ _ _ _ _ _ _ _ this.symm
        · rw [e'] at hI; have := hI.held; rw [hI.space.map] at this; exact hH.noMap _ _ this.symm
        · rw [hI.held] at e'; exact hH.noCells _ _ _ _ _ _ _ _ e'
      rw [hk4' H (by have := hI.hlt; omega) (fun hat => ?_), h2]
      obtain ⟨m', z', ov', fx', sh', hob'⟩ := good_at hg2 hat
      rw [h2] at hob'; exact hH.noCells _ _ _ _ _ _ _ _ hob'
    have hadd : qwrap .i64 (Int.add (.ofNat j) 1) = .ofNat (j + 1) := add_nat j 1 (by omega)
    simp only [run1, aOne, aP, aR, aA, aT, aCall, aCallVal, go_body Tryz.func6 rfl, call_body hS.symbol, hcall, bsW, one_word, aBuiltin, hap, aev, regAt_set, aput_mk, h3, h4, ends_some, Nat.reduceLT, if_true, then_normal, Nat.reduceEqDiff, if_false, reduceIte, reduceCtorEq, List.map_cons, List.map_nil, List.nil_append, List.append_nil]
    simp only [blockC, then_normal]
    refine code_region ?_ ?_
    · rfl
    simp only [run1, aOne, aP, aev, regAt_set, aput_mk, plainV, h19, aBin, aInt, hadd, decide_true, ends_some, Nat.reduceLT, if_true, then_normal, Nat.reduceEqDiff, if_false, reduceIte]
    rw [show e + (m + 1) + 59 = e + m + 60 from by omega]
    refine ih (j + 1) _ fv' (ns ++ ms) (fs ++ [wordOf q]) μ4 (by omega) ⟨hsp4, hg4, by simp [hI.len], by rw [List.length_append]; have := hI.nslen; omega, fun i hi => ?_, hheld, by have := hI.hlt; omega⟩ ?_ ?_ ?_ ?_ ?_ ?_
    · by_cases hij : i < j
      · obtain ⟨y, q', h1, h2, h5⟩ := hI.known i hij
        refine ⟨y, q', h1, pos_app _ _ _ _ _ h2, ?_⟩
        rw [List.getElem?_append_left (by have := hI.len; omega)]
        exact h5
      · obtain rfl : i = j := by omega
        refine ⟨x, q, hx, hp, ?_⟩
        rw [List.getElem?_append_right (by have := hI.len; omega), hI.len, Nat.sub_self]
        rfl
    · simp only [regAt_set, Nat.reduceEqDiff, reduceIte, h0]
    · simp only [regAt_set, Nat.reduceEqDiff, reduceIte, h3]
    · simp only [regAt_set, Nat.reduceEqDiff, reduceIte]
    · simp only [regAt_set, Nat.reduceEqDiff, reduceIte, h17]
    · simp only [regAt_set, Nat.reduceEqDiff, reduceIte, h18]
    · simp only [regAt_set, Nat.reduceEqDiff, reduceIte]


theorem Inv.up {l : List ByteArray} {hob : Option Ob} {H sp mp j : Nat} {fv : Value} {ns : List ByteArray} {fs : List Value} {μ : Mem} (h : Inv l hob H sp mp j fv ns fs μ) (d : Nat) : Inv l hob H sp mp j fv ns fs ⟨μ.obs, μ.next + d⟩ :=
  ⟨⟨fun i hi => h.space.fresh i (by have : μ.next + d ≤ i := hi; omega), h.space.map, h.space.sp⟩, h.first, h.len, h.nslen, h.known, h.held, by have := h.hlt; show H < μ.next + d; omega⟩

theorem neqP {dst : Option Nat} {ty : TypeId} {ps : String} {af : Array Edge} {g : Option (Nat × Bool)} (ρ : Operand → Value) (b : Bool) (h1 : ρ (.tmp 70) = .bool b) (h2 : ρ (.tmp 76) = .bool b) :
    aPlain Tryz.prog ρ ⟨dst, .binOp .neq 4 (.tmp 70) (.tmp 76) 4, ty, ps, af, g⟩ = some (.bool false) := by
  rw [aPlain_congr (τ := fun _ => .bool b) (fun x hx => by
    simp only [Op.operands] at hx
    simp at hx
    rcases hx with rfl | rfl
    · exact h1
    · exact h2)]
  cases b
  · kernel_rfl
  · kernel_rfl

/-- behind the inner loop -/
def Post3 (l : List ByteArray) (hob : Option Ob) (H sp mp : Nat) (ad : Option Addr) (c : Nat) (fv : Value) (ns : List ByteArray) (fs : List Value) (i : Nat) (x : Ax) (r : Rg) (μ' : Mem) : Prop := x = .exit 4 ∧ ∃ tm', r = ⟨89, tm', [], none⟩ ∧ Inv l hob H sp mp l.length fv ns fs μ' ∧
        regAt tm' 0 = .slice ad l.length c ∧ regAt tm' 3 = .pointer (some ⟨sp, 0, none⟩) ∧ regAt tm' 4 = fv ∧ regAt tm' 30 = .slice ad l.length c ∧ regAt tm' 31 = .int .i64 (.ofNat l.length) ∧ regAt tm' 32 = .int .i64 (.ofNat i)

set_option maxHeartbeats 4000000 in
theorem loop3 (hS : Known X S) {l : List ByteArray} {hob : Option Ob} {H o sp mp c cp : Nat} {ad : Option Addr} (hH : Handed l hob H o ad c cp) (hl : l.length ≤ 100) {i : Nat} {x : ByteArray} (hx : l[i]? = some x) {fv : Value} {ns : List ByteArray} {fs : List Value} :
    ∀ (e m k : Nat) (tm : T Value) (μ : Mem), k + m = i → Inv l hob H sp mp l.length fv ns fs μ → regAt tm 0 = .slice ad l.length c → regAt tm 3 = .pointer (some ⟨sp, 0, none⟩) → regAt tm 4 = fv →
      regAt tm 30 = .slice ad l.length c → regAt tm 31 = .int .i64 (.ofNat l.length) → regAt tm 32 = .int .i64 (.ofNat i) → regAt tm 7 = .int .i64 (.ofNat i) → regAt tm 8 = .string x → regAt tm 58 = .int .i64 (.ofNat i) → regAt tm 59 = .int .i64 (.ofNat k) →
      EndsC (aCode Tryz.prog X S (e + m + 40) (.loop (loopBody Tryz.f3 2)) ⟨89, tm, [], none⟩ μ) (Post3 l hob H sp mp ad c fv ns fs i) := by
  intro e m
  induction m with
  | zero =>
    intro k tm μ hj hI h0 h3 h4 h30 h31 h32 h7 h8 h58 h59
    obtain rfl : k = i := by omega
    refine code_loop ?_
    refine code_seq ?_
    refine code_region ?_ ?_
    · rfl
    simp only [run1, aOne, aP, aev, regAt_set, aput_mk, h58, h59, aBin, aInt, ilt_nat, Nat.lt_irrefl, decide_true, decide_false, ends_some, Nat.reduceLT, if_true, then_normal, Nat.reduceEqDiff, if_false, reduceIte]
    refine code_seq ?_
    refine code_cond_false ?_ ?_
    · simp only [aev, regAt_set, Nat.reduceEqDiff, reduceIte]
    refine code_exit ?_
    simp only [then_exit]
    exact ⟨rfl, _, rfl, hI, by simp only [regAt_set, Nat.reduceEqDiff, reduceIte, h0], by simp only [regAt_set, Nat.reduceEqDiff, reduceIte, h3], by simp only [regAt_set, Nat.reduceEqDiff, reduceIte, h4],
      by simp only [regAt_set, Nat.reduceEqDiff, reduceIte, h30], by simp only [regAt_set, Nat.reduceEqDiff, reduceIte, h31], by simp only [regAt_set, Nat.reduceEqDiff, reduceIte, h32]⟩
  | succ m ih =>
    intro k tm μ hj hI h0 h3 h4 h30 h31 h32 h7 h8 h58 h59
    have hil : i < l.length := (List.getElem?_eq_some_iff.1 hx).1
    have hki : k < i := by omega
    have hkl : k < l.length := by omega
    obtain ⟨y, hy⟩ : ∃ y, l[k]? = some y := ⟨l[k], List.getElem?_eq_getElem hkl⟩
    have had := hH.addr (by omega)
    subst had
    obtain ⟨x', qi, hx', hpi, hfi⟩ := hI.known i hil
    rw [hx] at hx'; cases hx'
    obtain ⟨y', qk, hy', hpk, hfk⟩ := hI.known k hkl
    rw [hy] at hy'; cases hy'
    -- the slice of words
    obtain ⟨a, cf, hfv, ha⟩ := good_len hI.first
    obtain ⟨fb, rfl⟩ := ha (by rw [hI.len]; omega)
    rw [hI.len] at hfv
    have hci : cellsAt μ fb i = some (wordOf qi) := by
      rw [cellsAt_good hI.first hfv (by rw [hI.len]; exact hil)]
      congr 1
      have := (List.getElem?_eq_some_iff.1 hfi).2
      exact this
    have hck : cellsAt μ fb k = some (wordOf qk) := by
      rw [cellsAt_good hI.first hfv (by rw [hI.len]; exact hkl)]
      congr 1
      exact (List.getElem?_eq_some_iff.1 hfk).2
    have hci' : ∀ d, cellsAt ⟨μ.obs, d⟩ fb i = some (wordOf qi) := fun d => hci
    have hck' : ∀ d, cellsAt ⟨μ.obs, d⟩ fb k = some (wordOf qk) := fun d => hck
    have hel : ∀ d, cellsAt ⟨μ.obs, d⟩ H (o + k) = some (.string y) := fun d => by
      unfold cellsAt
      show (match obCells (μ.obs.get H) with | some (n, zero, over) => _ | none => _) = _
      rw [hI.held]
      exact hH.at_ k y hy
    have hiaT : ∀ ρ : Operand → Value, ∀ a b, ρ a = .slice (some ⟨H, o, none⟩) l.length c → ρ b = .int .i64 (.ofNat k) → aIndexAddr Tryz.prog ρ 22 a b = some (.pointer (some ⟨H, o + k, none⟩)) := fun ρ a b h1 h2 =>
      indexAddr_slice (P := Tryz.prog) Tryz.underlying22 i9 rfl h1 h2 hkl
    have hiaI : ∀ ρ : Operand → Value, ∀ a b, ρ a = .slice (some ⟨fb, 0, none⟩) l.length cf → ρ b = .int .i64 (.ofNat i) → aIndexAddr Tryz.prog ρ 26 a b = some (.pointer (some ⟨fb, i, none⟩)) := fun ρ a b h1 h2 => by
      rw [indexAddr_slice (P := Tryz.prog) Tryz.underlying26 i28 rfl h1 h2 hil, Nat.zero_add]
    have hiaK : ∀ ρ : Operand → Value, ∀ a b, ρ a = .slice (some ⟨fb, 0, none⟩) l.length cf → ρ b = .int .i64 (.ofNat k) → aIndexAddr Tryz.prog ρ 26 a b = some (.pointer (some ⟨fb, k, none⟩)) := fun ρ a b h1 h2 => by
      rw [indexAddr_slice (P := Tryz.prog) Tryz.underlying26 i28 rfl h1 h2 hkl, Nat.zero_add]
    have h4' := h4.trans hfv
    -- two words are one just where two texts are
    have heq : decide (8 * qi = 8 * qk) = decide (x = y) := by
      by_cases e' : x = y
      · subst e'; rw [hpi] at hpk; cases hpk; simp
      · have hne : qi ≠ qk := fun e2 => by
          subst e2
          obtain ⟨_, g1⟩ := pos_spec _ _ _ _ hpi
          obtain ⟨_, g2⟩ := pos_spec _ _ _ _ hpk
          rw [g1] at g2; cases g2; exact e' rfl
        simp [e']; omega
    refine code_loop ?_
    refine code_seq ?_
    refine code_region ?_ ?_
    · rfl
    simp only [run1, aOne, aP, aev, regAt_set, aput_mk, h58, h59, aBin, aInt, ilt_nat, hki, decide_true, decide_false, ends_some, Nat.reduceLT, if_true, then_normal, Nat.reduceEqDiff, if_false, reduceIte]
    refine code_seq ?_
    refine code_cond_true ?_ ?_
    · simp only [aev, regAt_set, Nat.reduceEqDiff, reduceIte]
    refine code_skip ?_
    simp only [then_normal]
    refine code_seq ?_
    refine code_block ?_
    refine code_seq ?_
    refine code_region ?_ ?_
    · rfl
    simp only [run1, aOne, aP, aR, aA, aT, aev, regAt_set, aput_mk, h59, ends_some, Nat.reduceLT, if_true, then_normal, Nat.reduceEqDiff, if_false, reduceIte]
    refine code_seq ?_
    refine code_draw (n := 16) (ms := [0, 0, 3, 7, 0, 0, 48, 112, 255, 0, 0, 0, 3072, 7168, 15872, 32767]) (ord := [0, 1, 2, 3, 4, 5, 6, 7, 8, 9, 10, 11, 12, 13, 14, 15]) (ds := ?_) ?_ ?_ ?_ ?_ ?_ ?_
    rotate_left
    · kernel_rfl
    · kernel_rfl
    · kernel_rfl
    · rfl
    · rfl
    simp only [dRun, wanted, aDrawOne, heavy, aP, aReads, aR, aev, regAt_set, aput_mk, h0, h4', h7, h8, hiaI, hiaK, hiaT, ldW, ldT, hci', hck', hel, aBin, wordOf, aInt, ieq_nat, heq, aStr, bytes_eq, aNil, neqP _ (decide (x = y)), endsD_some, Nat.reduceLT, if_true, then_normal, Nat.reduceEqDiff, if_false, reduceIte, decide_true]
    refine code_cond_false ?_ ?_
    · simp only [aev, regAt_set, Nat.reduceEqDiff, reduceIte]
    refine code_skip ?_
    simp only [blockC, then_normal]
    have hadd : qwrap .i64 (Int.add (.ofNat k) 1) = .ofNat (k + 1) := add_nat k 1 (by omega)
    refine code_region ?_ ?_
    · rfl
    simp only [run1, aOne, aP, aev, regAt_set, aput_mk, plainV, h59, aBin, aInt, hadd, decide_true, ends_some, Nat.reduceLT, if_true, then_normal, Nat.reduceEqDiff, if_false, reduceIte]
    rw [show e + (m + 1) + 39 = e + m + 40 from by omega]
    refine ih (k + 1) _ _ (by omega) (hI.up 16) ?_ ?_ ?_ ?_ ?_ ?_ ?_ ?_ ?_ ?_ <;> simp only [regAt_set, Nat.reduceEqDiff, reduceIte, h0, h3, h4, h30, h31, h32, h7, h8, h58]


/-- behind the second loop -/
def Post2 (l : List ByteArray) (hob : Option Ob) (H sp mp : Nat) (fv : Value) (ns : List ByteArray) (fs : List Value) (x : Ax) (r : Rg) (μ' : Mem) : Prop := x = .exit 2 ∧ ∃ tm', r = ⟨89, tm', [], none⟩ ∧ Inv l hob H sp mp l.length fv ns fs μ' ∧
        regAt tm' 3 = .pointer (some ⟨sp, 0, none⟩)

set_option maxHeartbeats 4000000 in
theorem loop2 (hS : Known X S) {l : List ByteArray} {hob : Option Ob} {H o sp mp c cp : Nat} {ad : Option Addr} (hH : Handed l hob H o ad c cp) (hl : l.length ≤ 100) {fv : Value} {ns : List ByteArray} {fs : List Value} :
    ∀ (e m i : Nat) (tm : T Value) (μ : Mem), i + m = l.length → Inv l hob H sp mp l.length fv ns fs μ → regAt tm 0 = .slice ad l.length c → regAt tm 3 = .pointer (some ⟨sp, 0, none⟩) → regAt tm 4 = fv →
      regAt tm 30 = .slice ad l.length c → regAt tm 31 = .int .i64 (.ofNat l.length) → regAt tm 32 = .int .i64 (.ofNat i) →
      EndsC (aCode Tryz.prog X S (e + m + 200) (.loop (loopBody Tryz.f3 1)) ⟨89, tm, [], none⟩ μ) (Post2 l hob H sp mp fv ns fs) := by
  intro e m
  induction m with
  | zero =>
    intro i tm μ hj hI h0 h3 h4 h30 h31 h32
    obtain rfl : i = l.length := by omega
    refine code_loop ?_
    refine code_seq ?_
    refine code_region ?_ ?_
    · rfl
    simp only [run1, aOne, aP, aev, regAt_set, aput_mk, h31, h32, aBin, aInt, ilt_nat, Nat.lt_irrefl, decide_true, decide_false, ends_some, Nat.reduceLT, if_true, then_normal, Nat.reduceEqDiff, if_false, reduceIte]
    refine code_seq ?_
    refine code_cond_false ?_ ?_
    · simp only [aev, regAt_set, Nat.reduceEqDiff, reduceIte]
    refine code_exit ?_
    simp only [then_exit]
    exact ⟨rfl, _, rfl, hI, by simp only [regAt_set, Nat.reduceEqDiff, reduceIte, h3]⟩
  | succ m ih =>
    intro i tm μ hj hI h0 h3 h4 h30 h31 h32
    have hil : i < l.length := by omega
    obtain ⟨x, hx⟩ : ∃ x, l[i]? = some x := ⟨l[i], List.getElem?_eq_getElem hil⟩
    have had := hH.addr (by omega)
    subst had
    obtain ⟨hcc, hcp⟩ := hH.cap (by omega)
    subst hcc
    obtain ⟨x', q, hx', hp, hfi⟩ := hI.known i hil
    rw [hx] at hx'; cases hx'
    obtain ⟨_, hnq⟩ := pos_spec _ _ _ _ hp
    rw [Nat.sub_zero] at hnq
    have hq : q < 101 := by have := (List.getElem?_eq_some_iff.1 hnq).1; have := hI.nslen; omega
    obtain ⟨a, cf, hfv, ha⟩ := good_len hI.first
    obtain ⟨fb, rfl⟩ := ha (by rw [hI.len]; omega)
    rw [hI.len] at hfv
    have h4' := h4.trans hfv
    have hci : ∀ d, cellsAt ⟨μ.obs, d⟩ fb i = some (wordOf q) := fun d => by
      show cellsAt μ fb i = _
      rw [cellsAt_good hI.first hfv (by rw [hI.len]; exact hil)]
      congr 1
      exact (List.getElem?_eq_some_iff.1 hfi).2
    have hel : cellsAt μ H (o + i) = some (.string x) := by
      unfold cellsAt
      rw [hI.held]
      exact hH.at_ i x hx
    have hiaT : ∀ ρ : Operand → Value, ∀ a b, ρ a = .slice (some ⟨H, o, none⟩) l.length (2 * cp) → ρ b = .int .i64 (.ofNat i) → aIndexAddr Tryz.prog ρ 22 a b = some (.pointer (some ⟨H, o + i, none⟩)) := fun ρ a b h1 h2 =>
      indexAddr_slice (P := Tryz.prog) Tryz.underlying22 i9 rfl h1 h2 hil
    have hiaI : ∀ ρ : Operand → Value, ∀ a b, ρ a = .slice (some ⟨fb, 0, none⟩) l.length cf → ρ b = .int .i64 (.ofNat i) → aIndexAddr Tryz.prog ρ 26 a b = some (.pointer (some ⟨fb, i, none⟩)) := fun ρ a b h1 h2 => by
      rw [indexAddr_slice (P := Tryz.prog) Tryz.underlying26 i28 rfl h1 h2 hil, Nat.zero_add]
    have hsl : ∀ ρ : Operand → Value, ∀ a b, ρ a = .slice (some ⟨H, o, none⟩) l.length (2 * cp) → ρ b = .int .i64 (.ofNat i) → aSlice Tryz.prog ρ 22 a none (some b) none = some (.slice (some ⟨H, o, none⟩) i (2 * cp)) := fun ρ a b h1 h2 =>
      slice_take (P := Tryz.prog) Tryz.underlying22 i9 h1 h2 (by omega)
    have hId := hI.up 18
    have hb1 : bef [0, 0, 3, 0, 0, 24, 56, 127, 255, 511, 511, 511, 3583, 7679, 16383, 511, 65535, 131071] 2 6 = false := by kernel_rfl
    have hb2 : bef [0, 0, 3, 0, 0, 24, 56, 127, 255, 511, 511, 511, 3583, 7679, 16383, 511, 65535, 131071] 2 13 = true := by kernel_rfl
    refine code_loop ?_
    refine code_seq ?_
    refine code_region ?_ ?_
    · rfl
    simp only [run1, aOne, aP, aev, regAt_set, aput_mk, h31, h32, aBin, aInt, ilt_nat, hil, decide_true, decide_false, ends_some, Nat.reduceLT, if_true, then_normal, Nat.reduceEqDiff, if_false, reduceIte]
    refine code_seq ?_
    refine code_cond_true ?_ ?_
    · simp only [aev, regAt_set, Nat.reduceEqDiff, reduceIte]
    refine code_skip ?_
    simp only [then_normal]
    refine code_seq ?_
    refine code_block ?_
    refine code_seq ?_
    refine code_region ?_ ?_
    · rfl
    simp only [run1, aOne, aP, aR, aA, aT, aev, regAt_set, aput_mk, h30, h32, hiaT, ldT, hel, ends_some, Nat.reduceLT, if_true, then_normal, Nat.reduceEqDiff, if_false, reduceIte]
    refine code_seq ?_
    refine code_seq ?_
    refine code_draw (n := 18) (ms := [0, 0, 3, 0, 0, 24, 56, 127, 255, 511, 511, 511, 3583, 7679, 16383, 511, 65535, 131071]) (ord := [0, 1, 2, 3, 4, 5, 6, 7, 8, 9, 10, 11, 12, 13, 14, 15, 16, 17]) (ds := ?_) ?_ ?_ ?_ ?_ ?_ ?_
    rotate_left
    · kernel_rfl
    · kernel_rfl
    · kernel_rfl
    · rfl
    · rfl
    obtain ⟨v1, μ1, hcall, hv1, hm1⟩ := sym_found (X := X) (S := S) (k := e + (m + 1) + 171) hId.space hp (fun k => hS.word q k _ hq)
    subst hv1 hm1
    have hcall : aFun Tryz.prog (aCode Tryz.prog X S (e + (m + 1) + 191)) 6 [.pointer (some ⟨sp, 0, none⟩), .string x] ⟨μ.obs, μ.next + 18⟩ = some (wordOf q, ⟨μ.obs, μ.next + 18⟩) := hcall
    obtain ⟨v2, μ2, hname, hv2, hm2⟩ := name_yes (X := X) (S := S) (k := e + (m + 1) + 171) hId.space hnq (fun k => hS.kind q k _ hq) (fun k => hS.value q k _ hq)
    subst hv2 hm2
    have hname : aFun Tryz.prog (aCode Tryz.prog X S (e + (m + 1) + 191)) 7 [.pointer (some ⟨sp, 0, none⟩), wordOf q] ⟨μ.obs, μ.next + 18⟩ = some (.string x, ⟨μ.obs, μ.next + 18⟩) := hname
    simp only [wordOf] at hcall hname hci
    simp only [dRun, wanted, aDrawOne, heavy, aP, aReads, aR, aT, aCall, aCallVal, go_body Tryz.func6 rfl, go_body Tryz.func7 rfl, call_body hS.symbol, call_body hS.name, hcall, hname, hb1, hb2, veq_int, aev, regAt_set, aput_mk, h3, h4', hiaI, ldW, hci, aBin, aInt, ieq_nat, aStr, bytes_eq, aPick, plainV, endsD_some, Nat.reduceLT, if_true, then_normal, Nat.reduceEqDiff, if_false, reduceIte, decide_true, decide_false, Bool.not_true, Bool.not_false, beq_self_eq_true, List.map_cons, List.map_nil, List.nil_append, List.append_nil]
    refine code_cond_false ?_ ?_
    · simp only [aev, regAt_set, Nat.reduceEqDiff, reduceIte]
    refine code_skip ?_
    simp only [then_normal]
    refine code_seq ?_
    refine code_region ?_ ?_
    · rfl
    simp only [run1, aOne, aP, aR, aA, aT, aev, regAt_set, aput_mk, h0, hsl, aBuiltin, aLen, Tryz.underlying22, cast_nat, plainV, ends_some, Nat.reduceLT, if_true, then_normal, Nat.reduceEqDiff, if_false, reduceIte]
    refine code_block ?_
    rw [show e + (m + 1) + 191 = (e + (m + 1) + 151 - i) + i + 40 from by omega]
    refine EndsC.mono (loop3 hS hH hl hx (fv := fv) (ns := ns) (fs := fs) (e + (m + 1) + 151 - i) i 0 _ ⟨μ.obs, μ.next + 18⟩ (by omega) hId ?_ ?_ ?_ ?_ ?_ ?_ ?_ ?_ ?_ ?_) ?_
    · simp only [regAt_set, Nat.reduceEqDiff, reduceIte, h0]
    · simp only [regAt_set, Nat.reduceEqDiff, reduceIte, h3]
    · simp only [regAt_set, Nat.reduceEqDiff, reduceIte, h4]
    · simp only [regAt_set, Nat.reduceEqDiff, reduceIte, h30]
    · simp only [regAt_set, Nat.reduceEqDiff, reduceIte, h31]
    · simp only [regAt_set, Nat.reduceEqDiff, reduceIte, h32]
    · simp only [regAt_set, Nat.reduceEqDiff, reduceIte]
    · simp only [regAt_set, Nat.reduceEqDiff, reduceIte]
    · simp only [regAt_set, Nat.reduceEqDiff, reduceIte]
    · simp only [regAt_set, Nat.reduceEqDiff, reduceIte]; rfl
    rintro x' r' μ' ⟨rfl, tm', rfl, hI', g0, g3, g4, g30, g31, g32⟩
    simp only [blockC, reduceIte, then_normal]
    have hadd : qwrap .i64 (Int.add (.ofNat i) 1) = .ofNat (i + 1) := add_nat i 1 (by omega)
    refine code_region ?_ ?_
    · rfl
    simp only [run1, aOne, aP, aev, regAt_set, aput_mk, plainV, g32, aBin, aInt, hadd, decide_true, ends_some, Nat.reduceLT, if_true, then_normal, Nat.reduceEqDiff, if_false, reduceIte]
    rw [show e + (m + 1) + 199 = e + m + 200 from by omega]
    refine ih (i + 1) _ μ' (by omega) hI' ?_ ?_ ?_ ?_ ?_ ?_ <;> simp only [regAt_set, Nat.reduceEqDiff, reduceIte, g0, g3, g4, g30, g31]

theorem bytes_nil : bytesEq [] [] = true := rfl

set_option maxHeartbeats 4000000 in
theorem law_short (hS : Known X S) {l : List ByteArray} {hob : Option Ob} {H o sp mp c cp : Nat} {ad : Option Addr} (hH : Handed l hob H o ad c cp) {μ μ1 : Mem} (hn : ¬ 100 < l.length) (hs1 : Space μ1 sp mp []) (hh1 : μ1.obs.get H = hob) (hl1 : H < μ1.next) (hnew : aFun Tryz.prog (aCode Tryz.prog X S 595) 5 [.int .i64 1] μ = some (.pointer (some ⟨sp, 0, none⟩), μ1)) : EndsF (aFun Tryz.prog (aCode Tryz.prog X S 600) 3 [.slice ad l.length c] μ) fun v μ' => v = .bool true ∧ μ'.obs.get H = hob := by
  refine fun_enter Tryz.func3 rfl rfl (by show 1 ≤ 89; decide) ?_
  simp only [T.lay, Nat.zero_add, Tryz.ntmps3]
  refine code_seq ?_
  refine code_region ?_ ?_
  · rfl
  simp only [run1, aOne, aP, aev, regAt_set, aput_mk, ends_some, Nat.reduceLT, if_true, plainV, then_normal, Nat.reduceEqDiff, if_false, reduceIte]
  refine code_seq ?_
  refine code_seq ?_
  refine code_region ?_ ?_
  · rfl
  simp only [run1, aOne, aP, aR, aA, aT, aCall, aCallVal, go_body Tryz.func4 rfl, hS.alive, aev, regAt_set, aput_mk, ends_some, Nat.reduceLT, if_true, then_normal, Nat.reduceEqDiff, if_false, reduceIte, reduceCtorEq, List.map_cons, List.map_nil, List.nil_append, List.append_nil, Bool.not_true]
  refine code_cond_false ?_ ?_
  · simp only [aev, regAt_set, Nat.reduceEqDiff, reduceIte]
  refine code_skip ?_
  simp only [then_normal]
  refine code_seq ?_
  refine code_seq ?_
  refine code_region ?_ ?_
  · rfl
  simp only [run1, aOne, aP, aR, aA, aT, aCall, aev, regAt_set, aput_mk, aBuiltin, aLen, Tryz.underlying22, cast_nat, plainV, aBin, aInt, ilt_100, hn, decide_true, decide_false, ends_some, Nat.reduceLT, if_true, then_normal, Nat.reduceEqDiff, if_false, reduceIte, reduceCtorEq]
  refine code_cond_false ?_ ?_
  · simp only [aev, regAt_set, Nat.reduceEqDiff, reduceIte]
  refine code_skip ?_
  simp only [then_normal]
  refine code_seq ?_
  refine code_region ?_ ?_
  · rfl
  simp only [run1, aOne, aP, aR, aA, aT, aCall, aCallVal, go_body Tryz.func5 rfl, call_body hS.new, hnew, plainV, aev, regAt_set, aput_mk, ends_some, Nat.reduceLT, if_true, then_normal, Nat.reduceEqDiff, if_false, reduceIte, reduceCtorEq, List.map_cons, List.map_nil, List.nil_append, List.append_nil]
  refine code_seq ?_
  refine code_region ?_ ?_
  · rfl
  simp only [run1, aOne, aP, aR, aA, aT, aCall, bs0, aev, regAt_set, aput_mk, ends_some, Nat.reduceLT, if_true, then_normal, Nat.reduceEqDiff, if_false, reduceIte, reduceCtorEq]
  refine code_seq ?_
  refine code_seq ?_
  refine code_region ?_ ?_
  · rfl
  simp only [run1, aOne, aP, aR, aA, aT, aCall, aev, regAt_set, aput_mk, aBuiltin, aLen, Tryz.underlying22, cast_nat, plainV, ends_some, Nat.reduceLT, if_true, then_normal, Nat.reduceEqDiff, if_false, reduceIte, reduceCtorEq]
  refine code_block ?_
  obtain ⟨z, ov, fx, sh, hspo, _, _⟩ := hs1.sp
  have hsp2 : Space ⟨μ1.obs.set μ1.next (.cells 0 28 #[] .e 0 0 false false), Nat.add μ1.next 1⟩ sp mp [] := by
    refine hs1.keep (fun i hi => ?_) ?_ ?_ fun i m z ov fx sh ho => ?_
    · have hi : μ1.next + 1 ≤ i := hi
      show T.get _ i = none
      rw [T.get_set, if_neg (by omega)]
      exact hs1.fresh i (by omega)
    · show T.get _ sp = _
      have := hs1.fresh.lt hspo
      rw [T.get_set, if_neg (by omega)]
    · show T.get _ mp = _
      have := hs1.fresh.lt hs1.map
      rw [T.get_set, if_neg (by omega)]
    · show T.get _ i = _
      have := hs1.fresh.lt ho
      rw [T.get_set, if_neg (by omega)]
  have hI0 : Inv l hob H sp mp 0 (.slice (some ⟨μ1.next, 0, none⟩) 0 0) [] [] ⟨μ1.obs.set μ1.next (.cells 0 28 #[] .e 0 0 false false), Nat.add μ1.next 1⟩ := by
    refine ⟨hsp2, .inr ⟨μ1.next, 0, #[], .e, false, false, 0, rfl, ?_, Nat.le_refl _, fun k hk => by simp at hk, .inl ⟨rfl, rfl⟩⟩, rfl, Nat.le_refl _, fun i hi => by omega, ?_, ?_⟩
    · show T.get _ μ1.next = _
      rw [T.get_set, if_pos rfl]
    · show T.get _ H = _
      rw [T.get_set, if_neg (by omega)]
      exact hh1
    · show H < μ1.next + 1; omega
  rw [show (592 : Nat) = (532 - l.length) + l.length + 60 from by omega]
  refine EndsC.mono (loop1 hS hH (by omega) (532 - l.length) l.length 0 _ _ [] [] _ (by omega) hI0 ?_ ?_ ?_ ?_ ?_ ?_) ?_
  · simp only [regAt_set, Nat.reduceEqDiff, reduceIte]
  · simp only [regAt_set, Nat.reduceEqDiff, reduceIte]
  · simp only [regAt_set, Nat.reduceEqDiff, reduceIte]
  · simp only [regAt_set, Nat.reduceEqDiff, reduceIte]
  · simp only [regAt_set, Nat.reduceEqDiff, reduceIte]
  · simp only [regAt_set, Nat.reduceEqDiff, reduceIte]; rfl
  rintro x r μ2 ⟨rfl, tm, fv, ns, fs, rfl, hI, g0, g3, g4⟩
  simp only [blockC, reduceIte, then_normal]
  refine code_seq ?_
  refine code_seq ?_
  refine code_region ?_ ?_
  · rfl
  simp only [run1, aOne, aP, aR, aA, aT, aCall, aev, regAt_set, aput_mk, aBuiltin, aLen, Tryz.underlying22, cast_nat, plainV, g0, ends_some, Nat.reduceLT, if_true, then_normal, Nat.reduceEqDiff, if_false, reduceIte, reduceCtorEq]
  refine code_block ?_
  rw [show (591 : Nat) = (391 - l.length) + l.length + 200 from by omega]
  refine EndsC.mono (loop2 hS hH (by omega) (fv := fv) (ns := ns) (fs := fs) (391 - l.length) l.length 0 _ μ2 (by omega) hI ?_ ?_ ?_ ?_ ?_ ?_) ?_
  · simp only [regAt_set, Nat.reduceEqDiff, reduceIte, g0]
  · simp only [regAt_set, Nat.reduceEqDiff, reduceIte, g3]
  · simp only [regAt_set, Nat.reduceEqDiff, reduceIte, g4]
  · simp only [regAt_set, Nat.reduceEqDiff, reduceIte]
  · simp only [regAt_set, Nat.reduceEqDiff, reduceIte]
  · simp only [regAt_set, Nat.reduceEqDiff, reduceIte]; rfl
  rintro x r μ3 ⟨rfl, tm3, rfl, hI3, k3⟩
  simp only [blockC, reduceIte, then_normal]
  refine code_seq ?_
  refine code_guards (gs := ?_) ?_ ?_
  rotate_left
  · rfl
  obtain ⟨v1, m1, hn8, hv1, hm1⟩ := name_no (X := X) (S := S) (k := 571) (w := .int .u64 8) (kd := 0) (q := 1) hI3.space (fun k => hS.kind8 k _) (fun k => hS.value8 k _) (.inl rfl)
  obtain ⟨v2, m2, hn5, hv2, hm2⟩ := name_no (X := X) (S := S) (k := 571) (w := .int .u64 40003) (kd := 3) (q := 5000) hI3.space (fun k => hS.kind5 k _) (fun k => hS.value5 k _) (.inr ⟨rfl, by have := hI3.nslen; omega⟩)
  subst hv1 hm1 hv2 hm2
  have hn8 : aFun Tryz.prog (aCode Tryz.prog X S 591) 7 [.pointer (some ⟨sp, 0, none⟩), .int .u64 8] m2 = some (.string ⟨#[]⟩, m2) := hn8
  have hn5 : aFun Tryz.prog (aCode Tryz.prog X S 591) 7 [.pointer (some ⟨sp, 0, none⟩), .int .u64 40003] m2 = some (.string ⟨#[]⟩, m2) := hn5
  simp only [run2, wanted, aOne, aP, aR, aA, aT, aCall, aCallVal, go_body Tryz.func7 rfl, go_body Tryz.func8 rfl, call_body hS.name, hS.made, hn8, hn5, plainV, k3, aev, regAt_set, aput_mk, aBin, aStr, bytes_nil, aPick, ends_some, Nat.reduceLT, if_true, then_normal, Nat.reduceEqDiff, if_false, reduceIte, reduceCtorEq, List.map_cons, List.map_nil, List.nil_append, List.append_nil, decide_true, beq_self_eq_true]
  refine code_ret ?_
  refine ⟨rfl, .bool true, ?_, rfl, hI3.held⟩
  simp only [aResults, Tryz.results3, aRes, regAt_set, Nat.reduceEqDiff, reduceIte]

theorem named : Named Tryz.prog := named_of (by kernel_rfl)
theorem mixed : Tryz.prog.follows .mixedOrders = true := by kernel_rfl
def xs : List (FuncId × XK) := [(83, .f64bits), (120, .same), (122, .f64from), (209, .noZero 5), (218, .f64bits), (250, .f64from), (138, .indexByte), (186, .indexByte)]
theorem rows : ∀ x ∈ xs, ∃ fn, XRow Tryz.prog x.1 x.2 fn := by
  intro x hx
  simp only [xs, List.mem_cons, List.not_mem_nil, or_false] at hx
  rcases hx with rfl | rfl | rfl | rfl | rfl | rfl | rfl | rfl
  · exact ⟨_, Tryz.func83, by kernel_rfl, by kernel_rfl, by kernel_rfl, by kernel_rfl, fun e h => by cases h⟩
  · exact ⟨_, Tryz.func120, by kernel_rfl, by kernel_rfl, by kernel_rfl, by kernel_rfl, fun e h => by cases h⟩
  · exact ⟨_, Tryz.func122, by kernel_rfl, by kernel_rfl, by kernel_rfl, by kernel_rfl, fun e h => by cases h⟩
  · exact ⟨_, Tryz.func209, by kernel_rfl, by kernel_rfl, by kernel_rfl, by kernel_rfl, fun e h => by cases h; exact ⟨Tryz.f209.resultTypes.getD 0 0, by kernel_rfl, by kernel_rfl⟩⟩
  · exact ⟨_, Tryz.func218, by kernel_rfl, by kernel_rfl, by kernel_rfl, by kernel_rfl, fun e h => by cases h⟩
  · exact ⟨_, Tryz.func250, by kernel_rfl, by kernel_rfl, by kernel_rfl, by kernel_rfl, fun e h => by cases h⟩
  · exact ⟨_, Tryz.func138, by kernel_rfl, by kernel_rfl, by kernel_rfl, by kernel_rfl, fun e h => by cases h⟩
  · exact ⟨_, Tryz.func186, by kernel_rfl, by kernel_rfl, by kernel_rfl, by kernel_rfl, fun e h => by cases h⟩

/-! ### tables -/
def f15 : List Value → Option Value
  | [.int .i64 (.ofNat q)] => if q < 101 then some (wordOf q) else none
  | _ => none
def f16 : List Value → Option Value
  | [.int .u64 (.ofNat m)] => if m = 8 then some (.int .i64 (.ofNat 1)) else if m = 40003 then some (.int .i64 (.ofNat 5000)) else if m % 8 = 3 ∧ m / 8 < 101 then some (.int .i64 (.ofNat (m / 8))) else none
  | _ => none
def f17 : List Value → Option Value
  | [.int .u64 (.ofNat m)] => if m = 8 then some (.int .i64 0) else if m = 40003 then some (.int .i64 3) else if m % 8 = 3 ∧ m / 8 < 101 then some (.int .i64 3) else none
  | _ => none
def f8 : List Value → Option Value
  | [.int .i64 (.ofNat 3), .int .i64 (.ofNat 5000)] => some (.int .u64 40003)
  | _ => none
def domI : List (List Value) := (List.range 101).map fun q => [.int .i64 (.ofNat q)]
def domW : List (List Value) := [.int .u64 (.ofNat 8)] :: [.int .u64 (.ofNat 40003)] :: (List.range 101).map fun q => [wordOf q]

theorem dom15 : ∀ args v, f15 args = some v → args ∈ domI := by
  intro args v h
  unfold f15 at h
  split at h
  · rename_i q
    split at h
    · rename_i hq
      exact List.mem_map.2 ⟨q, List.mem_range.2 hq, rfl⟩
    · cases h
  · cases h
theorem domW_mem {m : Nat} (h : m = 8 ∨ m = 40003 ∨ (m % 8 = 3 ∧ m / 8 < 101)) : [Value.int .u64 (.ofNat m)] ∈ domW := by
  rcases h with rfl | rfl | ⟨h1, h2⟩
  · exact List.mem_cons_self
  · exact List.mem_cons_of_mem _ List.mem_cons_self
  · refine List.mem_cons_of_mem _ (List.mem_cons_of_mem _ (List.mem_map.2 ⟨m / 8, List.mem_range.2 h2, ?_⟩))
    unfold wordOf
    rw [show 8 * (m / 8) + 3 = m from by omega]
theorem dom16 : ∀ args v, f16 args = some v → args ∈ domW := by
  intro args v h
  unfold f16 at h
  split at h
  · rename_i m
    refine domW_mem ?_
    by_cases h1 : m = 8
    · exact .inl h1
    · rw [if_neg h1] at h
      by_cases h2 : m = 40003
      · exact .inr (.inl h2)
      · rw [if_neg h2] at h
        by_cases h3 : m % 8 = 3 ∧ m / 8 < 101
        · exact .inr (.inr h3)
        · rw [if_neg h3] at h; cases h
  · cases h
theorem dom17 : ∀ args v, f17 args = some v → args ∈ domW := by
  intro args v h
  unfold f17 at h
  split at h
  · rename_i m
    refine domW_mem ?_
    by_cases h1 : m = 8
    · exact .inl h1
    · rw [if_neg h1] at h
      by_cases h2 : m = 40003
      · exact .inr (.inl h2)
      · rw [if_neg h2] at h
        by_cases h3 : m % 8 = 3 ∧ m / 8 < 101
        · exact .inr (.inr h3)
        · rw [if_neg h3] at h; cases h
  · cases h
theorem dom8 : ∀ args v, f8 args = some v → args ∈ [[Value.int .i64 (.ofNat 3), .int .i64 (.ofNat 5000)]] := by
  intro args v h
  unfold f8 at h
  split at h
  · exact List.mem_cons_self
  · cases h

def sums : List (FuncId × LK) := [(4, .alive []), (15, .plain f15), (16, .plain f16), (17, .plain f17), (8, .plain f8)]

theorem ranAlive : isTrueR [] (aFun Tryz.prog (aCode Tryz.prog (aExt xs) [] 2000) 4 [] ⟨romObs [], 900⟩) = true := by kernel_rfl
theorem tab15 : domOk (fun args => aFun Tryz.prog (aCode Tryz.prog (aExt xs) [] 100) 15 args ⟨.e, 900⟩) f15 domI = true := by kernel_rfl
theorem tab16 : domOk (fun args => aFun Tryz.prog (aCode Tryz.prog (aExt xs) [] 100) 16 args ⟨.e, 900⟩) f16 domW = true := by kernel_rfl
theorem tab17 : domOk (fun args => aFun Tryz.prog (aCode Tryz.prog (aExt xs) [] 100) 17 args ⟨.e, 900⟩) f17 domW = true := by kernel_rfl
theorem tab8 : domOk (fun args => aFun Tryz.prog (aCode Tryz.prog (aExt xs) [] 100) 8 args ⟨.e, 900⟩) f8 [[Value.int .i64 (.ofNat 3), .int .i64 (.ofNat 5000)]] = true := by kernel_rfl

theorem sums_ok : SumsOk Tryz.prog sums :=
  SumsOk.cons (sum_of named (aExt_ok rows) mixed (SumsOk.none _) (by decide +kernel) [] (by kernel_rfl) ranAlive)
  (SumsOk.cons (plain_dom named (aExt_ok rows) mixed (SumsOk.none _) (by decide +kernel) f15 domI dom15 tab15)
  (SumsOk.cons (plain_dom named (aExt_ok rows) mixed (SumsOk.none _) (by decide +kernel) f16 domW dom16 tab16)
  (SumsOk.cons (plain_dom named (aExt_ok rows) mixed (SumsOk.none _) (by decide +kernel) f17 domW dom17 tab17)
  (SumsOk.cons (plain_dom named (aExt_ok rows) mixed (SumsOk.none _) (by decide +kernel) f8 _ dom8 tab8) (SumsOk.none _)))))

theorem known : Known (aExt xs) sums where
  alive k μ := rfl
  word q k μ hq := call_plain (f := f15) rfl (by unfold f15; simp only [hq, if_true]) rfl rfl
  value q k μ hq := call_plain (f := f16) rfl (by
    unfold f16 wordOf
    simp only
    rw [if_neg (by omega), if_neg (by omega), if_pos ⟨by omega, by omega⟩, show (8 * q + 3) / 8 = q from by omega]) rfl rfl
  kind q k μ hq := call_plain (f := f17) rfl (by
    unfold f17 wordOf
    simp only
    rw [if_neg (by omega), if_neg (by omega), if_pos ⟨by omega, by omega⟩]) rfl rfl
  value8 k μ := call_plain (f := f16) rfl rfl rfl rfl
  kind8 k μ := call_plain (f := f17) rfl rfl rfl rfl
  value5 k μ := call_plain (f := f16) rfl rfl rfl rfl
  kind5 k μ := call_plain (f := f17) rfl rfl rfl rfl
  made k μ := call_plain (f := f8) rfl rfl rfl rfl
  new := rfl
  symbol := rfl
  name := rfl

/-! ### the space that value.New makes -/
def newRun (t0 : T Ob) : Option (Value × Mem) := aFun Tryz.prog (aCode Tryz.prog (aExt xs) sums 595) 5 [.int .i64 1] ⟨t0, 900⟩
def newMem (t0 : T Ob) : Mem := match newRun t0 with
  | some (_, m) => m
  | none => ⟨.e, 0⟩
theorem new_ran {t0 : T Ob} (h : (newRun t0).map (·.1) = some (.pointer (some ⟨911, 0, none⟩))) : newRun t0 = some (.pointer (some ⟨911, 0, none⟩), newMem t0) := by
  unfold newMem
  cases hr : newRun t0 with
  | none => rw [hr] at h; cases h
  | some x =>
    obtain ⟨v, m⟩ := x
    rw [hr] at h
    simp only [Option.map_some, Option.some.injEq] at h
    rw [h]

structure NewOk (t0 : T Ob) (hob : Option Ob) : Prop where
  val : (newRun t0).map (·.1) = some (.pointer (some ⟨911, 0, none⟩))
  next : (newMem t0).next = 912
  under : (newMem t0).obs.under 1 0 912 = true
  map : (newMem t0).obs.get 910 = some (.map [] 0)
  sp : (newMem t0).obs.get 911 = some (.cells 3 59 #[.pointer (some ⟨909, 0, none⟩), .slice none 0 0, .map (some 910)] .e 0 0 false false)
  held : (newMem t0).obs.get 890 = hob

theorem newE : NewOk .e none := ⟨by kernel_rfl, by kernel_rfl, by kernel_rfl, by kernel_rfl, by kernel_rfl, by kernel_rfl⟩
theorem newH (c : Array Value) (t : TypeId) (fz : Nat × Nat) : NewOk (T.e.set 890 (.held c t fz)) (some (.held c t fz)) := ⟨by kernel_rfl, by kernel_rfl, by kernel_rfl, by kernel_rfl, by kernel_rfl, by kernel_rfl⟩

theorem NewOk.space {t0 : T Ob} {hob : Option Ob} (h : NewOk t0 hob) : Space (newMem t0) 911 910 [] := by
  refine ⟨fun i hi => ?_, h.map, _, _, _, _, h.sp, rfl, .inl ⟨rfl, rfl⟩⟩
  cases hg : (newMem t0).obs.get i with
  | none => rfl
  | some o =>
    have := T.under_spec _ 1 0 912 h.under i o hg
    rw [h.next] at hi
    omega

theorem law {l : List ByteArray} {hob : Option Ob} {o c cp : Nat} {ad : Option Addr} {t0 : T Ob} (hH : Handed l hob 890 o ad c cp) (hN : NewOk t0 hob) (h0 : t0.get 890 = hob) :
    EndsF (aFun Tryz.prog (aCode Tryz.prog (aExt xs) sums 600) 3 [.slice ad l.length c] ⟨t0, 900⟩) fun v μ' => v = .bool true ∧ μ'.obs.get 890 = hob := by
  by_cases hn : 100 < l.length
  · exact (law_long known hn).mono fun v μ' ⟨h1, h2⟩ => ⟨h1, by rw [h2]; exact h0⟩
  · exact law_short known hH hn hN.space hN.held (by rw [hN.next]; decide) (new_ran hN.val)

theorem ran_empty {W : World} {v : Value} {ad : Option Addr} {c : Nat} (hv : VRel (noneKnown 900) (.slice ad 0 c) v) : Calls Tryz.prog 3 #[v] W fun e W' => e = .returned (.bool true) ∧ Same W W' := by
  have hH : Handed [] none 890 0 ad c 0 := ⟨fun h => by simp at h, fun h => by simp at h, fun j x h => by simp at h, fun _ _ _ _ _ _ _ _ h => (by cases h), fun _ _ h => (by cases h)⟩
  obtain ⟨v1, μ', hrun, hv1, _⟩ := law (t0 := .e) hH newE rfl
  subst hv1
  exact dead_calls named (aExt_ok rows) mixed sums_ok (by decide +kernel) (arel_single hv) hrun rfl

theorem ran_full {W : World} {a : Addr} {len cap : Nat} {ss : List ByteArray} (hlen : 0 < len) (hlc : len ≤ cap) (hl : len ≤ ss.length) (hcell : ∀ i, i < ss.length → W.cell? (a.add i) = some (.string (ss.getD i ByteArray.empty))) :
    Calls Tryz.prog 3 #[.slice (some a) len cap] W fun e W' => e = .returned (.bool true) ∧ Same W W' := by
  have h0 := hcell 0 (by omega)
  have ha0 : a.add 0 = a := rfl
  rw [ha0] at h0
  obtain ⟨b, o, sp⟩ := a
  obtain ⟨c, t, fz, hb, hsp⟩ : ∃ c t fz, W.heap[b]? = some (.cells c t fz) ∧ sp = none := by
    unfold World.cell? at h0
    simp only at h0
    split at h0
    · rename_i c t fz hb
      refine ⟨c, t, fz, hb, ?_⟩
      cases sp with
      | none => rfl
      | some x => simp at h0
    · cases h0
  subst hsp
  have hc : ∀ j, j < ss.length → c[o + j]? = some (.string (ss.getD j ByteArray.empty)) := fun j hj => by
    have h1 := hcell j hj
    unfold World.cell? Addr.add at h1
    by_cases hj0 : j = 0
    · subst hj0; simp only [if_true, hb] at h1; simpa using h1
    · rw [if_neg hj0] at h1; simp only [hb] at h1; simpa using h1
  have hlt : (ss.take len).length = len := by rw [List.length_take]; omega
  have hH : Handed (ss.take len) (some (.held c t fz)) 890 o (some ⟨890, o, none⟩) (2 * cap) cap := by
    refine ⟨fun _ => rfl, fun _ => ⟨rfl, by omega⟩, fun j x hx => ?_, fun _ _ _ _ _ _ _ _ h => (by cases h), fun _ _ h => (by cases h)⟩
    have hj : j < len := by have := (List.getElem?_eq_some_iff.1 hx).1; omega
    have h1 := hc j (by omega)
    have hx2 : ss.getD j ByteArray.empty = x := by
      rw [List.getElem?_take] at hx
      rw [if_pos hj] at hx
      rw [List.getD_eq_getElem?_getD, hx]; rfl
    rw [hx2] at h1
    obtain ⟨hsz, hcj⟩ := Array.getElem?_eq_some_iff.1 h1
    show (if o + j < c.size then some (cellAt (c.map strip) .e (o + j)) else none) = _
    rw [if_pos hsz]
    have hm : Nat.mod (o + j) (c.map strip).size = o + j := by show (o + j) % _ = _; rw [Nat.mod_eq_of_lt]; simpa using hsz
    simp only [cellAt, T.get_e, hm]
    simp [Array.getD, hsz, hcj]
    rfl
  obtain ⟨v1, μ', hrun, hv1, hk⟩ := law hH (newH c t fz) (by rw [T.get_set, if_pos rfl])
  subst hv1
  rw [hlt] at hrun
  exact held_calls named (aExt_ok rows) mixed sums_ok (by decide +kernel) [] rfl rfl (fun x hx => by cases hx) (b := b) hb (by decide +kernel) (by decide) (fun x hx => by cases hx)
    (fun J hJ => arel_single (.slice hJ (.inl ⟨by omega, by omega⟩))) hrun rfl hk rfl
end
end Go.Proofs.YtnolapdoeeamdaaGreatDoor.vs
