/-
  distafflaw18.ValueTexts, part W: the run over any two arguments. No conditions.
-/
import Derived.Test.YtifoiijkaehpaaaGreatDoorVtD
set_option linter.unusedSimpArgs false
set_option linter.unusedVariables false
namespace Go.Proofs.YtifoiijkaehpaaaGreatDoor.vt
open Go Go.Proofs Go.Proofs.YtifoiijkaehpaaaGreatDoor.Ev

noncomputable section

/-! ### blocks that are handed in -/
/-- what a world holds of what is handed in -/
structure Hands (P : Program) (W : World) (nx : Nat) (J : Nat → Ev.Loc) (t : T Ob) : Prop where
  loc : ∀ i, J i = noneKnown nx i ∨ ∃ b c ty fz, J i = .at b 0 ∧ P.globals.size < i ∧ i < nx ∧ t.get i = some (.held c ty fz) ∧ W.heap[b]? = some (.cells c ty fz)
  inj : ∀ i j b, J i = .at b 0 → J j = .at b 0 → i = j
  only : ∀ i o, t.get i = some o → ∃ b, J i = .at b 0

theorem none_not (nx i b s : Nat) : noneKnown nx i ≠ .at b s := fun e => by unfold noneKnown at e; split at e <;> cases e

theorem hands_calls {P : Program} {X : FuncId → List Value → Mem → Option (Value × Mem)} (hN : Named P) (hX : XOk P X) (hm : P.follows .mixedOrders = true) {S : List (FuncId × LK)} (hS : SumsOk P S) {k : Nat} {g : FuncId} {nx : Nat} (hnx : P.globals.size < nx) {W : World} {J : Nat → Ev.Loc} {t : T Ob} (h : Hands P W nx J t)
    {args : List Value} {args' : Array Value} (ha : ARel J args.toArray args') {v : Value} {μ' : Mem} (hrun : aFun P (aCode P X S k) g args ⟨t, nx⟩ = some (v, μ')) (hk : ∀ i b, J i = .at b 0 → μ'.obs.get i = t.get i) (hpv : plainV 5 v = true) :
    Calls P g args' W fun e W' => e = .returned v ∧ Same W W' := by
  have at0 : ∀ {i b s}, J i = .at b s → s = 0 ∧ P.globals.size < i ∧ i < nx ∧ ∃ c ty fz, t.get i = some (.held c ty fz) ∧ W.heap[b]? = some (.cells c ty fz) := fun {i b s} e => by
    rcases h.loc i with e1 | ⟨b1, c, ty, fz, e1, h1, h2, h3, h4⟩
    · rw [e1] at e; exact absurd e (none_not _ _ _ _)
    · rw [e1] at e; cases e; exact ⟨rfl, h1, h2, c, ty, fz, h3, h4⟩
  have nk : ∀ i, (i ≤ P.globals.size ∨ nx ≤ i) → J i = noneKnown nx i := fun i hi => by
    rcases h.loc i with e1 | ⟨b1, c, ty, fz, e1, h1, h2, _⟩
    · exact e1
    · omega
  have hr : Rel J ⟨t, nx⟩ W := by
    refine ⟨fun i j b s t2 e1 e2 => ?_, fun i b s e => ?_, fun i hi => ?_, fun i o ho _ => ?_⟩
    · obtain ⟨rfl, _⟩ := at0 e1
      obtain ⟨rfl, _⟩ := at0 e2
      exact h.inj i j b e1 e2
    · obtain ⟨_, _, _, c, ty, fz, _, h4⟩ := at0 e
      exact (Array.getElem?_eq_some_iff.1 h4).1
    · rw [nk i (.inr hi)]; exact if_neg (Nat.not_lt.2 hi)
    · obtain ⟨b, e⟩ := h.only i o ho
      obtain ⟨_, _, _, c, ty, fz, h3, h4⟩ := at0 e
      have ho' : t.get i = some o := ho
      rw [h3] at ho'
      cases ho'
      exact ⟨b, 0, e, h4⟩
  have hB : Base P J := by
    refine ⟨fun g hg => .inr ?_, ?_⟩
    · rw [nk g (.inl (Nat.le_of_lt hg))]; exact if_pos (Nat.lt_trans hg hnx)
    · rw [nk _ (.inl (Nat.le_refl _))]; exact if_pos hnx
  refine callsIn_wide.1 (fun_ok (code_ok hN hX hm hS k).1 g args _ _ μ' hrun _ W args' hr hB ha 0 _ fun J' v' w' h1 h2 h3 => ?_)
  refine ⟨by rw [plain_eq 5 hpv h1], h3.os, h3.output, h3.size, fun b2 hb2 => ?_, h3.tape⟩
  by_cases hex : ∃ i, J i = .at b2 0
  · obtain ⟨i, e⟩ := hex
    obtain ⟨_, _, _, c, ty, fz, h5, h6⟩ := at0 e
    obtain ⟨b3, s3, hJ, hob⟩ := h2.obj i _ ((hk i b2 e).trans h5) (by simp)
    rcases h3.at_ _ _ _ e with e3 | ⟨e3, _⟩
    · rw [e3] at hJ; cases hJ
      have hob' : w'.heap[b2]? = _ := hob
      rw [hob', h6]
    · rw [e3] at hJ; cases hJ
  · refine h3.frame b2 hb2 fun i s e => ?_
    obtain ⟨rfl, _⟩ := at0 e
    exact absurd ⟨i, e⟩ hex

theorem arel_pair {J : Nat → Ev.Loc} {v v' u u' : Value} (h : VRel J v v') (g : VRel J u u') : ARel J [v, u].toArray #[v', u'] := ⟨rfl, fun i a b ha hb => by
  match i with
  | 0 => simp at ha hb; subst ha hb; exact h
  | 1 => simp at ha hb; subst ha hb; exact g
  | i + 2 => simp at ha⟩

/-! ### the two arguments -/
def Emp (v : Value) (ad : Option Addr) (c : Nat) : Prop := (ad = none ∧ c = 0 ∧ v = .slice none 0 0) ∨ ∃ a cap, ad = some ⟨0, 0, none⟩ ∧ c = 2 * cap ∧ v = .slice (some a) 0 cap
structure Full (W : World) (v : Value) (kd : IntKind) (b o n cap : Nat) (c : Array Value) (t : TypeId) (fz : Nat × Nat) (z : Nat → Int) : Prop where
  val : v = .slice (some ⟨b, o, none⟩) n cap
  pos : 0 < n
  le : n ≤ cap
  blk : W.heap[b]? = some (.cells c t fz)
  cell : ∀ k, k < n → c[o + k]? = some (.int kd (z k))

theorem Emp.arg {v : Value} {ad : Option Addr} {c : Nat} (h : Emp v ad c) {μ : Mem} (h0 : μ.obs.get 0 = none) (f : Nat → Value) : Arg μ 0 ad 0 c 0 f := by
  rcases h with ⟨rfl, rfl, _⟩ | ⟨a, cap, rfl, rfl, _⟩
  · exact ⟨.inr ⟨rfl, rfl, rfl⟩, .inl ⟨rfl, h0⟩⟩
  · exact ⟨.inl rfl, .inl ⟨rfl, h0⟩⟩
theorem Emp.rel {v : Value} {ad : Option Addr} {c : Nat} (h : Emp v ad c) {J : Nat → Ev.Loc} (hJ : J 0 = .dead) : VRel J (.slice ad 0 c) v := by
  rcases h with ⟨rfl, rfl, rfl⟩ | ⟨a, cap, rfl, rfl, rfl⟩
  · exact .sliceNil 0 0
  · exact .sliceDead a cap hJ (.inl ⟨by omega, by omega⟩)
theorem Full.arg {W : World} {v : Value} {kd : IntKind} {b o n cap : Nat} {c : Array Value} {t : TypeId} {fz : Nat × Nat} {z : Nat → Int} (h : Full W v kd b o n cap c t fz z) {μ : Mem} {hid : Nat} (hh : μ.obs.get hid = some (.held c t fz)) : Arg μ hid (some ⟨hid, o, none⟩) n (2 * cap) o fun k => .int kd (z k) := by
  have hle : o + n ≤ c.size := by
    obtain ⟨m, rfl⟩ : ∃ m, n = m + 1 := ⟨n - 1, by have := h.pos; omega⟩
    have := (Array.getElem?_eq_some_iff.1 (h.cell m (by omega))).1
    omega
  refine ⟨.inl rfl, .inr ⟨c, t, fz, hh, hle, fun k hk => ?_⟩⟩
  obtain ⟨hsz, hcj⟩ := Array.getElem?_eq_some_iff.1 (h.cell k hk)
  have hm : Nat.mod (o + k) (c.map strip).size = o + k := by show (o + k) % _ = _; rw [Nat.mod_eq_of_lt]; simpa using hsz
  simp only [cellAt, T.get_e, hm]
  simp [Array.getD, hsz, hcj]
  rfl
theorem Full.rel {W : World} {v : Value} {kd : IntKind} {b o n cap : Nat} {c : Array Value} {t : TypeId} {fz : Nat × Nat} {z : Nat → Int} (h : Full W v kd b o n cap c t fz z) {J : Nat → Ev.Loc} {hid : Nat} (hJ : J hid = .at b 0) : VRel J (.slice (some ⟨hid, o, none⟩) n (2 * cap)) v := by
  rw [h.val]
  exact .slice hJ (.inl ⟨by omega, by omega⟩)
end

noncomputable section

theorem named : Named Tryz.prog := named_of (by kernel_rfl)
theorem mixed : Tryz.prog.follows .mixedOrders = true := by kernel_rfl
def xs : List (FuncId × XK) := [(26, .f64from), (101, .f64bits), (131, .same), (212, .noZero 5), (219, .f64bits), (251, .f64from), (149, .indexByte), (191, .indexByte)]
theorem rows : ∀ x ∈ xs, ∃ fn, XRow Tryz.prog x.1 x.2 fn := by
  intro x hx
  simp only [xs, List.mem_cons, List.not_mem_nil, or_false] at hx
  rcases hx with rfl | rfl | rfl | rfl | rfl | rfl | rfl | rfl
  · exact ⟨_, Tryz.func26, by kernel_rfl, by kernel_rfl, by kernel_rfl, by kernel_rfl, fun e h => by cases h⟩
  · exact ⟨_, Tryz.func101, by kernel_rfl, by kernel_rfl, by kernel_rfl, by kernel_rfl, fun e h => by cases h⟩
  · exact ⟨_, Tryz.func131, by kernel_rfl, by kernel_rfl, by kernel_rfl, by kernel_rfl, fun e h => by cases h⟩
  · exact ⟨_, Tryz.func212, by kernel_rfl, by kernel_rfl, by kernel_rfl, by kernel_rfl, fun e h => by cases h; exact ⟨Tryz.f212.resultTypes.getD 0 0, by kernel_rfl, by kernel_rfl⟩⟩
  · exact ⟨_, Tryz.func219, by kernel_rfl, by kernel_rfl, by kernel_rfl, by kernel_rfl, fun e h => by cases h⟩
  · exact ⟨_, Tryz.func251, by kernel_rfl, by kernel_rfl, by kernel_rfl, by kernel_rfl, fun e h => by cases h⟩
  · exact ⟨_, Tryz.func149, by kernel_rfl, by kernel_rfl, by kernel_rfl, by kernel_rfl, fun e h => by cases h⟩
  · exact ⟨_, Tryz.func191, by kernel_rfl, by kernel_rfl, by kernel_rfl, by kernel_rfl, fun e h => by cases h⟩
theorem ranAlive : isTrueR [] (aFun Tryz.prog (aCode Tryz.prog (aExt xs) [] 2000) 4 [] ⟨romObs [], 900⟩) = true := by kernel_rfl
theorem sums_ok : SumsOk Tryz.prog S0 :=
  SumsOk.cons (sum_of named (aExt_ok rows) mixed (SumsOk.none _) (by decide +kernel) [] (by kernel_rfl) ranAlive) (SumsOk.none _)

/-- where the two lie -/
def kept (h : Nat) : Prop := h = 0 ∨ h = 880 ∨ h = 890
theorem law {n m c c' o0 o1 h0 h1 : Nat} {ad bd : Option Addr} {s : Nat → Int} {y : Nat → Nat} {t0 : T Ob} {ob0 ob1 : Option Ob} (hN : NewOk (aExt xs) 2994 t0 ob0 ob1) (g0 : t0.get 880 = ob0) (g1 : t0.get 890 = ob1) (gz : t0.get 0 = none)
    (hA : Arg ⟨t0, 900⟩ h0 ad n c o0 fun k => .int .i64 (s k)) (hB : Arg ⟨t0, 900⟩ h1 bd m c' o1 fun k => .int .u8 (.ofNat (y k))) (hy : ∀ t, y t < 2 ^ 8) (k0 : kept h0) (k1 : kept h1) :
    EndsF (aFun Tryz.prog (aCode Tryz.prog (aExt xs) S0 3000) 3 [.slice ad n c, .slice bd m c'] ⟨t0, 900⟩) fun v μ' => v = .bool true ∧ μ'.obs.get h0 = t0.get h0 ∧ μ'.obs.get h1 = t0.get h1 := by
  have hk : ∀ h, kept h → (newMem (aExt xs) 2994 t0).obs.get h = t0.get h ∧ h < (newMem (aExt xs) 2994 t0).next ∧ h ≠ 907 ∧ h ≠ 902 ∧ h ≠ 905 := by
    rintro h (rfl | rfl | rfl)
    · exact ⟨by rw [hN.zero, gz], by rw [hN.next]; decide, by decide, by decide, by decide⟩
    · exact ⟨by rw [hN.held0, g0], by rw [hN.next]; decide, by decide, by decide, by decide⟩
    · exact ⟨by rw [hN.held1, g1], by rw [hN.next]; decide, by decide, by decide, by decide⟩
  obtain ⟨a1, a2, a3⟩ := hk h0 k0
  obtain ⟨b1, b2, b3⟩ := hk h1 k1
  exact law_ends (k := 0) hA hB hy (new_ran hN) hN.space a1 b1 a2 b2 a3 b3

def yOf (z : Nat → Int) (n k : Nat) : Nat := if k < n then (z k).toNat else 0
theorem yOf_lt {z : Nat → Int} {n : Nat} (hz : ∀ k, k < n → 0 ≤ z k ∧ z k < 256) (t : Nat) : yOf z n t < 2 ^ 8 := by
  unfold yOf
  by_cases h : t < n
  · rw [if_pos h]; have := hz t h; show _ < 256; omega
  · rw [if_neg h]; decide
theorem yOf_eq {z : Nat → Int} {n k : Nat} (hz : ∀ k, k < n → 0 ≤ z k ∧ z k < 256) (hk : k < n) : Value.int .u8 (z k) = .int .u8 (.ofNat (yOf z n k)) := by
  unfold yOf
  rw [if_pos hk]
  obtain ⟨h1, _⟩ := hz k hk
  obtain ⟨q, hq⟩ := Int.eq_ofNat_of_zero_le h1
  rw [hq]; rfl

theorem dead900 : noneKnown 900 0 = .dead := if_pos (by decide)

theorem ran_ee {W : World} {v u : Value} {ad bd : Option Addr} {c c' : Nat} (h : Emp v ad c) (g : Emp u bd c') : Calls Tryz.prog 3 #[v, u] W fun e W' => e = .returned (.bool true) ∧ Same W W' := by
  obtain ⟨v1, μ', hrun, hv1, _⟩ := law (s := fun _ => 0) (y := fun _ => 0) (newE (X := aExt xs)) rfl rfl rfl (h.arg (μ := ⟨.e, 900⟩) rfl _) (g.arg (μ := ⟨.e, 900⟩) rfl _) (fun _ => by decide) (.inl rfl) (.inl rfl)
  subst hv1
  exact dead_calls named (aExt_ok rows) mixed sums_ok (by decide +kernel) (arel_pair (h.rel dead900) (g.rel dead900)) hrun rfl

/-- one block -/
def J1 (b : Nat) : Nat → Ev.Loc := fun i => if i = 880 then .at b 0 else noneKnown 900 i
theorem hands1 {W : World} {b : Nat} {c : Array Value} {t : TypeId} {fz : Nat × Nat} (hb : W.heap[b]? = some (.cells c t fz)) : Hands Tryz.prog W 900 (J1 b) (T.e.set 880 (Ob.held c t fz)) := by
  refine ⟨fun i => ?_, fun i j b' e1 e2 => ?_, fun i o ho => ?_⟩
  · by_cases h : i = 880
    · subst h
      exact .inr ⟨b, c, t, fz, if_pos rfl, by decide +kernel, by decide, by rw [T.get_set, if_pos rfl], hb⟩
    · exact .inl (if_neg h)
  · unfold J1 at e1 e2
    by_cases h : i = 880
    · by_cases g : j = 880
      · rw [h, g]
      · rw [if_neg g] at e2; exact absurd e2 (none_not _ _ _ _)
    · rw [if_neg h] at e1; exact absurd e1 (none_not _ _ _ _)
  · rw [T.get_set] at ho
    by_cases h : i = 880
    · exact ⟨b, by subst h; exact if_pos rfl⟩
    · rw [if_neg h, T.get_e] at ho; cases ho
theorem J1_at {b i b' : Nat} (h : J1 b i = .at b' 0) : i = 880 := by
  unfold J1 at h
  by_cases g : i = 880
  · exact g
  · rw [if_neg g] at h; exact absurd h (none_not _ _ _ _)
theorem J1_dead (b : Nat) : J1 b 0 = .dead := (if_neg (by decide)).trans dead900

theorem ran_fe {W : World} {v u : Value} {b o n cap : Nat} {c : Array Value} {t : TypeId} {fz : Nat × Nat} {z : Nat → Int} {bd : Option Addr} {c' : Nat} (h : Full W v .i64 b o n cap c t fz z) (g : Emp u bd c') : Calls Tryz.prog 3 #[v, u] W fun e W' => e = .returned (.bool true) ∧ Same W W' := by
  have e0 : (T.e.set 880 (Ob.held c t fz)).get 0 = none := by rw [T.get_set, if_neg (by decide), T.get_e]
  have e8 : (T.e.set 880 (Ob.held c t fz)).get 880 = some (Ob.held c t fz) := by rw [T.get_set, if_pos rfl]
  have e9 : (T.e.set 880 (Ob.held c t fz)).get 890 = none := by rw [T.get_set, if_neg (by decide), T.get_e]
  obtain ⟨v1, μ', hrun, hv1, k0, k1⟩ := law (s := z) (y := fun _ => 0) (new1 (X := aExt xs) c t fz) e8 e9 e0 (h.arg (μ := ⟨_, 900⟩) e8) (g.arg (μ := ⟨_, 900⟩) e0 _) (fun _ => by decide) (.inr (.inl rfl)) (.inl rfl)
  subst hv1
  refine hands_calls named (aExt_ok rows) mixed sums_ok (by decide +kernel) (hands1 h.blk) (arel_pair (h.rel (if_pos rfl)) (g.rel (J1_dead b))) hrun (fun i b' e => ?_) rfl
  rw [J1_at e]; exact k0
theorem ran_ef {W : World} {v u : Value} {b o n cap : Nat} {c : Array Value} {t : TypeId} {fz : Nat × Nat} {z : Nat → Int} {ad : Option Addr} {c' : Nat} (g : Emp v ad c') (h : Full W u .u8 b o n cap c t fz z) (hz : ∀ k, k < n → 0 ≤ z k ∧ z k < 256) : Calls Tryz.prog 3 #[v, u] W fun e W' => e = .returned (.bool true) ∧ Same W W' := by
  have e0 : (T.e.set 880 (Ob.held c t fz)).get 0 = none := by rw [T.get_set, if_neg (by decide), T.get_e]
  have e8 : (T.e.set 880 (Ob.held c t fz)).get 880 = some (Ob.held c t fz) := by rw [T.get_set, if_pos rfl]
  have e9 : (T.e.set 880 (Ob.held c t fz)).get 890 = none := by rw [T.get_set, if_neg (by decide), T.get_e]
  obtain ⟨v1, μ', hrun, hv1, k0, k1⟩ := law (s := fun _ => 0) (y := yOf z n) (new1 (X := aExt xs) c t fz) e8 e9 e0 (g.arg (μ := ⟨_, 900⟩) e0 _) ((h.arg (μ := ⟨_, 900⟩) e8).congr fun k hk => yOf_eq hz hk) (yOf_lt hz) (.inl rfl) (.inr (.inl rfl))
  subst hv1
  refine hands_calls named (aExt_ok rows) mixed sums_ok (by decide +kernel) (hands1 h.blk) (arel_pair (g.rel (J1_dead b)) (h.rel (if_pos rfl))) hrun (fun i b' e => ?_) rfl
  rw [J1_at e]; exact k1
/-- two in one block -/
theorem ran_same {W : World} {v u : Value} {b o n cap o' n' cap' : Nat} {c : Array Value} {t : TypeId} {fz : Nat × Nat} {z z' : Nat → Int} (g : Full W v .i64 b o n cap c t fz z) (h : Full W u .u8 b o' n' cap' c t fz z') (hz : ∀ k, k < n' → 0 ≤ z' k ∧ z' k < 256) : Calls Tryz.prog 3 #[v, u] W fun e W' => e = .returned (.bool true) ∧ Same W W' := by
  have e0 : (T.e.set 880 (Ob.held c t fz)).get 0 = none := by rw [T.get_set, if_neg (by decide), T.get_e]
  have e8 : (T.e.set 880 (Ob.held c t fz)).get 880 = some (Ob.held c t fz) := by rw [T.get_set, if_pos rfl]
  have e9 : (T.e.set 880 (Ob.held c t fz)).get 890 = none := by rw [T.get_set, if_neg (by decide), T.get_e]
  obtain ⟨v1, μ', hrun, hv1, k0, k1⟩ := law (s := z) (y := yOf z' n') (new1 (X := aExt xs) c t fz) e8 e9 e0 (g.arg (μ := ⟨_, 900⟩) e8) ((h.arg (μ := ⟨_, 900⟩) e8).congr fun k hk => yOf_eq hz hk) (yOf_lt hz) (.inr (.inl rfl)) (.inr (.inl rfl))
  subst hv1
  refine hands_calls named (aExt_ok rows) mixed sums_ok (by decide +kernel) (hands1 h.blk) (arel_pair (g.rel (if_pos rfl)) (h.rel (if_pos rfl))) hrun (fun i b' e => ?_) rfl
  rw [J1_at e]; exact k1

/-- two blocks -/
def J2 (b b' : Nat) : Nat → Ev.Loc := fun i => if i = 880 then .at b 0 else if i = 890 then .at b' 0 else noneKnown 900 i
theorem J2_at {b b' i x : Nat} (h : J2 b b' i = .at x 0) : (i = 880 ∧ x = b) ∨ (i = 890 ∧ x = b') := by
  unfold J2 at h
  by_cases g : i = 880
  · rw [if_pos g] at h; cases h; exact .inl ⟨g, rfl⟩
  · rw [if_neg g] at h
    by_cases g2 : i = 890
    · rw [if_pos g2] at h; cases h; exact .inr ⟨g2, rfl⟩
    · rw [if_neg g2] at h; exact absurd h (none_not _ _ _ _)
theorem ran_two {W : World} {v u : Value} {b b' o n cap o' n' cap' : Nat} {c c' : Array Value} {t t' : TypeId} {fz fz' : Nat × Nat} {z z' : Nat → Int} (hne : b ≠ b') (g : Full W v .i64 b o n cap c t fz z) (h : Full W u .u8 b' o' n' cap' c' t' fz' z') (hz : ∀ k, k < n' → 0 ≤ z' k ∧ z' k < 256) : Calls Tryz.prog 3 #[v, u] W fun e W' => e = .returned (.bool true) ∧ Same W W' := by
  have e0 : ((T.e.set 880 (Ob.held c t fz)).set 890 (Ob.held c' t' fz')).get 0 = none := by rw [T.get_set, if_neg (by decide), T.get_set, if_neg (by decide), T.get_e]
  have e8 : ((T.e.set 880 (Ob.held c t fz)).set 890 (Ob.held c' t' fz')).get 880 = some (Ob.held c t fz) := by rw [T.get_set, if_neg (by decide), T.get_set, if_pos rfl]
  have e9 : ((T.e.set 880 (Ob.held c t fz)).set 890 (Ob.held c' t' fz')).get 890 = some (Ob.held c' t' fz') := by rw [T.get_set, if_pos rfl]
  obtain ⟨v1, μ', hrun, hv1, k0, k1⟩ := law (s := z) (y := yOf z' n') (new2 (X := aExt xs) c t fz c' t' fz') e8 e9 e0 (g.arg (μ := ⟨_, 900⟩) e8) ((h.arg (μ := ⟨_, 900⟩) e9).congr fun k hk => yOf_eq hz hk) (yOf_lt hz) (.inr (.inl rfl)) (.inr (.inr rfl))
  subst hv1
  have hH : Hands Tryz.prog W 900 (J2 b b') ((T.e.set 880 (Ob.held c t fz)).set 890 (Ob.held c' t' fz')) := by
    refine ⟨fun i => ?_, fun i j x e1 e2 => ?_, fun i o ho => ?_⟩
    · by_cases h1 : i = 880
      · subst h1
        exact .inr ⟨b, c, t, fz, if_pos rfl, by decide +kernel, by decide, e8, g.blk⟩
      · by_cases h2 : i = 890
        · subst h2
          exact .inr ⟨b', c', t', fz', (if_neg (by decide)).trans (if_pos rfl), by decide +kernel, by decide, e9, h.blk⟩
        · exact .inl ((if_neg h1).trans (if_neg h2))
    · rcases J2_at e1 with ⟨rfl, rfl⟩ | ⟨rfl, rfl⟩ <;> rcases J2_at e2 with ⟨rfl, h2⟩ | ⟨rfl, h2⟩
      · rfl
      · exact absurd h2 hne
      · exact absurd h2.symm hne
      · rfl
    · rw [T.get_set] at ho
      by_cases h2 : i = 890
      · exact ⟨b', by subst h2; exact (if_neg (by decide)).trans (if_pos rfl)⟩
      · rw [if_neg h2, T.get_set] at ho
        by_cases h1 : i = 880
        · exact ⟨b, by subst h1; exact if_pos rfl⟩
        · rw [if_neg h1, T.get_e] at ho; cases ho
  refine hands_calls named (aExt_ok rows) mixed sums_ok (by decide +kernel) hH (arel_pair (g.rel (if_pos rfl)) (h.rel ((if_neg (by decide)).trans (if_pos rfl)))) hrun (fun i x e => ?_) rfl
  rcases J2_at e with ⟨rfl, _⟩ | ⟨rfl, _⟩
  · exact k0
  · exact k1

/-! ### what the row's reading gives -/
/-- a slice of whole numbers -/
def Reads (W : World) (v : Value) (kd : IntKind) : Prop := (∃ ad c, Emp v ad c) ∨ ∃ b o n cap c t fz z, Full W v kd b o n cap c t fz z ∧ (kd = .u8 → ∀ k, k < n → 0 ≤ z k ∧ z k < 256)
theorem reads_nil (W : World) (kd : IntKind) : Reads W (.slice none 0 0) kd := .inl ⟨none, 0, .inl ⟨rfl, rfl, rfl⟩⟩
theorem reads_some {W : World} {a : Addr} {len cap : Nat} {kd : IntKind} {zs : List Int} (hlc : len ≤ cap) (hl : len ≤ zs.length) (hcell : ∀ i, i < zs.length → W.cell? (a.add i) = some (.int kd (zs.getD i 0))) (hu : kd = .u8 → ∀ z ∈ zs, 0 ≤ z ∧ z < 256) : Reads W (.slice (some a) len cap) kd := by
  by_cases hn : len = 0
  · subst hn
    exact .inl ⟨some ⟨0, 0, none⟩, 2 * cap, .inr ⟨a, cap, rfl, rfl, rfl⟩⟩
  have h0 := hcell 0 (by omega)
  have ha0 : a.add 0 = a := rfl
  rw [ha0] at h0
  obtain ⟨b, o, sp⟩ := a
  obtain ⟨c, t, fz, hb, hsp⟩ : ∃ c t fz, W.heap[b]? = some (.cells c t fz) ∧ sp = none := by
    unfold World.cell? at h0
    simp only at h0
    split at h0
    · rename_i c t fz hb
      refine ⟨c, t, fz, hb, ?_⟩
      cases sp with
      | none => rfl
      | some x => simp at h0
    · cases h0
  subst hsp
  have hc : ∀ j, j < zs.length → c[o + j]? = some (.int kd (zs.getD j 0)) := fun j hj => by
    have h1 := hcell j hj
    unfold World.cell? Addr.add at h1
    by_cases hj0 : j = 0
    · subst hj0; simp only [if_true, hb] at h1; simpa using h1
    · rw [if_neg hj0] at h1; simp only [hb] at h1; simpa using h1
  refine .inr ⟨b, o, len, cap, c, t, fz, fun k => zs.getD k 0, ⟨rfl, by omega, hlc, hb, fun k hk => hc k (by omega)⟩, fun e k hk => ?_⟩
  have hk' : k < zs.length := by omega
  have : zs.getD k 0 = zs[k] := by simp [List.getD, hk']
  show 0 ≤ zs.getD k 0 ∧ zs.getD k 0 < 256
  rw [this]
  exact hu e _ (List.getElem_mem hk')

theorem ran {W : World} {v u : Value} (h : Reads W v .i64) (g : Reads W u .u8) : Calls Tryz.prog 3 #[v, u] W fun e W' => e = .returned (.bool true) ∧ Same W W' := by
  rcases h with ⟨ad, c, h⟩ | ⟨b, o, n, cap, c, t, fz, z, h, _⟩
  · rcases g with ⟨bd, c', g⟩ | ⟨b', o', n', cap', c', t', fz', z', g, hz⟩
    · exact ran_ee h g
    · exact ran_ef h g (hz rfl)
  · rcases g with ⟨bd, c', g⟩ | ⟨b', o', n', cap', c', t', fz', z', g, hz⟩
    · exact ran_fe h g
    · by_cases hb : b = b'
      · subst hb
        have e := g.blk
        rw [h.blk] at e
        injection e with e
        injection e with e1 e2 e3
        subst e1 e2 e3
        exact ran_same h g (hz rfl)
      · exact ran_two hb h g (hz rfl)
end
end Go.Proofs.YtifoiijkaehpaaaGreatDoor.vt
