/-
  distafflaw06.ReaderDeep, part W: the run over any argument. No conditions.
-/
import Derived.Test.YtfcpiamdmbliaaaGreatDoorRdT
set_option linter.unusedSimpArgs false
set_option linter.unusedVariables false
namespace Go.Proofs.YtfcpiamdmbliaaaGreatDoor.rd
open Go Go.Proofs Go.Proofs.YtfcpiamdmbliaaaGreatDoor.Ev

noncomputable section

/-! ### blocks that are handed in -/
/-- what a world holds of what is handed in -/
structure Hands (P : Program) (W : World) (nx : Nat) (J : Nat → Ev.Loc) (t : T Ob) : Prop where
  loc : ∀ i, J i = noneKnown nx i ∨ ∃ b c ty fz, J i = .at b 0 ∧ P.globals.size < i ∧ i < nx ∧ t.get i = some (.held c ty fz) ∧ W.heap[b]? = some (.cells c ty fz)
  inj : ∀ i j b, J i = .at b 0 → J j = .at b 0 → i = j
  only : ∀ i o, t.get i = some o → ∃ b, J i = .at b 0

theorem none_not (nx i b s : Nat) : noneKnown nx i ≠ .at b s := fun e => by unfold noneKnown at e; split at e <;> cases e

theorem hands_calls {P : Program} {X : FuncId → List Value → Mem → Option (Value × Mem)} (hN : Named P) (hX : XOk P X) (hm : P.follows .mixedOrders = true) {S : List (FuncId × LK)} (hS : SumsOk P S) {k : Nat} {g : FuncId} {nx : Nat} (hnx : P.globals.size < nx) {W : World} {J : Nat → Ev.Loc} {t : T Ob} (h : Hands P W nx J t)
    {args : List Value} {args' : Array Value} (ha : ARel J args.toArray args') {v : Value} {μ' : Mem} (hrun : aFun P (aCode P X S k) g args ⟨t, nx⟩ = some (v, μ')) (hk : ∀ i b, J i = .at b 0 → μ'.obs.get i = t.get i) (hpv : plainV 5 v = true) :
    Calls P g args' W fun e W' => e = .returned v ∧ Same W W' := by
  have at0 : ∀ {i b s}, J i = .at b s → s = 0 ∧ P.globals.size < i ∧ i < nx ∧ ∃ c ty fz, t.get i = some (.held c ty fz) ∧ W.heap[b]? = some (.cells c ty fz) := fun {i b s} e => by
    rcases h.loc i with e1 | ⟨b1, c, ty, fz, e1, h1, h2, h3, h4⟩
    · rw [e1] at e; exact absurd e (none_not _ _ _ _)
    · rw [e1] at e; cases e; exact ⟨rfl, h1, h2, c, ty, fz, h3, h4⟩
  have nk : ∀ i, (i ≤ P.globals.size ∨ nx ≤ i) → J i = noneKnown nx i := fun i hi => by
    rcases h.loc i with e1 | ⟨b1, c, ty, fz, e1, h1, h2, _⟩
    · exact e1
    · omega
  have hr : Rel J ⟨t, nx⟩ W := by
    refine ⟨fun i j b s t2 e1 e2 => ?_, fun i b s e => ?_, fun i hi => ?_, fun i o ho _ => ?_⟩
    · obtain ⟨rfl, _⟩ := at0 e1
      obtain ⟨rfl, _⟩ := at0 e2
      exact h.inj i j b e1 e2
    · obtain ⟨_, _, _, c, ty, fz, _, h4⟩ := at0 e
      exact (Array.getElem?_eq_some_iff.1 h4).1
    · rw [nk i (.inr hi)]; exact if_neg (Nat.not_lt.2 hi)
    · obtain ⟨b, e⟩ := h.only i o ho
      obtain ⟨_, _, _, c, ty, fz, h3, h4⟩ := at0 e
      have ho' : t.get i = some o := ho
      rw [h3] at ho'
      cases ho'
      exact ⟨b, 0, e, h4⟩
  have hB : Base P J := by
    refine ⟨fun g hg => .inr ?_, ?_⟩
    · rw [nk g (.inl (Nat.le_of_lt hg))]; exact if_pos (Nat.lt_trans hg hnx)
    · rw [nk _ (.inl (Nat.le_refl _))]; exact if_pos hnx
  refine callsIn_wide.1 (fun_ok (code_ok hN hX hm hS k).1 g args _ _ μ' hrun _ W args' hr hB ha 0 _ fun J' v' w' h1 h2 h3 => ?_)
  refine ⟨by rw [plain_eq 5 hpv h1], h3.os, h3.output, h3.size, fun b2 hb2 => ?_, h3.tape⟩
  by_cases hex : ∃ i, J i = .at b2 0
  · obtain ⟨i, e⟩ := hex
    obtain ⟨_, _, _, c, ty, fz, h5, h6⟩ := at0 e
    obtain ⟨b3, s3, hJ, hob⟩ := h2.obj i _ ((hk i b2 e).trans h5) (by simp)
    rcases h3.at_ _ _ _ e with e3 | ⟨e3, _⟩
    · rw [e3] at hJ; cases hJ
      have hob' : w'.heap[b2]? = _ := hob
      rw [hob', h6]
    · rw [e3] at hJ; cases hJ
  · refine h3.frame b2 hb2 fun i s e => ?_
    obtain ⟨rfl, _⟩ := at0 e
    exact absurd ⟨i, e⟩ hex

theorem arel_one {J : Nat → Ev.Loc} {v v' : Value} (h : VRel J v v') : ARel J [v].toArray #[v'] := ⟨rfl, fun i a b ha hb => by
  match i with
  | 0 => simp at ha hb; subst ha hb; exact h
  | i + 1 => simp at ha⟩

/-! ### the argument -/
def Emp (v : Value) (ad : Option Addr) (c : Nat) : Prop := (ad = none ∧ c = 0 ∧ v = .slice none 0 0) ∨ ∃ a cap, ad = some ⟨0, 0, none⟩ ∧ c = 2 * cap ∧ v = .slice (some a) 0 cap
structure Full (W : World) (v : Value) (kd : IntKind) (b o n cap : Nat) (c : Array Value) (t : TypeId) (fz : Nat × Nat) (z : Nat → Int) : Prop where
  val : v = .slice (some ⟨b, o, none⟩) n cap
  pos : 0 < n
  le : n ≤ cap
  blk : W.heap[b]? = some (.cells c t fz)
  cell : ∀ k, k < n → c[o + k]? = some (.int kd (z k))

theorem Emp.arg {v : Value} {ad : Option Addr} {c : Nat} (h : Emp v ad c) {μ : Mem} (h0 : μ.obs.get 0 = none) (f : Nat → Value) : Arg μ 0 ad 0 c 0 f := by
  rcases h with ⟨rfl, rfl, _⟩ | ⟨a, cap, rfl, rfl, _⟩
  · exact ⟨.inr ⟨rfl, rfl, rfl⟩, .inl ⟨rfl, h0⟩⟩
  · exact ⟨.inl rfl, .inl ⟨rfl, h0⟩⟩
theorem Emp.rel {v : Value} {ad : Option Addr} {c : Nat} (h : Emp v ad c) {J : Nat → Ev.Loc} (hJ : J 0 = .dead) : VRel J (.slice ad 0 c) v := by
  rcases h with ⟨rfl, rfl, rfl⟩ | ⟨a, cap, rfl, rfl, rfl⟩
  · exact .sliceNil 0 0
  · exact .sliceDead a cap hJ (.inl ⟨by omega, by omega⟩)
theorem Full.arg {W : World} {v : Value} {kd : IntKind} {b o n cap : Nat} {c : Array Value} {t : TypeId} {fz : Nat × Nat} {z : Nat → Int} (h : Full W v kd b o n cap c t fz z) {μ : Mem} {hid : Nat} (hh : μ.obs.get hid = some (.held c t fz)) : Arg μ hid (some ⟨hid, o, none⟩) n (2 * cap) o fun k => .int kd (z k) := by
  have hle : o + n ≤ c.size := by
    obtain ⟨m, rfl⟩ : ∃ m, n = m + 1 := ⟨n - 1, by have := h.pos; omega⟩
    have := (Array.getElem?_eq_some_iff.1 (h.cell m (by omega))).1
    omega
  refine ⟨.inl rfl, .inr ⟨c, t, fz, hh, hle, fun k hk => ?_⟩⟩
  obtain ⟨hsz, hcj⟩ := Array.getElem?_eq_some_iff.1 (h.cell k hk)
  have hm : Nat.mod (o + k) (c.map strip).size = o + k := by show (o + k) % _ = _; rw [Nat.mod_eq_of_lt]; simpa using hsz
  simp only [cellAt, T.get_e, hm]
  simp [Array.getD, hsz, hcj]
  rfl
theorem Full.rel {W : World} {v : Value} {kd : IntKind} {b o n cap : Nat} {c : Array Value} {t : TypeId} {fz : Nat × Nat} {z : Nat → Int} (h : Full W v kd b o n cap c t fz z) {J : Nat → Ev.Loc} {hid : Nat} (hJ : J hid = .at b 0) : VRel J (.slice (some ⟨hid, o, none⟩) n (2 * cap)) v := by
  rw [h.val]
  exact .slice hJ (.inl ⟨by omega, by omega⟩)
end

noncomputable section

theorem named : Named Tryz.prog := named_of (by kernel_rfl)
theorem mixed : Tryz.prog.follows .mixedOrders = true := by kernel_rfl
def xs : List (FuncId × XK) := [(46, .f64bits), (89, .same), (93, .f64from), (112, .noZero 5), (142, .f64bits), (199, .f64from), (88, .indexByte), (137, .indexByte)]
theorem rows : ∀ x ∈ xs, ∃ fn, XRow Tryz.prog x.1 x.2 fn := by
  intro x hx
  simp only [xs, List.mem_cons, List.not_mem_nil, or_false] at hx
  rcases hx with rfl | rfl | rfl | rfl | rfl | rfl | rfl | rfl
  · exact ⟨_, Tryz.func46, by kernel_rfl, by kernel_rfl, by kernel_rfl, by kernel_rfl, fun e h => by cases h⟩
  · exact ⟨_, Tryz.func89, by kernel_rfl, by kernel_rfl, by kernel_rfl, by kernel_rfl, fun e h => by cases h⟩
  · exact ⟨_, Tryz.func93, by kernel_rfl, by kernel_rfl, by kernel_rfl, by kernel_rfl, fun e h => by cases h⟩
  · exact ⟨_, Tryz.func112, by kernel_rfl, by kernel_rfl, by kernel_rfl, by kernel_rfl, fun e h => by cases h; exact ⟨Tryz.f112.resultTypes.getD 0 0, by kernel_rfl, by kernel_rfl⟩⟩
  · exact ⟨_, Tryz.func142, by kernel_rfl, by kernel_rfl, by kernel_rfl, by kernel_rfl, fun e h => by cases h⟩
  · exact ⟨_, Tryz.func199, by kernel_rfl, by kernel_rfl, by kernel_rfl, by kernel_rfl, fun e h => by cases h⟩
  · exact ⟨_, Tryz.func88, by kernel_rfl, by kernel_rfl, by kernel_rfl, by kernel_rfl, fun e h => by cases h⟩
  · exact ⟨_, Tryz.func137, by kernel_rfl, by kernel_rfl, by kernel_rfl, by kernel_rfl, fun e h => by cases h⟩

/-! ### the tables -/
def domBlank : List (List Value) := [[.int .u8 (.ofNat 40)], [.int .u8 (.ofNat 41)], [.int .u8 (.ofNat 35)], [.int .u8 (.ofNat 39)], [.int .u8 (.ofNat 120)]]
def domDelim : List (List Value) := [[.int .u8 (.ofNat 120)], [.int .u8 (.ofNat 41)]]
def domWord : List (List Value) := [[.string ⟨xT.toArray⟩]]
def domName : List (List Value) := [[.string ⟨xT.toArray⟩], [.string ⟨quoteT.toArray⟩]]
def domRight : List (List Value) := [[num0]]
def domSame : List (List Value) := [[num0, num0]]
theorem inBlank : ∀ args v, fBlank args = some v → args ∈ domBlank := by
  intro args v h
  unfold fBlank at h
  split at h
  · rename_i n
    split at h
    · rename_i hn
      rcases hn with rfl | rfl | rfl | rfl | rfl <;> simp [domBlank]
    · cases h
  · cases h
theorem inDelim : ∀ args v, fDelim args = some v → args ∈ domDelim := by
  intro args v h
  unfold fDelim at h
  split at h
  · rename_i n
    by_cases h1 : n = 120
    · subst h1; simp [domDelim]
    · rw [if_neg h1] at h
      by_cases h2 : n = 41
      · subst h2; simp [domDelim]
      · rw [if_neg h2] at h; cases h
  · cases h
theorem inWord : ∀ args v, fWord args = some v → args ∈ domWord := by
  intro args v h
  unfold fWord at h
  split at h
  · split at h
    · rename_i hs
      rw [hs]; exact List.mem_cons_self
    · cases h
  · cases h
theorem inName : ∀ args v, fName args = some v → args ∈ domName := by
  intro args v h
  unfold fName at h
  split at h
  · split at h
    · rename_i hs
      rcases hs with hs | hs
      · rw [hs]; exact List.mem_cons_self
      · rw [hs]; exact List.mem_cons_of_mem _ List.mem_cons_self
    · cases h
  · cases h
theorem inRight : ∀ args v, fRight args = some v → args ∈ domRight := by
  intro args v h
  unfold fRight at h
  split at h
  · rename_i hs
    rw [veqs_eq (veq_eq 5) _ _ hs]; exact List.mem_cons_self
  · cases h
theorem inSame : ∀ args v, fSame args = some v → args ∈ domSame := by
  intro args v h
  unfold fSame at h
  split at h
  · rename_i hs
    rw [veqs_eq (veq_eq 5) _ _ hs]; exact List.mem_cons_self
  · cases h
theorem ranAlive : isTrueR [] (aFun Tryz.prog (aCode Tryz.prog (aExt xs) [] 2000) 4 [] ⟨romObs [], 900⟩) = true := by kernel_rfl
theorem tabBlank : domOk (fun args => aFun Tryz.prog (aCode Tryz.prog (aExt xs) [] 100) 32 args ⟨.e, 900⟩) fBlank domBlank = true := by kernel_rfl
theorem tabDelim : domOk (fun args => aFun Tryz.prog (aCode Tryz.prog (aExt xs) [] 100) 39 args ⟨.e, 900⟩) fDelim domDelim = true := by kernel_rfl
theorem tabWord : domOk (fun args => aFun Tryz.prog (aCode Tryz.prog (aExt xs) [] 500) 18 args ⟨.e, 900⟩) fWord domWord = true := by kernel_rfl
theorem tabName : domOk (fun args => aFun Tryz.prog (aCode Tryz.prog (aExt xs) [] 500) 41 args ⟨.e, 900⟩) fName domName = true := by kernel_rfl
theorem tabRight : domOk (fun args => aFun Tryz.prog (aCode Tryz.prog (aExt xs) [] 500) 23 args ⟨.e, 900⟩) fRight domRight = true := by kernel_rfl
theorem tabSame : domOk (fun args => aFun Tryz.prog (aCode Tryz.prog (aExt xs) [] 500) 52 args ⟨.e, 900⟩) fSame domSame = true := by kernel_rfl

theorem sums_ok : SumsOk Tryz.prog S0 :=
  SumsOk.cons (sum_of named (aExt_ok rows) mixed (SumsOk.none _) (by decide +kernel) [] (by kernel_rfl) ranAlive)
  (SumsOk.cons (plain_dom named (aExt_ok rows) mixed (SumsOk.none _) (by decide +kernel) fBlank _ inBlank tabBlank)
  (SumsOk.cons (plain_dom named (aExt_ok rows) mixed (SumsOk.none _) (by decide +kernel) fDelim _ inDelim tabDelim)
  (SumsOk.cons (plain_dom named (aExt_ok rows) mixed (SumsOk.none _) (by decide +kernel) fWord _ inWord tabWord)
  (SumsOk.cons (plain_dom named (aExt_ok rows) mixed (SumsOk.none _) (by decide +kernel) fName _ inName tabName)
  (SumsOk.cons (plain_dom named (aExt_ok rows) mixed (SumsOk.none _) (by decide +kernel) fRight _ inRight tabRight)
  (SumsOk.cons (plain_dom named (aExt_ok rows) mixed (SumsOk.none _) (by decide +kernel) fSame _ inSame tabSame) (SumsOk.none _)))))))

/-! ### the run -/
def isT : Option (Value × Mem) → Bool
  | some (.bool true, _) => true
  | _ => false
theorem isT_eq {a : Option (Value × Mem)} (h : isT a = true) : ∃ μ, a = some (.bool true, μ) := by
  unfold isT at h
  split at h
  · exact ⟨_, rfl⟩
  · cases h
theorem ran_none (ad : Option Addr) (c : Nat) : isT (aFun Tryz.prog (aCode Tryz.prog (aExt xs) S0 3000) 3 [.slice ad 0 c] ⟨.e, 900⟩) = true := by kernel_rfl
theorem dead900 : noneKnown 900 0 = .dead := if_pos (by decide)
theorem ran_e {W : World} {v : Value} {ad : Option Addr} {c : Nat} (h : Emp v ad c) : Calls Tryz.prog 3 #[v] W fun e W' => e = .returned (.bool true) ∧ Same W W' := by
  obtain ⟨μ', hrun⟩ := isT_eq (ran_none ad c)
  exact dead_calls named (aExt_ok rows) mixed sums_ok (by decide +kernel) (arel_one (h.rel dead900)) hrun rfl

/-- one block -/
def J1 (b : Nat) : Nat → Ev.Loc := fun i => if i = 880 then .at b 0 else noneKnown 900 i
theorem hands1 {W : World} {b : Nat} {c : Array Value} {t : TypeId} {fz : Nat × Nat} (hb : W.heap[b]? = some (.cells c t fz)) : Hands Tryz.prog W 900 (J1 b) (T.e.set 880 (Ob.held c t fz)) := by
  refine ⟨fun i => ?_, fun i j b' e1 e2 => ?_, fun i o ho => ?_⟩
  · by_cases h : i = 880
    · subst h
      exact .inr ⟨b, c, t, fz, if_pos rfl, by decide +kernel, by decide, by rw [T.get_set, if_pos rfl], hb⟩
    · exact .inl (if_neg h)
  · unfold J1 at e1 e2
    by_cases h : i = 880
    · by_cases g : j = 880
      · rw [h, g]
      · rw [if_neg g] at e2; exact absurd e2 (none_not _ _ _ _)
    · rw [if_neg h] at e1; exact absurd e1 (none_not _ _ _ _)
  · rw [T.get_set] at ho
    by_cases h : i = 880
    · exact ⟨b, by subst h; exact if_pos rfl⟩
    · rw [if_neg h, T.get_e] at ho; cases ho
theorem J1_at {b i b' : Nat} (h : J1 b i = .at b' 0) : i = 880 := by
  unfold J1 at h
  by_cases g : i = 880
  · exact g
  · rw [if_neg g] at h; exact absurd h (none_not _ _ _ _)
theorem J1_dead (b : Nat) : J1 b 0 = .dead := (if_neg (by decide)).trans dead900

theorem ran_f {W : World} {v : Value} {b o n cap : Nat} {c : Array Value} {t : TypeId} {fz : Nat × Nat} {z : Nat → Int} (h : Full W v .i64 b o n cap c t fz z) : Calls Tryz.prog 3 #[v] W fun e W' => e = .returned (.bool true) ∧ Same W W' := by
  have e8 : (T.e.set 880 (Ob.held c t fz)).get 880 = some (Ob.held c t fz) := by rw [T.get_set, if_pos rfl]
  obtain ⟨v1, μ', hrun, hv1, k0⟩ := law_ends (X := aExt xs) (k := 0) (s := z) (μ := ⟨T.e.set 880 (Ob.held c t fz), 900⟩) (h.arg e8) h.pos (show 880 < 900 by decide)
  subst hv1
  refine hands_calls named (aExt_ok rows) mixed sums_ok (by decide +kernel) (hands1 h.blk) (arel_one (h.rel (if_pos rfl))) hrun (fun i b' e => ?_) rfl
  rw [J1_at e]; exact k0

/-! ### what the row's reading gives -/
/-- a slice of whole numbers -/
def Reads (W : World) (v : Value) (kd : IntKind) : Prop := (∃ ad c, Emp v ad c) ∨ ∃ b o n cap c t fz z, Full W v kd b o n cap c t fz z ∧ (kd = .u8 → ∀ k, k < n → 0 ≤ z k ∧ z k < 256)
theorem reads_nil (W : World) (kd : IntKind) : Reads W (.slice none 0 0) kd := .inl ⟨none, 0, .inl ⟨rfl, rfl, rfl⟩⟩
theorem reads_some {W : World} {a : Addr} {len cap : Nat} {kd : IntKind} {zs : List Int} (hlc : len ≤ cap) (hl : len ≤ zs.length) (hcell : ∀ i, i < zs.length → W.cell? (a.add i) = some (.int kd (zs.getD i 0))) (hu : kd = .u8 → ∀ z ∈ zs, 0 ≤ z ∧ z < 256) : Reads W (.slice (some a) len cap) kd := by
  by_cases hn : len = 0
  · subst hn
    exact .inl ⟨some ⟨0, 0, none⟩, 2 * cap, .inr ⟨a, cap, rfl, rfl, rfl⟩⟩
  have h0 := hcell 0 (by omega)
  have ha0 : a.add 0 = a := rfl
  rw [ha0] at h0
  obtain ⟨b, o, sp⟩ := a
  obtain ⟨c, t, fz, hb, hsp⟩ : ∃ c t fz, W.heap[b]? = some (.cells c t fz) ∧ sp = none := by
    unfold World.cell? at h0
    simp only at h0
    split at h0
    · rename_i c t fz hb
      refine ⟨c, t, fz, hb, ?_⟩
      cases sp with
      | none => rfl
      | some x => simp at h0
    · cases h0
  subst hsp
  have hc : ∀ j, j < zs.length → c[o + j]? = some (.int kd (zs.getD j 0)) := fun j hj => by
    have h1 := hcell j hj
    unfold World.cell? Addr.add at h1
    by_cases hj0 : j = 0
    · subst hj0; simp only [if_true, hb] at h1; simpa using h1
    · rw [if_neg hj0] at h1; simp only [hb] at h1; simpa using h1
  refine .inr ⟨b, o, len, cap, c, t, fz, fun k => zs.getD k 0, ⟨rfl, by omega, hlc, hb, fun k hk => hc k (by omega)⟩, fun e k hk => ?_⟩
  have hk' : k < zs.length := by omega
  have : zs.getD k 0 = zs[k] := by simp [List.getD, hk']
  show 0 ≤ zs.getD k 0 ∧ zs.getD k 0 < 256
  rw [this]
  exact hu e _ (List.getElem_mem hk')

theorem ran {W : World} {v : Value} (h : Reads W v .i64) : Calls Tryz.prog 3 #[v] W fun e W' => e = .returned (.bool true) ∧ Same W W' := by
  rcases h with ⟨ad, c, h⟩ | ⟨b, o, n, cap, c, t, fz, z, h, _⟩
  · exact ran_e h
  · exact ran_f h
end
end Go.Proofs.YtfcpiamdmbliaaaGreatDoor.rd
