/-
  The evaluator, part B: abstract memory, and how it is held against a world. No conditions.
-/
import Derived.Test.YtnafmgiaifbhgaaGreatDoorEvA
set_option linter.unusedSimpArgs false
set_option linter.unusedVariables false
namespace Go.Proofs.YtnafmgiaifbhgaaGreatDoor.Ev
noncomputable section
inductive Ob where
 | cells (n : Nat) (t : TypeId) (zero : Array Value) (over : T Value) (lo hi : Nat) (fx sh : Bool)
 | map (es : List (Value × Value × Nat)) (clock : Nat)
 | siter (s : ByteArray) (pos : Nat)
 | loop (st : LoopState) (pe : Option Code) (ps : Array Tmp) (asg body : Code) (n : Nat) (tm : T Value) (d : Nat)
 | deferred
 | rom (l : List Value) (t : TypeId)
 | opn (t : TypeId)
 | held (c : Array Value) (t : TypeId) (fz : Nat × Nat)
 | pin (l : List Value) (c : Array Value) (t : TypeId) (fz : Nat × Nat)
 | dead
def deZ (s : Nat) : Int := if s % 2 = 0 then ((s / 2 : Nat) : Int) else -(((s + 1) / 2 : Nat) : Int)
theorem deZ_onto (m : Int) : ∃ s, deZ s = m := by
 cases m with
 | ofNat n => exact ⟨2 * n, by unfold deZ; rw [if_pos (by omega)]; show (((2 * n) / 2 : Nat) : Int) = (n : Int); omega⟩
 | negSucc n => exact ⟨2 * n + 1, by unfold deZ; rw [if_neg (by omega)]; omega⟩
structure Mem where
 obs : T Ob
 next : Nat
def cellAt (zero : Array Value) (over : T Value) (i : Nat) : Value :=
 match over.get i with
 | some v => v
 | none => zero.getD (Nat.mod i zero.size) undef
def jam (tm : T Value) (t : Nat) : Value :=
 match tm.get t with
 | some v => v
 | none => undef
def RegRel (J : Nat → Loc) (tm : T Value) (tmps : Array Value) : Prop := ∀ (t : Nat), VRel J (jam tm t) (tmps.getD t undef)
def FzRel (fz : Nat × Nat) (s lo hi : Nat) (sh : Bool) : Prop := fz.1 = fz.2 ∨ (sh = true ∧ s ≤ fz.1) ∨ (lo ≤ fz.1 ∧ fz.2 ≤ hi ∧ lo < hi)
def ObRel (J : Nat → Loc) (w : World) (b s : Nat) : Ob → Prop
 | .cells n t zero over lo hi fx sh => ∃ c fz, w.heap[b]? = some (.cells c t fz) ∧ c.size = s ∧ n ≤ s ∧ (fx = false → n = s) ∧
   (∀ i, i < n → ∃ x, c[i]? = some x ∧ VRel J (cellAt zero over i) x) ∧ FzRel fz s lo hi sh
 | .map es clock => ∃ es', w.heap[b]? = some (.map es' clock) ∧ es.length = es'.size ∧
   ∀ (i : Nat) k v n, es[i]? = some (k, v, n) → ∃ e, es'[i]? = some e ∧ VRel J k e.key ∧ VRel J v e.val ∧ e.born = n
 | .siter x pos => w.heap[b]? = some (.stringIter x pos)
 | .loop st pe ps asg body n tm d => ∃ l : Loop, w.heap[b]? = some (.loop l) ∧ l.state = st ∧ l.pending = pe ∧ l.params = ps ∧ l.assign = asg ∧ l.body = body ∧ l.tmps.size = n ∧
   RegRel J tm l.tmps ∧ ((∃ z, J d = .at l.defers z) ∨ J d = .dead)
 | .deferred => w.heap[b]? = some (.deferred (some []))
 | .rom l t => w.heap[b]? = some (.cells l.toArray t (0, 0)) ∧ ∀ v ∈ l, VRel J v v
 | .opn t => w.heap[b]? = some (.cells #[.int .i64 (deZ s)] t (0, 0))
 | .held c t fz => w.heap[b]? = some (.cells c t fz)
 | .pin l c t fz => w.heap[b]? = some (.cells c t fz) ∧ ARel J l.toArray c
 | .dead => True
structure Rel (J : Nat → Loc) (μ : Mem) (w : World) : Prop where
 inj : ∀ i j b s t, J i = .at b s → J j = .at b t → i = j
 bnd : ∀ i b s, J i = .at b s → b < w.heap.size
 fresh : ∀ i, μ.next ≤ i → J i = .unborn
 obj : ∀ i o, μ.obs.get i = some o → o ≠ .dead → ∃ b s, J i = .at b s ∧ ObRel J w b s o
def gone (μ : Mem) (i : Nat) : Prop := ∀ o, μ.obs.get i = some o → o = .dead
structure Step (J : Nat → Loc) (μ : Mem) (w : World) (J' : Nat → Loc) (μ' : Mem) (w' : World) : Prop where
 at_ : ∀ i b s, J i = .at b s → J' i = .at b s ∨ (J' i = .dead ∧ ¬ gone μ i)
 dead : ∀ i, J i = .dead → J' i = .dead
 unborn : ∀ i, i < μ.next → J i = .unborn → J' i = .unborn
 born : ∀ i b s, J i = .unborn → J' i = .at b s → w.heap.size ≤ b ∨ ∃ j t, J j = .at b t ∧ ¬ gone μ j
 next : μ.next ≤ μ'.next
 gone_ : ∀ i, i < μ.next → gone μ i → gone μ' i
 size : w.heap.size ≤ w'.heap.size
 frame : ∀ b, b < w.heap.size → (∀ i s, J i = .at b s → gone μ i) → w'.heap[b]? = w.heap[b]?
 os : w'.os = w.os
 tape : w'.tape = w.tape
 output : w'.output = w.output
theorem Step.ext {J : Nat → Loc} {μ : Mem} {w : World} {J' : Nat → Loc} {μ' : Mem} {w' : World} (h : Step J μ w J' μ' w') : Ext J J' :=
 ⟨fun i b s e => (h.at_ i b s e).imp id (·.1), h.dead⟩
theorem Step.refl (J : Nat → Loc) (μ : Mem) (w : World) : Step J μ w J μ w where
 at_ i b s h := .inl h
 dead i h := h
 unborn i _ h := h
 born i b s h g := by rw [h] at g; cases g
 next := Nat.le_refl _
 gone_ i _ h := h
 size := Nat.le_refl _
 frame b _ _ := rfl
 os := rfl
 tape := rfl
 output := rfl
theorem jdj {J : Nat → Loc} {μ : Mem} {w : World} (h : Rel J μ w) {i b s : Nat} (e : J i = .at b s) : i < μ.next := by
 rcases Nat.lt_or_ge i μ.next with h1 | h1
 ·exact h1
 ·rw [h.fresh i h1] at e; cases e
theorem Step.trans {J : Nat → Loc} {μ : Mem} {w : World} {J1 : Nat → Loc} {μ1 : Mem} {w1 : World} {J2 : Nat → Loc} {μ2 : Mem} {w2 : World}
  (hr : Rel J μ w) (h : Step J μ w J1 μ1 w1) (g : Step J1 μ1 w1 J2 μ2 w2) : Step J μ w J2 μ2 w2 where
 at_ i b s e := by
  rcases h.at_ i b s e with e1 | ⟨e1, e2⟩
  ·rcases g.at_ i b s e1 with e3 | ⟨e3, e4⟩
   ·exact .inl e3
   ·exact .inr ⟨e3, fun hg => e4 (h.gone_ i (jdj hr e) hg)⟩
  ·exact .inr ⟨g.dead i e1, e2⟩
 dead i e := g.dead i (h.dead i e)
 unborn i hi e := g.unborn i (Nat.lt_of_lt_of_le hi h.next) (h.unborn i hi e)
 born i b s e e2 := by
  match e1 : J1 i with
  | .dead => rw [g.dead i e1] at e2; cases e2
  | .at b' s' =>
    rcases g.at_ i b' s' e1 with e3 | ⟨e3, _⟩
    ·rw [e3] at e2; cases e2; exact h.born i b s e e1
    ·rw [e3] at e2; cases e2
  | .unborn =>
    rcases g.born i b s e1 e2 with h1 | ⟨j, t, hj, hg⟩
    ·exact .inl (Nat.le_trans h.size h1)
    ·match ej : J j with
     | .dead => rw [h.dead j ej] at hj; cases hj
     | .at b' s' =>
       rcases h.at_ j b' s' ej with e3 | ⟨e3, _⟩
       ·rw [e3] at hj; cases hj
        exact .inr ⟨j, t, ej, fun hgj => hg (h.gone_ j (jdj hr ej) hgj)⟩
       ·rw [e3] at hj; cases hj
     | .unborn => exact h.born j b t ej hj
 next := Nat.le_trans h.next g.next
 gone_ i hi hg := g.gone_ i (Nat.lt_of_lt_of_le hi h.next) (h.gone_ i hi hg)
 size := Nat.le_trans h.size g.size
 frame b hb hall := by
  rw [g.frame b (Nat.lt_of_lt_of_le hb h.size) ?_, h.frame b hb hall]
  intro i s e1
  match e : J i with
  | .dead => rw [h.dead i e] at e1; cases e1
  | .at b' s' =>
    rcases h.at_ i b' s' e with e3 | ⟨e3, _⟩
    ·rw [e3] at e1; cases e1; exact h.gone_ i (jdj hr e) (hall i s e)
    ·rw [e3] at e1; cases e1
  | .unborn =>
    rcases h.born i b s e e1 with h1 | ⟨j, t, hj, hg⟩
    ·omega
    ·exact absurd (hall j t hj) hg
 os := g.os.trans h.os
 tape := g.tape.trans h.tape
 output := g.output.trans h.output
theorem RegRel.mono {J J' : Nat → Loc} (h : Ext J J') {tm : T Value} {tmps : Array Value} (hr : RegRel J tm tmps) : RegRel J' tm tmps :=
 fun t => (hr t).mono h
theorem ObRel.keep {J J' : Nat → Loc} {w w' : World} {b s : Nat} {o : Ob} (he : Ext J J') (hw : w'.heap[b]? = w.heap[b]?) (h : ObRel J w b s o) : ObRel J' w' b s o := by
 cases o with
 | cells n t zero over lo hi fx sh =>
   obtain ⟨c, fz, h1, h2, h3, h4, h5, h6⟩ := h
   exact ⟨c, fz, hw.trans h1, h2, h3, h4, fun i hi => let ⟨x, hx, hv⟩ := h5 i hi; ⟨x, hx, hv.mono he⟩, h6⟩
 | map es clock =>
   obtain ⟨es', h1, h2, h3⟩ := h
   exact ⟨es', hw.trans h1, h2, fun i k v n e => let ⟨e', a, b, c, d⟩ := h3 i k v n e; ⟨e', a, b.mono he, c.mono he, d⟩⟩
 | siter x pos => exact hw.trans h
 | loop st pe ps asg body n tm d =>
   obtain ⟨l, h1, h2, h3, h4, h5, h6, h7, h8, h9⟩ := h
   refine ⟨l, hw.trans h1, h2, h3, h4, h5, h6, h7, h8.mono he, ?_⟩
   rcases h9 with ⟨z, hz⟩ | hz
   ·exact (he.at_ _ _ _ hz).elim (fun e => .inl ⟨z, e⟩) .inr
   ·exact .inr (he.dead _ hz)
 | deferred => exact hw.trans h
 | rom l t => exact ⟨hw.trans h.1, fun v hv => (h.2 v hv).mono he⟩
 | opn t => exact hw.trans h
 | held c t fz => exact hw.trans h
 | pin l c t fz => exact ⟨hw.trans h.1, h.2.size, fun i a b ha hb => (h.2.at_ i a b ha hb).mono he⟩
 | dead => trivial
theorem Rel.heap {J : Nat → Loc} {μ : Mem} {w w' : World} (h : Rel J μ w) (e : w'.heap = w.heap) : Rel J μ w' where
 inj := h.inj
 bnd i b s hi := by rw [e]; exact h.bnd i b s hi
 fresh := h.fresh
 obj i o hi hd := let ⟨b, s, hb, ho⟩ := h.obj i o hi hd; ⟨b, s, hb, ho.keep (Ext.refl J) (by rw [e])⟩
def upd (J : Nat → Loc) (i : Nat) (l : Loc) : Nat → Loc := fun j => if j = i then l else J j
theorem upd_same (J : Nat → Loc) (i : Nat) (l : Loc) : upd J i l i = l := by simp [upd]
theorem jaD {J : Nat → Loc} {i j : Nat} {l : Loc} (h : j ≠ i) : upd J i l j = J j := by simp [upd, h]
theorem jc2 {J : Nat → Loc} {i : Nat} (l : Loc) (h : J i = .unborn) : Ext J (upd J i l) :=
 ⟨fun j b s e => by
  by_cases hj : j = i
  ·subst hj; rw [h] at e; cases e
  ·exact .inl (by rw [jaD hj]; exact e),
  fun j e => by
   by_cases hj : j = i
   ·subst hj; rw [h] at e; cases e
   ·rw [jaD hj]; exact e⟩
theorem jd6 (w : World) (o : Obj) {b : Nat} (h : b < w.heap.size) : (w.alloc o).heap[b]? = w.heap[b]? := by
 simp only [World.alloc, Array.getElem?_push]
 rw [if_neg (by omega)]
theorem heap_alloc_new (w : World) (o : Obj) : (w.alloc o).heap[w.heap.size]? = some o := by
 unfold World.alloc; simp
theorem Rel.alloc {J : Nat → Loc} {μ : Mem} {w : World} (h : Rel J μ w) {i nx : Nat} (s : Nat) (o : Ob) (o' : Obj) (hu : J i = .unborn) (hi : i < nx) (hnx : μ.next ≤ nx)
  (ho : ObRel (upd J i (.at w.heap.size s)) (w.alloc o') w.heap.size s o) : Rel (upd J i (.at w.heap.size s)) ⟨μ.obs.set i o, nx⟩ (w.alloc o') where
 inj a b c s' t' ha hb := by
  by_cases h1 : a = i
  ·by_cases h2 : b = i
   ·rw [h1, h2]
   ·subst h1
    rw [upd_same] at ha; cases ha
    rw [jaD h2] at hb
    exact absurd (h.bnd _ _ _ hb) (Nat.lt_irrefl _)
  ·by_cases h2 : b = i
   ·subst h2
    rw [upd_same] at hb; cases hb
    rw [jaD h1] at ha
    exact absurd (h.bnd _ _ _ ha) (Nat.lt_irrefl _)
   ·rw [jaD h1] at ha
    rw [jaD h2] at hb
    exact h.inj _ _ _ _ _ ha hb
 bnd a b s' ha := by
  rw [World.size_alloc]
  by_cases h1 : a = i
  ·subst h1; rw [upd_same] at ha; cases ha; omega
  ·rw [jaD h1] at ha; have := h.bnd _ _ _ ha; omega
 fresh a ha := by
  have ha : nx ≤ a := ha
  rw [jaD (by omega)]
  exact h.fresh a (by omega)
 obj a o2 ha hd := by
  simp only [T.get_set] at ha
  by_cases h1 : a = i
  ·rw [if_pos h1] at ha; cases ha
   subst h1
   exact ⟨_, _, upd_same _ _ _, ho⟩
  ·rw [if_neg h1] at ha
   obtain ⟨b, s', hb, hob⟩ := h.obj a o2 ha hd
   exact ⟨b, s', by rw [jaD h1]; exact hb, hob.keep (jc2 _ hu) (jd6 w o' (h.bnd _ _ _ hb))⟩
theorem Step.alloc {J : Nat → Loc} {μ : Mem} {w : World} (h : Rel J μ w) {i nx : Nat} (s : Nat) (o : Ob) (o' : Obj) (hu : μ.next ≤ i) (hi : i < nx) (hnx : μ.next ≤ nx) :
  Step J μ w (upd J i (.at w.heap.size s)) ⟨μ.obs.set i o, nx⟩ (w.alloc o') where
 at_ a b s' e := by
  by_cases h1 : a = i
  ·subst h1; rw [h.fresh _ hu] at e; cases e
  ·exact .inl (by rw [jaD h1]; exact e)
 dead a e := by
  by_cases h1 : a = i
  ·subst h1; rw [h.fresh _ hu] at e; cases e
  ·rw [jaD h1]; exact e
 unborn a ha e := by rw [jaD (by omega)]; exact e
 born a b s' e e2 := by
  by_cases h1 : a = i
  ·subst h1; rw [upd_same] at e2; cases e2; exact .inl (Nat.le_refl _)
  ·rw [jaD h1, e] at e2; cases e2
 next := hnx
 gone_ a ha hg o2 ho2 := by
  simp only [T.get_set] at ho2
  rw [if_neg (by omega)] at ho2
  exact hg o2 ho2
 size := by rw [World.size_alloc]; omega
 frame b hb _ := jd6 w o' hb
 os := rfl
 tape := rfl
 output := rfl
theorem Rel.update {J : Nat → Loc} {μ : Mem} {w w' : World} (h : Rel J μ w) {i b s : Nat} (hi : J i = .at b s) (o2 : Ob) (hsz : w'.heap.size = w.heap.size)
  (hoth : ∀ c, c ≠ b → w'.heap[c]? = w.heap[c]?) (ho : ObRel J w' b s o2) : Rel J ⟨μ.obs.set i o2, μ.next⟩ w' where
 inj := h.inj
 bnd a c t e := by rw [hsz]; exact h.bnd a c t e
 fresh := h.fresh
 obj a o e hd := by
  simp only [T.get_set] at e
  by_cases h1 : a = i
  ·rw [if_pos h1] at e; cases e; subst h1; exact ⟨b, s, hi, ho⟩
  ·rw [if_neg h1] at e
   obtain ⟨c, t, hc, hob⟩ := h.obj a o e hd
   refine ⟨c, t, hc, hob.keep (Ext.refl J) (hoth c fun e2 => h1 ?_)⟩
   subst e2
   exact h.inj _ _ _ _ _ hc hi
theorem Step.update {J : Nat → Loc} {μ : Mem} {w w' : World} {i b s : Nat} (hi : J i = .at b s) (hp : ¬ gone μ i) (o2 : Ob) (hsz : w'.heap.size = w.heap.size)
  (hoth : ∀ c, c ≠ b → w'.heap[c]? = w.heap[c]?) (h1 : w'.os = w.os) (h2 : w'.tape = w.tape) (h3 : w'.output = w.output) : Step J μ w J ⟨μ.obs.set i o2, μ.next⟩ w' where
 at_ a c t e := .inl e
 dead a e := e
 unborn a _ e := e
 born a c t e e2 := by rw [e] at e2; cases e2
 next := Nat.le_refl _
 gone_ a ha hg o ho := by
  simp only [T.get_set] at ho
  by_cases e : a = i
  ·subst e; exact absurd hg hp
  ·rw [if_neg e] at ho; exact hg o ho
 size := by rw [hsz]; exact Nat.le_refl _
 frame c hc hall := by
  refine hoth c fun e => ?_
  subst e
  exact hp (hall i s hi)
 os := h1
 tape := h2
 output := h3
end
end Go.Proofs.YtnafmgiaifbhgaaGreatDoor.Ev
