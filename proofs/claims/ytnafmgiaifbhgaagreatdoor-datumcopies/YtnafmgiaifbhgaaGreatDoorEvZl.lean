/-
  The evaluator, part Zl: functions that are known by a law of their own. No conditions.
-/
import Derived.Test.YtnafmgiaifbhgaaGreatDoorEvZ
import Derived.Lib.Fields
import Derived.Lib.IndexMore
set_option linter.unusedSimpArgs false
set_option linter.unusedVariables false
namespace Go.Proofs.YtnafmgiaifbhgaaGreatDoor.Ev
noncomputable section
variable {P : Program}
structure Same (W W' : World) : Prop where
 os : W'.os = W.os
 output : W'.output = W.output
 size : W.heap.size ≤ W'.heap.size
 heap : ∀ b : Nat, b < W.heap.size → W'.heap[b]? = W.heap[b]?
 tape : W'.tape = W.tape
structure RomAt (W : World) (x : Nat × List Value × TypeId) : Prop where
 known : jfe x.2.1 = false → W.heap[x.1]? = some (.cells x.2.1.toArray x.2.2 (0, 0))
 opn : jfe x.2.1 = true → ∃ m, W.heap[x.1]? = some (.cells #[.int .i64 m] x.2.2 (0, 0))
def KOk (P : Program) (g : FuncId) : LK → Prop
 | .alive roms => (∀ x ∈ roms, x.1 < P.globals.size) ∧
   ∀ (w : World) (n : Nat) (R : Ending → World → Prop), (∀ x ∈ roms, RomAt w x) → (∀ w', Same w w' → R (.returned (.bool true)) w') → CallsIn Fence.wide n P g #[] w R
 | .fields g0 t => g0 < P.globals.size ∧ ∀ (s : ByteArray) (w : World), s.size < 4294967281 → (∀ (j : Nat) b, s.data.toList[j]? = some b → b.toNat < 128) →
   (∀ c : Nat, c < 256 → w.cell? ⟨g0, c, none⟩ = some (.int .u8 (if Lib.isSp (UInt8.ofNat c) then 1 else 0))) →
   Calls P g #[.string s] w fun e w' => e = .returned (.slice (some ⟨w.heap.size, 0, none⟩) (Lib.fields s.data.toList).length (Lib.fields s.data.toList).length) ∧
    w' = w.alloc (.cells ((Lib.fields s.data.toList).map fun l => Value.string ⟨l.toArray⟩).toArray t)
 | .contains g1 => g1 < P.globals.size ∧ ∀ (s u : ByteArray) (m : Int) (w : World), s.size < 4294967281 → w.cell? ⟨g1, 0, none⟩ = some (.int .i64 m) →
   Calls P g #[.string s, .string u] w fun e w' => e = .returned (.bool (Lib.contains s.data.toList u.data.toList)) ∧ w' = w
 | .plain f => ∀ (args : List Value) (v : Value), f args = some v → args.all (jaS 5) = true → jaS 5 v = true → ∀ (w : World) (n : Nat) (R : Ending → World → Prop), (∀ w', Same w w' → R (.returned v) w') → CallsIn Fence.wide n P g args.toArray w R
def SumsOk (P : Program) (S : List (FuncId × LK)) : Prop := ∀ x ∈ S, KOk P x.1 x.2
theorem SumsOk.none (P : Program) : SumsOk P [] := fun x h => by cases h
theorem SumsOk.cons {g : FuncId} {k : LK} {S : List (FuncId × LK)} (h : KOk P g k) (hS : SumsOk P S) : SumsOk P ((g, k) :: S) := fun x hx => by
 rcases List.mem_cons.1 hx with e | e
 ·subst e; exact h
 ·exact hS x e
theorem lkOf_mem : ∀ {S : List (FuncId × LK)} {g : FuncId} {k : LK}, lkOf S g = some k → (g, k) ∈ S := by
 intro S
 induction S with
 | nil => intro g k h; cases h
 | cons x S ih =>
   intro g k h
   obtain ⟨f, k'⟩ := x
   unfold lkOf at h
   split at h
   ·rename_i e
    cases h
    have : f = g := Nat.eq_of_beq_eq_true e
    subst this
    exact List.mem_cons_self
   ·exact List.mem_cons_of_mem _ (ih h)
theorem spN_all : ∀ n : Fin 256, spN n.1 = Lib.isSp (UInt8.ofNat n.1) := by decide +kernel
theorem spN_eq (b : UInt8) : spN b.toNat = Lib.isSp b := by
 have h := spN_all ⟨b.toNat, UInt8.toNat_lt b⟩
 simpa using h
theorem jjv : ∀ (l cur : List UInt8), fieldsB cur l = Lib.fieldsGo cur.reverse l := by
 intro l
 induction l with
 | nil => intro cur; cases cur <;> simp [fieldsB, Lib.fieldsGo]
 | cons b l ih =>
   intro cur
   simp only [fieldsB, Lib.fieldsGo]
   rw [spN_eq]
   cases h : Lib.isSp b with
   | true =>
     cases cur with
     | nil => simp [ih]
     | cons c r => simp [ih]
   | false => simp [ih]
theorem preB_eq : ∀ (x y : List UInt8), preB x y = x.isPrefixOf y := by
 intro x
 induction x with
 | nil => intro y; cases y <;> rfl
 | cons a x ih =>
   intro y
   cases y with
   | nil => rfl
   | cons b y =>
     simp only [preB, List.isPrefixOf]
     cases h : Nat.beq a.toNat b.toNat with
     | true =>
       have : a = b := UInt8.toNat_inj.1 (Nat.eq_of_beq_eq_true h)
       subst this
       simp [ih]
     | false =>
       have : a ≠ b := fun e => Nat.ne_of_beq_eq_false h (by rw [e])
       simp [this]
theorem hasB_eq (u : List UInt8) : ∀ s : List UInt8, hasB u s = Lib.contains s u := by
 intro s
 induction s with
 | nil => cases u <;> simp [hasB, Lib.contains, Lib.index]
 | cons b l ih =>
   unfold Lib.contains at ih ⊢
   simp only [hasB, Lib.index]
   have hge := Lib.index_ge l u
   cases h : preB u (b :: l) with
   | true => rw [preB_eq] at h; simp [h]
   | false =>
     rw [preB_eq] at h
     simp only [h, Bool.false_eq_true, if_false, ih]
     by_cases h1 : Lib.index l u = -1
     ·simp [h1]
     ·have h2 : (Lib.index l u == -1) = false := by simpa using h1
      simp only [h2, Bool.false_eq_true, if_false]
      have h3 : 0 ≤ Lib.index l u := by omega
      simp [h3]; omega
theorem tabB_spec : ∀ (l : List Value) (c : Nat), tabB c l = true → l.length + c = 256 ∧ ∀ j, j < l.length → l[j]? = some (.int .u8 (if Lib.isSp (UInt8.ofNat (c + j)) then 1 else 0)) := by
 intro l
 induction l with
 | nil => intro c h; exact ⟨by have := Nat.eq_of_beq_eq_true h; simpa using this, fun j hj => by simp at hj⟩
 | cons v l ih =>
   intro c h
   unfold tabB at h
   split at h
   ·rename_i m
    split at h
    ·rename_i hm
     obtain ⟨h1, h2⟩ := ih (Nat.succ c) h
     refine ⟨by simp; omega, fun j hj => ?_⟩
     match j with
     | 0 =>
       have hm' := Nat.eq_of_beq_eq_true hm
       have hc : c < 256 := by omega
       have := spN_all ⟨c, hc⟩
       simp only at this
       simp only [List.getElem?_cons_zero, Nat.add_zero, ← this]
       cases hs : spN c with
       | true => rw [hs] at hm'; subst hm'; rfl
       | false => rw [hs] at hm'; subst hm'; rfl
     | j + 1 =>
       have := h2 j (by simpa using hj)
       rw [List.getElem?_cons_succ, this, show Nat.succ c + j = c + (j + 1) from by omega]
    ·cases h
   ·cases h
theorem lowB_spec : ∀ (l : List UInt8), lowB l = true → ∀ (j : Nat) b, l[j]? = some b → b.toNat < 128 := by
 intro l
 induction l with
 | nil => intro _ j b h; simp at h
 | cons a l ih =>
   intro h j b hb
   unfold lowB at h
   split at h
   ·rename_i ha
    match j with
    | 0 => simp at hb; subst hb; simpa using ha
    | j + 1 => exact ih h j b (by simpa using hb)
   ·cases h
theorem jed {J : Nat → Loc} {v : Value} {args' : Array Value} (h : ARel J [v].toArray args') : ∃ v', args' = #[v'] ∧ VRel J v v' := by
 have hs : args'.size = 1 := by simpa using h.size.symm
 refine ⟨args'[0], ?_, h.at_ 0 _ _ (by simp) (Array.getElem?_eq_getElem (by omega))⟩
 apply Array.ext
 ·simp [hs]
 ·intro i h1 h2
  have : i = 0 := by omega
  subst this
  rfl
theorem jiQ {J : Nat → Loc} {u v : Value} {args' : Array Value} (h : ARel J [u, v].toArray args') : ∃ u' v', args' = #[u', v'] ∧ VRel J u u' ∧ VRel J v v' := by
 have hs : args'.size = 2 := by simpa using h.size.symm
 refine ⟨args'[0], args'[1], ?_, h.at_ 0 _ _ (by simp) (Array.getElem?_eq_getElem (by omega)), h.at_ 1 _ _ (by simp) (Array.getElem?_eq_getElem (by omega))⟩
 apply Array.ext
 ·simp [hs]
 ·intro i h1 h2
  match i with
  | 0 => rfl
  | 1 => rfl
  | i + 2 => simp at h2; omega
theorem jgp {J : Nat → Loc} {μ : Mem} {w : World} (hr : Rel J μ w) (hB : Base P J) {g : Nat} (hg : g < P.globals.size) {o : Ob} (ho : μ.obs.get g = some o) (hd : o ≠ .dead) : ∃ s, J g = .at g s ∧ ObRel J w g s o := by
 obtain ⟨b, s, hb, hob⟩ := hr.obj _ _ ho hd
 rcases hB.glob g hg with ⟨s2, e⟩ | e
 ·rw [e] at hb; cases hb; exact ⟨_, e, hob⟩
 ·rw [e] at hb; cases hb
theorem jgW {J : Nat → Loc} {μ : Mem} {w : World} (hr : Rel J μ w) (hB : Base P J) {roms : List (Nat × List Value × TypeId)} (hlt : ∀ x ∈ roms, x.1 < P.globals.size) (hk : je4 μ roms = true) :
  ∀ x ∈ roms, RomAt w x := by
 intro x hx
 have := List.all_eq_true.1 hk x hx
 split at this
 ·rename_i l t hob
  split at this
  ·cases this
  ·rename_i hno
   simp only [Bool.and_eq_true] at this
   have e1 : l = x.2.1 := jf8 (jip 5) _ _ this.1
   have e2 : t = x.2.2 := Nat.eq_of_beq_eq_true this.2
   subst e1 e2
   obtain ⟨s, _, hc, _⟩ := jgp hr hB (hlt x hx) hob (by simp)
   exact ⟨fun _ => hc, fun h => absurd (h.symm.trans hno) (by simp)⟩
 ·rename_i t hob
  simp only [Bool.and_eq_true] at this
  have e2 : t = x.2.2 := Nat.eq_of_beq_eq_true this.2
  subst e2
  obtain ⟨s, _, hc⟩ := jgp hr hB (hlt x hx) hob (by simp)
  exact ⟨fun h => absurd (h.symm.trans this.1) (by simp), fun _ => ⟨_, hc⟩⟩
 ·cases this
theorem Same.rel {J : Nat → Loc} {μ : Mem} {w w' : World} (hr : Rel J μ w) (hs : Same w w') : Rel J μ w' :=
 ⟨hr.inj, fun i b s e => Nat.lt_of_lt_of_le (hr.bnd i b s e) hs.size, hr.fresh, fun i o ho hd => by
  obtain ⟨b, s, hb, hob⟩ := hr.obj i o ho hd
  exact ⟨b, s, hb, hob.keep (Ext.refl J) (hs.heap b (hr.bnd i b s hb))⟩⟩
theorem Same.step {J : Nat → Loc} {μ : Mem} {w w' : World} (hs : Same w w') : Step J μ w J μ w' :=
 ⟨fun i b s e => .inl e, fun i e => e, fun i _ e => e, fun i b s e e2 => (by rw [e] at e2; cases e2), Nat.le_refl _, fun i _ hg => hg, hs.size, fun b hb _ => hs.heap b hb, hs.os, hs.tape, hs.output⟩
theorem jje {J : Nat → Loc} {args : List Value} {args' : Array Value} (ha : ARel J args.toArray args') (hp : args.all (jaS 5) = true) : args' = args.toArray := by
 apply Array.ext
 ·exact ha.size.symm
 ·intro i h1 h2
  have := ha.at_ i _ _ (Array.getElem?_eq_getElem h2) (Array.getElem?_eq_getElem h1)
  refine jeK 5 (List.all_eq_true.1 hp _ ?_) this
  simp
theorem lk_ok {g : FuncId} {k : LK} (hK : KOk P g k) {args : List Value} {μ μ' : Mem} {v : Value} (h : aLK k args μ = some (v, μ')) {J : Nat → Loc} {w : World} {args' : Array Value} (hr : Rel J μ w) (hB : Base P J)
  (ha : ARel J args.toArray args') (n : Nat) (R : Ending → World → Prop) (hR : ∀ J' v' w', VRel J' v v' → Rel J' μ' w' → Step J μ w J' μ' w' → R (.returned v') w') : CallsIn Fence.wide n P g args' w R := by
 cases k with
 | alive roms =>
   unfold aLK at h
   simp only at h
   split at h
   ·split at h
    ·rename_i hk
     cases h
     have hargs : args' = #[] := by
      have := ha.size
      simp at this
      exact Array.eq_empty_of_size_eq_zero this.symm
     subst hargs
     exact hK.2 w n R (jgW hr hB hK.1 hk) fun w' hs => hR J (.bool true) w' (.bool true) (hs.rel hr) hs.step
    ·cases h
   ·cases h
 | fields g0 t =>
   unfold aLK at h
   simp only at h
   split at h
   ·rename_i s
    split at h
    ·rename_i l t' hob
     split at h
     ·rename_i htab
      split at h
      ·rename_i hlow
       split at h
       ·rename_i hsz
        cases h
        obtain ⟨v', rfl, hv⟩ := jed ha
        rw [jbq hv]
        obtain ⟨hl1, hl2⟩ := tabB_spec _ _ htab
        obtain ⟨s0, hJ, hc, _⟩ := jgp hr hB hK.1 hob (by simp)
        have hF : fieldsB [] s.data.toList = Lib.fields s.data.toList := jjv _ _
        rw [hF] at hR
        refine callsIn_wide.2 ((hK.2 s w (by simpa using hsz) (lowB_spec _ hlow) (fun c hc2 => ?_)).mono fun e w' ⟨he, hw⟩ => ?_)
        ·have := hl2 c (by omega)
         rw [Nat.zero_add] at this
         rw [← this]
         simp [World.cell?, hc]
        ·subst he hw
         have hn : Nat.mul 2 (Lib.fields s.data.toList).length = 2 * (Lib.fields s.data.toList).length := rfl
         refine hR (upd J μ.next (.at w.heap.size (Lib.fields s.data.toList).length)) _ _ (.slice (upd_same _ _ _) (.inl ⟨by rw [hn]; omega, by rw [hn]; omega⟩)) ?_ ?_
         ·refine Rel.alloc hr _ _ _ (hr.fresh _ (Nat.le_refl _)) (Nat.lt_succ_self _) (Nat.le_succ _) ?_
          refine ⟨_, (0, 0), heap_alloc_new w _, by simp, Nat.le_refl _, fun _ => rfl, fun i hi => ?_, .inl rfl⟩
          refine ⟨Value.string ⟨((Lib.fields s.data.toList)[i]).toArray⟩, by simp [hi], ?_⟩
          have : cellAt ((Lib.fields s.data.toList).map fun l => Value.string ⟨l.toArray⟩).toArray T.e i = Value.string ⟨((Lib.fields s.data.toList)[i]).toArray⟩ := by
           have hm : Nat.mod i ((Lib.fields s.data.toList).map fun l => Value.string ⟨l.toArray⟩).toArray.size = i := by show i % _ = i; rw [Nat.mod_eq_of_lt]; simpa using hi
           simp only [cellAt, T.get_e, hm]
           simp [Array.getD, hi]
          rw [this]
          exact .string _
         ·exact Step.alloc hr _ _ _ (Nat.le_refl _) (Nat.lt_succ_self _) (Nat.le_succ _)
       ·cases h
      ·cases h
     ·cases h
    ·cases h
   ·cases h
 | contains g1 =>
   unfold aLK at h
   simp only at h
   split at h
   ·rename_i s u
    split at h
    ·rename_i t' hob
     split at h
     ·rename_i hsz
      cases h
      obtain ⟨v1, v2, rfl, hv1, hv2⟩ := jiQ ha
      rw [jbq hv1, jbq hv2]
      obtain ⟨s0, hJ, hc⟩ := jgp hr hB hK.1 hob (by simp)
      refine callsIn_wide.2 ((hK.2 s u (deZ s0) w (by simpa using hsz) (by show w.cell? ⟨g1, 0, none⟩ = _; unfold World.cell?; rw [show w.heap[g1]? = _ from hc]; rfl)).mono fun e w' ⟨he, hw⟩ => ?_)
      subst he hw
      rw [← hasB_eq]
      exact hR J _ _ (.bool _) hr (Step.refl _ _ _)
     ·cases h
    ·cases h
   ·cases h
 | plain f =>
   unfold aLK at h
   simp only at h
   split at h
   ·rename_i v1 hf
    split at h
    ·rename_i hp
     split at h
     ·rename_i hv
      cases h
      rw [jje ha hp]
      exact hK args _ hf hp hv w n R fun w' hs => hR J v w' (jbr 5 hv) (hs.rel hr) hs.step
     ·cases h
    ·cases h
   ·cases h
theorem calls_ok {ev : Code → Rg → Mem → Option (Ax × Rg × Mem)} {S : List (FuncId × LK)} (hE : EvOk P ev) (hS : SumsOk P S) : jfC P (jbL P ev S) := by
 intro g args μ v μ' h J w args' hr hB ha n R hR
 unfold jbL at h
 split at h
 ·rename_i k hk
  exact lk_ok (hS _ (lkOf_mem hk)) h hr hB ha n R hR
 ·exact jha hE g args μ v μ' h J w args' hr hB ha n R hR
end
end Go.Proofs.YtnafmgiaifbhgaaGreatDoor.Ev
