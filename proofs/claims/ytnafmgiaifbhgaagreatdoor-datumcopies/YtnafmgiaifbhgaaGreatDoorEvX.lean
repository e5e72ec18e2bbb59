/-
  The evaluator, part X: each operation of such a region, whenever its turn comes.
-/
import Derived.Test.YtnafmgiaifbhgaaGreatDoorEvW
set_option linter.unusedSimpArgs false
set_option linter.unusedVariables false
namespace Go.Proofs.YtnafmgiaifbhgaaGreatDoor.Ev
noncomputable section
variable {P : Program}
section inv
variable {X : FuncId → List Value → Mem → Option (Value × Mem)} {callF : FuncId → List Value → Mem → Option (Value × Mem)} {roundF : Nat → List Value → Mem → Option (Value × Mem)} {ops : Array Oper} {ms ord : List Nat} {x0 : Option (Nat × Nat)} {bs : Nat} {S : Nat → St} {J0 : Nat → Loc} {μ0 : Mem} {w0 : World} {rd : Option Nat} {r0 : Rg} {E : Nat → Prop} {J : Nat → Loc} {a : Act} {w : World} {p : Nat}
theorem cons_ne {α : Type} {x : α} {l : List α} : l ≠ x :: l := fun h => by
 have := congrArg List.length h
 simp at this
theorem snaps {o : Oper} {i : Nat} {v : Value} {s s' : St} (h : Skips ops o v s s' ∨ Turnt P X callF roundF ops i o v s s' ∨ Yieldt P ops ms i o v s s' ∨ ∃ ob, jio P ops ms bs i o v ob s s') :
  s'.2.2 = (i, s'.2.1) :: s.2.2 ∨ s'.2.2 = s.2.2 := by
 rcases h with ⟨_, _, h⟩ | ⟨_, _, h, _⟩ | ⟨_, h, _⟩ | ⟨ob, _, _, _, _, mk, _, _, h⟩
 ·exact .inr (by rw [h])
 ·exact .inl h
 ·exact .inr (by rw [h])
 ·exact .inr (by rw [h])
theorem reads_at (D : DOk ops.toList ms ord x0) (T : ∀ (q i : Nat), ord[q]? = some i → jdE P X callF roundF ops.toList ms bs i (S q) = some (S (q + 1))) {m0 : Nat × Mem} (hS0 : (S 0).2 = (m0.2, [m0])) {ρ : Operand → Value} {o : Oper} {i p : Nat} (hlast : p = 0 ∨ ∃ i, ord[p - 1]? = some i ∧ (S p).2.2 = (i, (S p).2.1) :: (S (p - 1)).2.2) :
  ∀ (k : Nat) (v : Value), p + k ≤ ops.size → (∀ (q h : Nat), p ≤ q → q < p + k → ord[q]? = some h → (S (q + 1)).2.2 = (h, (S (q + 1)).2.1) :: (S q).2.2 → bef ms h i = false) →
   jaI P ρ o ms i (S (p + k)).2.2 = some v → aR P (S p).2.1 ρ o = some v := by
 intro k
 induction k with
 | zero =>
   intro v _ _ h
   have hh : ∃ x l, (S p).2.2 = (x, (S p).2.1) :: l := by
    rcases hlast with e | ⟨j, _, e⟩
    ·subst e; exact ⟨m0.1, [], by rw [hS0]⟩
    ·exact ⟨j, _, e⟩
   obtain ⟨x, l, e⟩ := hh
   simp only [Nat.add_zero, e, jaI] at h
   split at h
   ·cases h
   ·rename_i v1 hv1
    split at h
    ·cases h; exact hv1
    ·split at h
     ·cases h; exact hv1
     ·split at h
      ·cases h
      ·split at h
       ·cases h; exact hv1
       ·cases h
 | succ k ih =>
   intro v hk hno h
   obtain ⟨j, hj, _⟩ := jhn D (show p + k < ops.size by omega)
   obtain ⟨o', v', _, _, hkind⟩ := jcw (T (p + k) j hj)
   rcases snaps hkind with e | e
   ·have hb := hno (p + k) j (by omega) (by omega) hj e
    rw [show p + (k + 1) = p + k + 1 from rfl, e] at h
    simp only [jaI] at h
    split at h
    ·cases h
    ·rename_i v1 hv1
     have hne : (S (p + k)).2.2 ≠ [] := by
      have : ∀ q, q ≤ ops.size → (S q).2.2 ≠ [] := by
       intro q
       induction q with
       | zero => intro _; rw [hS0]; simp
       | succ q ihq =>
         intro hq
         obtain ⟨j2, hj2, _⟩ := jhn D (show q < ops.size by omega)
         obtain ⟨_, _, _, _, hk2⟩ := jcw (T q j2 hj2)
         rcases snaps hk2 with e2 | e2
         ·rw [e2]; simp
         ·rw [e2]; exact ihq (by omega)
      exact this _ (by omega)
     split at h
     ·rename_i e2; exact absurd e2 hne
     ·rw [hb] at h
      simp only at h
      split at h
      ·cases h
      ·rename_i v2 hv2
       split at h
       ·rename_i hq
        cases h
        rw [eqVal_eq hq]
        exact ih v2 (by omega) (fun q h' h1 h2 => hno q h' h1 (by omega)) hv2
       ·cases h
   ·rw [show p + (k + 1) = p + k + 1 from rfl, e] at h
    exact ih v (by omega) (fun q h' h1 h2 => hno q h' h1 (by omega)) h
theorem Inv.adv (D : DOk ops.toList ms ord x0) (T : ∀ (q i : Nat), ord[q]? = some i → jdE P X callF roundF ops.toList ms bs i (S q) = some (S (q + 1))) (I : Inv P ops ms ord bs S J0 μ0 w0 rd r0 E J a w p) (hbs : μ0.next ≤ bs) : ∀ k, p + k ≤ ops.size → (∀ (q i : Nat), p ≤ q → q < p + k → ord[q]? = some i → E i) →
  Rel J (S (p + k)).2.1 w ∧ Step J0 μ0 w0 J (S (p + k)).2.1 w ∧ (S (p + k)).2.1.next = (S p).2.1.next ∧ ∀ (q i : Nat), p + k ≤ q → ord[q]? = some i → gone (S (p + k)).2.1 (bs + i) := by
 intro k
 induction k with
 | zero => intro _ _; exact ⟨I.rel, I.step, rfl, fun q i h hi => I.gon q i h hi⟩
 | succ k ih =>
   intro hk hall
   obtain ⟨g1, g2, g3, g4⟩ := ih (by omega) fun q i h1 h2 => hall q i h1 (by omega)
   obtain ⟨j, hj, hlt⟩ := jhn D (show p + k < ops.size by omega)
   obtain ⟨o, v, ho, _, hkind⟩ := jcw (T (p + k) j hj)
   have hE := hall (p + k) j (by omega) (by omega) hj
   rw [show p + (k + 1) = p + k + 1 from rfl]
   rcases hkind with ⟨_, _, h⟩ | ⟨_, _, h, _⟩ | ⟨_, h, _⟩ | ⟨ob, hm⟩
   ·rw [h]; exact ⟨g1, g2, g3, fun q i h1 hi => g4 q i (by omega) hi⟩
   ·exact absurd hE (I.later (p + k) j (by omega) hj h)
   ·rw [h]; exact ⟨g1, g2, g3, fun q i h1 hi => g4 q i (by omega) hi⟩
   ·obtain ⟨b, s, hb, hob⟩ := I.al (p + k) j o v ob (by omega) hj ho hE hm
    obtain ⟨_, _, _, _, mk, _, _, h⟩ := hm
    rw [h]
    refine ⟨⟨g1.inj, g1.bnd, g1.fresh, fun x o' hx hd => ?_⟩, ⟨g2.at_, g2.dead, g2.unborn, g2.born, g2.next, fun x hx hg o' ho' => ?_, g2.size, g2.frame, g2.os, g2.tape, g2.output⟩, g3, fun q i h1 hi o' ho' => ?_⟩
    ·simp only [Go.Proofs.YtnafmgiaifbhgaaGreatDoor.Ev.T.get_set] at hx
     by_cases hxe : x = bs + j
     ·rw [if_pos hxe] at hx
      cases hx
      subst hxe
      exact ⟨b, s, hb, hob⟩
     ·rw [if_neg hxe] at hx
      exact g1.obj x o' hx hd
    ·simp only [Go.Proofs.YtnafmgiaifbhgaaGreatDoor.Ev.T.get_set] at ho'
     rw [if_neg (by omega)] at ho'
     exact g2.gone_ x hx hg o' ho'
    ·simp only [Go.Proofs.YtnafmgiaifbhgaaGreatDoor.Ev.T.get_set] at ho'
     have hne : i ≠ j := fun e => by
      subst e
      have := jcs D hi hj
      omega
     rw [if_neg (by omega)] at ho'
     exact g4 q i (by omega) hi o' ho'
def more (E : Nat → Prop) (i : Nat) : Nat → Prop := fun j => E j ∨ j = i
theorem Inv.down_more (I : Inv P ops ms ord bs S J0 μ0 w0 rd r0 E J a w p) {i : Nat} (hpre : ∀ k, k < ops.size → bef ms k i = true → E k) : ∀ k j, k < ops.size → bef ms k j = true → more E i j → more E i k := by
 intro k j hk hb hj
 rcases hj with hj | rfl
 ·exact .inl (I.down k j hk hb hj)
 ·exact .inl (hpre k hk hb)
theorem Inv.calm (D : DOk ops.toList ms ord x0) (T : ∀ (q i : Nat), ord[q]? = some i → jdE P X callF roundF ops.toList ms bs i (S q) = some (S (q + 1))) (I : Inv P ops ms ord bs S J0 μ0 w0 rd r0 E J a w p) (h0 : (S 0).1 = r0) {q i : Nat} {o : Oper} {v v' : Value} (hi : ord[q]? = some i) (ho : ops[i]? = some o) (hE : ¬ E i)
  (hpre : ∀ k, k < ops.size → bef ms k i = true → E k) (hput : aput (S q).1 o.dst v = some (S (q + 1)).1) (hv : VRel J v v') (hS : (S (q + 1)).2 = (S q).2)
  (hno : ∀ ob v2, ¬ jio P ops ms bs i o v2 ob (S q) (S (q + 1))) : Inv P ops ms ord bs S J0 μ0 w0 rd r0 (more E i) J (a.put o.dst v') w p := by
 obtain ⟨r1, r2, r3⟩ := I.regs_step D T h0 hi ho hE hpre hput (Ext.refl J) hv
 refine ⟨I.hp, I.down_more hpre, fun q2 j h1 h2 => .inl (I.before q2 j h1 h2), fun q2 j h1 h2 h3 h4 => ?_, I.last, I.rel, I.base, I.step,
  fun q2 j o2 v2 ob h1 h2 h3 h4 h5 => ?_, fun q2 j h1 h2 h3 => I.un q2 j h1 h2 fun h => h3 (.inl h), I.gon, I.next, r1, (by rw [r2]; exact I.marks), I.rdr, r3⟩
 ·rcases h4 with h4 | rfl
  ·exact I.later q2 j h1 h2 h3 h4
  ·have := jcs D hi h2
   subst this
   rw [hS] at h3
   exact cons_ne h3
 ·rcases h4 with h4 | rfl
  ·exact I.al q2 j o2 v2 ob h1 h2 h3 h4 h5
  ·have := jcs D hi h2
   subst this
   rw [ho] at h3
   cases h3
   exact absurd h5 (hno _ _)
theorem Inv.make (D : DOk ops.toList ms ord x0) (T : ∀ (q i : Nat), ord[q]? = some i → jdE P X callF roundF ops.toList ms bs i (S q) = some (S (q + 1))) (I : Inv P ops ms ord bs S J0 μ0 w0 rd r0 E J a w p) (h0 : (S 0).1 = r0) (hbs : μ0.next ≤ bs) (hr0 : Rel J0 μ0 w0) {q i : Nat} {o : Oper} {v : Value} {ob : Ob} (hi : ord[q]? = some i) (ho : ops[i]? = some o) (hE : ¬ E i)
  (hpre : ∀ k, k < ops.size → bef ms k i = true → E k) (hput : aput (S q).1 o.dst v = some (S (q + 1)).1) (hm : jio P ops ms bs i o v ob (S q) (S (q + 1))) :
  ∃ J' v' w', (o.semAt rd a.eval).run P w = .ok (.value v') w' ∧ Inv P ops ms ord bs S J0 μ0 w0 rd r0 (more E i) J' (a.put o.dst v') w' p := by
 have hpq : p ≤ q := Nat.le_of_not_lt fun h => hE (I.before q i h hi)
 have hiu := I.un q i hpq hi hE
 have hlti : i < ops.size := (Array.getElem?_eq_some_iff.1 ho).1
 obtain ⟨hw, hh, hp0, hr0', mk, ha, hvm, hS⟩ := id hm
 obtain ⟨o', s, v', w', hM⟩ := jiX (w := w) (I.operand D hi ho hE hpre) ha
 obtain ⟨hV, hR⟩ := hM.step I.rel (i := bs + i) (nx := (S p).2.1.next) hiu (by have := I.next; omega) (Nat.le_refl _)
 have hOb := (hM.rel (upd J (bs + i) (.at w.heap.size s)) (bs + i) (jc2 _ hiu) (upd_same _ _ _)).2
 have hx : Ext J (upd J (bs + i) (.at w.heap.size s)) := jc2 _ hiu
 have hheap : ∀ b, b < w.heap.size → w'.heap[b]? = w.heap[b]? := fun b hb => by rw [hM.heap, Array.getElem?_push, if_neg (by omega)]
 have hsz : w'.heap.size = w.heap.size + 1 := by rw [hM.heap]; simp
 obtain ⟨r1, r2, r3⟩ := I.regs_step D T (v' := v') h0 hi ho hE hpre hput hx (by rw [hvm]; exact hV)
 have hJ0 : J0 (bs + i) = .unborn := hr0.fresh _ (by omega)
 refine ⟨_, v', w', by rw [Oper.semAt_eq rd a.eval o (jfW ha)]; exact hM.run,
  ⟨I.hp, I.down_more hpre, fun q2 j h1 h2 => .inl (I.before q2 j h1 h2), fun q2 j h1 h2 h3 h4 => ?_, I.last, ⟨hR.inj, hR.bnd, hR.fresh, fun x o2 hx2 hd => ?_⟩, I.base.mono hx,
   ⟨fun x b s2 e => ?_, fun x e => ?_, fun x hx2 e => ?_, fun x b s2 e e2 => ?_, I.step.next, I.step.gone_, ?_, fun b hb hall => ?_, hM.os.trans I.step.os, hM.tape.trans I.step.tape, hM.output.trans I.step.output⟩,
   fun q2 j o2 v2 ob2 h1 h2 h3 h4 h5 => ?_, fun q2 j h1 h2 h3 => ?_, I.gon, I.next, r1, (by rw [r2]; exact I.marks.mono hx), I.rdr.mono hx, r3⟩⟩
 ·rcases h4 with h4 | rfl
  ·exact I.later q2 j h1 h2 h3 h4
  ·have := jcs D hi h2
   subst this
   rw [hS] at h3
   exact cons_ne h3
 ·by_cases hxe : x = bs + i
  ·subst hxe
   exact absurd (I.gon q i hpq hi o2 hx2) hd
  ·exact hR.obj x o2 (by simp only [Go.Proofs.YtnafmgiaifbhgaaGreatDoor.Ev.T.get_set]; rw [if_neg hxe]; exact hx2) hd
 ·rcases I.step.at_ x b s2 e with e1 | ⟨e1, e2⟩
  ·rcases hx.at_ x b s2 e1 with e3 | e3
   ·exact .inl e3
   ·exfalso
    by_cases hxe : x = bs + i
    ·subst hxe; rw [hiu] at e1; cases e1
    ·rw [jaD hxe, e1] at e3; cases e3
  ·exact .inr ⟨hx.dead _ e1, e2⟩
 ·exact hx.dead _ (I.step.dead x e)
 ·rw [jaD (by omega)]; exact I.step.unborn x hx2 e
 ·by_cases hxe : x = bs + i
  ·subst hxe
   rw [upd_same] at e2
   cases e2
   exact .inl I.step.size
  ·rw [jaD hxe] at e2
   exact I.step.born x b s2 e e2
 ·rw [hsz]; exact Nat.le_succ_of_le I.step.size
 ·rw [hheap b (Nat.lt_of_lt_of_le hb I.step.size)]
  exact I.step.frame b hb hall
 ·rcases h4 with h4 | rfl
  ·obtain ⟨b, s2, e1, e2⟩ := I.al q2 j o2 v2 ob2 h1 h2 h3 h4 h5
   have hne : bs + j ≠ bs + i := fun e => hE (by have : j = i := by omega
                                                 rw [← this]; exact h4)
   exact ⟨b, s2, by rw [jaD hne]; exact e1, e2.keep hx (hheap b (I.rel.bnd _ _ _ e1))⟩
  ·have := jcs D hi h2
   subst this
   rw [ho] at h3
   cases h3
   obtain ⟨_, _, _, _, mk2, ha2, _, _⟩ := h5
   rw [ha] at ha2
   cases ha2
   exact ⟨_, _, upd_same _ _ _, hOb⟩
 ·have hne : bs + j ≠ bs + i := fun e => h3 (.inr (by omega))
  rw [jaD hne]
  exact I.un q2 j h1 h2 fun h => h3 (.inl h)
theorem Inv.turn (D : DOk ops.toList ms ord x0) (T : ∀ (q i : Nat), ord[q]? = some i → jdE P X callF roundF ops.toList ms bs i (S q) = some (S (q + 1))) (I : Inv P ops ms ord bs S J0 μ0 w0 rd r0 E J a w p) (h0 : (S 0).1 = r0) (hbs : μ0.next ≤ bs) (hr0 : Rel J0 μ0 w0) {q i : Nat} {o : Oper} {v : Value} (hi : ord[q]? = some i) (ho : ops[i]? = some o) (hE : ¬ E i)
  (hpre : ∀ k, k < ops.size → bef ms k i = true → E k) (hput : aput (S q).1 o.dst v = some (S (q + 1)).1) (hm : Turnt P X callF roundF ops i o v (S q) (S (q + 1))) :
  Rel J (S q).2.1 w ∧ ∀ J' v' w', VRel J' v v' → Rel J' (S (q + 1)).2.1 w' → Step J (S q).2.1 w J' (S (q + 1)).2.1 w' → Inv P ops ms ord bs S J0 μ0 w0 rd r0 (more E i) J' (a.put o.dst v') w' (q + 1) := by
 have hpq : p ≤ q := Nat.le_of_not_lt fun h => hE (I.before q i h hi)
 have hq := je7 D hi
 obtain ⟨hw, hh, hSn, hex⟩ := hm
 have hallE : ∀ (q2 j : Nat), q2 < q → ord[q2]? = some j → E j := fun q2 j h1 h2 => by
  have := D.hvy q i o hi (by simpa using ho) hh q2 j h1 h2
  have hj := D.lt j (List.mem_of_getElem? h2)
  exact hpre j (by simpa using hj) this
 obtain ⟨g1, g2, g3, g4⟩ := I.adv D T hbs (q - p) (by omega) fun q2 j h1 h2 h3 => hallE q2 j (by omega) h3
 rw [show p + (q - p) = q by omega] at g1 g2 g3 g4
 refine ⟨g1, fun J' v' w' hv hr hs => ?_⟩
 have hx := hs.ext
 obtain ⟨r1, r2, r3⟩ := I.regs_step D T (v' := v') h0 hi ho hE hpre hput hx hv
 have hnx : ∀ j, j < ops.size → bs + j < (S q).2.1.next := fun j hj => by have := I.next; rw [g3]; omega
 refine ⟨hq, I.down_more hpre, fun q2 j h1 h2 => ?_, fun q2 j h1 h2 h3 h4 => ?_, .inr ⟨i, by simpa using hi, by simpa using hSn⟩, hr, I.base.mono hx, g2.trans hr0 hs,
  fun q2 j o2 v2 ob h1 h2 h3 h4 h5 => ?_, fun q2 j h1 h2 h3 => ?_, fun q2 j h1 h2 => ?_, ?_, r1, (by rw [r2]; exact I.marks.mono hx), I.rdr.mono hx, r3⟩
 ·by_cases e : q2 = q
  ·subst e; rw [hi] at h2; cases h2; exact .inr rfl
  ·exact .inl (hallE q2 j (by omega) h2)
 ·rcases h4 with h4 | rfl
  ·exact I.later q2 j (by omega) h2 h3 h4
  ·have := jcs D hi h2
   omega
 ·rcases h4 with h4 | rfl
  ·obtain ⟨b, s, e1, e2⟩ := I.al q2 j o2 v2 ob (by omega) h2 h3 h4 h5
   have hg := g4 q2 j (by omega) h2
   rcases hs.at_ _ _ _ e1 with e3 | ⟨_, e3⟩
   ·refine ⟨b, s, e3, e2.keep hx (hs.frame b (I.rel.bnd _ _ _ e1) fun i3 s3 e4 => ?_)⟩
    rw [I.rel.inj _ _ _ _ _ e4 e1]
    exact hg
   ·exact absurd hg e3
  ·have := jcs D hi h2
   omega
 ·have hj : j < ops.size := by have := D.lt j (List.mem_of_getElem? h2); simpa using this
  exact hs.unborn _ (hnx j hj) (I.un q2 j (by omega) h2 fun h => h3 (.inl h))
 ·have hj : j < ops.size := by have := D.lt j (List.mem_of_getElem? h2); simpa using this
  exact hs.gone_ _ (hnx j hj) (g4 q2 j (by omega) h2)
 ·have := hs.next
  have := I.next
  omega
end inv
end
end Go.Proofs.YtnafmgiaifbhgaaGreatDoor.Ev
