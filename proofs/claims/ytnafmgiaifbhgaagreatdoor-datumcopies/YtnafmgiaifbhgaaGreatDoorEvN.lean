/-
  The evaluator, part N: append. No conditions.
-/
import Derived.Test.YtnafmgiaifbhgaaGreatDoorEvM
set_option linter.unusedSimpArgs false
set_option linter.unusedVariables false
namespace Go.Proofs.YtnafmgiaifbhgaaGreatDoor.Ev
noncomputable section
variable {P : Program} {J : Nat → Loc}
theorem growBy_le (n : Nat) : ∀ (r c : Nat), Builtin.growBy n r c ≤ max c (n + (n + 768) / 4) := by
 intro r
 induction r with
 | zero => intro c; simp only [Builtin.growBy]; omega
 | succ r ih =>
   intro c
   simp only [Builtin.growBy]
   split
   ·omega
   ·have := ih (c + (c + 768) / 4)
    omega
theorem jjm {n c : Nat} (h : c < n) : Builtin.nextslicecap n c ≤ 3 * n + 1000 := by
 unfold Builtin.nextslicecap
 split
 ·omega
 ·split
  ·omega
  ·have := growBy_le n 4 c
   omega
theorem jgV (n : Nat) (w : World) : (askRoom n).run P w = .ok () w := by
 unfold askRoom
 split <;> rfl
theorem jfD (z : Array Value) (n : Nat) : (Builtin.zeroCells z n).size = n * z.size := by simp [Builtin.zeroCells]
structure AppArgs (P : Program) (c : Call) (st xt e : TypeId) (inf : TypeInfo) (z : Value) : Prop where
 t0 : c.argTypes[0]? = some st
 t1 : c.argTypes[1]? = some xt
 us : P.underlying st = some (.slice e)
 info : P.info? e = some inf
 ux : (∃ e2, P.underlying xt = some (.slice e2)) ∨ P.underlying xt = some .string
 zero : jbh P e = some z
 zsize : z.cells.size = inf.size
 bytes : inf.bytes ≤ 4096
theorem jdY {c : Call} {st xt e : TypeId} {inf : TypeInfo} {z : Value} (A : AppArgs P c st xt e inf z) {ty : TypeId} {base : Option Addr} {l cp n : Nat} {x' : Value} {w w' : World} {new : Array Value}
  (hn : (Builtin.lenOf x').run P w = .ok n w) (hle : l + n ≤ cp) (hnew : (Builtin.firstCells inf.size n x').run P w = .ok new w)
  (hst : ∀ a, base = some a → (storeCells (a.add (l * inf.size)) new.toList).run P w = .ok () w') (hw : base = none → w' = w) :
  (Builtin.append_ c.argTypes ty #[.slice base l cp, x']).run P w = .ok (.slice base (l + n) cp) w' := by
 cases base with
 | none =>
   rw [hw rfl]
   rcases A.ux with ⟨e2, hd⟩ | hd
   all_goals
    simp only [Builtin.append_, A.t0, A.t1, List.getElem?_toArray, List.getElem?_cons_zero, List.getElem?_cons_succ, Sem.run_bind, jaF A.us, jaF hd, Result.andThen_ok, jba A.info, Bool.false_eq_true, if_false, hn, Bool.not_false,
     if_true, if_pos hle, hnew, Sem.run_pure]
 | some a =>
   rcases A.ux with ⟨e2, hd⟩ | hd
   all_goals
    simp only [Builtin.append_, A.t0, A.t1, List.getElem?_toArray, List.getElem?_cons_zero, List.getElem?_cons_succ, Sem.run_bind, jaF A.us, jaF hd, Result.andThen_ok, jba A.info, Bool.false_eq_true, if_false, hn, Bool.not_false,
     if_true, if_pos hle, hnew, hst a rfl, Sem.run_pure]
theorem run_grows {c : Call} {st xt e : TypeId} {inf : TypeInfo} {z : Value} (A : AppArgs P c st xt e inf z) {ty : TypeId} {base : Option Addr} {l cp n : Nat} {x' : Value} {w : World} {old new : Array Value}
  (hn : ∀ w, (Builtin.lenOf x').run P w = .ok n w) (hgt : cp < l + n) (hs : l + n ≤ 67108864)
  (hnew : ∀ w', w'.heap = w.heap → (Builtin.firstCells inf.size n x').run P w' = .ok new w') (hold : ∀ w', w'.heap = w.heap → (Builtin.firstCells inf.size l (.slice base l cp)).run P w' = .ok old w') :
  ∃ (nc : Nat) (w1 : World), l + n ≤ nc ∧ w1.heap = w.heap ∧ w1.os = w.os ∧ w1.tape = w.tape ∧ w1.output = w.output ∧
   (Builtin.append_ c.argTypes ty #[.slice base l cp, x']).run P w =
    .ok (.slice (some ⟨w.heap.size, 0, none⟩) (l + n) nc) (w1.alloc (.cells (old ++ new ++ Builtin.zeroCells z.cells (nc - (l + n))) e)) := by
 obtain ⟨nc, hnc, hr⟩ := jd0 (P := P) (l + n) cp e w
 refine ⟨nc, { w with drawn := w.drawn + 1 }, hnc, rfl, rfl, rfl, rfl, ?_⟩
 have h1 : ¬ (((l + n : Nat) : Int) > IntKind.i64.max ∧ (false = true ∨ inf.bytes = 0)) := by
  have : IntKind.i64.max = 9223372036854775807 := by decide
  rintro ⟨h, _⟩
  omega
 have h2 : ¬ (Builtin.nextslicecap (l + n) cp * inf.bytes > 2 ^ 48) := by
  have := jjm hgt
  have h3 : Builtin.nextslicecap (l + n) cp * inf.bytes ≤ 201327592 * 4096 := Nat.mul_le_mul (by omega) A.bytes
  have h4 : (2 : Nat) ^ 48 = 281474976710656 := by decide
  omega
 have h1' : ¬ (((l + n : Nat) : Int) > IntKind.i64.max ∧ (False ∨ inf.bytes = 0)) := fun h => h1 ⟨h.1, h.2.imp (fun x => x.elim) id⟩
 rcases A.ux with ⟨e2, hd⟩ | hd
 all_goals
  simp only [Builtin.append_, A.t0, A.t1, List.getElem?_toArray, List.getElem?_cons_zero, List.getElem?_cons_succ, Sem.run_bind, jaF A.us, jaF hd, Result.andThen_ok, jba A.info, Bool.false_eq_true, if_false, hn, Bool.not_false,
   if_true, if_neg (Nat.not_le.2 hgt), jcW A.info, if_neg h1', if_neg h2, hr, jgV, hold { w with drawn := w.drawn + 1 } rfl, hnew { w with drawn := w.drawn + 1 } rfl, (jbj A.zero _).1, jca, Sem.run_pure]
theorem jdx {J : Nat → Loc} (i : Nat) : Ext J (upd J i .dead) :=
 ⟨fun j b s e => by
  by_cases hj : j = i
  ·subst hj; exact .inr (upd_same _ _ _)
  ·exact .inl (by rw [jaD hj]; exact e),
  fun j e => by
   by_cases hj : j = i
   ·subst hj; exact upd_same _ _ _
   ·rw [jaD hj]; exact e⟩
theorem Rel.kill {μ : Mem} {w : World} (h : Rel J μ w) {i b s : Nat} (hi : J i = .at b s) : Rel (upd J i .dead) ⟨μ.obs.set i .dead, μ.next⟩ w where
 inj a c x t t' ha hc := by
  by_cases h1 : a = i
  ·subst h1; rw [upd_same] at ha; cases ha
  ·by_cases h2 : c = i
   ·subst h2; rw [upd_same] at hc; cases hc
   ·rw [jaD h1] at ha; rw [jaD h2] at hc; exact h.inj _ _ _ _ _ ha hc
 bnd a c t ha := by
  by_cases h1 : a = i
  ·subst h1; rw [upd_same] at ha; cases ha
  ·rw [jaD h1] at ha; exact h.bnd _ _ _ ha
 fresh a ha := by
  have : i < μ.next := jdj h hi
  rw [jaD (by have ha : μ.next ≤ a := ha; omega)]
  exact h.fresh a ha
 obj a o ha hd := by
  simp only [T.get_set] at ha
  by_cases h1 : a = i
  ·rw [if_pos h1] at ha; cases ha; exact absurd rfl hd
  ·rw [if_neg h1] at ha
   obtain ⟨c, t, hc, hob⟩ := h.obj a o ha hd
   exact ⟨c, t, by rw [jaD h1]; exact hc, hob.keep (jdx i) rfl⟩
theorem Step.kill {μ : Mem} {w : World} (h : Rel J μ w) {i b s : Nat} (hi : J i = .at b s) (hp : ¬ gone μ i) : Step J μ w (upd J i .dead) ⟨μ.obs.set i .dead, μ.next⟩ w where
 at_ a c t e := by
  by_cases h1 : a = i
  ·subst h1; exact .inr ⟨upd_same _ _ _, hp⟩
  ·exact .inl (by rw [jaD h1]; exact e)
 dead a e := (jdx i).dead a e
 unborn a _ e := by
  by_cases h1 : a = i
  ·subst h1; rw [hi] at e; cases e
  ·rw [jaD h1]; exact e
 born a c t e e2 := by
  by_cases h1 : a = i
  ·subst h1; rw [hi] at e; cases e
  ·rw [jaD h1, e] at e2; cases e2
 next := Nat.le_refl _
 gone_ a ha hg o ho := by
  simp only [T.get_set] at ho
  by_cases e : a = i
  ·subst e; rw [if_pos rfl] at ho; cases ho; rfl
  ·rw [if_neg e] at ho; exact hg o ho
 size := Nat.le_refl _
 frame c hc _ := rfl
 os := rfl
 tape := rfl
 output := rfl
theorem Rel.move {μ : Mem} {w w' : World} (h : Rel J μ w) {i b s : Nat} (hi : J i = .at b s) (o2 : Ob) (hsz : w'.heap.size = w.heap.size) (hoth : ∀ c, c ≠ b → w'.heap[c]? = w.heap[c]?)
  (ho : ∀ J', Ext J J' → ObRel J' w' b s o2) : Rel (upd (upd J i .dead) μ.next (.at b s)) ⟨(μ.obs.set i .dead).set μ.next o2, μ.next + 1⟩ w' := by
 have hlt : i < μ.next := jdj h hi
 have hu : (upd J i .dead) μ.next = .unborn := by rw [jaD (by omega)]; exact h.fresh _ (Nat.le_refl _)
 have hE : Ext J (upd (upd J i .dead) μ.next (.at b s)) := (jdx i).trans (jc2 _ hu)
 have hno : ∀ a t, J a = .at b t → a = i := fun a t e => h.inj _ _ _ _ _ e hi
 constructor
 ·intro a c x t t' ha hc
  by_cases h1 : a = μ.next
  ·by_cases h2 : c = μ.next
   ·rw [h1, h2]
   ·subst h1
    rw [upd_same] at ha; cases ha
    rw [jaD h2] at hc
    by_cases h3 : c = i
    ·subst h3; rw [upd_same] at hc; cases hc
    ·rw [jaD h3] at hc; exact absurd (hno _ _ hc) h3
  ·rw [jaD h1] at ha
   by_cases h4 : a = i
   ·subst h4; rw [upd_same] at ha; cases ha
   ·rw [jaD h4] at ha
    by_cases h2 : c = μ.next
    ·subst h2
     rw [upd_same] at hc; cases hc
     exact absurd (hno _ _ ha) h4
    ·rw [jaD h2] at hc
     by_cases h3 : c = i
     ·subst h3; rw [upd_same] at hc; cases hc
     ·rw [jaD h3] at hc; exact h.inj _ _ _ _ _ ha hc
 ·intro a c t ha
  rw [hsz]
  by_cases h1 : a = μ.next
  ·subst h1; rw [upd_same] at ha; cases ha; exact h.bnd _ _ _ hi
  ·rw [jaD h1] at ha
   by_cases h4 : a = i
   ·subst h4; rw [upd_same] at ha; cases ha
   ·rw [jaD h4] at ha; exact h.bnd _ _ _ ha
 ·intro a ha
  have ha : μ.next + 1 ≤ a := ha
  rw [jaD (by omega), jaD (by omega)]
  exact h.fresh a (by omega)
 ·intro a o ha hd
  simp only [T.get_set] at ha
  by_cases h1 : a = μ.next
  ·rw [if_pos h1] at ha; cases ha; subst h1
   exact ⟨b, s, upd_same _ _ _, ho _ hE⟩
  ·rw [if_neg h1] at ha
   by_cases h4 : a = i
   ·rw [if_pos h4] at ha; cases ha; exact absurd rfl hd
   ·rw [if_neg h4] at ha
    obtain ⟨c, t, hc, hob⟩ := h.obj a o ha hd
    refine ⟨c, t, by rw [jaD h1, jaD h4]; exact hc, hob.keep hE (hoth c fun e2 => h4 ?_)⟩
    subst e2
    exact hno _ _ hc
theorem Step.move {μ : Mem} {w w' : World} (h : Rel J μ w) {i b s : Nat} (hi : J i = .at b s) (hp : ¬ gone μ i) (o2 : Ob) (hsz : w'.heap.size = w.heap.size) (hoth : ∀ c, c ≠ b → w'.heap[c]? = w.heap[c]?)
  (h1 : w'.os = w.os) (h2 : w'.tape = w.tape) (h3 : w'.output = w.output) :
  Step J μ w (upd (upd J i .dead) μ.next (.at b s)) ⟨(μ.obs.set i .dead).set μ.next o2, μ.next + 1⟩ w' := by
 have hlt : i < μ.next := jdj h hi
 have hu : (upd J i .dead) μ.next = .unborn := by rw [jaD (by omega)]; exact h.fresh _ (Nat.le_refl _)
 have hE : Ext J (upd (upd J i .dead) μ.next (.at b s)) := (jdx i).trans (jc2 _ hu)
 constructor
 ·intro a c t e
  have ha := jdj h e
  by_cases h4 : a = i
  ·subst h4; exact .inr ⟨by rw [jaD (by omega), upd_same], hp⟩
  ·exact .inl (by rw [jaD (by omega), jaD h4]; exact e)
 ·exact hE.dead
 ·intro a ha e
  by_cases h4 : a = i
  ·subst h4; rw [hi] at e; cases e
  ·rw [jaD (by omega), jaD h4]; exact e
 ·intro a c t e e2
  by_cases h5 : a = μ.next
  ·subst h5; rw [upd_same] at e2; cases e2; exact .inr ⟨i, s, hi, hp⟩
  ·rw [jaD h5] at e2
   by_cases h4 : a = i
   ·subst h4; rw [upd_same] at e2; cases e2
   ·rw [jaD h4, e] at e2; cases e2
 ·show μ.next ≤ μ.next + 1; omega
 ·intro a ha hg o ho
  simp only [T.get_set] at ho
  rw [if_neg (by omega)] at ho
  by_cases e : a = i
  ·subst e; rw [if_pos rfl] at ho; cases ho; rfl
  ·rw [if_neg e] at ho; exact hg o ho
 ·rw [hsz]; exact Nat.le_refl _
 ·intro c hc hall
  refine hoth c fun e => ?_
  subst e
  exact hp (hall i s hi)
 ·exact h1
 ·exact h2
 ·exact h3
end
end Go.Proofs.YtnafmgiaifbhgaaGreatDoor.Ev
