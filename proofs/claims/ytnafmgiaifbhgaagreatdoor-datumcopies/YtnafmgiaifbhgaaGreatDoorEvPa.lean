/-
  The evaluator, part Pa: no maps. No conditions.
-/
import Derived.Test.YtnafmgiaifbhgaaGreatDoorEvP
set_option linter.unusedSimpArgs false
set_option linter.unusedVariables false
namespace Go.Proofs.YtnafmgiaifbhgaaGreatDoor.Ev
noncomputable section
variable {P : Program} {J : Nat → Loc}
def aLookup (_ : Program) (_ : Mem) (_ : TypeId) (_ _ : Value) (_ : Bool) : Option Value := none
theorem jgD {ρ ρ' : Operand → Value} (hρ : ∀ x, VRel J (ρ x) (ρ' x)) {μ : Mem} {w : World} (h : Rel J μ w) {o : Oper} {t : TypeId} {x y : Operand} {c : Bool} {v : Value}
  (ho : o.op = .lookup t x y c) (hs : aLookup P μ t (ρ x) (ρ y) c = some v) : ∃ v', VRel J v v' ∧ (execOp ρ' o).run P w = .ok (.value v') w := nomatch hs
def aMapLen (_ : Mem) (_ : Value) : Option Value := none
theorem jgC {ρ ρ' : Operand → Value} (hρ : ∀ x, VRel J (ρ x) (ρ' x)) {μ : Mem} {w : World} (h : Rel J μ w) {o : Oper} {c : Call} {x : Operand} {t kt et : TypeId} {r : List TypeId} {v : Value}
  (ho : o.op = .call c) (hc : c.callee = .builtin .len) (ha : c.args.toList = [x]) (ht : c.argTypes.toList = t :: r) (hu : P.underlying t = some (.map kt et)) (hs : aMapLen μ (ρ x) = some v) :
  ∃ v', VRel J v v' ∧ (execOp ρ' o).run P w = .ok (.value v') w := nomatch hs
def jij (_ : Program) (_ : Mem) (_ : TypeId) (_ _ _ : Value) : Option (Value × Mem) := none
theorem jee {ρ ρ' : Operand → Value} (hρ : ∀ x, VRel J (ρ x) (ρ' x)) {μ : Mem} {w : World} (h : Rel J μ w) {o : Oper} {t : TypeId} {x y z : Operand} {v : Value} {μ' : Mem}
  (ho : o.op = .mapUpdate t x y z ∨ o.op = .insert t x y z) (hs : jij P μ t (ρ x) (ρ y) (ρ z) = some (v, μ')) : jfP P J ρ' o μ w v μ' := nomatch hs
def jhx (_ : Program) (_ : Mem) (_ : TypeId) (_ _ : Value) : Option (Value × Mem) := none
theorem jfy {ρ ρ' : Operand → Value} (hρ : ∀ x, VRel J (ρ x) (ρ' x)) {μ : Mem} {w : World} (h : Rel J μ w) {o : Oper} {t : TypeId} {x y : Operand} {v : Value} {μ' : Mem}
  (ho : o.op = .mapEntry t x y) (hs : jhx P μ t (ρ x) (ρ y) = some (v, μ')) : jfP P J ρ' o μ w v μ' := nomatch hs
def jfA (_ : Mem) (_ _ _ : Value) : Option (Value × Mem) := none
theorem jev {ρ ρ' : Operand → Value} (hρ : ∀ x, VRel J (ρ x) (ρ' x)) {μ : Mem} {w : World} (h : Rel J μ w) {o : Oper} {t : TypeId} {x y z : Operand} {v : Value} {μ' : Mem}
  (ho : o.op = .entryStore t x y z) (hs : jfA μ (ρ x) (ρ y) (ρ z) = some (v, μ')) : jfP P J ρ' o μ w v μ' := nomatch hs
def jie (P : Program) (μ : Mem) (src dst : TypeId) (v : Value) : Option (Value × Mem) :=
 match v with
 | .slice (some ⟨i, o, none⟩) l c => match Nat.beq src dst with
   | false => none
   | true => match P.underlying src with
     | some (.slice e) => match P.underlying e with
       | some (.int .u8) => match μ.obs.get i with
         | some (.cells n t zero over lo hi fx _) => match Nat.blt lo hi with
           | true => none
           | false => some (.slice (some ⟨i, o, none⟩) l c, ⟨μ.obs.set i (.cells n t zero over lo hi fx true), μ.next⟩)
         | _ => none
       | _ => none
     | _ => none
 | _ => none
theorem jgz {ρ ρ' : Operand → Value} (hρ : ∀ x, VRel J (ρ x) (ρ' x)) {μ : Mem} {w : World} (h : Rel J μ w) {o : Oper} {src dst : TypeId} {x : Operand} {v : Value} {μ' : Mem}
  (ho : o.op = .convert src dst x) (hs : jie P μ src dst (ρ x) = some (v, μ')) : jfP P J ρ' o μ w v μ' := by
 have hx := hρ x
 unfold jie at hs
 split at hs
 ·rename_i i of l c e
  rw [e] at hx
  split at hs
  ·cases hs
  ·rename_i hsd
   have hsd' : src = dst := Nat.eq_of_beq_eq_true hsd
   subst hsd'
   split at hs
   ·rename_i el hu
    split at hs
    ·rename_i he
     split at hs
     ·rename_i n te zero over lo hi fx sh hob
      split at hs
      ·cases hs
      ·rename_i hlt
       cases hs
       obtain ⟨b, s, hb, hr, _⟩ := cell_of h hob
       obtain ⟨a', c', hx', _, hcase⟩ := jbm hx
       have ha' : a' = ⟨b, of, none⟩ := by
        rcases hcase with ⟨i2, o2, b2, s2, e1, e2, e3, _⟩ | ⟨e1, _⟩
        ·cases e1; rw [hb] at e3; cases e3; exact e2
        ·rw [show J i = _ from hb] at e1; cases e1
       subst ha'
       obtain ⟨C, fz, r1, r2, r3, r4, r5, r6⟩ := hr
       have hbl : b < w.heap.size := h.bnd _ _ _ hb
       have hlh : ¬ lo < hi := fun hh => by rw [show Nat.blt lo hi = true from by simpa using hh] at hlt; cases hlt
       have hp : ¬ gone μ i := fun hg => by have := hg _ hob; cases this
       obtain ⟨f1, f2⟩ := fz
       have hself : (w.freeze ⟨b, C.size, none⟩ 1).heap[b]? = some (.cells C te (if f1 == f2 then (C.size, C.size + 1) else (min f1 C.size, max f2 (C.size + 1)))) := by
        unfold World.freeze
        rw [if_neg (by omega)]
        simp [Array.getElem?_modify, r1]
       have hoth : ∀ k, k ≠ b → (w.freeze ⟨b, C.size, none⟩ 1).heap[k]? = w.heap[k]? := fun k hk => by
        unfold World.freeze
        rw [if_neg (by omega)]
        simp only [Array.getElem?_modify]
        rw [if_neg (fun e => hk e.symm)]
       have hsz : (w.freeze ⟨b, C.size, none⟩ 1).heap.size = w.heap.size := by
        unfold World.freeze
        rw [if_neg (by omega)]
        simp
       have hrun : (markStringish ⟨b, of, none⟩).run P w = .ok () (w.freeze ⟨b, C.size, none⟩ 1) := by
        have hshape : (shape b).run P w = .ok (some (te, C.size)) w := by
         simp only [shape, Sem.run, World.shape?, r1]
        simp only [markStringish, Sem.run_bind, hshape, Result.andThen_ok, freeze, Sem.run]
       have hv : VRel J (.slice (some ⟨i, of, none⟩) l c) (.slice (some ⟨b, of, none⟩) l c') := by rw [← hx']; exact hx
       refine ⟨J, .slice (some ⟨b, of, none⟩) l c', _, .inl ?_, hv, h.update hb (.cells n te zero over lo hi fx true) hsz hoth ?_, Step.update hb hp _ hsz hoth ?_ ?_ ?_⟩
       ·simp only [execOp, ho, convert, Sem.run_bind, jaF hu, jaF he, Result.andThen_ok, hx', beq_self_eq_true, hrun, Sem.run_pure]
       ·refine ⟨C, _, hself, r2, r3, r4, r5, ?_⟩
        by_cases hf : f1 = f2
        ·rw [if_pos (by simpa using hf)]
         exact .inr (.inl ⟨rfl, by simp; omega⟩)
        ·rw [if_neg (by simpa using hf)]
         rcases r6 with r6 | ⟨_, r6⟩ | ⟨_, _, r6⟩
         ·exact absurd r6 hf
         ·exact .inr (.inl ⟨rfl, by simp only at r6 ⊢; omega⟩)
         ·exact absurd r6 hlh
       ·unfold World.freeze; rw [if_neg (by omega)]
       ·unfold World.freeze; rw [if_neg (by omega)]
       ·unfold World.freeze; rw [if_neg (by omega)]
     ·cases hs
    ·cases hs
   ·cases hs
 ·cases hs
end
end Go.Proofs.YtnafmgiaifbhgaaGreatDoor.Ev
