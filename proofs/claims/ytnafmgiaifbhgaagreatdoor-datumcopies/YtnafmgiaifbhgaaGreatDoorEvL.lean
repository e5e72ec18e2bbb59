/-
  The evaluator, part L: stores and copies. No conditions.
-/
import Derived.Test.YtnafmgiaifbhgaaGreatDoorEvK
set_option linter.unusedSimpArgs false
set_option linter.unusedVariables false
namespace Go.Proofs.YtnafmgiaifbhgaaGreatDoor.Ev
noncomputable section
variable {P : Program} {J : Nat → Loc}
def scalar : Value → Bool
 | .agg _ => false
 | .tuple _ => false
 | .chan _ => false
 | _ => true
theorem jfR {v v' : Value} (h : VRel J v v') (hs : scalar v = true) : (∀ x, v' ≠ .agg x) ∧ (∀ x, v' ≠ .tuple x) := by
 cases h <;> first | (cases hs; done) | exact ⟨fun x e => (by cases e), fun x e => (by cases e)⟩
theorem run_store {w : World} {a : Addr} {v u : Value} (h1 : ∀ x, v ≠ .agg x) (h2 : ∀ x, v ≠ .tuple x) (hc : w.cell? a = some u) (hf : w.frozen? a = false) :
  (store a v).run P w = .ok () (w.setCell a v) := by
 cases v <;> first
  | exact absurd rfl (h1 _)
  | exact absurd rfl (h2 _)
  | simp [store, Sem.run, hc, hf]
structure Stored (w w' : World) (b : Nat) (te : TypeId) (fz : Nat × Nat) (c c' : Array Value) : Prop where
 size : w'.heap.size = w.heap.size
 other : ∀ k, k ≠ b → w'.heap[k]? = w.heap[k]?
 block : w'.heap[b]? = some (.cells c' te fz)
 cells : c'.size = c.size
 os : w'.os = w.os
 tape : w'.tape = w.tape
 output : w'.output = w.output
theorem jdI {b te : Nat} {fz : Nat × Nat} {o : Nat} : ∀ (vs : List Value) (i : Nat) (w : World) (c : Array Value), w.heap[b]? = some (.cells c te fz) →
  o + i + vs.length ≤ c.size → (∀ k, o + i ≤ k → k < o + i + vs.length → ¬ (fz.1 ≤ k ∧ k < fz.2)) → (∀ v ∈ vs, (∀ x, v ≠ .agg x) ∧ (∀ x, v ≠ .tuple x)) →
  ∃ w' c', (storeCells ⟨b, o, none⟩ vs i).run P w = .ok () w' ∧ Stored w w' b te fz c c' ∧
   ∀ k, c'[k]? = if o + i ≤ k ∧ k < o + i + vs.length then vs[k - (o + i)]? else c[k]? := by
 intro vs
 induction vs with
 | nil =>
   intro i w c hb _ _ _
   exact ⟨w, c, rfl, ⟨rfl, fun _ _ => rfl, hb, rfl, rfl, rfl, rfl⟩, fun k => by rw [if_neg (by simp)]⟩
 | cons v vs ih =>
   intro i w c hb hle hf hs
   simp only [List.length_cons] at hle hf
   have hlt : o + i < c.size := by omega
   have hcell : w.cell? ⟨b, o + i, none⟩ = some c[o + i] := by
    simp [World.cell?, hb, hlt]
   have hfr : w.frozen? ⟨b, o + i, none⟩ = false := by
    have := hf (o + i) (Nat.le_refl _) (by omega)
    obtain ⟨f1, f2⟩ := fz
    simp only [World.frozen?, hb]
    simp only at this
    by_cases h1 : f1 ≤ o + i
    ·have h2 : ¬ (o + i < f2) := fun h => this ⟨h1, h⟩
     simp [h1, h2]
    ·simp [h1]
   have hset : (w.setCell ⟨b, o + i, none⟩ v).heap[b]? = some (.cells (c.setIfInBounds (o + i) v) te fz) := by
    obtain ⟨f1, f2⟩ := fz
    simp [World.setCell, Array.getElem?_modify, hb]
   obtain ⟨w', c', h1, h2, h3⟩ := ih (i + 1) (w.setCell ⟨b, o + i, none⟩ v) (c.setIfInBounds (o + i) v) hset (by simp; omega) (fun k h1 h2 => hf k (by omega) (by omega)) (fun u hu => hs u (List.mem_cons_of_mem _ hu))
   obtain ⟨hsa, hst⟩ := hs v (List.mem_cons_self ..)
   refine ⟨w', c', ?_, ?_, ?_⟩
   ·simp only [storeCells, Sem.run_bind, jf5, run_store hsa hst hcell hfr, Result.andThen_ok, h1]
   ·refine ⟨?_, ?_, h2.block, ?_, ?_, ?_, ?_⟩
    ·rw [h2.size]; simp [World.setCell]
    ·intro k hk
     rw [h2.other k hk]
     simp only [World.setCell, Array.getElem?_modify]
     rw [if_neg (fun e => hk e.symm)]
    ·rw [h2.cells]; simp
    ·exact h2.os
    ·exact h2.tape
    ·exact h2.output
   ·intro k
    rw [h3 k]
    simp only [List.length_cons]
    by_cases hk : o + (i + 1) ≤ k ∧ k < o + (i + 1) + vs.length
    ·rw [if_pos hk, if_pos (by omega), show k - (o + i) = (k - (o + (i + 1))) + 1 from by omega, List.getElem?_cons_succ]
    ·rw [if_neg hk]
     rw [Array.getElem?_setIfInBounds]
     by_cases e : o + i = k
     ·subst e
      rw [if_pos rfl, if_pos hlt, if_pos (by omega)]; simp
     ·rw [if_neg e, if_neg (by omega)]
def scalars : List Value → Bool
 | [] => true
 | v :: r => match scalar v with
   | true => scalars r
   | false => false
theorem je2 : ∀ (l : List Value), scalars l = true → ∀ v ∈ l, scalar v = true := by
 intro l
 induction l with
 | nil => intro _ v hv; cases hv
 | cons a l ih =>
   intro h v hv
   simp only [scalars] at h
   split at h
   ·rcases List.mem_cons.1 hv with e | e
    ·subst e; assumption
    ·exact ih h v e
   ·cases h
def jb2 (n lo hi o k : Nat) : Bool :=
 match Nat.ble (Nat.add o k) n with
 | false => false
 | true => match Nat.blt lo hi with
   | false => true
   | true => match Nat.ble (Nat.add o k) lo with
     | true => true
     | false => Nat.ble hi o
theorem jhE {n lo hi o k s : Nat} {fz : Nat × Nat} {sh : Bool} (h : jb2 n lo hi o k = true) (hn : n ≤ s) (hf : FzRel fz s lo hi sh) :
  o + k ≤ n ∧ ∀ j, o ≤ j → j < o + k → ¬ (fz.1 ≤ j ∧ j < fz.2) := by
 unfold jb2 at h
 split at h
 ·cases h
 ·rename_i h1
  have h1' : o + k ≤ n := Nat.le_of_ble_eq_true h1
  refine ⟨h1', fun j hj1 hj2 ⟨e1, e2⟩ => ?_⟩
  rcases hf with hf | ⟨_, hf⟩ | ⟨hf1, hf2, hf3⟩
  ·omega
  ·omega
  ·split at h
   ·rename_i h2
    have : ¬ lo < hi := fun hlt => by rw [show Nat.blt lo hi = true from by simpa using hlt] at h2; cases h2
    omega
   ·split at h
    ·rename_i h3
     have h3' : o + k ≤ lo := Nat.le_of_ble_eq_true h3
     omega
    ·have h3' : hi ≤ o := Nat.le_of_ble_eq_true h
     omega
theorem jjF {zero : Array Value} {over : T Value} {o : Nat} {vs : List Value} {k : Nat} :
  cellAt zero (over.lay o vs) k = if o ≤ k ∧ k < o + vs.length then (vs[k - o]?).getD undef else cellAt zero over k := by
 unfold cellAt
 rw [T.get_lay]
 by_cases h : o ≤ k ∧ k < o + vs.length
 ·rw [if_pos h, if_pos h]
  have : k - o < vs.length := by omega
  rw [List.getElem?_eq_getElem this]; rfl
 ·rw [if_neg h, if_neg h]
theorem jel {μ : Mem} {w : World} (h : Rel J μ w) {i n te lo hi o : Nat} {zero : Array Value} {over : T Value} {fx sh : Bool} {vs vs' : List Value}
  (hob : μ.obs.get i = some (.cells n te zero over lo hi fx sh)) (hw : jb2 n lo hi o vs.length = true) (hs : scalars vs = true) (hv : ARel J vs.toArray vs'.toArray) :
  ∃ b s, J i = .at b s ∧ ∃ w', (storeCells ⟨b, o, none⟩ vs').run P w = .ok () w' ∧ Rel J ⟨μ.obs.set i (.cells n te zero (over.lay o vs) lo hi fx sh), μ.next⟩ w' ∧
   Step J μ w J ⟨μ.obs.set i (.cells n te zero (over.lay o vs) lo hi fx sh), μ.next⟩ w' := by
 obtain ⟨b, s, hb, hr, _⟩ := cell_of h hob
 obtain ⟨c, fz, h1, h2, h3, h4, h5, h6⟩ := hr
 obtain ⟨hle, hfree⟩ := jhE hw h3 h6
 have hl : vs.length = vs'.length := by simpa using hv.size
 have hsc : ∀ v ∈ vs', (∀ x, v ≠ .agg x) ∧ (∀ x, v ≠ .tuple x) := by
  intro v hvm
  obtain ⟨k, hk, rfl⟩ := List.mem_iff_getElem.1 hvm
  have hk' : k < vs.length := by omega
  exact jfR (hv.at_ k vs[k] vs'[k] (by simp [hk']) (by simp [hk])) (je2 vs hs _ (List.getElem_mem hk'))
 obtain ⟨w', c', r1, r2, r3⟩ := jdI (P := P) (o := o) vs' 0 w c h1 (by omega) (fun k a b => hfree k (by omega) (by omega)) hsc
 have hnew : ObRel J w' b s (.cells n te zero (over.lay o vs) lo hi fx sh) := by
  refine ⟨c', fz, r2.block, by rw [r2.cells]; exact h2, h3, h4, fun k hk => ?_, h6⟩
  rw [r3 k, jjF]
  by_cases hk2 : o ≤ k ∧ k < o + vs.length
  ·rw [if_pos hk2, if_pos (by omega)]
   have e1 : k - o < vs.length := by omega
   have e2 : k - o < vs'.length := by omega
   refine ⟨vs'[k - o], by simp [e2], ?_⟩
   exact hv.at_ (k - o) _ _ (by simp [e1]) (by simp [e2])
  ·rw [if_neg hk2, if_neg (by omega)]
   exact h5 k hk
 have hp : ¬ gone μ i := fun hg => by have := hg _ hob; cases this
 exact ⟨b, s, hb, w', r1, h.update hb _ r2.size r2.other hnew, Step.update hb hp _ r2.size r2.other r2.os r2.tape r2.output⟩
def jfP (P : Program) (J : Nat → Loc) (ρ' : Operand → Value) (o : Oper) (μ : Mem) (w : World) (v : Value) (μ' : Mem) : Prop :=
 ∃ J' v' w', ((execOp ρ' o).run P w = .ok (.value v') w' ∨ ((execOp ρ' o).run P w = .ok .skip w' ∧ v' = undef)) ∧ VRel J' v v' ∧ Rel J' μ' w' ∧ Step J μ w J' μ' w'
theorem jdV : VRel J undef undef := .tuple rfl (fun i a b ha => by simp at ha)
def jbt (P : Program) (μ : Mem) (t : TypeId) (p v : Value) : Option (Value × Mem) :=
 match p with
 | .pointer (some ⟨i, o, none⟩) => match μ.obs.get i with
   | some (.cells n te zero over lo hi fx sh) => match jdi v with
     | false => none
     | true => match P.info? t with
       | none => none
       | some inf => match Nat.beq (ja2 v).length inf.size with
         | false => none
         | true => match jb2 n lo hi o (ja2 v).length with
           | false => none
           | true => match scalars (ja2 v) with
             | false => none
             | true => some (undef, ⟨μ.obs.set i (.cells n te zero (over.lay o (ja2 v)) lo hi fx sh), μ.next⟩)
   | _ => none
 | _ => none
theorem jhr {ρ ρ' : Operand → Value} (hρ : ∀ x, VRel J (ρ x) (ρ' x)) {μ : Mem} {w : World} (h : Rel J μ w) {o : Oper} {t : TypeId} {x y : Operand} {v : Value} {μ' : Mem} (ho : o.op = .store t x y)
  (hs : jbt P μ t (ρ x) (ρ y) = some (v, μ')) : jfP P J ρ' o μ w v μ' := by
 have hx := hρ x
 have hy := hρ y
 unfold jbt at hs
 split at hs
 ·rename_i i of e
  rw [e] at hx
  split at hs
  ·rename_i n te zero over lo hi fx sh hob
   split at hs
   ·cases hs
   ·rename_i hna
    split at hs
    ·cases hs
    ·rename_i inf hinf
     split at hs
     ·cases hs
     ·rename_i hsz
      split at hs
      ·cases hs
      ·rename_i hw
       split at hs
       ·cases hs
       ·rename_i hsc
        cases hs
        have hc := jcq hy hna
        have hsz' : (ja2 (ρ y)).length = inf.size := Nat.eq_of_beq_eq_true hsz
        have hsz2 : (ρ' y).cells.size = inf.size := by have := hc.size; simp at this; omega
        obtain ⟨b, s, hb, w', r1, r2, r3⟩ := jel (P := P) (vs' := (ρ' y).cells.toList) h hob hw hsc (by simpa using hc)
        have hxa : ρ' x = .pointer (some ⟨b, of, none⟩) := by
         generalize ρ' x = q at hx
         cases hx with
         | ptr e2 => rw [hb] at e2; cases e2; rfl
         | ptrDead a' e2 => rw [show J i = _ from hb] at e2; cases e2
        refine ⟨J, undef, w', .inr ⟨?_, rfl⟩, jdV, r2, r3⟩
        simp only [execOp, ho, Instr.storeAt, hxa, Instr.sureAddr, Sem.run_bind, Sem.run_pure, Result.andThen_ok, storeVar, jba hinf]
        rw [if_neg (by simpa using hsz2)]
        simp only [r1, Result.andThen_ok]
  ·cases hs
 ·cases hs
end
end Go.Proofs.YtnafmgiaifbhgaaGreatDoor.Ev
