/-
  The evaluator, part V: what is checked of a region that draws its order; the run's trace.
-/
import Derived.Test.YtnafmgiaifbhgaaGreatDoorEvU
set_option linter.unusedSimpArgs false
set_option linter.unusedVariables false
namespace Go.Proofs.YtnafmgiaifbhgaaGreatDoor.Ev
noncomputable section
variable {P : Program}
theorem jeC : ∀ {l : List Nat}, nodupB l = true → l.Nodup
 | [], _ => List.nodup_nil
 | a :: l, h => by
   simp only [nodupB] at h
   split at h
   ·cases h
   ·rename_i hc
    exact List.nodup_cons.2 ⟨by simpa using hc, jeC h⟩
structure DOk (ops : List Oper) (ms ord : List Nat) (x : Option (Nat × Nat)) : Prop where
 len : ord.length = ops.length
 all : ∀ i, i < ops.length → i ∈ ord
 lt : ∀ i ∈ ord, i < ops.length
 nd : ord.Nodup
 aft : ∀ j o, ops[j]? = some o → ∀ e ∈ o.after, Region.binds .any e = true → bef ms e.on j = true
 on : ∀ (j : Nat) (o : Oper), ops[j]? = some o → ∀ e ∈ o.after, Region.binds .any e = true → e.on < ops.length
 conv : ∀ j o, ops[j]? = some o → ∀ i, i < ops.length → bef ms i j = true → (∃ a, x = some (a, j) ∧ (i = a ∨ bef ms i a = true)) ∨ ∃ e ∈ o.after, Region.binds .any e = true ∧ (i = e.on ∨ bef ms i e.on = true)
 slots : ∀ i o d, ops[i]? = some o → o.dst = some d → ∀ j o', ops[j]? = some o' → d ∈ tmpsOf ops o' → i = j ∨ bef ms i j = true ∨ bef ms j i = true
 pre : ∀ (q j : Nat), ord[q]? = some j → ∀ (i : Nat), i < ops.length → bef ms i j = true → ∃ k : Nat, k < q ∧ ord[k]? = some i
 hvy : ∀ (q j : Nat) (o : Oper), ord[q]? = some j → ops[j]? = some o → heavy o.op = true → ∀ (k i : Nat), k < q → ord[k]? = some i → bef ms i j = true
theorem go_spec {ms : List Nat} {ops : List Oper} : ∀ (rest done : List Nat), drawOk.go ms ops done rest = true → ∀ (q j : Nat), rest[q]? = some j →
  (∀ (i : Nat), i < ops.length → bef ms i j = true → i ∈ done ∨ ∃ k : Nat, k < q ∧ rest[k]? = some i) ∧
  (∀ o, ops[j]? = some o → heavy o.op = true → (∀ i ∈ done, bef ms i j = true) ∧ ∀ (k i : Nat), k < q → rest[k]? = some i → bef ms i j = true)
 | [], done, _, q, j, h => by simp at h
 | a :: rest, done, h, q, j, hq => by
   simp only [drawOk.go, Bool.and_eq_true] at h
   obtain ⟨⟨h1, h2⟩, h3⟩ := h
   match q with
   | 0 =>
     simp at hq
     subst hq
     refine ⟨fun i hi hb => .inl ?_, fun o ho hh => ?_⟩
     ·have := List.all_eq_true.1 h1 i (by simpa using hi)
      simpa [hb] using this
     ·rw [ho] at h2
      simp only [hh] at h2
      exact ⟨fun i hi => List.all_eq_true.1 h2 i hi, fun k i hk => by omega⟩
   | q + 1 =>
     have hq' : rest[q]? = some j := by simpa using hq
     obtain ⟨g1, g2⟩ := go_spec rest (a :: done) h3 q j hq'
     refine ⟨fun i hi hb => ?_, fun o ho hh => ?_⟩
     ·rcases g1 i hi hb with g | ⟨k, hk, hr⟩
      ·rcases List.mem_cons.1 g with rfl | g
       ·exact .inr ⟨0, by omega, by simp⟩
       ·exact .inl g
      ·exact .inr ⟨k + 1, by omega, by simpa using hr⟩
     ·obtain ⟨g3, g4⟩ := g2 o ho hh
      refine ⟨fun i hi => g3 i (by simp [hi]), fun k i hk hr => ?_⟩
      match k with
      | 0 => simp at hr; subst hr; exact g3 _ (by simp)
      | k + 1 => exact g4 k i (by omega) (by simpa using hr)
theorem jiY {ms : List Nat} {x : Option (Nat × Nat)} {i j : Nat} (h : xedge ms x i j = true) : ∃ a, x = some (a, j) ∧ (i = a ∨ bef ms i a = true) := by
 unfold xedge at h
 split at h
 ·cases h
 ·rename_i a b
  simp only [Bool.and_eq_true, Bool.or_eq_true] at h
  obtain ⟨h1, h2⟩ := h
  obtain rfl := Nat.eq_of_beq_eq_true h1
  exact ⟨a, rfl, h2.imp (fun e => Nat.eq_of_beq_eq_true e) id⟩
theorem jjg {ops : List Oper} {ms ord : List Nat} {x : Option (Nat × Nat)} (h : drawOk.okAll ops ops.length ms ord x (List.range ops.length) = true) : DOk ops ms ord x := by
 unfold drawOk.okAll at h
 simp only [Bool.and_eq_true] at h
 obtain ⟨h1, h2, h3, h4, h5, h6, h7⟩ := h
 have hgo := go_spec ord [] h7
 refine ⟨Nat.eq_of_beq_eq_true h1, fun i hi => ?_, fun i hi => ?_, jeC h4, fun j o hj e he hb => ?_, fun j o hj e he hb => ?_, fun j o hj i hi hb => ?_, fun i o d hi hd j o' hj hs => ?_, fun q j hq i hi hb => ?_, fun q j o hq ho hh k i hk hr => ?_⟩
 ·have := List.all_eq_true.1 h2 i (by simpa using hi)
  simpa using this
 ·have := List.all_eq_true.1 h3 i hi
  simpa using this
 ·have hlt : j < ops.length := (List.getElem?_eq_some_iff.1 hj).1
  have := List.all_eq_true.1 h5 j (by simpa using hlt)
  simp only [drawOk.okAfter, hj, Bool.and_eq_true] at this
  have := List.all_eq_true.1 this.1 e (by simpa using he)
  simp only [hb, Bool.not_true, Bool.false_or, Bool.and_eq_true] at this
  exact this.1
 ·have hlt : j < ops.length := (List.getElem?_eq_some_iff.1 hj).1
  have := List.all_eq_true.1 h5 j (by simpa using hlt)
  simp only [drawOk.okAfter, hj, Bool.and_eq_true] at this
  have := List.all_eq_true.1 this.1 e (by simpa using he)
  simp only [hb, Bool.not_true, Bool.false_or, Bool.and_eq_true] at this
  simpa using this.2
 ·have hlt : j < ops.length := (List.getElem?_eq_some_iff.1 hj).1
  have := List.all_eq_true.1 h5 j (by simpa using hlt)
  simp only [drawOk.okAfter, hj, Bool.and_eq_true] at this
  have := List.all_eq_true.1 this.2 i (by simpa using hi)
  simp only [hb, Bool.not_true, Bool.false_or, List.any_eq_true, Bool.and_eq_true, Bool.or_eq_true] at this
  rcases this with hxe | ⟨e, he, hbd, hor⟩
  ·exact .inl (jiY hxe)
  ·exact .inr ⟨e, by simpa using he, hbd, hor.imp (fun x => Nat.eq_of_beq_eq_true x) id⟩
 ·have hlt : i < ops.length := (List.getElem?_eq_some_iff.1 hi).1
  have hltj : j < ops.length := (List.getElem?_eq_some_iff.1 hj).1
  have := List.all_eq_true.1 h6 i (by simpa using hlt)
  simp only [drawOk.okSlots, hi, hd] at this
  have := List.all_eq_true.1 this j (by simpa using hltj)
  simp only [hj] at this
  have hc : (tmpsOf ops o').contains d = true := by simpa using hs
  simp only [hc, Bool.not_true, Bool.or_false, ordered, Bool.or_eq_true] at this
  exact this.imp (fun x => Nat.eq_of_beq_eq_true x) id
 ·rcases (hgo q j hq).1 i hi hb with g | g
  ·cases g
  ·exact g
 ·exact ((hgo q j hq).2 o ho hh).2 k i hk hr
theorem jh7 {ops : List Oper} (h : drawOk ops = true) : DOk ops (masks ops) (alap ops) none := jjg h
theorem jhl {a b : List UInt8} (h : jc5 a b = true) : a = b := by
 rw [jet] at h; simpa using h
theorem jhq {a b : Addr} (h : addrEq a b = true) : a = b := by
 unfold addrEq at h
 split at h
 ·split at h
  ·rename_i e
   have e1 := Nat.eq_of_beq_eq_true e
   have e2 := Nat.eq_of_beq_eq_true h
   rw [e1, e2]
  ·cases h
 ·cases h
theorem jfs {x y : Array Value} (h : x.toList = y.toList) : x = y := by cases x; cases y; simp at h; rw [h]
theorem jfq {x y : ByteArray} (h : x.data.toList = y.data.toList) : x = y := by
 cases x with | mk x => cases y with | mk y => cases x; cases y; simp at h; rw [h]
theorem jf8 {n : Nat} (ih : ∀ u v, veq n u v = true → u = v) : ∀ (x y : List Value), veq.veqs n x y = true → x = y
 | [], [], _ => rfl
 | [], b :: y, h => by simp [veq.veqs] at h
 | a :: x, [], h => by simp [veq.veqs] at h
 | a :: x, b :: y, h => by
   simp only [veq.veqs] at h
   split at h
   ·rename_i e
    rw [ih a b e, jf8 ih x y h]
   ·cases h
theorem jip : ∀ (n : Nat) (u v : Value), veq n u v = true → u = v := by
 intro n
 induction n with
 | zero => intro u v h; simp [veq] at h
 | succ n ih =>
   intro u v h
   unfold veq at h
   split at h <;> first
    | rfl
    | (cases h; done)
    | (split at h
       ·rename_i e; have e1 := of_decide_eq_true e; have e2 := of_decide_eq_true h; rw [e1, e2]
       ·cases h)
    | (have e1 := of_decide_eq_true h; rw [e1])
    | (rw [jfq (jhl h)])
    | (split at h
       ·rename_i e; have e1 := of_decide_eq_true e; have e2 := Nat.eq_of_beq_eq_true h; rw [e1, e2]
       ·cases h)
    | (rw [jhq h])
    | (split at h
       ·rename_i e; have e1 := Nat.eq_of_beq_eq_true e; have e2 := Nat.eq_of_beq_eq_true h; rw [e1, e2]
       ·cases h)
    | (split at h
       ·rename_i e
        split at h
        ·rename_i e'; rw [jhq e, Nat.eq_of_beq_eq_true e', Nat.eq_of_beq_eq_true h]
        ·cases h
       ·cases h)
    | (rw [Nat.eq_of_beq_eq_true h])
    | (split at h
       ·rename_i e; rw [Nat.eq_of_beq_eq_true e, ih _ _ h]
       ·cases h)
    | (rw [jfs (jf8 ih _ _ h)])
theorem eqVal_eq {u v : Value} (h : eqVal u v = true) : u = v := by
 unfold eqVal at h
 split at h
 ·rename_i e; exact jip 5 _ _ e
 ·exact @of_decide_eq_true _ (Classical.propDecidable _) h
end
end Go.Proofs.YtnafmgiaifbhgaaGreatDoor.Ev
