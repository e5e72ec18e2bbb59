/-
  The evaluator, part J: operations that make a new object. No conditions.
-/
import Derived.Test.YtnafmgiaifbhgaaGreatDoorEvI
set_option linter.unusedSimpArgs false
set_option linter.unusedVariables false
namespace Go.Proofs.YtnafmgiaifbhgaaGreatDoor.Ev
noncomputable section
variable {P : Program} {J : Nat → Loc}
structure Makes (P : Program) (J : Nat → Loc) (ρ' : Operand → Value) (o : Oper) (ob : Ob) (mk : Nat → Value) (w : World) (o' : Obj) (s : Nat) (v' : Value) (w' : World) : Prop where
 run : (execOp ρ' o).run P w = .ok (.value v') w'
 heap : w'.heap = w.heap.push o'
 os : w'.os = w.os
 tape : w'.tape = w.tape
 output : w'.output = w.output
 rel : ∀ J' id, Ext J J' → J' id = .at w.heap.size s → VRel J' (mk id) v' ∧ ObRel J' w' w.heap.size s ob
theorem ARel.mono {J' : Nat → Loc} {x x' : Array Value} (h : ARel J x x') (he : Ext J J') : ARel J' x x' :=
 ⟨h.size, fun i a b ha hb => (h.at_ i a b ha hb).mono he⟩
theorem jeb {w : World} {l : List Value} {x' : Array Value} {t : TypeId} (h : ARel J l.toArray x') :
  ObRel J (w.alloc (.cells x' t)) w.heap.size x'.size (.cells l.length t l.toArray .e 0 0 false false) := by
 have hs : l.length = x'.size := by simpa using h.size
 refine ⟨x', (0, 0), heap_alloc_new w _, rfl, by omega, fun _ => hs, fun i hi => ?_, .inl rfl⟩
 refine ⟨x'[i], Array.getElem?_eq_getElem (by omega), ?_⟩
 refine h.at_ i _ _ ?_ (Array.getElem?_eq_getElem (by omega))
 have hm : Nat.mod i l.toArray.size = i := by show i % _ = i; rw [Nat.mod_eq_of_lt]; simpa using hi
 simp only [cellAt, T.get_e, hm]
 rw [Array.getElem?_eq_getElem (by simpa using hi), Array.getD, dif_pos (by simpa using hi)]
 rfl
theorem jca {t : TypeId} {x : Array Value} (w : World) : (newRow t x).run P w = .ok ⟨w.heap.size, 0, none⟩ (w.alloc (.cells x t)) := by
 simp [newRow, newObj, Sem.run_bind, Sem.run, Result.andThen, World.alloc_eq, Sem.run_pure]
def jdJ (P : Program) (t : TypeId) : Option (Ob × (Nat → Value)) :=
 match jbh P t with
 | some z => some (.cells (ja2 z).length t (ja2 z).toArray .e 0 0 false false, fun id => .pointer (some ⟨id, 0, none⟩))
 | none => none
theorem jhD {ρ' : Operand → Value} {o : Oper} {t : TypeId} {ob : Ob} {mk : Nat → Value} (ho : o.op = .alloc t) (h : jdJ P t = some (ob, mk)) (w : World) :
  ∃ o' s v' w', Makes P J ρ' o ob mk w o' s v' w' := by
 unfold jdJ at h
 split at h
 ·rename_i z hz
  cases h
  have hzp := (jbj hz default).2
  refine ⟨.cells z.cells t, z.cells.size, .pointer (some ⟨w.heap.size, 0, none⟩), w.alloc (.cells z.cells t), ?_, rfl, rfl, rfl, rfl, fun J' id he hid => ⟨.ptr hid, ?_⟩⟩
  ·simp only [execOp, ho, Instr.alloc, Sem.run_bind, (jbj hz w).1, Result.andThen_ok, newVar, jca, Sem.run_pure]
  ·exact jeb (jcq (jbr 5 hzp) (jcH hzp))
 ·cases h
def aBox (t : TypeId) (v : Value) : Option (Ob × (Nat → Value)) :=
 match jdi v with
 | true => some (.cells (ja2 v).length t (ja2 v).toArray .e 0 0 false false, fun id => .pointer (some ⟨id, 0, none⟩))
 | false => none
theorem jjR {ρ ρ' : Operand → Value} (hρ : ∀ x, VRel J (ρ x) (ρ' x)) {o : Oper} {t : TypeId} {x : Operand} {ob : Ob} {mk : Nat → Value} (ho : o.op = .box t x)
  (h : aBox t (ρ x) = some (ob, mk)) (w : World) : ∃ o' s v' w', Makes P J ρ' o ob mk w o' s v' w' := by
 unfold aBox at h
 split at h
 ·rename_i hn
  cases h
  refine ⟨.cells (ρ' x).cells t, (ρ' x).cells.size, .pointer (some ⟨w.heap.size, 0, none⟩), w.alloc (.cells (ρ' x).cells t), ?_, rfl, rfl, rfl, rfl, fun J' id he hid => ⟨.ptr hid, ?_⟩⟩
  ·simp only [execOp, ho, Instr.box, Sem.run_bind, Result.andThen_ok, newVar, jca, Sem.run_pure]
  ·exact jeb ((jcq (hρ x) hn).mono he)
 ·cases h
def tile (zero : List Value) (n : Nat) : List Value := (List.range n).map fun i => zero.toArray.getD (Nat.mod i zero.length) undef
theorem jho {z : List Value} {z' : Array Value} (h : ARel J z.toArray z') {n : Nat} (hz : 0 < z.length ∨ n = 0) :
  ARel J (tile z n).toArray ((Array.range n).map (z'[· % z'.size]!)) where
 size := by simp [tile]
 at_ i a b ha hb := by
  have hs : z.length = z'.size := by simpa using h.size
  simp only [tile, List.getElem?_toArray, List.getElem?_map, Array.getElem?_map] at ha hb
  have hi : i < n := by
   rcases Nat.lt_or_ge i n with h1 | h1
   ·exact h1
   ·rw [List.getElem?_eq_none (by simpa using h1)] at ha; cases ha
  have hz' : 0 < z.length := by omega
  rw [List.getElem?_range hi] at ha
  rw [Array.getElem?_eq_getElem (by simpa using hi)] at hb
  simp at ha hb
  have hm : i % z.length < z.length := Nat.mod_lt _ hz'
  have hm' : i % z'.size < z'.size := by rw [← hs]; exact hm
  rw [show Nat.mod i z.length = i % z.length from rfl] at ha
  subst ha hb
  refine h.at_ (i % z.length) _ _ ?_ ?_
  ·simp [hm]
  ·rw [hs, Array.getElem?_eq_getElem hm', getElem!_pos z' (i % z'.size) hm']
def jbd (P : Program) (ρ : Operand → Value) (t : TypeId) (len : Nat) (parts : Array (Nat × Operand)) : Option (Ob × (Nat → Value)) :=
 match P.underlying t with
 | some (.slice e) => match P.info? e with
   | some inf => match Nat.ble (Nat.mul len inf.size) 16777216 with
     | false => none
     | true => match Nat.beq (Nat.mul len inf.size) 0 with
       | true => match parts.toList with
         | [] => some (.cells 0 e #[] .e 0 0 false false, fun id => .slice (some ⟨id, 0, none⟩) len (Nat.mul 2 len))
         | _ :: _ => none
       | false => match jbh P e with
         | none => none
         | some z => match Nat.beq (ja2 z).length 0 with
           | true => none
           | false => match jc7 (fun i => some (Nat.mul i inf.size, inf.size)) (tile (ja2 z) (Nat.mul len inf.size)) (parts.toList.map fun p => (p.1, ρ p.2)) with
             | some cs => some (.cells cs.length e cs.toArray .e 0 0 false false, fun id => .slice (some ⟨id, 0, none⟩) len (Nat.mul 2 len))
             | none => none
   | none => none
 | _ => none
theorem jex {ρ ρ' : Operand → Value} (hρ : ∀ x, VRel J (ρ x) (ρ' x)) {o : Oper} {t : TypeId} {len : Nat} {parts : Array (Nat × Operand)} {ob : Ob} {mk : Nat → Value} (ho : o.op = .buildSlice t len parts)
  (h : jbd P ρ t len parts = some (ob, mk)) (w : World) : ∃ o' s v' w', Makes P J ρ' o ob mk w o' s v' w' := by
 unfold jbd at h
 obtain ⟨hl, hp⟩ := jg2 hρ parts
 split at h
 ·rename_i e hu
  split at h
  ·rename_i inf hinf
   split at h
   ·cases h
   ·rename_i hle
    have hle' : len * inf.size ≤ 16777216 := Nat.le_of_ble_eq_true hle
    split at h
    ·rename_i h0
     have h0' : len * inf.size = 0 := Nat.eq_of_beq_eq_true h0
     split at h
     ·rename_i hpa
      cases h
      have hpe : parts = #[] := by rw [← Array.toList_eq_nil_iff]; exact hpa
      subst hpe
      refine ⟨.cells #[] e, 0, .slice (some ⟨w.heap.size, 0, none⟩) len len, w.alloc (.cells #[] e), ?_, rfl, rfl, rfl, rfl, fun J' id he hid => ⟨.slice hid (.inl ⟨by show 2 * len % 2 = 0; omega, by show len = 2 * len / 2; omega⟩), ?_⟩⟩
      ·have h24 : ¬ (len * inf.size > 2 ^ 24) := by omega
       have em : ∀ f : Nat → Value, Array.map f (Array.range 0) = #[] := fun f => by simp
       have h24' : ¬ (0 > 2 ^ 24) := by omega
       simp only [execOp, ho, Instr.buildSlice, Sem.run_bind, jaF hu, jba hinf, Result.andThen_ok, h0', if_neg h24', if_true, List.map_nil, em, Sem.run_pure, jca, Array.map_empty, List.map_toArray, Instr.fill, Array.toList_empty]
      ·exact jeb (l := []) (x' := #[]) ⟨rfl, fun i a b h => by simp at h⟩
     ·cases h
    ·rename_i h0
     have h0' : len * inf.size ≠ 0 := Nat.ne_of_beq_eq_false h0
     split at h
     ·cases h
     ·rename_i z hz
      split at h
      ·cases h
      ·rename_i hz0
       have hz0' : (ja2 z).length ≠ 0 := Nat.ne_of_beq_eq_false hz0
       split at h
       ·rename_i cs hcs
        cases h
        have hzp := (jbj hz default).2
        have hz2 : ARel J (ja2 z).toArray z.cells := jcq (jbr 5 hzp) (jcH hzp)
        obtain ⟨r', hr', hR⟩ := jdT _ _ _ _ _ (jho hz2 (n := len * inf.size) (.inl (by omega))) hl hp hcs
        have hr'' : Instr.fill (fun i => some (i * inf.size, inf.size)) ((Array.range (len * inf.size)).map (z.cells[· % z.cells.size]!)) (parts.map fun (i, x) => (i, ρ' x)).toList = some r' := hr'
        refine ⟨.cells r' e, r'.size, .slice (some ⟨w.heap.size, 0, none⟩) len len, w.alloc (.cells r' e), ?_, rfl, rfl, rfl, rfl, fun J' id he hid => ⟨.slice hid (.inl ⟨by show 2 * len % 2 = 0; omega, by show len = 2 * len / 2; omega⟩), ?_⟩⟩
        ·have h24 : ¬ (len * inf.size > 2 ^ 24) := by omega
         simp only [execOp, ho, Instr.buildSlice, Sem.run_bind, jaF hu, jba hinf, Result.andThen_ok, if_neg h24, if_neg h0', (jbj hz w).1, Sem.run_pure, hr'', jca]
        ·exact jeb (hR.mono he)
       ·cases h
  ·cases h
 ·cases h
def jcT (P : Program) (t : TypeId) (l c : Value) : Option (Ob × (Nat → Value)) :=
 match l, c with
 | .int _ (.ofNat ln), .int _ (.ofNat cn) => match P.underlying t with
   | some (.slice e) => match P.info? e with
     | some inf => match Nat.ble ln cn with
       | false => none
       | true => match Nat.ble cn 1073741824 with
         | false => none
         | true => match Nat.ble (Nat.mul cn inf.bytes) 1099511627776 with
           | false => none
           | true => match jbh P e with
             | none => none
             | some z => match Nat.beq (ja2 z).length inf.size with
               | false => none
               | true => some (.cells (Nat.mul cn inf.size) e (ja2 z).toArray .e 0 0 false false, fun id => .slice (some ⟨id, 0, none⟩) ln (Nat.mul 2 cn))
     | none => none
   | _ => none
 | _, _ => none
theorem run_askRoom {n : Nat} (h : n ≤ 2 ^ 47) (w : World) : (askRoom n).run P w = .ok () w := by
 unfold askRoom roomBytes
 rw [if_neg (by omega)]; rfl
theorem wrap_small {n : Nat} (h : n ≤ 1073741824) : IntKind.i64.wrap (Int.ofNat n) = Int.ofNat n :=
 IntWalk.i64_in _ ⟨by show (-9223372036854775808 : Int) ≤ (n : Int); omega, by show (n : Int) ≤ 9223372036854775807; omega⟩
theorem jeG {ρ ρ' : Operand → Value} (hρ : ∀ x, VRel J (ρ x) (ρ' x)) {o : Oper} {t : TypeId} {l c : Operand} {ob : Ob} {mk : Nat → Value} (ho : o.op = .makeSlice t l c)
  (h : jcT P t (ρ l) (ρ c) = some (ob, mk)) (w : World) : ∃ o' s v' w', Makes P J ρ' o ob mk w o' s v' w' := by
 have hl := hρ l
 have hc := hρ c
 unfold jcT at h
 split at h
 ·rename_i k1 ln k2 cn e1 e2
  rw [e1] at hl
  rw [e2] at hc
  split at h
  ·rename_i e hu
   split at h
   ·rename_i inf hinf
    split at h
    ·cases h
    ·rename_i h1
     have h1' : ln ≤ cn := Nat.le_of_ble_eq_true h1
     split at h
     ·cases h
     ·rename_i h2
      have h2' : cn ≤ 1073741824 := Nat.le_of_ble_eq_true h2
      split at h
      ·cases h
      ·rename_i h3
       have h3' : cn * inf.bytes ≤ 1099511627776 := Nat.le_of_ble_eq_true h3
       split at h
       ·cases h
       ·rename_i z hz
        split at h
        ·cases h
        ·rename_i hzs
         have hzs' : (ja2 z).length = inf.size := Nat.eq_of_beq_eq_true hzs
         cases h
         have hzp := (jbj hz default).2
         have hz2 : ∀ J' : Nat → Loc, ARel J' (ja2 z).toArray z.cells := fun J' => jcq (jbr 5 hzp) (jcH hzp)
         have hzc : z.cells.size = inf.size := by have := (hz2 J).size; simp at this; omega
         have htl : ARel J (tile (ja2 z) (cn * inf.size)).toArray ((Array.range (cn * inf.size)).map (z.cells[· % z.cells.size]!)) := by
          refine jho (hz2 J) ?_
          by_cases h0 : inf.size = 0
          ·right; rw [h0]; rfl
          ·left; omega
         refine ⟨.cells ((Array.range (cn * inf.size)).map (z.cells[· % z.cells.size]!)) e, cn * inf.size, .slice (some ⟨w.heap.size, 0, none⟩) ln cn,
          w.alloc (.cells ((Array.range (cn * inf.size)).map (z.cells[· % z.cells.size]!)) e), ?_, rfl, rfl, rfl, rfl, fun J' id he hid =>
           ⟨.slice hid (.inl ⟨by show 2 * cn % 2 = 0; omega, by show cn = 2 * cn / 2; omega⟩), ?_⟩⟩
         ·have hl' : ρ' l = .int k1 (ln : Int) := jbc hl
          have hc' : ρ' c = .int k2 (cn : Int) := jbc hc
          have w1 : IntKind.i64.wrap (cn : Int) = cn := wrap_small h2'
          have w2 : IntKind.i64.wrap (ln : Int) = ln := wrap_small (Nat.le_trans h1' h2')
          have hb1 : ((cn : Int) < 0) = False := by simp
          have hb2 : ((inf.bytes : Int) * (cn : Int) > 2 ^ 48) = False := by
           have e0 : (inf.bytes : Int) * (cn : Int) = ((cn * inf.bytes : Nat) : Int) := by rw [Nat.mul_comm]; rfl
           rw [e0]
           have : ((2 : Int) ^ 48) = 281474976710656 := by decide
           simp only [gt_iff_lt, eq_iff_iff, iff_false, Int.not_lt]
           omega
          have hb3 : ((ln : Int) < 0) = False := by simp
          have hb4 : ((ln : Int) > (cn : Int)) = False := by simp; omega
          have hroom : cn * inf.bytes ≤ 2 ^ 47 := by
           have : (2 : Nat) ^ 47 = 140737488355328 := by decide
           omega
          simp only [execOp, ho, hl', hc', Instr.makeSlice, asInt, asIntOf, Sem.run_bind, jaF hu, jcW hinf, Result.andThen_ok, Sem.run_pure, w1, w2, hb1, hb2, hb3, hb4,
           decide_false, Bool.or_false, Bool.false_eq_true, if_false, Int.toNat_natCast, run_askRoom hroom, jba hinf]
          by_cases h0 : cn * inf.size = 0
          ·have em : ∀ f : Nat → Value, Array.map f (Array.range 0) = #[] := fun f => by simp
           simp only [h0, em, if_true, Sem.run_pure, Result.andThen_ok, Sem.run_bind, jca]
          ·simp only [if_neg h0, Sem.run_bind, (jbj hz w).1, Sem.run_pure, Result.andThen_ok, jca]
         ·refine ⟨_, (0, 0), heap_alloc_new w _, by simp, Nat.le_refl _, fun _ => rfl, fun i hi => ?_, .inl rfl⟩
          have hi : i < cn * inf.size := hi
          have hm0 : 0 < inf.size := by
           rcases Nat.eq_zero_or_pos inf.size with h0 | h0
           ·rw [h0] at hi; simp at hi
           ·exact h0
          have hlt : i % (ja2 z).length < (ja2 z).length := Nat.mod_lt _ (by omega)
          have := (htl.mono he).at_ i ((ja2 z).toArray.getD (i % (ja2 z).length) undef) (z.cells[i % z.cells.size]!) (by
           simp only [tile, List.getElem?_toArray, List.getElem?_map, List.getElem?_range hi]; rfl) (by simp [hi])
          refine ⟨z.cells[i % z.cells.size]!, by simp [hi], ?_⟩
          simp only [cellAt, T.get_e]
          rw [show Nat.mod i (ja2 z).toArray.size = i % (ja2 z).length from rfl]
          exact this
   ·cases h
  ·cases h
 ·cases h
end
end Go.Proofs.YtnafmgiaifbhgaaGreatDoor.Ev
