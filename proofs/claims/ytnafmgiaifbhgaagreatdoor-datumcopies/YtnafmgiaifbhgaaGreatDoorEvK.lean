/-
  The evaluator, part K: texts to bytes, maps and iterators made; all operations that make a new object together. No conditions.
-/
import Derived.Test.YtnafmgiaifbhgaaGreatDoorEvJ
set_option linter.unusedSimpArgs false
set_option linter.unusedVariables false
namespace Go.Proofs.YtnafmgiaifbhgaaGreatDoor.Ev
noncomputable section
variable {P : Program} {J : Nat → Loc}
theorem jd0 (need old : Nat) (e : TypeId) (w : World) :
  ∃ c, need ≤ c ∧ (choose (.appendCap need old e)).run P w = .ok c { w with drawn := w.drawn + 1 } :=
 ⟨need + w.tape w.drawn (.appendCap need old e) % (2 ^ 63 - need), by omega, by
  simp [choose, Sem.run, Question.forced, Question.cut]⟩
theorem jhb (w : World) (C : Array Value) (e : TypeId) : ((w.alloc (.cells C e)).freeze ⟨w.heap.size, C.size, none⟩ 1).heap = w.heap.push (.cells C e (C.size, C.size + 1)) := by
 have e1 : (w.alloc (.cells C e)).heap = w.heap.push (.cells C e) := rfl
 unfold World.freeze
 rw [if_neg (by omega)]
 apply Array.ext_getElem?
 intro i
 simp only [e1, Array.getElem?_modify, Array.getElem?_push]
 by_cases h : w.heap.size = i
 ·subst h; simp
 ·rw [if_neg h, if_neg (fun h2 => h h2.symm), if_neg (fun h2 => h h2.symm)]
def jcJ (P : Program) (src dst : TypeId) (v : Value) : Option (Ob × (Nat → Value)) :=
 match v with
 | .string s => match P.underlying src with
   | none => none
   | some us => match P.underlying dst with
     | some (.slice e) => match P.underlying e with
       | some (.int .u8) => some (.cells s.data.toList.length e (s.data.toList.map fun b => .int .u8 b.toNat).toArray .e 0 0 true true, fun id => .slice (some ⟨id, 0, none⟩) s.data.toList.length 3)
       | _ => none
     | _ => none
 | _ => none
theorem jdF {ρ ρ' : Operand → Value} (hρ : ∀ x, VRel J (ρ x) (ρ' x)) {o : Oper} {src dst : TypeId} {x : Operand} {ob : Ob} {mk : Nat → Value} (ho : o.op = .convert src dst x)
  (h : jcJ P src dst (ρ x) = some (ob, mk)) (w : World) : ∃ o' s v' w', Makes P J ρ' o ob mk w o' s v' w' := by
 have hx := hρ x
 unfold jcJ at h
 split at h
 ·rename_i s e
  rw [e] at hx
  split at h
  ·cases h
  ·rename_i us hus
   split at h
   ·rename_i el hd
    split at h
    ·rename_i he
     cases h
     obtain ⟨c, hc, hr⟩ := jd0 (P := P) s.size 0 el w
     have hlen : s.data.toList.length = s.size := by rw [Array.length_toList]; rfl
     obtain ⟨C, hC⟩ : ∃ C : Array Value, C = (s.data.map fun b => Value.int .u8 b.toNat) ++ Array.replicate (c - s.size) (.int .u8 0) := ⟨_, rfl⟩
     have hsz : s.data.size = s.size := rfl
     have hCs : C.size = c := by rw [hC, Array.size_append, Array.size_map, Array.size_replicate, hsz]; omega
     obtain ⟨w', hw', hwh⟩ : ∃ w', w' = (({ w with drawn := w.drawn + 1 } : World).alloc (.cells C el)).freeze ⟨w.heap.size, C.size, none⟩ 1 ∧ w'.heap = w.heap.push (.cells C el (C.size, C.size + 1)) := by
      exact ⟨_, rfl, jhb { w with drawn := w.drawn + 1 } C el⟩
     refine ⟨.cells C el (C.size, C.size + 1), C.size, .slice (some ⟨w.heap.size, 0, none⟩) s.size c, w', ?_, hwh, ?_, ?_, ?_, fun J' id hE hid => ⟨?_, ?_⟩⟩
     ·have hshape : (shape w.heap.size).run P (({ w with drawn := w.drawn + 1 } : World).alloc (.cells C el)) = .ok (some (el, C.size)) (({ w with drawn := w.drawn + 1 } : World).alloc (.cells C el)) := by
       simp only [shape, Sem.run, World.shape?]
       rw [show (({ w with drawn := w.drawn + 1 } : World).alloc (.cells C el)).heap[w.heap.size]? = some (.cells C el) from heap_alloc_new { w with drawn := w.drawn + 1 } _]
      have hstb : (Conv.stringToBytes el s).run P w = .ok (.slice (some ⟨w.heap.size, 0, none⟩) s.size c) w' := by
       simp only [Conv.stringToBytes, Sem.run_bind, hr, Result.andThen_ok]
       rw [← hC]
       rw [jca]
       simp only [Result.andThen_ok, markStringish, Sem.run_bind, hshape, freeze, Sem.run, Sem.run_pure]
       rw [hw']
      simp only [execOp, ho, convert, Sem.run_bind, jaF hus, jaF hd, Result.andThen_ok, jbq hx]
      cases us <;> simp only [jaF he, Result.andThen_ok, hstb, Sem.run_pure]
     ·rw [hw']; unfold World.freeze; rw [if_neg (by omega)]; rfl
     ·rw [hw']; unfold World.freeze; rw [if_neg (by omega)]; rfl
     ·rw [hw']; unfold World.freeze; rw [if_neg (by omega)]; rfl
     ·simp only [hlen]
      exact .slice hid (.inr ⟨rfl, hc, by show 0 + c * (3 / 2) ≤ C.size; omega⟩)
     ·refine ⟨C, (C.size, C.size + 1), by rw [hwh]; simp, rfl, by omega, (fun h => by cases h), fun i hi => ?_, .inr (.inl ⟨rfl, Nat.le_refl _⟩)⟩
      have hi' : i < s.data.size := by simpa using hi
      refine ⟨.int .u8 (s.data[i]).toNat, ?_, ?_⟩
      ·rw [hC, Array.getElem?_append_left (by simpa using hi'), Array.getElem?_map, Array.getElem?_eq_getElem hi']
       rfl
      ·have hm : Nat.mod i (s.data.toList.map fun b => Value.int .u8 b.toNat).toArray.size = i := by
        show i % _ = i; rw [Nat.mod_eq_of_lt]; simpa using hi'
       simp only [cellAt, T.get_e, hm]
       have : (s.data.toList.map fun b => Value.int .u8 b.toNat).toArray.getD i undef = .int .u8 (s.data[i]).toNat := by
        rw [Array.getD_eq_getD_getElem?, List.getElem?_toArray, List.getElem?_map, Array.getElem?_toList, Array.getElem?_eq_getElem hi']
        rfl
       rw [this]
       exact .int _ _
    ·cases h
   ·cases h
 ·cases h
def jhu (P : Program) (t : TypeId) (v : Value) : Option (Ob × (Nat → Value)) :=
 match v with
 | .string s => match P.underlying t with
   | some .string => some (.siter s 0, fun id => .pointer (some ⟨id, 0, none⟩))
   | _ => none
 | _ => none
theorem run_newObj (ob : Obj) (w : World) : (newObj ob).run P w = .ok w.heap.size (w.alloc ob) := by
 simp [newObj, Sem.run, World.alloc_eq]
theorem jht {ρ ρ' : Operand → Value} (hρ : ∀ x, VRel J (ρ x) (ρ' x)) {o : Oper} {t : TypeId} {x : Operand} {ob : Ob} {mk : Nat → Value} (ho : o.op = .range t x)
  (h : jhu P t (ρ x) = some (ob, mk)) (w : World) : ∃ o' s v' w', Makes P J ρ' o ob mk w o' s v' w' := by
 have hx := hρ x
 unfold jhu at h
 split at h
 ·rename_i s e
  rw [e] at hx
  split at h
  ·rename_i hu
   cases h
   refine ⟨.stringIter s 0, 0, .pointer (some ⟨w.heap.size, 0, none⟩), w.alloc (.stringIter s 0), ?_, rfl, rfl, rfl, rfl, fun J' id hE hid => ⟨.ptr hid, heap_alloc_new w _⟩⟩
   simp only [execOp, ho, jbq hx, Instr.range, Sem.run_bind, jaF hu, Result.andThen_ok, Sem.run_pure, run_newObj]
  ·cases h
 ·cases h
theorem jfL {ρ' : Operand → Value} {o : Oper} {t : TypeId} (ho : o.op = .makeMap t none) (w : World) :
  ∃ o' s v' w', Makes P J ρ' o (.map [] 0) (fun id => .map (some id)) w o' s v' w' := by
 refine ⟨.map #[] 0, 0, .map (some w.heap.size), w.alloc (.map #[] 0), ?_, rfl, rfl, rfl, rfl, fun J' id hE hid => ⟨.map hid, #[], heap_alloc_new w _, rfl, fun i k v n e => by simp at e⟩⟩
 simp only [execOp, ho, Instr.makeMap, Option.map_none, Sem.run_bind, Result.andThen_ok, Sem.run_pure, run_newObj]
def aA (P : Program) (ρ : Operand → Value) (o : Oper) : Option (Ob × (Nat → Value)) :=
 match o.op with
 | .alloc t => jdJ P t
 | .box t x => aBox t (ρ x)
 | .buildSlice t len parts => jbd P ρ t len parts
 | .makeSlice t l c => jcT P t (ρ l) (ρ c)
 | .convert s d x => jcJ P s d (ρ x)
 | .range t x => jhu P t (ρ x)
 | .makeMap _ none => some (.map [] 0, fun id => .map (some id))
 | _ => none
theorem aA_sound {ρ ρ' : Operand → Value} (hρ : ∀ x, VRel J (ρ x) (ρ' x)) {o : Oper} {ob : Ob} {mk : Nat → Value} (h : aA P ρ o = some (ob, mk)) (w : World) :
  ∃ o' s v' w', Makes P J ρ' o ob mk w o' s v' w' := by
 unfold aA at h
 split at h
 ·rename_i ho; exact jhD ho h w
 ·rename_i ho; exact jjR hρ ho h w
 ·rename_i ho; exact jex hρ ho h w
 ·rename_i ho; exact jeG hρ ho h w
 ·rename_i ho; exact jdF hρ ho h w
 ·rename_i ho; exact jht hρ ho h w
 ·rename_i ho; cases h; exact jfL ho w
 ·cases h
theorem Makes.step {ρ' : Operand → Value} {o : Oper} {ob : Ob} {mk : Nat → Value} {w : World} {o' : Obj} {s : Nat} {v' : Value} {w' : World} (h : Makes P J ρ' o ob mk w o' s v' w') {μ : Mem} (hr : Rel J μ w)
  {i nx : Nat} (hu : J i = .unborn) (hi : i < nx) (hnx : μ.next ≤ nx) :
  VRel (upd J i (.at w.heap.size s)) (mk i) v' ∧ Rel (upd J i (.at w.heap.size s)) ⟨μ.obs.set i ob, nx⟩ w' := by
 obtain ⟨h1, h2⟩ := h.rel (upd J i (.at w.heap.size s)) i (jc2 _ hu) (upd_same _ _ _)
 refine ⟨h1, ?_⟩
 have : Rel (upd J i (.at w.heap.size s)) ⟨μ.obs.set i ob, nx⟩ (w.alloc o') :=
  hr.alloc s ob o' hu hi hnx (h2.keep (Ext.refl _) (by rw [h.heap]; rfl))
 exact this.heap (by rw [h.heap]; rfl)
end
end Go.Proofs.YtnafmgiaifbhgaaGreatDoor.Ev
