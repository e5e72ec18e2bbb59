/-
  The evaluator, part C: plain values; what is reckoned without memory. No conditions.
-/
import Derived.Test.YtnafmgiaifbhgaaGreatDoorEvB
set_option linter.unusedSimpArgs false
set_option linter.unusedVariables false
namespace Go.Proofs.YtnafmgiaifbhgaaGreatDoor.Ev
noncomputable section
def jaS : Nat → Value → Bool
 | 0, _ => false
 | n + 1, v => match v with
   | .int _ _ => true
   | .bool _ => true
   | .string _ => true
   | .float _ _ => true
   | .complex _ _ _ => true
   | .pointer none => true
   | .slice none _ _ => true
   | .map none => true
   | .nilFunc => true
   | .nilIface => true
   | .iface _ x => jaS n x
   | .agg cs => cs.toList.all (jaS n)
   | .tuple cs => cs.toList.all (jaS n)
   | .func fn x y => match fn with
     | .func _ => x.toList.isEmpty && y.toList.isEmpty
     | _ => false
   | _ => false
theorem arr_eq {J : Nat → Loc} {n : Nat} (ih : ∀ {v v' : Value}, jaS n v = true → VRel J v v' → v' = v) {x x' : Array Value} (h : x.toList.all (jaS n) = true)
  (hx : x.size = x'.size) (hx' : ∀ (i : Nat) a b, x[i]? = some a → x'[i]? = some b → VRel J a b) : x' = x := by
 refine Array.ext hx.symm fun i h1 h2 => ?_
 refine ih ?_ (hx' i x[i] x'[i] (Array.getElem?_eq_getElem h2) (Array.getElem?_eq_getElem h1))
 rw [List.all_eq_true] at h
 exact h _ (by simp)
theorem jeK {J : Nat → Loc} : ∀ (n : Nat) {v v' : Value}, jaS n v = true → VRel J v v' → v' = v := by
 intro n
 induction n with
 | zero => intro v v' h; simp [jaS] at h
 | succ n ih =>
   intro v v' h hv
   cases hv with
   | any r v => simp [jaS] at h
   | bool b => rfl
   | int k n => rfl
   | float k n => rfl
   | complex k n m => rfl
   | string s => rfl
   | ptrNil => rfl
   | ptr e => simp [jaS] at h
   | ptrDead a' e => simp [jaS] at h
   | sliceNil l c => rfl
   | slice e hc => simp [jaS] at h
   | sliceDead a' c' e hc => simp [jaS] at h
   | mapNil => rfl
   | map e => simp [jaS] at h
   | mapDead b e => simp [jaS] at h
   | nilFunc => rfl
   | func hf hx hx' hy hy' =>
     rename_i fn fn' x x' y y'
     cases hf with
     | func f =>
       simp only [jaS, Bool.and_eq_true, List.isEmpty_iff] at h
       have h1 : x = #[] := by cases x; simp_all
       have h2 : y = #[] := by cases y; simp_all
       subst h1 h2
       have h1 : x' = #[] := Array.eq_empty_of_size_eq_zero (by rw [← hx]; simp)
       have h2 : y' = #[] := Array.eq_empty_of_size_eq_zero (by rw [← hy]; simp)
       rw [h1, h2]
     | _ => simp [jaS] at h
   | iface hx => rw [ih (by simpa [jaS] using h) hx]
   | nilIface => rfl
   | agg hx hx' => rw [arr_eq ih (by simpa only [jaS] using h) hx hx']
   | tuple hx hx' => rw [arr_eq ih (by simpa only [jaS] using h) hx hx']
theorem jiP {J : Nat → Loc} {n : Nat} (ih : ∀ {v : Value}, jaS n v = true → VRel J v v) {x : Array Value} (h : x.toList.all (jaS n) = true) :
  ∀ (i : Nat) a b, x[i]? = some a → x[i]? = some b → VRel J a b := by
 intro i a b ha hb
 rw [ha] at hb; cases hb
 refine ih ?_
 rw [List.all_eq_true] at h
 obtain ⟨hi, rfl⟩ := Array.getElem?_eq_some_iff.1 ha
 exact h _ (by simp)
theorem jbr {J : Nat → Loc} : ∀ (n : Nat) {v : Value}, jaS n v = true → VRel J v v := by
 intro n
 induction n with
 | zero => intro v h; simp [jaS] at h
 | succ n ih =>
   intro v h
   cases v with
   | bool b => exact .bool b
   | int k n => exact .int k n
   | float k n => exact .float k n
   | complex k a b => exact .complex k a b
   | string s => exact .string s
   | pointer a => cases a with | none => exact .ptrNil | some a => simp [jaS] at h
   | slice a l c => cases a with | none => exact .sliceNil l c | some a => simp [jaS] at h
   | map r => cases r with | none => exact .mapNil | some a => simp [jaS] at h
   | chan r => simp [jaS] at h
   | func fn x y =>
     cases fn with
     | func f =>
       simp only [jaS, Bool.and_eq_true, List.isEmpty_iff] at h
       have h1 : x = #[] := by cases x; simp_all
       have h2 : y = #[] := by cases y; simp_all
       subst h1 h2
       exact .func (.func _) rfl (fun i a b ha => by simp at ha) rfl (fun i a b ha => by simp at ha)
     | _ => simp [jaS] at h
   | nilFunc => exact .nilFunc
   | iface t x => exact .iface (ih (by simpa [jaS] using h))
   | nilIface => exact .nilIface
   | agg cs => exact .agg rfl (jiP ih (by simpa only [jaS] using h))
   | tuple cs => exact .tuple rfl (jiP ih (by simpa only [jaS] using h))
end
end Go.Proofs.YtnafmgiaifbhgaaGreatDoor.Ev
