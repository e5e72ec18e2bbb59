/-
  The evaluator, part M: append, copy. No conditions.
-/
import Derived.Test.YtnafmgiaifbhgaaGreatDoorEvL
set_option linter.unusedSimpArgs false
set_option linter.unusedVariables false
namespace Go.Proofs.YtnafmgiaifbhgaaGreatDoor.Ev
noncomputable section
variable {P : Program} {J : Nat → Loc}
def ja7 (μ : Mem) (size n : Nat) (v : Value) : Option (List Value) :=
 match v with
 | .slice none _ _ => some []
 | .slice (some ⟨i, o, none⟩) _ _ => match Nat.mul n size with
   | 0 => some []
   | k => match μ.obs.get i with
     | some (.cells m _ zero over _ _ _ _) => match Nat.ble (Nat.add o k) m with
       | true => some (jaE zero over o k)
       | false => none
     | some (.held c _ _) => match Nat.ble (Nat.add o k) c.size with
       | true => some (jaE (c.map strip) .e o k)
       | false => none
     | some (.pin p _ _ _) => match Nat.ble (Nat.add o k) p.length with
       | true => some (jaE p.toArray .e o k)
       | false => none
     | some (.rom p _) => match Nat.ble (Nat.add o k) p.length with
       | true => some (jaE p.toArray .e o k)
       | false => none
     | _ => none
 | .slice (some _) _ _ => match Nat.mul n size with
   | 0 => some []
   | _ => none
 | .string s => some ((s.data.toList.take n).map fun b => .int .u8 b.toNat)
 | _ => none
theorem jcV {μ : Mem} {w : World} (h : Rel J μ w) {size n : Nat} {v v' : Value} {l : List Value} (hv : VRel J v v') (hl : ja7 μ size n v = some l) :
  ∃ l' : Array Value, (∀ w' : World, w'.heap = w.heap → (Builtin.firstCells size n v').run P w' = .ok l' w') ∧ ARel J l.toArray l' := by
 have nothing : ∀ (a : Addr) (w : World), n * size = 0 → (loadCells a (n * size)).run P w = .ok #[] w := fun a w e => by rw [e]; rfl
 have hnil : ARel J ([] : List Value).toArray #[] := ⟨rfl, fun i a b ha => by simp at ha⟩
 unfold ja7 at hl
 split at hl
 ·cases hl
  cases hv
  exact ⟨#[], fun _ _ => rfl, hnil⟩
 ·rename_i i o ln c
  obtain ⟨a', c', hv', _, hcase⟩ := jbm hv
  rw [hv']
  split at hl
  ·rename_i h0
   cases hl
   exact ⟨#[], fun w' _ => by show (loadCells a' (n * size)).run P w' = _; exact nothing _ _ h0, hnil⟩
  ·split at hl
   ·rename_i m te zero over lo hi fx sh hob
    split at hl
    ·rename_i hle
     cases hl
     have hle' : o + n * size ≤ m := Nat.le_of_ble_eq_true hle
     obtain ⟨b, s, hb, _, hc⟩ := cell_of h hob
     have ha' : a' = ⟨b, o, none⟩ := by
      rcases hcase with ⟨i2, o2, b2, s2, e1, e2, e3, _⟩ | ⟨e1, _⟩
      ·cases e1; rw [hb] at e3; cases e3; exact e2
      ·rw [show J i = _ from hb] at e1; cases e1
     subst ha'
     obtain ⟨l', h1, h2⟩ := jbQ (P := P) (w := w) (zero := zero) (over := over) (b := b) (o := o) (n * size) 0 #[] (fun k hk => hc _ (by omega))
     refine ⟨l'.toArray, fun w' hw => ?_, h2⟩
     show (loadCells ⟨b, o, none⟩ (n * size)).run P w' = _
     simpa [loadCells] using h1 w' hw
    ·cases hl
   ·rename_i ch te fz hob
    split at hl
    ·rename_i hle
     cases hl
     have hle' : o + n * size ≤ ch.size := Nat.le_of_ble_eq_true hle
     obtain ⟨b, s, hb, hc⟩ := jea h (i := i) (n := ch.size) (zero := ch.map strip) (over := .e) (by rw [hob]; rfl)
     have ha' : a' = ⟨b, o, none⟩ := by
      rcases hcase with ⟨i2, o2, b2, s2, e1, e2, e3, _⟩ | ⟨e1, _⟩
      ·cases e1; rw [hb] at e3; cases e3; exact e2
      ·rw [show J i = _ from hb] at e1; cases e1
     subst ha'
     obtain ⟨l', h1, h2⟩ := jbQ (P := P) (w := w) (zero := ch.map strip) (over := .e) (b := b) (o := o) (n * size) 0 #[] (fun k hk => hc _ (by omega))
     refine ⟨l'.toArray, fun w' hw => ?_, h2⟩
     show (loadCells ⟨b, o, none⟩ (n * size)).run P w' = _
     simpa [loadCells] using h1 w' hw
    ·cases hl
   ·rename_i ch cc te fz hob
    split at hl
    ·rename_i hle
     cases hl
     have hle' : o + n * size ≤ ch.length := Nat.le_of_ble_eq_true hle
     obtain ⟨b, s, hb, hc⟩ := jea h (i := i) (n := ch.length) (zero := ch.toArray) (over := .e) (by rw [hob]; rfl)
     have ha' : a' = ⟨b, o, none⟩ := by
      rcases hcase with ⟨i2, o2, b2, s2, e1, e2, e3, _⟩ | ⟨e1, _⟩
      ·cases e1; rw [hb] at e3; cases e3; exact e2
      ·rw [show J i = _ from hb] at e1; cases e1
     subst ha'
     obtain ⟨l', h1, h2⟩ := jbQ (P := P) (w := w) (zero := ch.toArray) (over := .e) (b := b) (o := o) (n * size) 0 #[] (fun k hk => hc _ (by omega))
     refine ⟨l'.toArray, fun w' hw => ?_, h2⟩
     show (loadCells ⟨b, o, none⟩ (n * size)).run P w' = _
     simpa [loadCells] using h1 w' hw
    ·cases hl
   ·rename_i ch te hob
    split at hl
    ·rename_i hle
     cases hl
     have hle' : o + n * size ≤ ch.length := Nat.le_of_ble_eq_true hle
     obtain ⟨b, s, hb, hc⟩ := jea h (i := i) (n := ch.length) (zero := ch.toArray) (over := .e) (by rw [hob]; rfl)
     have ha' : a' = ⟨b, o, none⟩ := by
      rcases hcase with ⟨i2, o2, b2, s2, e1, e2, e3, _⟩ | ⟨e1, _⟩
      ·cases e1; rw [hb] at e3; cases e3; exact e2
      ·rw [show J i = _ from hb] at e1; cases e1
     subst ha'
     obtain ⟨l', h1, h2⟩ := jbQ (P := P) (w := w) (zero := ch.toArray) (over := .e) (b := b) (o := o) (n * size) 0 #[] (fun k hk => hc _ (by omega))
     refine ⟨l'.toArray, fun w' hw => ?_, h2⟩
     show (loadCells ⟨b, o, none⟩ (n * size)).run P w' = _
     simpa [loadCells] using h1 w' hw
    ·cases hl
   ·cases hl
 ·rename_i a ln c hna
  obtain ⟨a', c', hv', _, hcase⟩ := jbm hv
  rw [hv']
  split at hl
  ·rename_i h0
   cases hl
   exact ⟨#[], fun w' _ => by show (loadCells a' (n * size)).run P w' = _; exact nothing _ _ h0, hnil⟩
  ·cases hl
 ·rename_i s
  cases hl
  rw [jbq hv]
  refine ⟨(s.extract 0 n).data.map fun b => .int .u8 b.toNat, fun _ _ => rfl, ?_⟩
  have e : ((s.extract 0 n).data.map fun b => Value.int .u8 b.toNat) = ((s.data.toList.take n).map fun b => Value.int .u8 b.toNat).toArray := by
   apply Array.ext'
   rw [Array.toList_map, ByteArray.data_extract, Array.toList_extract]
   simp [List.extract_eq_take_drop]
  rw [e]
  refine ⟨rfl, fun i a b ha hb => ?_⟩
  rw [ha] at hb; cases hb
  simp only [List.getElem?_toArray, List.getElem?_map] at ha
  cases hk : (s.data.toList.take n)[i]? with
  | none => rw [hk] at ha; cases ha
  | some x => rw [hk] at ha; cases ha; exact .int _ _
 ·cases hl
theorem jeA {μ : Mem} {w : World} (h : Rel J μ w) {size n : Nat} {v v' : Value} {l : List Value} (hv : VRel J v v') (hl : ja7 μ size n v = some l) :
  ∃ l' : Array Value, (Builtin.firstCells size n v').run P w = .ok l' w ∧ ARel J l.toArray l' :=
 let ⟨l', h1, h2⟩ := jcV (P := P) h hv hl
 ⟨l', h1 w rfl, h2⟩
def lenV : Value → Option Nat
 | .slice _ n _ => some n
 | .string s => some s.data.toList.length
 | _ => none
theorem jgT {v v' : Value} {n : Nat} (hv : VRel J v v') (h : lenV v = some n) (w : World) : (Builtin.lenOf v').run P w = .ok n w := by
 unfold lenV at h
 split at h
 ·cases h; cases hv <;> rfl
 ·rename_i s
  cases h
  rw [jbq hv]
  have e : s.data.toList.length = s.size := by rw [Array.length_toList]; rfl
  rw [e]; rfl
 ·cases h
def jjP (P : Program) (μ : Mem) (dt : TypeId) (d s : Value) : Option (Value × Mem) :=
 match P.underlying dt with
 | some (.slice e) => match P.info? e with
   | none => none
   | some inf => match lenV s with
     | none => none
     | some sl => match d with
       | .slice (some ⟨i, o, none⟩) dl _ => match ja7 μ inf.size (Nat.min sl dl) s with
         | none => none
         | some cs => match cs with
           | [] => some (.int .i64 (Nat.min sl dl), μ)
           | _ => match μ.obs.get i with
             | some (.cells n te zero over lo hi fx sh) => match jb2 n lo hi o cs.length with
               | false => none
               | true => match scalars cs with
                 | false => none
                 | true => some (.int .i64 (Nat.min sl dl), ⟨μ.obs.set i (.cells n te zero (over.lay o cs) lo hi fx sh), μ.next⟩)
             | _ => none
       | .slice none dl _ => match ja7 μ inf.size (Nat.min sl dl) s with
         | none => none
         | some _ => some (.int .i64 (Nat.min sl dl), μ)
       | _ => none
 | _ => none
theorem jil {ρ ρ' : Operand → Value} (hρ : ∀ x, VRel J (ρ x) (ρ' x)) {μ : Mem} {w : World} (h : Rel J μ w) {o : Oper} {c : Call} {dt : TypeId} {x y : Operand} {v : Value} {μ' : Mem} (ho : o.op = .call c)
  (hc : c.callee = .builtin .copy) (ha : c.args.toList = [x, y]) (ht : c.argTypes[0]? = some dt) (hs : jjP P μ dt (ρ x) (ρ y) = some (v, μ')) : jfP P J ρ' o μ w v μ' := by
 have hx := hρ x
 have hy := hρ y
 unfold jjP at hs
 split at hs
 ·rename_i e hu
  split at hs
  ·cases hs
  ·rename_i inf hinf
   split at hs
   ·cases hs
   ·rename_i sl hsl
    have hlen := fun w => jgT (P := P) hy hsl w
    split at hs
    ·rename_i i of dl cp e1
     rw [e1] at hx
     obtain ⟨a', c', hx', _, hcase⟩ := jbm hx
     split at hs
     ·cases hs
     ·rename_i cs hcs
      obtain ⟨l', hl1, hl2⟩ := jeA (P := P) h hy hcs
      have hrun : ∀ w', (storeCells a' l'.toList).run P w = .ok () w' → (execOp ρ' o).run P w = .ok (.value (.int .i64 (Nat.min sl dl : Nat))) w' := by
       intro w' hst
       rw [jcl ho hc, jdN ha]
       simp only [builtin, Builtin.copy_, ht, hx', Sem.run_bind, jaF hu, Result.andThen_ok, hlen w, jba hinf, hl1, hst, Sem.run_pure, goInt, List.getElem?_toArray, List.getElem?_cons_zero, List.getElem?_cons_succ]
      split at hs
      ·cases hs
       have : l' = #[] := Array.eq_empty_of_size_eq_zero (by have := hl2.size; simp at this; exact this.symm)
       subst this
       exact ⟨J, _, w, .inl (hrun w rfl), .int _ _, h, Step.refl _ _ _⟩
      ·split at hs
       ·rename_i n te zero over lo hi fx sh hob
        split at hs
        ·cases hs
        ·rename_i hw
         split at hs
         ·cases hs
         ·rename_i hsc
          cases hs
          obtain ⟨b, s, hb, w', r1, r2, r3⟩ := jel (P := P) (vs' := l'.toList) h hob hw hsc (by simpa using hl2)
          have ha' : a' = ⟨b, of, none⟩ := by
           rcases hcase with ⟨i2, o2, b2, s2, e1, e2, e3, _⟩ | ⟨e1, _⟩
           ·cases e1; rw [hb] at e3; cases e3; exact e2
           ·rw [show J i = _ from hb] at e1; cases e1
          subst ha'
          exact ⟨J, _, w', .inl (hrun w' r1), .int _ _, r2, r3⟩
       ·cases hs
    ·rename_i dl cp e1
     rw [e1] at hx
     have hx' : ρ' x = .slice none dl cp := by generalize ρ' x = q at hx; cases hx; rfl
     split at hs
     ·cases hs
     ·rename_i cs hcs
      cases hs
      obtain ⟨l', hl1, hl2⟩ := jeA (P := P) h hy hcs
      refine ⟨J, _, w, .inl ?_, .int _ _, h, Step.refl _ _ _⟩
      rw [jcl ho hc, jdN ha]
      simp only [builtin, Builtin.copy_, ht, hx', Sem.run_bind, jaF hu, Result.andThen_ok, hlen w, jba hinf, hl1, Sem.run_pure, goInt, List.getElem?_toArray, List.getElem?_cons_zero, List.getElem?_cons_succ]
    ·cases hs
 ·cases hs
end
end Go.Proofs.YtnafmgiaifbhgaaGreatDoor.Ev
