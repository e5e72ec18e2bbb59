/-
  The evaluator, part I: operations that read memory; operations that make a new object. No conditions.
-/
import Derived.Test.YtnafmgiaifbhgaaGreatDoorEvH
set_option linter.unusedSimpArgs false
set_option linter.unusedVariables false
namespace Go.Proofs.YtnafmgiaifbhgaaGreatDoor.Ev
noncomputable section
variable {P : Program} {J : Nat → Loc}
theorem run_load {w : World} {a : Addr} {v : Value} (h : w.cell? a = some v) : (load a).run P w = .ok v w := by
 simp [load, Sem.run, h]
theorem cell_of {μ : Mem} {w : World} (h : Rel J μ w) {i n : Nat} {t : TypeId} {zero : Array Value} {over : T Value} {lo hi : Nat} {fx sh : Bool}
  (ho : μ.obs.get i = some (.cells n t zero over lo hi fx sh)) : ∃ b s, J i = .at b s ∧ ObRel J w b s (.cells n t zero over lo hi fx sh) ∧
   ∀ k, k < n → ∃ x, w.cell? ⟨b, k, none⟩ = some x ∧ VRel J (cellAt zero over k) x := by
 obtain ⟨b, s, hb, hr⟩ := h.obj i _ ho (by simp)
 refine ⟨b, s, hb, hr, fun k hk => ?_⟩
 obtain ⟨c, fz, h1, h2, h3, h4, h5, h6⟩ := hr
 obtain ⟨x, hx, hv⟩ := h5 k hk
 exact ⟨x, by simp [World.cell?, h1, hx], hv⟩
def jaE (zero : Array Value) (over : T Value) (o : Nat) : Nat → List Value
 | 0 => []
 | n + 1 => cellAt zero over o :: jaE zero over (Nat.add o 1) n
theorem jf5 (b o k : Nat) : (Addr.add ⟨b, o, none⟩ k) = ⟨b, o + k, none⟩ := by
 unfold Addr.add
 by_cases h : k = 0
 ·subst h; simp
 ·rw [if_neg h]
theorem cell_heap {w w' : World} (h : w'.heap = w.heap) (a : Addr) : w'.cell? a = w.cell? a := by unfold World.cell?; rw [h]
theorem jbQ {w : World} {zero : Array Value} {over : T Value} {b o : Nat} : ∀ (n i : Nat) (acc : Array Value),
  (∀ k, k < n → ∃ x, w.cell? ⟨b, o + i + k, none⟩ = some x ∧ VRel J (cellAt zero over (o + i + k)) x) →
  ∃ l : List Value, (∀ w' : World, w'.heap = w.heap → (loadCellsFrom ⟨b, o, none⟩ i n acc).run P w' = .ok (acc ++ l.toArray) w') ∧ ARel J (jaE zero over (o + i) n).toArray l.toArray := by
 intro n
 induction n with
 | zero => intro i acc _; exact ⟨[], fun w' _ => by simp [loadCellsFrom, Sem.run_pure], ⟨rfl, fun i a b ha => by simp [jaE] at ha⟩⟩
 | succ n ih =>
   intro i acc h
   obtain ⟨x, hx, hv⟩ := h 0 (by omega)
   obtain ⟨l, hl, hr⟩ := ih (i + 1) (acc.push x) (fun k hk => by
    have := h (k + 1) (by omega)
    rw [show o + i + (k + 1) = o + (i + 1) + k from by omega] at this
    exact this)
   refine ⟨x :: l, fun w' hw => ?_, ?_⟩
   ·simp only [loadCellsFrom, Sem.run_bind, jf5]
    rw [show o + i = o + i + 0 from rfl, run_load ((cell_heap hw _).trans hx), Result.andThen_ok, hl w' hw]
    simp
   ·constructor
    ·have := hr.size; simp [jaE] at this ⊢; exact this
    ·intro k a b ha hb
     cases k with
     | zero => simp [jaE] at ha hb; subst ha hb; exact hv
     | succ k =>
       simp [jaE] at ha hb
       refine hr.at_ k a b ?_ (by simpa using hb)
       rw [show o + (i + 1) = o + i + 1 from by omega]
       simpa using ha
theorem jcG {w : World} {zero : Array Value} {over : T Value} {b o : Nat} (n i : Nat) (acc : Array Value)
  (h : ∀ k, k < n → ∃ x, w.cell? ⟨b, o + i + k, none⟩ = some x ∧ VRel J (cellAt zero over (o + i + k)) x) :
  ∃ l : List Value, (loadCellsFrom ⟨b, o, none⟩ i n acc).run P w = .ok (acc ++ l.toArray) w ∧ ARel J (jaE zero over (o + i) n).toArray l.toArray :=
 let ⟨l, h1, h2⟩ := jbQ (P := P) n i acc h
 ⟨l, h1 w rfl, h2⟩
def strip (v : Value) : Value := match jaS 5 v with
 | true => v
 | false => .chan none
theorem jgP (J : Nat → Loc) (v : Value) : VRel J (strip v) v := by
 unfold strip
 split
 ·rename_i h; exact jbr 5 h
 ·exact .any _ _
def jb5 (o : Option Ob) : Option (Nat × Array Value × T Value) :=
 match o with
 | some (.cells n _ zero over _ _ _ _) => some (n, zero, over)
 | some (.rom l _) => some (l.length, l.toArray, .e)
 | some (.held c _ _) => some (c.size, c.map strip, .e)
 | some (.pin l _ _ _) => some (l.length, l.toArray, .e)
 | _ => none
theorem jea {μ : Mem} {w : World} (h : Rel J μ w) {i n : Nat} {zero : Array Value} {over : T Value} (ho : jb5 (μ.obs.get i) = some (n, zero, over)) :
  ∃ b s, J i = .at b s ∧ ∀ k, k < n → ∃ x, w.cell? ⟨b, k, none⟩ = some x ∧ VRel J (cellAt zero over k) x := by
 unfold jb5 at ho
 split at ho
 ·rename_i n' t' z' o' lo hi fx sh hob
  cases ho
  obtain ⟨b, s, hb, _, hc⟩ := cell_of h hob
  exact ⟨b, s, hb, hc⟩
 ·rename_i l t hob
  cases ho
  obtain ⟨b, s, hb, h1, h2⟩ := h.obj i _ hob (by simp)
  refine ⟨b, s, hb, fun k hk => ⟨l[k], by simp [World.cell?, h1, hk], ?_⟩⟩
  have hm : Nat.mod k l.toArray.size = k := by show k % _ = k; rw [Nat.mod_eq_of_lt]; simpa using hk
  have : cellAt l.toArray T.e k = l[k] := by
   simp only [cellAt, T.get_e, hm]
   simp [Array.getD, hk]
  rw [this]
  exact h2 _ (List.getElem_mem hk)
 ·rename_i c t fz hob
  cases ho
  obtain ⟨b, s, hb, h1⟩ := h.obj i _ hob (by simp)
  have h1' : w.heap[b]? = some (.cells c t fz) := h1
  refine ⟨b, s, hb, fun k hk => ⟨c[k], by simp [World.cell?, h1', hk], ?_⟩⟩
  have hm : Nat.mod k (c.map strip).size = k := by show k % _ = k; rw [Nat.mod_eq_of_lt]; simpa using hk
  have : cellAt (c.map strip) T.e k = strip c[k] := by
   simp only [cellAt, T.get_e, hm]
   simp [Array.getD, hk]
  rw [this]
  exact jgP J _
 ·rename_i l c t fz hob
  cases ho
  obtain ⟨b, s, hb, h1, h2⟩ := h.obj i _ hob (by simp)
  refine ⟨b, s, hb, fun k hk => ?_⟩
  have hk' : k < l.toArray.size := by simpa using hk
  obtain ⟨x, hx, hv⟩ := h2.get (Array.getElem?_eq_getElem hk')
  refine ⟨x, by simp [World.cell?, h1, hx], ?_⟩
  have hm : Nat.mod k l.toArray.size = k := by show k % _ = k; rw [Nat.mod_eq_of_lt]; simpa using hk
  have : cellAt l.toArray T.e k = l.toArray[k] := by
   simp only [cellAt, T.get_e, hm]
   simp [Array.getD, hk]
  rw [this]
  exact hv
 ·cases ho
def jbH (P : Program) (μ : Mem) (t : TypeId) (v : Value) : Option Value :=
 match v with
 | .pointer (some ⟨i, o, none⟩) => match jb5 (μ.obs.get i) with
   | some (n, zero, over) => match P.underlying t with
     | some (.struct _) => match P.info? t with
       | some inf => match Nat.ble (Nat.add o inf.size) n with
         | true => some (.agg (jaE zero over o inf.size).toArray)
         | false => none
       | none => none
     | some (.array _ _) => match P.info? t with
       | some inf => match Nat.ble (Nat.add o inf.size) n with
         | true => some (.agg (jaE zero over o inf.size).toArray)
         | false => none
       | none => none
     | some _ => match Nat.blt o n with
       | true => some (cellAt zero over o)
       | false => none
     | none => none
   | _ => none
 | _ => none
theorem jcX {μ : Mem} {w : World} (h : Rel J μ w) {t : TypeId} {v v' x : Value} (hv : VRel J v v') (hl : jbH P μ t v = some x) :
  ∃ a x', v' = .pointer (some a) ∧ VRel J x x' ∧ (loadVar t a).run P w = .ok x' w := by
 unfold jbH at hl
 split at hl
 ·rename_i i o
  split at hl
  ·rename_i n zero over ho
   obtain ⟨b, s, hb, hc⟩ := jea h ho
   have ha : v' = .pointer (some ⟨b, o, none⟩) := by
    cases hv with
    | ptr e => rw [hb] at e; cases e; rfl
    | ptrDead a' e => rw [show J i = _ from hb] at e; cases e
   have agg : ∀ inf, P.info? t = some inf → (isAgg t).run P w = .ok true w → Nat.ble (Nat.add o inf.size) n = true →
     ∃ x', VRel J (.agg (jaE zero over o inf.size).toArray) x' ∧ (loadVar t ⟨b, o, none⟩).run P w = .ok x' w := by
    intro inf hinf hag hle
    have hle' : o + inf.size ≤ n := Nat.le_of_ble_eq_true hle
    obtain ⟨l, h1, h2⟩ := jcG (P := P) (w := w) (zero := zero) (over := over) (b := b) (o := o) inf.size 0 #[] (fun k hk => hc _ (by omega))
    refine ⟨.agg l.toArray, .agg h2.size h2.at_, ?_⟩
    simp only [loadVar, Sem.run_bind, hag, Result.andThen_ok, if_true, jba hinf, loadCells, h1, Sem.run_pure]
    simp
   split at hl
   ·rename_i f hu
    split at hl
    ·rename_i inf hinf
     split at hl
     ·rename_i hle
      cases hl
      obtain ⟨x', h1, h2⟩ := agg inf hinf (by simp only [isAgg, Sem.run_bind, jaF hu, Result.andThen_ok, Sem.run_pure]) hle
      exact ⟨_, x', ha, h1, h2⟩
     ·cases hl
    ·cases hl
   ·rename_i m e hu
    split at hl
    ·rename_i inf hinf
     split at hl
     ·rename_i hle
      cases hl
      obtain ⟨x', h1, h2⟩ := agg inf hinf (by simp only [isAgg, Sem.run_bind, jaF hu, Result.andThen_ok, Sem.run_pure]) hle
      exact ⟨_, x', ha, h1, h2⟩
     ·cases hl
    ·cases hl
   ·rename_i d h1 h2 hu
    split at hl
    ·rename_i hlt
     cases hl
     have hlt' : o < n := by simpa using hlt
     obtain ⟨x', hx, hvx⟩ := hc o hlt'
     have hag : (isAgg t).run P w = .ok false w := by
      simp only [isAgg, Sem.run_bind, jaF hu, Result.andThen_ok]
      cases d <;> first | rfl | exact absurd rfl (h1 _) | exact absurd rfl (h2 _ _)
     refine ⟨_, x', ha, hvx, ?_⟩
     simp only [loadVar, Sem.run_bind, hag, Result.andThen_ok, Bool.false_eq_true, if_false, run_load hx]
    ·cases hl
   ·cases hl
  ·cases hl
 ·cases hl
def bytesOf : List Value → Option (List UInt8)
 | [] => some []
 | .int .u8 n :: r => match bytesOf r with
   | some l => some (UInt8.ofNat n.toNat :: l)
   | none => none
 | _ :: _ => none
def jcU : List Value → ByteArray → Option ByteArray
 | [], acc => some acc
 | .int .i32 n :: r, acc => jcU r (acc ++ Utf8.encode n)
 | _ :: _, _ => none
theorem run_runes {w : World} {F : Value → ByteArray → Sem (ForInStep ByteArray)} (hF : ∀ n s, F (.int .i32 n) s = pure (.yield (s ++ Utf8.encode n))) :
  ∀ (l l' : List Value) (r acc : ByteArray), ARel J l.toArray l'.toArray → jcU l acc = some r → (forIn l' acc F).run P w = .ok r w := by
 intro l
 induction l with
 | nil =>
   intro l' r acc h hr
   obtain rfl : l' = [] := by have := h.size; simp at this; exact List.length_eq_zero_iff.1 this.symm
   simp only [jcU] at hr; cases hr
   simp [Sem.run_pure]
 | cons v l ih =>
   intro l' r acc h hr
   cases l' with
   | nil => have := h.size; simp at this
   | cons v' l' =>
     have hv : ∃ n, v = .int .i32 n ∧ jcU l (acc ++ Utf8.encode n) = some r := by
      cases v with
      | int k n => cases k <;> first | exact ⟨n, rfl, hr⟩ | (simp [jcU] at hr)
      | _ => simp [jcU] at hr
     obtain ⟨n, rfl, hr⟩ := hv
     have h0 : VRel J (.int .i32 n) v' := h.at_ 0 _ _ rfl rfl
     have hrest : ARel J l.toArray l'.toArray := ⟨by have := h.size; simp at this ⊢; exact this, fun i a b ha hb => h.at_ (i + 1) a b (by simpa using ha) (by simpa using hb)⟩
     rw [jbc h0]
     simp only [List.forIn_cons, Sem.run_bind, hF, Sem.run_pure, Result.andThen_ok]
     exact ih l' r _ hrest hr
def jcK (P : Program) (μ : Mem) (src dst : TypeId) (v : Value) : Option Value :=
 match v with
 | .slice (some ⟨i, o, none⟩) len _ => match P.underlying src with
   | some (.slice e) => match P.underlying dst with
     | some .string => match P.underlying e with
       | some (.int .u8) => match μ.obs.get i with
         | some (.cells n _ zero over _ _ _ _) => match Nat.ble (Nat.add o len) n with
           | true => match bytesOf (jaE zero over o len) with
             | some l => some (.string ⟨l.toArray⟩)
             | none => none
           | false => none
         | some (.held ch _ _) => match Nat.ble (Nat.add o len) ch.size with
           | true => match bytesOf (jaE (ch.map strip) .e o len) with
             | some l => some (.string ⟨l.toArray⟩)
             | none => none
           | false => none
         | _ => match Nat.beq len 0 with
           | true => some (.string ⟨#[]⟩)
           | false => none
       | some (.int .i32) => match μ.obs.get i with
         | some (.cells n _ zero over _ _ _ _) => match Nat.ble (Nat.add o len) n with
           | true => match jcU (jaE zero over o len) .empty with
             | some l => some (.string l)
             | none => none
           | false => none
         | _ => none
       | _ => none
     | _ => none
   | _ => none
 | .slice (some _) 0 _ => match P.underlying src with
   | some (.slice e) => match P.underlying dst with
     | some .string => match P.underlying e with
       | some (.int .u8) => some (.string ⟨#[]⟩)
       | _ => none
     | _ => none
   | _ => none
 | _ => none
theorem jgU {w : World} {F : Value → ByteArray → Sem (ForInStep ByteArray)} (hF : ∀ n s, F (.int .u8 n) s = pure (.yield (s.push (UInt8.ofNat n.toNat)))) :
  ∀ (l l' : List Value) (r : List UInt8) (acc : ByteArray), ARel J l.toArray l'.toArray → bytesOf l = some r →
  (forIn l' acc F).run P w = .ok ⟨(acc.data.toList ++ r).toArray⟩ w := by
 intro l
 induction l with
 | nil =>
   intro l' r acc h hr
   obtain rfl : l' = [] := by have := h.size; simp at this; exact List.length_eq_zero_iff.1 this.symm
   simp only [bytesOf] at hr; cases hr
   simp [Sem.run_pure]
 | cons v l ih =>
   intro l' r acc h hr
   cases l' with
   | nil => have := h.size; simp at this
   | cons v' l' =>
     unfold bytesOf at hr
     split at hr
     ·rename_i e; cases e
     ·rename_i n r' e
      cases e
      split at hr
      ·rename_i l2 hl2
       cases hr
       have h0 : VRel J (.int .u8 n) v' := h.at_ 0 _ _ rfl rfl
       have hrest : ARel J l.toArray l'.toArray := ⟨by have := h.size; simp at this ⊢; exact this, fun i a b ha hb => h.at_ (i + 1) a b (by simpa using ha) (by simpa using hb)⟩
       rw [jbc h0]
       simp only [List.forIn_cons, Sem.run_bind, hF, Sem.run_pure, Result.andThen_ok]
       rw [ih l' l2 _ hrest hl2]
       simp [ByteArray.push]
      ·cases hr
     ·cases hr
theorem jdG {ρ ρ' : Operand → Value} (hρ : ∀ x, VRel J (ρ x) (ρ' x)) {μ : Mem} {w : World} (h : Rel J μ w) {o : Oper} {src dst : TypeId} {x : Operand} {v : Value}
  (ho : o.op = .convert src dst x) (hv : jcK P μ src dst (ρ x) = some v) : ∃ v', VRel J v v' ∧ (execOp ρ' o).run P w = .ok (.value v') w := by
 have hx := hρ x
 unfold jcK at hv
 have empty : ∀ e a' c', ρ' x = .slice (some a') 0 c' → P.underlying src = some (.slice e) → P.underlying dst = some .string → P.underlying e = some (.int .u8) →
   (execOp ρ' o).run P w = .ok (.value (.string ⟨#[]⟩)) w := by
  intro e a' c' hx' h1 h2 h3
  simp only [execOp, ho, convert, Sem.run_bind, jaF h1, jaF h2, jaF h3, Result.andThen_ok, hx', Conv.bytesToString, loadCells, loadCellsFrom, Sem.run_pure]
  rfl
 split at hv
 ·rename_i i of len c e
  rw [e] at hx
  obtain ⟨a', c', hx', _, hcase⟩ := jbm hx
  split at hv
  ·rename_i el hs
   split at hv
   ·rename_i hd
    split at hv
    ·rename_i he
     split at hv
     ·rename_i n te zero over lo hi fx sh hob
      split at hv
      ·rename_i hle
       have hle' : of + len ≤ n := Nat.le_of_ble_eq_true hle
       split at hv
       ·rename_i l hl
        cases hv
        obtain ⟨b, s, hb, _, hc⟩ := cell_of h hob
        have ha' : a' = ⟨b, of, none⟩ := by
         rcases hcase with ⟨i2, o2, b2, s2, e1, e2, e3, _⟩ | ⟨e1, _⟩
         ·cases e1; rw [hb] at e3; cases e3; exact e2
         ·rw [show J i = _ from hb] at e1; cases e1
        subst ha'
        obtain ⟨l', h1, h2⟩ := jcG (P := P) (w := w) (zero := zero) (over := over) (b := b) (o := of) len 0 #[] (fun k hk => hc _ (by omega))
        refine ⟨_, .string _, ?_⟩
        have h4 : (loadCells ⟨b, of, none⟩ len).run P w = .ok l'.toArray w := by simpa [loadCells] using h1
        simp only [execOp, ho, convert, Sem.run_bind, jaF hs, jaF hd, jaF he, Result.andThen_ok, hx', Conv.bytesToString, h4]
        rw [List.forIn_toArray, jgU (P := P) (w := w) (fun n s => rfl) (jaE zero over of len) l' l .empty (by simpa using h2) hl]
        simp only [Result.andThen_ok, Sem.run_pure]
        simp
       ·cases hv
      ·cases hv
     ·rename_i ch te fz hob
      split at hv
      ·rename_i hle
       have hle' : of + len ≤ ch.size := Nat.le_of_ble_eq_true hle
       split at hv
       ·rename_i l hl
        cases hv
        obtain ⟨b, s, hb, hc⟩ := jea h (i := i) (n := ch.size) (zero := ch.map strip) (over := .e) (by rw [hob]; rfl)
        have ha' : a' = ⟨b, of, none⟩ := by
         rcases hcase with ⟨i2, o2, b2, s2, e1, e2, e3, _⟩ | ⟨e1, _⟩
         ·cases e1; rw [hb] at e3; cases e3; exact e2
         ·rw [show J i = _ from hb] at e1; cases e1
        subst ha'
        obtain ⟨l', h1, h2⟩ := jcG (P := P) (w := w) (zero := ch.map strip) (over := .e) (b := b) (o := of) len 0 #[] (fun k hk => hc _ (by omega))
        refine ⟨_, .string _, ?_⟩
        have h4 : (loadCells ⟨b, of, none⟩ len).run P w = .ok l'.toArray w := by simpa [loadCells] using h1
        simp only [execOp, ho, convert, Sem.run_bind, jaF hs, jaF hd, jaF he, Result.andThen_ok, hx', Conv.bytesToString, h4]
        rw [List.forIn_toArray, jgU (P := P) (w := w) (fun n s => rfl) (jaE (ch.map strip) .e of len) l' l .empty (by simpa using h2) hl]
        simp only [Result.andThen_ok, Sem.run_pure]
        simp
       ·cases hv
      ·cases hv
     ·split at hv
      ·rename_i hz
       obtain rfl : len = 0 := Nat.eq_of_beq_eq_true hz
       cases hv
       exact ⟨_, .string _, empty _ _ _ hx' hs hd he⟩
      ·cases hv
    ·rename_i he
     split at hv
     ·rename_i n te zero over lo hi fx sh hob
      split at hv
      ·rename_i hle
       have hle' : of + len ≤ n := Nat.le_of_ble_eq_true hle
       split at hv
       ·rename_i l hl
        cases hv
        obtain ⟨b, s, hb, _, hc⟩ := cell_of h hob
        have ha' : a' = ⟨b, of, none⟩ := by
         rcases hcase with ⟨i2, o2, b2, s2, e1, e2, e3, _⟩ | ⟨e1, _⟩
         ·cases e1; rw [hb] at e3; cases e3; exact e2
         ·rw [show J i = _ from hb] at e1; cases e1
        subst ha'
        obtain ⟨l', h1, h2⟩ := jcG (P := P) (w := w) (zero := zero) (over := over) (b := b) (o := of) len 0 #[] (fun k hk => hc _ (by omega))
        refine ⟨_, .string _, ?_⟩
        have h4 : (loadCells ⟨b, of, none⟩ len).run P w = .ok l'.toArray w := by simpa [loadCells] using h1
        simp only [execOp, ho, convert, Sem.run_bind, jaF hs, jaF hd, jaF he, Result.andThen_ok, hx', Conv.runesToString, h4]
        rw [List.forIn_toArray, run_runes (P := P) (w := w) (fun n s => rfl) (jaE zero over of len) l' l .empty (by simpa using h2) hl]
        simp only [Result.andThen_ok, Sem.run_pure]
       ·cases hv
      ·cases hv
     ·cases hv
    ·cases hv
   ·cases hv
  ·cases hv
 ·rename_i a c hna e
  rw [e] at hx
  obtain ⟨a', c', hx', _, _⟩ := jbm hx
  split at hv
  ·rename_i el hs
   split at hv
   ·rename_i hd
    split at hv
    ·rename_i he
     cases hv
     exact ⟨_, .string _, empty _ _ _ hx' hs hd he⟩
    ·cases hv
   ·cases hv
  ·cases hv
 ·cases hv
end
end Go.Proofs.YtnafmgiaifbhgaaGreatDoor.Ev
