/-
  The evaluator, part H: assertions, structs, builtins without memory; all operations without memory together. No conditions.
-/
import Derived.Test.YtnafmgiaifbhgaaGreatDoorEvG
set_option linter.unusedSimpArgs false
set_option linter.unusedVariables false
namespace Go.Proofs.YtnafmgiaifbhgaaGreatDoor.Ev
noncomputable section
variable {P : Program} {J : Nat → Loc}
theorem jbi {v v' : Value} (h : VRel J v v') : ARel J #[v] #[v'] where
 size := rfl
 at_ i a b ha hb := by
  cases i with
  | zero => simp at ha hb; subst ha hb; exact h
  | succ i => simp at ha
theorem jgw {u u' v v' : Value} (h1 : VRel J u u') (h : VRel J v v') : ARel J #[u, v] #[u', v'] where
 size := rfl
 at_ i a b ha hb := by
  match i with
  | 0 => simp at ha hb; subst ha hb; exact h1
  | 1 => simp at ha hb; subst ha hb; exact h
  | i + 2 => simp at ha
def jbh (P : Program) (t : TypeId) : Option Value :=
 match P.info? t with
 | some inf => match inf.zero with
   | some z => match jaS 5 z with
     | true => some z
     | false => none
   | none => none
 | none => none
theorem jbj {t : TypeId} {z : Value} (h : jbh P t = some z) (w : World) : (zeroValue t).run P w = .ok z w ∧ jaS 5 z = true := by
 unfold jbh at h
 split at h
 ·rename_i inf hinf
  split at h
  ·rename_i z' hz
   split at h
   ·rename_i hp
    cases h
    exact ⟨by simp only [zeroValue, Sem.run_bind, jcW hinf, Result.andThen_ok, hz, Sem.run_pure], hp⟩
   ·cases h
  ·cases h
 ·cases h
def jgH (P : Program) (ρ : Operand → Value) (x : Operand) (asserted : TypeId) (ok : Bool) : Option Value :=
 match ρ x with
 | .iface t v => match P.underlying asserted with
   | some (.interface want) => match want.toList with
     | [] => match P.info? t with
       | some _ => match ok with
         | true => some (.tuple #[.iface t v, .bool true])
         | false => some (.iface t v)
       | none => none
     | _ => none
   | some _ => match Nat.beq t asserted with
     | true => match ok with
       | true => some (.tuple #[v, .bool true])
       | false => some v
     | false => match ok with
       | true => match jbh P asserted with
         | some z => some (.tuple #[z, .bool false])
         | none => none
       | false => none
   | none => none
 | _ => none
theorem jgG {ρ ρ' : Operand → Value} (hρ : ∀ x, VRel J (ρ x) (ρ' x)) {o : Oper} {x : Operand} {xt asserted : TypeId} {ok : Bool} {v : Value} (ho : o.op = .typeAssert x xt asserted ok)
  (h : jgH P ρ x asserted ok = some v) : Gives P J ρ' o v := by
 unfold jgH at h
 have hx := hρ x
 split at h
 ·rename_i t u e
  rw [e] at hx
  obtain ⟨u', hx', hu⟩ := jcP hx
  have hx2 := hx
  rw [hx'] at hx2
  split at h
  ·rename_i want hun
   split at h
   ·rename_i hw
    obtain rfl : want = #[] := by cases want; simp_all
    split at h
    ·rename_i inf hinf
     have hmm : Instr.missingMethod #[] inf.methods = none := by simp [Instr.missingMethod, Instr.least]
     split at h
     ·cases h
      have := jgw hx2 (.bool (J := J) true)
      exact ⟨_, .tuple this.size this.at_, fun w => by
       simp only [execOp, ho, hx', Instr.typeAssert, Sem.run_bind, jaF hun, Result.andThen_ok, jcW hinf, hmm, Sem.run_pure, if_true]⟩
     ·cases h
      exact ⟨_, hx2, fun w => by
       simp only [execOp, ho, hx', Instr.typeAssert, Sem.run_bind, jaF hun, Result.andThen_ok, jcW hinf, hmm, Sem.run_pure, Bool.false_eq_true, if_false]⟩
    ·cases h
   ·cases h
  ·rename_i d hni hun
   have key : ∀ w, (execOp ρ' o).run P w = (if t = asserted then (pure (.value (if ok then .tuple #[u', .bool true] else u')) : Sem Next) else
     (do let r ← (if ok then do pure (Value.tuple #[← zeroValue asserted, .bool false]) else runtimePanic (.typeAssertion (some xt) (some t) asserted "") : Sem Value); pure (.value r))).run P w := by
    intro w
    simp only [execOp, ho, hx', Instr.typeAssert, Sem.run_bind, jaF hun, Result.andThen_ok]
    cases d <;> first
     | exact absurd rfl (hni _)
     | (by_cases hta : t = asserted
        ·simp only [if_pos hta, Sem.run_pure, Result.andThen_ok]
        ·simp only [if_neg hta, Sem.run_bind])
   split at h
   ·rename_i hb
    have hta : t = asserted := Nat.eq_of_beq_eq_true hb
    split at h
    ·cases h
     have := jgw hu (.bool (J := J) true)
     exact ⟨_, .tuple this.size this.at_, fun w => by rw [key, if_pos hta]; simp only [if_true, Sem.run_pure]⟩
    ·cases h
     exact ⟨_, hu, fun w => by rw [key, if_pos hta]; simp only [Bool.false_eq_true, if_false, Sem.run_pure]⟩
   ·rename_i hb
    have hta : t ≠ asserted := Nat.ne_of_beq_eq_false hb
    split at h
    ·split at h
     ·rename_i z hz
      cases h
      have := jgw (jbr (J := J) 5 (jbj hz default).2) (.bool (J := J) false)
      exact ⟨_, .tuple this.size this.at_, fun w => by
       rw [key, if_neg hta]; simp only [if_true, Sem.run_bind, (jbj hz w).1, Result.andThen_ok, Sem.run_pure]⟩
     ·cases h
    ·cases h
  ·cases h
 ·cases h
def ja2 : Value → List Value
 | .agg cs => cs.toList
 | v => [v]
def setL (cs : List Value) (off : Nat) (vs : List Value) : List Value := cs.take off ++ (vs ++ cs.drop (Nat.add off vs.length))
def jdi : Value → Bool
 | .chan _ => false
 | _ => true
def jc7 (place : Nat → Option (Nat × Nat)) : List Value → List (Nat × Value) → Option (List Value)
 | cs, [] => some cs
 | cs, (i, v) :: r => match place i with
   | none => none
   | some (off, size) => match jdi v with
     | false => none
     | true => match Nat.beq (ja2 v).length size with
       | false => none
       | true => match Nat.ble (Nat.add off size) cs.length with
         | false => none
         | true => jc7 place (setL cs off (ja2 v)) r
theorem jcq {v v' : Value} (h : VRel J v v') (hn : jdi v = true) : ARel J (ja2 v).toArray v'.cells := by
 cases h with
 | any r v => cases hn
 | agg hx hx' => exact ⟨hx, hx'⟩
 | bool b => exact jbi (.bool b)
 | int k n => exact jbi (.int k n)
 | float k n => exact jbi (.float k n)
 | complex k n m => exact jbi (.complex k n m)
 | string s => exact jbi (.string s)
 | ptrNil => exact jbi .ptrNil
 | ptr e => exact jbi (.ptr e)
 | ptrDead a' e => exact jbi (.ptrDead a' e)
 | sliceNil l c => exact jbi (.sliceNil l c)
 | slice e hc => exact jbi (.slice e hc)
 | sliceDead a' c' e hc => exact jbi (.sliceDead a' c' e hc)
 | mapNil => exact jbi .mapNil
 | map e => exact jbi (.map e)
 | mapDead b e => exact jbi (.mapDead b e)
 | nilFunc => exact jbi .nilFunc
 | func hf h1 h2 h3 h4 => exact jbi (.func hf h1 h2 h3 h4)
 | iface h => exact jbi (.iface h)
 | nilIface => exact jbi .nilIface
 | tuple h1 h2 => exact jbi (.tuple h1 h2)
theorem foldl_set (off : Nat) : ∀ (l : List Value) (n : Nat) (cs : Array Value) (k : Nat),
  ((l.zipIdx n).foldl (fun cs (x : Value × Nat) => cs.setIfInBounds (off + x.2) x.1) cs)[k]? =
    if off + n ≤ k ∧ k < off + n + l.length ∧ k < cs.size then l[k - (off + n)]? else cs[k]? := by
 intro l
 induction l with
 | nil => intro n cs k; simp; intro h1 h2; omega
 | cons a l ih =>
   intro n cs k
   rw [List.zipIdx_cons, List.foldl_cons, ih]
   simp only [Array.size_setIfInBounds, Array.getElem?_setIfInBounds, List.length_cons]
   by_cases h1 : off + (n + 1) ≤ k ∧ k < off + (n + 1) + l.length ∧ k < cs.size
   ·rw [if_pos h1, if_pos (by omega), show k - (off + n) = (k - (off + (n + 1))) + 1 from by omega, List.getElem?_cons_succ]
   ·rw [if_neg h1]
    by_cases h2 : off + n = k
    ·subst h2
     by_cases h3 : off + n < cs.size
     ·rw [if_pos rfl, if_pos h3, if_pos (by omega)]; simp
     ·rw [if_pos rfl, if_neg h3, if_neg (by omega)]
      rw [Array.getElem?_eq_none (by omega)]
    ·rw [if_neg h2, if_neg (by omega)]
theorem arel_set {cs : List Value} {cs' : Array Value} (h : ARel J cs.toArray cs') {vs : List Value} {vs' : Array Value} (hv : ARel J vs.toArray vs') {off : Nat} (hle : off + vs.length ≤ cs.length) :
  ARel J (setL cs off vs).toArray (vs'.zipIdx.foldl (fun cs (x : Value × Nat) => cs.setIfInBounds (off + x.2) x.1) cs') := by
 have hs1 : vs.length = vs'.size := by simpa using hv.size
 have hs2 : cs.length = cs'.size := by simpa using h.size
 have e : ∀ k : Nat, (vs'.zipIdx.foldl (fun cs (x : Value × Nat) => cs.setIfInBounds (off + x.2) x.1) cs')[k]? = if off ≤ k ∧ k < off + vs'.size ∧ k < cs'.size then vs'[k - off]? else cs'[k]? := by
  intro k
  have := foldl_set off vs'.toList 0 cs' k
  rw [← Array.foldl_toList, Array.toList_zipIdx]
  simpa using this
 have hsz : (vs'.zipIdx.foldl (fun cs (x : Value × Nat) => cs.setIfInBounds (off + x.2) x.1) cs').size = cs'.size := by
  have : ∀ (l : List (Value × Nat)) (c : Array Value), (l.foldl (fun cs (x : Value × Nat) => cs.setIfInBounds (off + x.2) x.1) c).size = c.size := by
   intro l
   induction l with
   | nil => intro c; rfl
   | cons a l ih => intro c; rw [List.foldl_cons, ih, Array.size_setIfInBounds]
  rw [← Array.foldl_toList]
  exact this _ _
 constructor
 ·rw [hsz, ← hs2]
  simp [setL]
  omega
 ·intro i a b ha hb
  rw [e] at hb
  simp only [setL, List.getElem?_toArray] at ha
  by_cases h1 : i < off
  ·rw [if_neg (by omega)] at hb
   rw [List.getElem?_append_left (by simp; omega), List.getElem?_take, if_pos h1] at ha
   exact h.at_ i a b (by simpa using ha) hb
  ·have htl : (cs.take off).length = off := by simp; omega
   rw [List.getElem?_append_right (by omega), htl] at ha
   by_cases h2 : i < off + vs.length
   ·rw [if_pos ⟨by omega, by omega, by omega⟩] at hb
    rw [List.getElem?_append_left (by omega)] at ha
    exact hv.at_ _ a b (by simpa using ha) hb
   ·rw [if_neg (by omega)] at hb
    rw [List.getElem?_append_right (by omega), List.getElem?_drop] at ha
    refine h.at_ i a b ?_ hb
    rw [show Nat.add off vs.length + (i - off - vs.length) = i from by show off + vs.length + _ = _; omega] at ha
    simpa using ha
theorem jdT {place : Nat → Option (Nat × Nat)} : ∀ (parts : List (Nat × Value)) (parts' : List (Nat × Value)) (cs : List Value) (cs' : Array Value) (r : List Value),
  ARel J cs.toArray cs' → parts.length = parts'.length → (∀ (k : Nat) p p', parts[k]? = some p → parts'[k]? = some p' → p.1 = p'.1 ∧ VRel J p.2 p'.2) →
  jc7 place cs parts = some r → ∃ r', Instr.fill place cs' parts' = some r' ∧ ARel J r.toArray r' := by
 intro parts
 induction parts with
 | nil =>
   intro parts' cs cs' r h hl _ hr
   cases parts' with
   | nil => simp only [jc7] at hr; cases hr; exact ⟨cs', rfl, h⟩
   | cons _ _ => simp at hl
 | cons p parts ih =>
   intro parts' cs cs' r h hl hp hr
   cases parts' with
   | nil => simp at hl
   | cons p' parts' =>
     obtain ⟨i, v⟩ := p
     obtain ⟨i', v'⟩ := p'
     obtain ⟨h1, h2⟩ := hp 0 _ _ rfl rfl
     simp only at h1 h2
     subst h1
     simp only [jc7] at hr
     split at hr
     ·cases hr
     ·rename_i off size hpl
      split at hr
      ·cases hr
      ·rename_i hna
       split at hr
       ·cases hr
       ·rename_i hsz
        split at hr
        ·cases hr
        ·rename_i hle
         have hc := jcq h2 hna
         have hsz' : (ja2 v).length = size := Nat.eq_of_beq_eq_true hsz
         have hle' : off + size ≤ cs.length := Nat.le_of_ble_eq_true hle
         have hs1 : (ja2 v).length = v'.cells.size := by simpa using hc.size
         have hs2 : cs.length = cs'.size := by simpa using h.size
         obtain ⟨r', hr', hR⟩ := ih parts' _ _ r (arel_set h hc (off := off) (by omega)) (by simpa using hl) (fun k p p' a b => hp (k + 1) p p' (by simpa using a) (by simpa using b)) hr
         refine ⟨r', ?_, hR⟩
         simp only [Instr.fill, hpl]
         rw [if_neg (by simp; omega)]
         exact hr'
def jct (P : Program) : List Field → Option (List (Nat × Nat))
 | [] => some []
 | f :: r => match P.info? f.type with
   | none => none
   | some inf => match jct P r with
     | none => none
     | some l => some ((f.offset, inf.size) :: l)
theorem je3 : ∀ (l : List Field) (r : List (Nat × Nat)), jct P l = some r → ∀ w,
  (l.mapM (fun f => do pure (f.offset, ← sizeOf f.type)) : Sem (List (Nat × Nat))).run P w = .ok r w := by
 intro l
 induction l with
 | nil => intro r h w; simp only [jct] at h; cases h; rfl
 | cons f l ih =>
   intro r h w
   simp only [jct] at h
   split at h
   ·cases h
   ·rename_i inf hinf
    split at h
    ·cases h
    ·rename_i l' hl
     cases h
     simp only [List.mapM_cons, Sem.run_bind, jba hinf, Result.andThen_ok, Sem.run_pure, ih _ hl w]
theorem run_places {fields : Array Field} {r : List (Nat × Nat)} (h : jct P fields.toList = some r) (w : World) :
  (fields.mapM (fun f => do pure (f.offset, ← sizeOf f.type)) : Sem (Array (Nat × Nat))).run P w = .ok r.toArray w := by
 rw [Array.mapM_eq_mapM_toList]
 show (Functor.map List.toArray _ : Sem _).run P w = _
 rw [map_eq_pure_bind]
 simp only [Sem.run_bind, je3 _ _ h w, Result.andThen_ok, Sem.run_pure]
def jcc (P : Program) (ρ : Operand → Value) (t : TypeId) (parts : Array (Nat × Operand)) : Option Value :=
 match jbh P t with
 | none => none
 | some z => match P.underlying t with
   | some (.struct fields) => match jct P fields.toList with
     | none => none
     | some pl => match jc7 (fun i => pl[i]?) (ja2 z) (parts.toList.map fun p => (p.1, ρ p.2)) with
       | some cs => some (.agg cs.toArray)
       | none => none
   | some (.array _ e) => match P.info? e with
     | none => none
     | some inf => match jc7 (fun i => some (Nat.mul i inf.size, inf.size)) (ja2 z) (parts.toList.map fun p => (p.1, ρ p.2)) with
       | some cs => some (.agg cs.toArray)
       | none => none
   | _ => none
theorem jcH {n : Nat} {v : Value} (h : jaS n v = true) : jdi v = true := by
 cases v <;> first | rfl | (cases n <;> simp [jaS] at h)
theorem jhh (v : Value) : ja2 v = v.cells.toList := by cases v <;> rfl
theorem jg2 {ρ ρ' : Operand → Value} (hρ : ∀ x, VRel J (ρ x) (ρ' x)) (parts : Array (Nat × Operand)) :
  (parts.toList.map fun p => (p.1, ρ p.2)).length = (parts.map fun (i, x) => (i, ρ' x)).toList.length ∧
  ∀ (k : Nat) p p', (parts.toList.map fun p => (p.1, ρ p.2))[k]? = some p → (parts.map fun (i, x) => (i, ρ' x)).toList[k]? = some p' → p.1 = p'.1 ∧ VRel J p.2 p'.2 := by
 constructor
 ·simp
 ·intro k p p' h1 h2
  rw [Array.toList_map] at h2
  rw [List.getElem?_map] at h1 h2
  cases hk : parts.toList[k]? with
  | none => rw [hk] at h1; cases h1
  | some q =>
    rw [hk] at h1 h2
    simp only [Option.map_some, Option.some.injEq] at h1 h2
    subst h1 h2
    exact ⟨rfl, hρ _⟩
theorem jhC {ρ ρ' : Operand → Value} (hρ : ∀ x, VRel J (ρ x) (ρ' x)) {o : Oper} {t : TypeId} {parts : Array (Nat × Operand)} {v : Value} (ho : o.op = .build t parts)
  (h : jcc P ρ t parts = some v) : Gives P J ρ' o v := by
 unfold jcc at h
 obtain ⟨hl, hp⟩ := jg2 hρ parts
 split at h
 ·cases h
 ·rename_i z hz
  have hzp := (jbj hz default).2
  have hz2 : ARel J (ja2 z).toArray z.cells := jcq (jbr 5 hzp) (jcH hzp)
  split at h
  ·rename_i fields hu
   split at h
   ·cases h
   ·rename_i pl hpl
    split at h
    ·rename_i cs hcs
     cases h
     obtain ⟨r', hr', hR⟩ := jdT _ _ _ _ _ hz2 hl hp hcs
     refine ⟨.agg r', .agg hR.size hR.at_, fun w => ?_⟩
     have e : (fun i : Nat => pl[i]?) = (fun i : Nat => pl.toArray[i]?) := by funext i; simp
     rw [e] at hr'
     simp only [execOp, ho, Instr.build, Sem.run_bind, (jbj hz w).1, jaF hu, Result.andThen_ok, run_places hpl w, hr', Sem.run_pure]
    ·cases h
  ·rename_i n e hu
   split at h
   ·cases h
   ·rename_i inf hinf
    split at h
    ·rename_i cs hcs
     cases h
     obtain ⟨r', hr', hR⟩ := jdT _ _ _ _ _ hz2 hl hp hcs
     refine ⟨.agg r', .agg hR.size hR.at_, fun w => ?_⟩
     have hr'' : Instr.fill (fun i => some (i * inf.size, inf.size)) z.cells (parts.map fun (i, x) => (i, ρ' x)).toList = some r' := hr'
     simp only [execOp, ho, Instr.build, Sem.run_bind, (jbj hz w).1, jaF hu, Result.andThen_ok, jba hinf, hr'', Sem.run_pure]
    ·cases h
  ·cases h
def aLen (P : Program) (t : TypeId) (v : Value) : Option Nat :=
 match v with
 | .slice _ n _ => match P.underlying t with
   | some (.slice _) => some n
   | _ => none
 | .string s => match P.underlying t with
   | some .string => some s.data.toList.length
   | _ => none
 | .map none => match P.underlying t with
   | some (.map _ _) => some 0
   | _ => none
 | _ => match P.underlying t with
   | some (.array n _) => some n
   | _ => none
theorem aLen_run {t : TypeId} {v v' : Value} {n : Nat} (hv : VRel J v v') (h : aLen P t v = some n) (ty : TypeId) (ts : Array TypeId) (ht : ts[0]? = some t) (w : World) :
  (Builtin.len_ ts ty #[v']).run P w = .ok (.int .i64 n) w := by
 unfold aLen at h
 split at h
 ·split at h
  ·rename_i a l c e hu
   cases h
   cases hv <;> simp [Builtin.len_, ht, Sem.run_bind, jaF hu, Result.andThen_ok, Sem.run_pure, goInt]
  ·cases h
 ·split at h
  ·rename_i s _ hu
   cases h
   rw [jbq hv]
   have e : s.data.toList.length = s.size := by rw [Array.length_toList]; rfl
   rw [e]
   simp [Builtin.len_, ht, Sem.run_bind, jaF hu, Result.andThen_ok, Sem.run_pure, goInt]
  ·cases h
 ·split at h
  ·rename_i k e hu
   cases h
   cases hv
   simp [Builtin.len_, ht, Sem.run_bind, jaF hu, Result.andThen_ok, Sem.run_pure, goInt]
  ·cases h
 ·split at h
  ·rename_i m e hu
   cases h
   simp [Builtin.len_, ht, Sem.run_bind, jaF hu, Result.andThen_ok, Sem.run_pure, goInt]
  ·cases h
def jaa (P : Program) (ρ : Operand → Value) (b : Builtin) (args : List Operand) (ts : List TypeId) (ty : TypeId) : Option Value :=
 match b with
 | .len => match args, ts with
   | [x], t :: _ => match aLen P t (ρ x) with
     | some n => some (.int .i64 n)
     | none => none
   | _, _ => none
 | .cap => match args, ts with
   | [x], t :: _ => match ρ x with
     | .slice (some _) _ c => match P.underlying t with
       | some (.slice _) => match Nat.beq (Nat.mod c 2) 0 with
         | true => some (.int .i64 (Nat.div c 2))
         | false => none
       | _ => none
     | .slice none _ c => match P.underlying t with
       | some (.slice _) => some (.int .i64 c)
       | _ => none
     | _ => none
   | _, _ => none
 | .max => match args with
   | [x, y] => match ρ x, ρ y with
     | .int k a, .int _ c => some (.int k (if c > a then c else a))
     | _, _ => none
   | [x, y, z] => match ρ x, ρ y, ρ z with
     | .int k a, .int _ c, .int _ d => some (.int k (if d > (if c > a then c else a) then d else (if c > a then c else a)))
     | _, _, _ => none
   | _ => none
 | .min => match args with
   | [x, y] => match ρ x, ρ y with
     | .int k a, .int _ c => some (.int k (if c < a then c else a))
     | _, _ => none
   | [x, y, z] => match ρ x, ρ y, ρ z with
     | .int k a, .int _ c, .int _ d => some (.int k (if d < (if c < a then c else a) then d else (if c < a then c else a)))
     | _, _, _ => none
   | _ => none
 | .unsafeSliceData => match args with
   | [x] => match ρ x with
     | .slice none _ _ => some (.pointer none)
     | .slice (some a) l c => match Nat.beq (Nat.mod c 2) 0 with
       | true => match Nat.beq (Nat.div c 2) 0 with
         | true => none
         | false => some (.pointer (some a))
       | false => match Nat.beq l 0 with
         | true => none
         | false => some (.pointer (some a))
     | _ => none
   | _ => none
 | _ => none
theorem jcl {ρ' : Operand → Value} {o : Oper} {c : Call} {b : Builtin} (ho : o.op = .call c) (hc : c.callee = .builtin b) :
  execOp ρ' o = builtin b c.argTypes o.type (c.args.map fun | .const _ => true | _ => false) (c.args.map ρ') := by
 simp only [execOp, ho, resolve, hc]
 rfl
theorem jfb {ρ' : Operand → Value} {c : Call} {x : Operand} (h : c.args.toList = [x]) : c.args.map ρ' = #[ρ' x] := by
 have : c.args = #[x] := by cases hc : c.args; rw [hc] at h; simp at h; rw [h]
 rw [this]; simp
theorem jdN {ρ' : Operand → Value} {c : Call} {x y : Operand} (h : c.args.toList = [x, y]) : c.args.map ρ' = #[ρ' x, ρ' y] := by
 have : c.args = #[x, y] := by cases hc : c.args; rw [hc] at h; simp at h; rw [h]
 rw [this]; simp
theorem jg5 {ρ' : Operand → Value} {c : Call} {x y z : Operand} (h : c.args.toList = [x, y, z]) : c.args.map ρ' = #[ρ' x, ρ' y, ρ' z] := by
 have : c.args = #[x, y, z] := by cases hc : c.args; rw [hc] at h; simp at h; rw [h]
 rw [this]; simp
theorem jgm {c : Call} {t : TypeId} {r : List TypeId} (h : c.argTypes.toList = t :: r) : c.argTypes[0]? = some t := by
 rw [← Array.getElem?_toList, h]; rfl
theorem jfO {ρ ρ' : Operand → Value} (hρ : ∀ x, VRel J (ρ x) (ρ' x)) {o : Oper} {c : Call} {b : Builtin} {v : Value} (ho : o.op = .call c) (hc : c.callee = .builtin b)
  (h : jaa P ρ b c.args.toList c.argTypes.toList o.type = some v) : Gives P J ρ' o v := by
 have hrun := jcl (ρ' := ρ') ho hc
 unfold jaa at h
 split at h
 ·
  split at h
  ·rename_i x t r ha ht
   split at h
   ·rename_i n hn
    cases h
    refine ⟨_, .int .i64 n, fun w => ?_⟩
    rw [hrun, jfb ha]
    simp only [builtin, Sem.run_bind, aLen_run (hρ x) hn o.type _ (jgm ht) w, Result.andThen_ok, Sem.run_pure]
   ·cases h
  ·cases h
 ·
  split at h
  ·rename_i x t r ha ht
   have hx := hρ x
   split at h
   ·rename_i a l cc e
    rw [e] at hx
    obtain ⟨a', c', hx', _, hcase⟩ := jbm hx
    split at h
    ·rename_i el hu
     split at h
     ·rename_i hb
      cases h
      have hb' : cc % 2 = 0 := Nat.eq_of_beq_eq_true hb
      have hcc : c' = cc / 2 := by
       rcases hcase with ⟨i, o', b, s, _, _, _, hcap⟩ | ⟨_, hcap⟩
       ·rcases hcap with ⟨_, e2⟩ | ⟨e2, _⟩
        ·exact e2
        ·omega
       ·rcases hcap with ⟨_, e2⟩ | ⟨e2, _⟩
        ·exact e2
        ·omega
      refine ⟨_, .int .i64 _, fun w => ?_⟩
      rw [hrun, jfb ha]
      simp only [builtin, Builtin.cap_, jgm ht, hx', Sem.run_bind, jaF hu, Result.andThen_ok, Sem.run_pure, goInt, hcc, List.getElem?_toArray, List.getElem?_cons_zero]
      rfl
     ·cases h
    ·cases h
   ·rename_i l cc e
    rw [e] at hx
    split at h
    ·rename_i el hu
     cases h
     have hx' : ρ' x = .slice none l cc := by generalize ρ' x = q at hx; cases hx; rfl
     refine ⟨_, .int .i64 _, fun w => ?_⟩
     rw [hrun, jfb ha]
     simp only [builtin, Builtin.cap_, jgm ht, hx', Sem.run_bind, jaF hu, Result.andThen_ok, Sem.run_pure, goInt, List.getElem?_toArray, List.getElem?_cons_zero]
    ·cases h
   ·cases h
  ·cases h
 ·
  split at h
  ·rename_i x y ha
   have hx := hρ x
   have hy := hρ y
   split at h
   ·rename_i k a k' c' e1 e2
    rw [e1] at hx
    rw [e2] at hy
    cases h
    refine ⟨_, .int k _, fun w => ?_⟩
    rw [hrun, jdN ha, jbc hx, jbc hy]
    rfl
   ·cases h
  ·rename_i x y z ha
   have hx := hρ x
   have hy := hρ y
   have hz := hρ z
   split at h
   ·rename_i k a k' c' k2 d2 e1 e2 e3
    rw [e1] at hx
    rw [e2] at hy
    rw [e3] at hz
    cases h
    refine ⟨_, .int k _, fun w => ?_⟩
    rw [hrun, jg5 ha, jbc hx, jbc hy, jbc hz]
    rfl
   ·cases h
  ·cases h
 ·
  split at h
  ·rename_i x y ha
   have hx := hρ x
   have hy := hρ y
   split at h
   ·rename_i k a k' c' e1 e2
    rw [e1] at hx
    rw [e2] at hy
    cases h
    refine ⟨_, .int k _, fun w => ?_⟩
    rw [hrun, jdN ha, jbc hx, jbc hy]
    rfl
   ·cases h
  ·rename_i x y z ha
   have hx := hρ x
   have hy := hρ y
   have hz := hρ z
   split at h
   ·rename_i k a k' c' k2 d2 e1 e2 e3
    rw [e1] at hx
    rw [e2] at hy
    rw [e3] at hz
    cases h
    refine ⟨_, .int k _, fun w => ?_⟩
    rw [hrun, jg5 ha, jbc hx, jbc hy, jbc hz]
    rfl
   ·cases h
  ·cases h
 ·
  split at h
  ·rename_i x ha
   have hx := hρ x
   split at h
   ·rename_i l cc e
    rw [e] at hx
    cases h
    have hx' : ρ' x = .slice none l cc := by generalize ρ' x = q at hx; cases hx; rfl
    refine ⟨_, .ptrNil, fun w => ?_⟩
    rw [hrun, jfb ha, hx']
    rfl
   ·rename_i a l cc e
    rw [e] at hx
    obtain ⟨a', c', hx', hadd, hcase⟩ := jbm hx
    have hz : VRel J (.pointer (some a)) (.pointer (some a')) := by
     have := hadd 0
     unfold Addr.add at this
     rw [if_pos rfl, if_pos rfl] at this
     exact this
    have hd : CapD cc c' l := by
     rcases hcase with ⟨i, o', b, s, _, _, _, hcap⟩ | ⟨_, hcap⟩
     ·exact hcap.dead
     ·exact hcap
    have hrun2 : c' ≠ 0 → ∀ w, (execOp ρ' o).run P w = .ok (.value (.pointer (some a'))) w := by
     intro hne w
     rw [hrun, jfb ha, hx']
     have e : Builtin.unsafeSliceData_ c.argTypes o.type #[.slice (some a') l c'] = (if c' ≠ 0 then pure (.pointer (some a')) else do
      if (← viewAt a'.block).isSome then pure (.pointer (some a'))
      else pure (.pointer (some ⟨← newObj (.view a' (← elemOf o.type)), 0, none⟩))) := rfl
     simp only [builtin, e, if_pos hne, Sem.run_bind, Sem.run_pure, Result.andThen_ok]
    split at h
    ·rename_i hb
     have hb' : cc % 2 = 0 := Nat.eq_of_beq_eq_true hb
     split at h
     ·cases h
     ·rename_i h2
      have h2' : cc / 2 ≠ 0 := Nat.ne_of_beq_eq_false h2
      cases h
      refine ⟨_, hz, hrun2 ?_⟩
      rcases hd with ⟨_, e2⟩ | ⟨e2, _⟩
      ·omega
      ·omega
    ·rename_i hb
     have hb' : cc % 2 ≠ 0 := Nat.ne_of_beq_eq_false hb
     split at h
     ·cases h
     ·rename_i h2
      have h2' : l ≠ 0 := Nat.ne_of_beq_eq_false h2
      cases h
      refine ⟨_, hz, hrun2 ?_⟩
      rcases hd with ⟨e2, _⟩ | ⟨_, e2⟩
      ·omega
      ·omega
   ·cases h
  ·cases h
 ·cases h
def ja9 (P : Program) (s d : TypeId) (v : Value) : Option Value :=
 match v with
 | .int _ n => match P.underlying d with
   | some (.int k) => match P.underlying s with
     | some _ => some (.int k (jax k n))
     | none => none
   | _ => none
 | _ => none
theorem jfN {ρ ρ' : Operand → Value} (hρ : ∀ x, VRel J (ρ x) (ρ' x)) {o : Oper} {s d : TypeId} {x : Operand} {v : Value} (ho : o.op = .convert s d x) (h : ja9 P s d (ρ x) = some v) : Gives P J ρ' o v := by
 have hx := hρ x
 unfold ja9 at h
 split at h
 ·rename_i k0 n e
  rw [e] at hx
  split at h
  ·rename_i k hd
   split at h
   ·rename_i ds hs
    cases h
    refine ⟨_, .int _ _, fun w => ?_⟩
    simp only [execOp, ho, convert, jbc hx, Sem.run_bind, jaF hs, jaF hd, Result.andThen_ok, Conv.intToInt, Sem.run_pure, jbR]
   ·cases h
  ·cases h
 ·cases h
def aP (P : Program) (ρ : Operand → Value) (o : Oper) : Option Value :=
 match o.op with
 | .move x => some (ρ x)
 | .assign x => some (ρ x)
 | .binOp op t x y _ => aBin P ρ o op t x y
 | .fieldAddr s x f => jaL P ρ s x f
 | .indexAddr t x i => jas P ρ t x i
 | .pick c a b => aPick ρ c a b
 | .extract t i => jeg ρ t i
 | .nilCheck x => jdu ρ x
 | .makeInterface t x => jbv P ρ t x
 | .makeFunc fn x y => jbK ρ fn x y
 | .field t x f => jiW P ρ t x f
 | .index t x i => ja3 P ρ t x i
 | .slice t x lo hi mx => match jbg P ρ t x lo hi mx with
   | some v => some v
   | none => jaT P ρ o
 | .build t parts => jcc P ρ t parts
 | .typeAssert x _ asserted ok => match jgH P ρ x asserted ok with
   | some v => some v
   | none => jaT P ρ o
 | .unOp .not _ x => match ρ x with
   | .bool b => some (.bool (!b))
   | _ => none
 | .unOp _ _ _ => jaT P ρ o
 | .convert s d x => match ja9 P s d (ρ x) with
   | some v => some v
   | none => jaT P ρ o
 | .call c => match c.callee with
   | .builtin b => jaa P ρ b c.args.toList c.argTypes.toList o.type
   | _ => none
 | _ => none
theorem aP_sound {ρ ρ' : Operand → Value} (hρ : ∀ x, VRel J (ρ x) (ρ' x)) (hD : J P.globals.size = .dead) {o : Oper} {v : Value} (h : aP P ρ o = some v) : Gives P J ρ' o v := by
 unfold aP at h
 split at h
 ·rename_i x ho; cases h; exact ⟨_, hρ x, fun w => by simp only [execOp, ho, Sem.run_pure]⟩
 ·rename_i x ho; cases h; exact ⟨_, hρ x, fun w => by simp only [execOp, ho, Sem.run_pure]⟩
 ·rename_i ho; exact jjS hρ ho h
 ·rename_i ho; exact jeJ hρ ho h
 ·rename_i ho; exact jeI hρ ho h
 ·rename_i ho; exact jif hρ ho h
 ·rename_i ho; exact jfM hρ ho h
 ·rename_i ho; exact jfv hρ ho h
 ·rename_i ho; exact jeH hρ ho h
 ·rename_i ho; exact jfz hρ ho h
 ·rename_i ho; exact jhz hρ ho h
 ·rename_i ho; exact jhy hρ ho h
 ·rename_i ho
  split at h
  ·rename_i e; cases h; exact jhs hρ hD ho e
  ·exact jcr hρ h
 ·rename_i ho; exact jhC hρ ho h
 ·rename_i ho
  split at h
  ·rename_i e; cases h; exact jgG hρ ho e
  ·exact jcr hρ h
 ·rename_i t x ho
  split at h
  ·rename_i b e
   cases h
   have hx := hρ x
   rw [e] at hx
   refine ⟨_, .bool _, fun w => ?_⟩
   simp only [execOp, ho, jec hx]
   rfl
  ·cases h
 ·exact jcr hρ h
 ·rename_i ho
  split at h
  ·rename_i e; cases h; exact jfN hρ ho e
  ·exact jcr hρ h
 ·rename_i c ho
  split at h
  ·rename_i hc; exact jfO hρ ho hc h
  ·cases h
 ·cases h
end
end Go.Proofs.YtnafmgiaifbhgaaGreatDoor.Ev
