/-
  The evaluator, part Pa: maps whose keys are whole numbers or texts: looked up, updated. No conditions.
-/
import Derived.Test.YthnglblipoimhaaGreatDoorEvP
set_option linter.unusedSimpArgs false
set_option linter.unusedVariables false
namespace Go.Proofs.YthnglblipoimhaaGreatDoor.Ev
noncomputable section
variable {P : Program} {J : Nat → Loc}
def skey (a b : Value) : Option Bool :=
 match a, b with
 | .int j x, .int k y => match decide (j = k) with
   | true => some (decide (x = y))
   | false => none
 | .string x, .string y => some (jcV x.data.toList y.data.toList)
 | _, _ => none
def jkw (k : Value) : List (Value × Value × Nat) → Nat → Option (Option (Nat × Value))
 | [], _ => some none
 | (k', v, _) :: es, i => match skey k k' with
   | some true => some (some (i, v))
   | some false => jkw k es (Nat.add i 1)
   | none => none
def jeP (d : TypeDesc) (k : Value) : Bool :=
 match d, k with
 | .int _, .int _ _ => true
 | .string, .string _ => true
 | _, _ => false
theorem jge {d : TypeDesc} {k a a' : Value} {r : Bool} (hk : jeP d k = true) (ha : VRel J a a') (h : skey k a = some r) :
  Instr.sameNow d k a' = some r ∧ (r = true → a' = k) := by
 unfold skey at h
 split at h
 ·rename_i j x kk y
  split at h
  ·rename_i e
   have e' : j = kk := of_decide_eq_true e
   subst e'
   cases h
   rw [jbe ha]
   unfold jeP at hk
   split at hk
   ·rename_i e1; cases e1
    refine ⟨by simp [Instr.sameNow]; by_cases hxy : x = y <;> simp [hxy], fun hd => ?_⟩
    rw [of_decide_eq_true hd]
   ·rename_i e1; cases e1
   ·cases hk
  ·cases h
 ·rename_i x y
  cases h
  rw [jbv ha]
  unfold jeP at hk
  split at hk
  ·rename_i e1; cases e1
  ·rename_i e1; cases e1
   have e2 : jcV x.data.toList y.data.toList = (x == y) := by
    rw [jdP, show (x == y) = (x.data == y.data) from rfl]
    apply Bool.eq_iff_iff.2
    simp only [beq_iff_eq]
    exact ⟨fun e3 => Array.ext' e3, fun e3 => by rw [e3]⟩
   rw [e2]
   refine ⟨rfl, fun hd => ?_⟩
   rw [show (x == y) = (x.data == y.data) from rfl] at hd
   have hd' := eq_of_beq hd
   cases x; cases y; cases hd'; rfl
  ·cases hk
 ·cases h
theorem jct {d : TypeDesc} {k : Value} (hk : jeP d k = true) : ∀ (es : List (Value × Value × Nat)) (es' : List MapEntry) (i : Nat) (r : Option (Nat × Value)), es.length = es'.length →
  (∀ (j : Nat) a v n, es[j]? = some (a, v, n) → ∃ e, es'[j]? = some e ∧ VRel J a e.key ∧ VRel J v e.val ∧ e.born = n) → jkw k es i = some r →
  match r with
  | none => Instr.findNow d k es' i = some none
  | some (q, v) => ∃ v', Instr.findNow d k es' i = some (some (q, v')) ∧ VRel J v v' ∧ i ≤ q ∧ ∃ e a n, es'[q - i]? = some e ∧ e.key = k ∧ es[q - i]? = some (a, v, n) ∧ e.val = v' := by
 intro es
 induction es with
 | nil =>
   intro es' i r hl _ h
   cases h
   cases es' with
   | nil => rfl
   | cons a l => simp at hl
 | cons x es ih =>
   intro es' i r hl hall h
   obtain ⟨a, v, n⟩ := x
   cases es' with
   | nil => simp at hl
   | cons e es' =>
     obtain ⟨e1, h1, h2, h3, h4⟩ := hall 0 a v n rfl
     simp at h1; subst h1
     unfold jkw at h
     split at h
     ·rename_i hs
      cases h
      obtain ⟨s1, s2⟩ := jge hk h2 hs
      refine ⟨e.val, by simp only [Instr.findNow, s1], h3, Nat.le_refl _, e, a, n, by simp, s2 rfl, by simp, rfl⟩
     ·rename_i hs
      obtain ⟨s1, s2⟩ := jge hk h2 hs
      have := ih es' (i + 1) r (by simpa using hl) (fun j a v n hj => by simpa using hall (j + 1) a v n (by simpa using hj)) h
      cases r with
      | none => simp only [Instr.findNow, s1]; exact this
      | some q =>
        obtain ⟨q, vv⟩ := q
        obtain ⟨v', g1, g2, g3, e', a', n', g4, g5, g6, g7⟩ := this
        refine ⟨v', by simp only [Instr.findNow, s1]; exact g1, g2, by omega, e', a', n', ?_, g5, ?_, g7⟩
        ·rw [show q - i = (q - (i + 1)) + 1 from by omega, List.getElem?_cons_succ]; exact g4
        ·rw [show q - i = (q - (i + 1)) + 1 from by omega, List.getElem?_cons_succ]; exact g6
     ·cases h
theorem jfG {d : TypeDesc} {k k' : Value} (hk : jeP d k = true) (h : VRel J k k') : k' = k := by
 unfold jeP at hk
 split at hk
 ·exact jbe h
 ·exact jbv h
 ·cases hk
theorem run_checkKey {t : TypeId} {d : TypeDesc} {k : Value} (hu : P.underlying t = some d) (hk : jeP d k = true) (b : Bool) (n : Nat) (w : World) :
  (Instr.checkKey b (n + 1) t k).run P w = .ok () w := by
 simp only [Instr.checkKey, Sem.run_bind, jaw hu, Result.andThen_ok]
 unfold jeP at hk
 split at hk
 ·rfl
 ·rfl
 ·cases hk
theorem run_findKey {t : TypeId} {d : TypeDesc} {k : Value} {es : List MapEntry} {r : Option (Nat × Value)} (hu : P.underlying t = some d) (h : Instr.findNow d k es 0 = some r) (w : World) :
  (Instr.findKey t k es).run P w = .ok r w := by
 simp only [Instr.findKey, Sem.run_bind, jaw hu, Result.andThen_ok, h, Sem.run_pure]
theorem je3 {d : TypeDesc} {k : Value} (hk : jeP d k = true) (w : World) : (Instr.keyThatStays k k).run P w = .ok k w := by
 have : Instr.sameBits 10000 k k = true := by
  unfold jeP at hk
  split at hk
  ·simp [Instr.sameBits]
  ·rename_i s
   simp only [Instr.sameBits]
   rw [show (s == s) = (s.data == s.data) from rfl]; simp
  ·cases hk
 simp only [Instr.keyThatStays, this, if_true, Sem.run_pure]
theorem jc7 {w : World} {b : Nat} {es : Array MapEntry} {clock : Nat} (h : w.heap[b]? = some (.map es clock)) : (getObj b).run P w = .ok (.map es clock) w := by
 simp [getObj, Sem.run, h]
theorem jc6 {w : World} {b : Nat} {es es' : Array MapEntry} {clock clock' : Nat} (h : w.heap[b]? = some (.map es clock)) :
  (setObj b (.map es' clock')).run P w = .ok () { w with heap := w.heap.setIfInBounds b (.map es' clock') } := by
 simp [setObj, Sem.run, h]
theorem jd0 {i b s : Nat} {p : Value} (hb : J i = .at b s) (h : VRel J (.map (some i)) p) : p = .map (some b) := by
 cases h with
 | map e => rw [hb] at e; cases e; rfl
 | mapDead b' e => rw [show J i = _ from hb] at e; cases e
def jjf (P : Program) (μ : Mem) (t : TypeId) (x k : Value) (commaOk : Bool) : Option Value :=
 match P.underlying t with
 | some (.map kt et) => match P.underlying kt with
   | none => none
   | some d => match jeP d k with
     | false => none
     | true => match x with
       | .map none => match jbk P et with
         | none => none
         | some z => match commaOk with
           | true => some (.tuple #[z, .bool false])
           | false => some z
       | .map (some i) => match μ.obs.get i with
         | some (.map es _) => match jkw k es 0 with
           | none => none
           | some (some (_, v)) => match commaOk with
             | true => some (.tuple #[v, .bool true])
             | false => some v
           | some none => match jbk P et with
             | none => none
             | some z => match commaOk with
               | true => some (.tuple #[z, .bool false])
               | false => some z
         | _ => none
       | _ => none
 | _ => none
theorem tuple2 {a a' : Value} (b : Bool) (h : VRel J a a') : VRel J (.tuple #[a, .bool b]) (.tuple #[a', .bool b]) := by
 refine .tuple rfl fun i x y hx hy => ?_
 match i with
 | 0 => simp at hx hy; subst hx hy; exact h
 | 1 => simp at hx hy; subst hx hy; exact .bool b
 | i + 2 => simp at hx
theorem jgO {ρ' : Operand → Value} {w : World} {o : Oper} {t : TypeId} {x y : Operand} {c : Bool} {v' : Value} (ho : o.op = .lookup t x y c)
  (h : (Instr.lookup t (ρ' x) (ρ' y) c).run P w = .ok v' w) : (execOp ρ' o).run P w = .ok (.value v') w := by
 simp only [execOp, ho, Sem.run_bind, h, Result.andThen_ok, Sem.run_pure]
theorem jhf {ρ ρ' : Operand → Value} (hρ : ∀ x, VRel J (ρ x) (ρ' x)) {μ : Mem} {w : World} (h : Rel J μ w) {o : Oper} {t : TypeId} {x y : Operand} {c : Bool} {v : Value}
  (ho : o.op = .lookup t x y c) (hs : jjf P μ t (ρ x) (ρ y) c = some v) : ∃ v', VRel J v v' ∧ (execOp ρ' o).run P w = .ok (.value v') w := by
 have hx := hρ x
 have hy := hρ y
 unfold jjf at hs
 split at hs
 ·rename_i kt et hu
  split at hs
  ·cases hs
  ·rename_i d hd
   split at hs
   ·cases hs
   ·rename_i hk
    have hy' := jfG hk hy
    split at hs
    ·rename_i e
     rw [e] at hx
     have hx' : ρ' x = .map none := by generalize ρ' x = q at hx; cases hx; rfl
     split at hs
     ·cases hs
     ·rename_i z hz
      obtain ⟨z1, z2⟩ := jbj (P := P) hz w
      have key : (Instr.lookup t (ρ' x) (ρ' y) c).run P w = .ok (if c then .tuple #[z, .bool false] else z) w := by
       simp only [Instr.lookup, Sem.run_bind, jaw hu, Result.andThen_ok, hx', hy', Sem.run_pure, run_checkKey hd hk, run_findKey (r := none) hd (show Instr.findNow d (ρ y) [] 0 = some none from rfl), z1]
      have fin := jgO (ρ' := ρ') ho key
      cases c with
      | true => cases hs; exact ⟨_, tuple2 false (ja5 5 z2), fin⟩
      | false => cases hs; exact ⟨_, ja5 5 z2, fin⟩
    ·rename_i i e
     rw [e] at hx
     split at hs
     ·rename_i es clock hob
      obtain ⟨b, s, hb, es', r1, r2, r3⟩ := h.obj i _ hob (by simp)
      have hx' := jd0 hb hx
      have hg := jc7 (P := P) r1
      split at hs
      ·cases hs
      ·rename_i q vv hf
       obtain ⟨v', g1, g2, _⟩ := jct hk es es'.toList 0 _ (by simpa using r2) (fun j a v n hj => by simpa using r3 j a v n hj) hf
       have key : (Instr.lookup t (ρ' x) (ρ' y) c).run P w = .ok (if c then .tuple #[v', .bool true] else v') w := by
        simp only [Instr.lookup, Sem.run_bind, jaw hu, Result.andThen_ok, hx', hy', hg, Sem.run_pure, run_checkKey hd hk, run_findKey hd g1]
       have fin := jgO (ρ' := ρ') ho key
       cases c with
       | true => cases hs; exact ⟨_, tuple2 true g2, fin⟩
       | false => cases hs; exact ⟨_, g2, fin⟩
      ·rename_i hf
       have g1 := jct hk es es'.toList 0 _ (by simpa using r2) (fun j a v n hj => by simpa using r3 j a v n hj) hf
       split at hs
       ·cases hs
       ·rename_i z hz
        obtain ⟨z1, z2⟩ := jbj (P := P) hz w
        have key : (Instr.lookup t (ρ' x) (ρ' y) c).run P w = .ok (if c then .tuple #[z, .bool false] else z) w := by
         simp only [Instr.lookup, Sem.run_bind, jaw hu, Result.andThen_ok, hx', hy', hg, Sem.run_pure, run_checkKey hd hk, run_findKey hd g1, z1]
        have fin := jgO (ρ' := ρ') ho key
        cases c with
        | true => cases hs; exact ⟨_, tuple2 false (ja5 5 z2), fin⟩
        | false => cases hs; exact ⟨_, ja5 5 z2, fin⟩
     ·cases hs
    ·cases hs
 ·cases hs
def jje (μ : Mem) (v : Value) : Option Value :=
 match v with
 | .map none => some (.int .i64 0)
 | .map (some i) => match μ.obs.get i with
   | some (.map es _) => some (.int .i64 (Int.ofNat es.length))
   | _ => none
 | _ => none
def mset (v : Value) : List (Value × Value × Nat) → Nat → List (Value × Value × Nat)
 | [], _ => []
 | (k, _, n) :: es, 0 => (k, v, n) :: es
 | e :: es, i + 1 => e :: mset v es i
theorem jfB (v : Value) : ∀ (es : List (Value × Value × Nat)) (i : Nat), (mset v es i).length = es.length := by
 intro es
 induction es with
 | nil => intro i; rfl
 | cons x es ih => intro i; obtain ⟨k, u, n⟩ := x; cases i with
   | zero => rfl
   | succ i => simp [mset, ih]
theorem jjz (v : Value) : ∀ (es : List (Value × Value × Nat)) (i j : Nat), (mset v es i)[j]? = if j = i then (es[j]?).map (fun e => (e.1, v, e.2.2)) else es[j]? := by
 intro es
 induction es with
 | nil => intro i j; simp [mset]
 | cons x es ih =>
   intro i j
   obtain ⟨k, u, n⟩ := x
   cases i with
   | zero => cases j <;> simp [mset]
   | succ i => cases j with
     | zero => simp [mset]
     | succ j => simp [mset, ih]
def jhd (P : Program) (μ : Mem) (t : TypeId) (x k v : Value) : Option (Value × Mem) :=
 match P.underlying t with
 | some (.map kt _) => match P.underlying kt with
   | none => none
   | some d => match jeP d k with
     | false => none
     | true => match x with
       | .map (some i) => match μ.obs.get i with
         | some (.map es clock) => match jkw k es 0 with
           | none => none
           | some (some (q, _)) => some (undef, ⟨μ.obs.set i (.map (mset v es q) clock), μ.next⟩)
           | some none => some (undef, ⟨μ.obs.set i (.map (es ++ [(k, v, clock)]) (Nat.add clock 1)), μ.next⟩)
         | _ => none
       | _ => none
 | _ => none
theorem jex {ρ ρ' : Operand → Value} (hρ : ∀ x, VRel J (ρ x) (ρ' x)) {μ : Mem} {w : World} (h : Rel J μ w) {o : Oper} {t : TypeId} {x y z : Operand} {v : Value} {μ' : Mem}
  (ho : o.op = .mapUpdate t x y z ∨ o.op = .insert t x y z) (hs : jhd P μ t (ρ x) (ρ y) (ρ z) = some (v, μ')) : jgb P J ρ' o μ w v μ' := by
 have hx := hρ x
 have hy := hρ y
 have hz := hρ z
 have run : ∀ w', (Instr.mapUpdate t (ρ' x) (ρ' y) (ρ' z)).run P w = .ok () w' → (execOp ρ' o).run P w = .ok .skip w' := by
  intro w' e
  rcases ho with ho | ho <;> simp only [execOp, ho, Sem.run_bind, e, Result.andThen_ok, Sem.run_pure]
 unfold jhd at hs
 split at hs
 ·rename_i kt et hu
  split at hs
  ·cases hs
  ·rename_i d hd
   split at hs
   ·cases hs
   ·rename_i hk
    have hy' := jfG hk hy
    split at hs
    ·rename_i i e
     rw [e] at hx
     split at hs
     ·rename_i es clock hob
      obtain ⟨b, s, hb, es', r1, r2, r3⟩ := h.obj i _ hob (by simp)
      have hx' := jd0 hb hx
      have hg := jc7 (P := P) r1
      have hbl : b < w.heap.size := h.bnd _ _ _ hb
      have hp : ¬ gone μ i := fun hg => by have := hg _ hob; cases this
      split at hs
      ·cases hs
      ·rename_i q vv hf
       cases hs
       obtain ⟨v', g1, g2, _, e', a', n', g4, g5, g6, g7⟩ := jct hk es es'.toList 0 _ (by simpa using r2) (fun j a v n hj => by simpa using r3 j a v n hj) hf
       have hq : es'[q]? = some e' := by simpa using g4
       have hset := jc6 (P := P) (es' := es'.modify q fun e => { e with key := ρ y, val := ρ' z }) (clock' := clock) r1
       obtain ⟨q1, q2, q3⟩ := heap_set (w := w) (o := .map (es'.modify q fun e => { e with key := ρ y, val := ρ' z }) clock) hbl
       refine ⟨J, undef, _, .inr ⟨run _ ?_, rfl⟩, jcA, h.update hb (.map (mset (ρ z) es q) clock) q3 q2 ?_, Step.update hb hp _ q3 q2 rfl rfl rfl⟩
       ·simp only [Instr.mapUpdate, Sem.run_bind, jaw hu, Result.andThen_ok, hx', hy', hg, run_checkKey hd hk, run_findKey hd g1, hq, Option.map_some, Option.getD_some, g5, je3 hk, hset]
       ·refine ⟨_, q1, by rw [jfB, r2]; simp, fun j a v n hj => ?_⟩
        rw [jjz] at hj
        rw [Array.getElem?_modify]
        by_cases hjq : j = q
        ·subst hjq
         rw [if_pos rfl] at hj
         cases hes : es[j]? with
         | none => rw [hes] at hj; cases hj
         | some x3 =>
           rw [hes] at hj
           obtain ⟨a3, v3, n3⟩ := x3
           cases hj
           obtain ⟨e4, f1, f2, f3, f4⟩ := r3 j _ _ _ hes
           rw [hq] at f1; cases f1
           refine ⟨{ e' with key := ρ y, val := ρ' z }, by simp [hq], ?_, hz, f4⟩
           rw [← g5]; exact f2
        ·rw [if_neg hjq] at hj
         rw [if_neg (fun e => hjq e.symm)]
         exact r3 j a v n hj
      ·rename_i hf
       cases hs
       have g1 := jct hk es es'.toList 0 _ (by simpa using r2) (fun j a v n hj => by simpa using r3 j a v n hj) hf
       have hset := jc6 (P := P) (es' := es'.push { key := ρ y, val := ρ' z, born := clock }) (clock' := clock + 1) r1
       obtain ⟨q1, q2, q3⟩ := heap_set (w := w) (o := .map (es'.push { key := ρ y, val := ρ' z, born := clock }) (clock + 1)) hbl
       refine ⟨J, undef, _, .inr ⟨run _ ?_, rfl⟩, jcA, h.update hb (.map (es ++ [(ρ y, ρ z, clock)]) (clock + 1)) q3 q2 ?_, Step.update hb hp _ q3 q2 rfl rfl rfl⟩
       ·simp only [Instr.mapUpdate, Sem.run_bind, jaw hu, Result.andThen_ok, hx', hy', hg, run_checkKey hd hk, run_findKey hd g1, hset]
       ·refine ⟨_, q1, by simp [r2], fun j a v n hj => ?_⟩
        by_cases hjl : j < es.length
        ·rw [List.getElem?_append_left hjl] at hj
         obtain ⟨e4, f1, f2, f3, f4⟩ := r3 j _ _ _ hj
         refine ⟨e4, ?_, f2, f3, f4⟩
         rw [Array.getElem?_push_lt (by omega)]
         have := (Array.getElem?_eq_some_iff.1 f1).2
         rw [this]
        ·rw [List.getElem?_append_right (by omega)] at hj
         have hj0 : j - es.length = 0 := by
          cases h5 : j - es.length with
          | zero => rfl
          | succ m => rw [h5] at hj; simp at hj
         rw [hj0] at hj
         cases hj
         have : j = es'.size := by omega
         subst this
         refine ⟨{ key := ρ y, val := ρ' z, born := clock }, by simp, ?_, hz, rfl⟩
         have hyy := hρ y
         rw [hy'] at hyy
         exact hyy
     ·cases hs
    ·cases hs
 ·cases hs
def jfZ (P : Program) (μ : Mem) (t : TypeId) (x k : Value) : Option (Value × Mem) :=
 match P.underlying t with
 | some (.map kt et) => match P.underlying kt with
   | none => none
   | some d => match jeP d k with
     | false => none
     | true => match x with
       | .map (some i) => match μ.obs.get i with
         | some (.map es clock) => match jkw k es 0 with
           | none => none
           | some (some (q, _)) => match es[q]? with
             | some (_, v, n) => some (.tuple #[v, .int .i64 (Int.ofNat n)], ⟨μ.obs.set i (.map es clock), μ.next⟩)
             | none => none
           | some none => match jbk P et with
             | none => none
             | some z => some (.tuple #[z, .int .i64 (Int.ofNat clock)], ⟨μ.obs.set i (.map (es ++ [(k, z, clock)]) (Nat.add clock 1)), μ.next⟩)
         | _ => none
       | _ => none
 | _ => none
theorem tuple2i {a a' : Value} (n : Int) (h : VRel J a a') : VRel J (.tuple #[a, .int .i64 n]) (.tuple #[a', .int .i64 n]) := by
 refine .tuple rfl fun i x y hx hy => ?_
 match i with
 | 0 => simp at hx hy; subst hx hy; exact h
 | 1 => simp at hx hy; subst hx hy; exact .int _ n
 | i + 2 => simp at hx
theorem jkg {μ : Mem} {w : World} {b s clock : Nat} {es : List (Value × Value × Nat)} {es' : Array MapEntry} {k v v' : Value} (r2 : es.length = es'.size)
  (r3 : ∀ (i : Nat) k v n, es[i]? = some (k, v, n) → ∃ e, es'[i]? = some e ∧ VRel J k e.key ∧ VRel J v e.val ∧ e.born = n) (hk : VRel J k k) (hv : VRel J v v')
  (q1 : w.heap[b]? = some (.map (es'.push { key := k, val := v', born := clock }) (clock + 1))) : ObRel J w b s (.map (es ++ [(k, v, clock)]) (clock + 1)) := by
 refine ⟨_, q1, by simp [r2], fun j a v n hj => ?_⟩
 by_cases hjl : j < es.length
 ·rw [List.getElem?_append_left hjl] at hj
  obtain ⟨e4, f1, f2, f3, f4⟩ := r3 j _ _ _ hj
  refine ⟨e4, ?_, f2, f3, f4⟩
  rw [Array.getElem?_push_lt (by omega)]
  have := (Array.getElem?_eq_some_iff.1 f1).2
  rw [this]
 ·rw [List.getElem?_append_right (by omega)] at hj
  have hj0 : j - es.length = 0 := by
   cases h5 : j - es.length with
   | zero => rfl
   | succ m => rw [h5] at hj; simp at hj
  rw [hj0] at hj
  cases hj
  have : j = es'.size := by omega
  subst this
  exact ⟨{ key := k, val := v', born := clock }, by simp, hk, hv, rfl⟩
theorem jfY {ρ ρ' : Operand → Value} (hρ : ∀ x, VRel J (ρ x) (ρ' x)) {μ : Mem} {w : World} (h : Rel J μ w) {o : Oper} {t : TypeId} {x y : Operand} {v : Value} {μ' : Mem}
  (ho : o.op = .mapEntry t x y) (hs : jfZ P μ t (ρ x) (ρ y) = some (v, μ')) : jgb P J ρ' o μ w v μ' := by
 have hx := hρ x
 have hy := hρ y
 have run : ∀ r w', (Instr.mapEntry t (ρ' x) (ρ' y)).run P w = .ok r w' → (execOp ρ' o).run P w = .ok (.value r) w' := by
  intro r w' e
  simp only [execOp, ho, Sem.run_bind, e, Result.andThen_ok, Sem.run_pure]
 unfold jfZ at hs
 split at hs
 ·rename_i kt et hu
  split at hs
  ·cases hs
  ·rename_i d hd
   split at hs
   ·cases hs
   ·rename_i hk
    have hy' := jfG hk hy
    split at hs
    ·rename_i i e
     rw [e] at hx
     split at hs
     ·rename_i es clock hob
      obtain ⟨b, s, hb, es', r1, r2, r3⟩ := h.obj i _ hob (by simp)
      have hx' := jd0 hb hx
      have hg := jc7 (P := P) r1
      have hbl : b < w.heap.size := h.bnd _ _ _ hb
      have hp : ¬ gone μ i := fun hg => by have := hg _ hob; cases this
      split at hs
      ·cases hs
      ·rename_i q vv hf
       split at hs
       ·rename_i a2 v2 n2 hes
        cases hs
        obtain ⟨v', g1, g2, _, e', a', n', g4, g5, g6, g7⟩ := jct hk es es'.toList 0 _ (by simpa using r2) (fun j a v n hj => by simpa using r3 j a v n hj) hf
        have hq : es'[q]? = some e' := by simpa using g4
        obtain ⟨e3, f1, f2, f3, f4⟩ := r3 q _ _ _ hes
        rw [hq] at f1; cases f1
        rw [Nat.sub_zero, hes] at g6; cases g6
        have hset := jc6 (P := P) (es' := es'.modify q fun e => { e with key := ρ y }) (clock' := clock) r1
        obtain ⟨q1, q2, q3⟩ := heap_set (w := w) (o := .map (es'.modify q fun e => { e with key := ρ y }) clock) hbl
        refine ⟨J, .tuple #[v', .int .i64 (Int.ofNat n2)], _, .inl (run _ _ ?_), tuple2i _ g2, h.update hb (.map es clock) q3 q2 ?_, Step.update hb hp _ q3 q2 rfl rfl rfl⟩
        ·simp only [Instr.mapEntry, Sem.run_bind, jaw hu, Result.andThen_ok, hx', hy', hg, run_checkKey hd hk, run_findKey hd g1, hq, Option.map_some, Option.getD_some, g5, je3 hk, hset, Sem.run_pure, goInt, f4]
         rfl
        ·refine ⟨_, q1, by rw [r2]; simp, fun j a v n hj => ?_⟩
         rw [Array.getElem?_modify]
         obtain ⟨e4, k1, k2, k3, k4⟩ := r3 j a v n hj
         by_cases hjq : q = j
         ·subst hjq
          rw [if_pos rfl, k1]
          rw [hq] at k1; cases k1
          refine ⟨_, rfl, ?_, k3, k4⟩
          show VRel J a (ρ y)
          rw [← g5]; exact k2
         ·rw [if_neg hjq]
          exact ⟨e4, k1, k2, k3, k4⟩
       ·cases hs
      ·rename_i hf
       split at hs
       ·cases hs
       ·rename_i z hz
        obtain ⟨z1, z2⟩ := jbj (P := P) hz w
        cases hs
        have g1 := jct hk es es'.toList 0 _ (by simpa using r2) (fun j a v n hj => by simpa using r3 j a v n hj) hf
        have hset := jc6 (P := P) (es' := es'.push { key := ρ y, val := z, born := clock }) (clock' := clock + 1) r1
        obtain ⟨q1, q2, q3⟩ := heap_set (w := w) (o := .map (es'.push { key := ρ y, val := z, born := clock }) (clock + 1)) hbl
        have hyy := hρ y
        rw [hy'] at hyy
        refine ⟨J, .tuple #[z, .int .i64 (Int.ofNat clock)], _, .inl (run _ _ ?_), tuple2i _ (ja5 5 z2), h.update hb (.map (es ++ [(ρ y, z, clock)]) (clock + 1)) q3 q2 (jkg (μ := μ) r2 r3 hyy (ja5 5 z2) q1), Step.update hb hp _ q3 q2 rfl rfl rfl⟩
        simp only [Instr.mapEntry, Sem.run_bind, jaw hu, Result.andThen_ok, hx', hy', hg, run_checkKey hd hk, run_findKey hd g1, z1, hset, Sem.run_pure, goInt]
        rfl
     ·cases hs
    ·cases hs
 ·cases hs
def mborn (n : Nat) : List (Value × Value × Nat) → Nat → Option Nat
 | [], _ => none
 | (_, _, m) :: es, i => match Nat.beq m n with
   | true => some i
   | false => mborn n es (Nat.add i 1)
theorem jiI {n : Nat} : ∀ (es : List (Value × Value × Nat)) (es' : List MapEntry) (i q : Nat), es.length = es'.length →
  (∀ (j : Nat) a v m, es[j]? = some (a, v, m) → ∃ e, es'[j]? = some e ∧ e.born = m) → mborn n es i = some q → i ≤ q ∧ es'.findIdx? (fun e => (e.born : Int) == Int.ofNat n) = some (q - i) := by
 intro es
 induction es with
 | nil => intro es' i q _ _ h; cases h
 | cons x es ih =>
   intro es' i q hl hall h
   obtain ⟨a, v, m⟩ := x
   cases es' with
   | nil => simp at hl
   | cons e es' =>
     obtain ⟨e1, h1, h2⟩ := hall 0 a v m rfl
     simp at h1; subst h1
     unfold mborn at h
     split at h
     ·rename_i hm
      cases h
      have : m = n := Nat.eq_of_beq_eq_true hm
      refine ⟨Nat.le_refl _, ?_⟩
      rw [List.findIdx?_cons, h2, this]; simp
     ·rename_i hm
      have hmn : ¬ m = n := fun e => by subst e; simp at hm
      obtain ⟨g1, g2⟩ := ih es' (i + 1) q (by simpa using hl) (fun j a v n hj => by simpa using hall (j + 1) a v n (by simpa using hj)) h
      refine ⟨by omega, ?_⟩
      rw [List.findIdx?_cons, h2, g2]
      have : ((m : Int) == Int.ofNat n) = false := by simp; omega
      rw [this]
      simp
      omega
def jea (μ : Mem) (x st v : Value) : Option (Value × Mem) :=
 match x with
 | .map (some i) => match st with
   | .int _ (.ofNat n) => match μ.obs.get i with
     | some (.map es clock) => match mborn n es 0 with
       | some q => some (undef, ⟨μ.obs.set i (.map (mset v es q) clock), μ.next⟩)
       | none => none
     | _ => none
   | _ => none
 | _ => none
theorem jeX {ρ ρ' : Operand → Value} (hρ : ∀ x, VRel J (ρ x) (ρ' x)) {μ : Mem} {w : World} (h : Rel J μ w) {o : Oper} {t : TypeId} {x y z : Operand} {v : Value} {μ' : Mem}
  (ho : o.op = .entryStore t x y z) (hs : jea μ (ρ x) (ρ y) (ρ z) = some (v, μ')) : jgb P J ρ' o μ w v μ' := by
 have hx := hρ x
 have hy := hρ y
 have hz := hρ z
 have run : ∀ w', (Instr.entryStore t (ρ' x) (ρ' y) (ρ' z)).run P w = .ok () w' → (execOp ρ' o).run P w = .ok .skip w' := by
  intro w' e
  simp only [execOp, ho, Sem.run_bind, e, Result.andThen_ok, Sem.run_pure]
 unfold jea at hs
 split at hs
 ·rename_i i e
  rw [e] at hx
  split at hs
  ·rename_i kd n e2
   rw [e2] at hy
   have hy' := jbe hy
   split at hs
   ·rename_i es clock hob
    obtain ⟨b, s, hb, es', r1, r2, r3⟩ := h.obj i _ hob (by simp)
    have hx' := jd0 hb hx
    have hg := jc7 (P := P) r1
    have hbl : b < w.heap.size := h.bnd _ _ _ hb
    have hp : ¬ gone μ i := fun hg => by have := hg _ hob; cases this
    split at hs
    ·rename_i q hf
     cases hs
     obtain ⟨_, g1⟩ := jiI es es'.toList 0 q (by simpa using r2) (fun j a v n hj => by
      obtain ⟨e, k1, _, _, k4⟩ := r3 j a v n hj
      exact ⟨e, by simpa using k1, k4⟩) hf
     have g2 : es'.findIdx? (fun e => (e.born : Int) == Int.ofNat n) = some q := by
      obtain ⟨l⟩ := es'
      simpa using g1
     have hset := jc6 (P := P) (es' := es'.modify q fun e => { e with val := ρ' z }) (clock' := clock) r1
     obtain ⟨q1, q2, q3⟩ := heap_set (w := w) (o := .map (es'.modify q fun e => { e with val := ρ' z }) clock) hbl
     refine ⟨J, undef, _, .inr ⟨run _ ?_, rfl⟩, jcA, h.update hb (.map (mset (ρ z) es q) clock) q3 q2 ?_, Step.update hb hp _ q3 q2 rfl rfl rfl⟩
     ·simp only [Instr.entryStore, Sem.run_bind, hx', hy', hg, asInt, asIntOf, Result.andThen_ok, Sem.run_pure, g2, hset]
     ·refine ⟨_, q1, by rw [jfB, r2]; simp, fun j a v n hj => ?_⟩
      rw [jjz] at hj
      rw [Array.getElem?_modify]
      by_cases hjq : j = q
      ·subst hjq
       rw [if_pos rfl] at hj
       cases hes : es[j]? with
       | none => rw [hes] at hj; cases hj
       | some x3 =>
         rw [hes] at hj
         obtain ⟨a3, v3, n3⟩ := x3
         cases hj
         obtain ⟨e4, f1, f2, f3, f4⟩ := r3 j _ _ _ hes
         exact ⟨{ e4 with val := ρ' z }, by simp [f1], f2, hz, f4⟩
      ·rw [if_neg hjq] at hj
       rw [if_neg (fun e => hjq e.symm)]
       exact r3 j a v n hj
    ·cases hs
   ·cases hs
  ·cases hs
 ·cases hs
theorem jhe {ρ ρ' : Operand → Value} (hρ : ∀ x, VRel J (ρ x) (ρ' x)) {μ : Mem} {w : World} (h : Rel J μ w) {o : Oper} {c : Call} {x : Operand} {t kt et : TypeId} {r : List TypeId} {v : Value}
  (ho : o.op = .call c) (hc : c.callee = .builtin .len) (ha : c.args.toList = [x]) (ht : c.argTypes.toList = t :: r) (hu : P.underlying t = some (.map kt et)) (hs : jje μ (ρ x) = some v) :
  ∃ v', VRel J v v' ∧ (execOp ρ' o).run P w = .ok (.value v') w := by
 have hx := hρ x
 have hrun := jcg (ρ' := ρ') ho hc
 unfold jje at hs
 split at hs
 ·rename_i e
  rw [e] at hx
  have hx' : ρ' x = .map none := by generalize ρ' x = q at hx; cases hx; rfl
  cases hs
  refine ⟨_, .int .i64 0, ?_⟩
  rw [hrun, jd4 ha]
  simp only [builtin, Builtin.len_, Sem.run_bind, jeR ht, hx', jaw hu, Result.andThen_ok, Sem.run_pure]
  simp [Sem.run_pure, goInt, hx', jaw hu]
 ·rename_i i e
  rw [e] at hx
  split at hs
  ·rename_i es clock hob
   cases hs
   obtain ⟨b, s, hb, es', r1, r2, r3⟩ := h.obj i _ hob (by simp)
   have hx' := jd0 hb hx
   have hg := jc7 (P := P) r1
   refine ⟨_, .int .i64 (Int.ofNat es.length), ?_⟩
   rw [hrun, jd4 ha, hx']
   simp only [builtin, Builtin.len_, Sem.run_bind, jeR ht, List.getElem?_toArray, List.getElem?_cons_zero, jaw hu, Result.andThen_ok, hg, Sem.run_pure, goInt, r2]
   rfl
  ·cases hs
 ·cases hs
def ji7 (P : Program) (μ : Mem) (src dst : TypeId) (v : Value) : Option (Value × Mem) :=
 match v with
 | .slice (some ⟨i, o, none⟩) l c => match Nat.beq src dst with
   | false => none
   | true => match P.underlying src with
     | some (.slice e) => match P.underlying e with
       | some (.int .u8) => match μ.obs.get i with
         | some (.cells n t zero over lo hi fx _) => match Nat.blt lo hi with
           | true => none
           | false => some (.slice (some ⟨i, o, none⟩) l c, ⟨μ.obs.set i (.cells n t zero over lo hi fx true), μ.next⟩)
         | _ => none
       | _ => none
     | _ => none
 | _ => none
theorem jha {ρ ρ' : Operand → Value} (hρ : ∀ x, VRel J (ρ x) (ρ' x)) {μ : Mem} {w : World} (h : Rel J μ w) {o : Oper} {src dst : TypeId} {x : Operand} {v : Value} {μ' : Mem}
  (ho : o.op = .convert src dst x) (hs : ji7 P μ src dst (ρ x) = some (v, μ')) : jgb P J ρ' o μ w v μ' := by
 have hx := hρ x
 unfold ji7 at hs
 split at hs
 ·rename_i i of l c e
  rw [e] at hx
  split at hs
  ·cases hs
  ·rename_i hsd
   have hsd' : src = dst := Nat.eq_of_beq_eq_true hsd
   subst hsd'
   split at hs
   ·rename_i el hu
    split at hs
    ·rename_i he
     split at hs
     ·rename_i n te zero over lo hi fx sh hob
      split at hs
      ·cases hs
      ·rename_i hlt
       cases hs
       obtain ⟨b, s, hb, hr, _⟩ := cell_of h hob
       obtain ⟨a', c', hx', _, hcase⟩ := jbB hx
       have ha' : a' = ⟨b, of, none⟩ := by
        rcases hcase with ⟨i2, o2, b2, s2, e1, e2, e3, _⟩ | ⟨e1, _⟩
        ·cases e1; rw [hb] at e3; cases e3; exact e2
        ·rw [show J i = _ from hb] at e1; cases e1
       subst ha'
       obtain ⟨C, fz, r1, r2, r3, r4, r5, r6⟩ := hr
       have hbl : b < w.heap.size := h.bnd _ _ _ hb
       have hlh : ¬ lo < hi := fun hh => by rw [show Nat.blt lo hi = true from by simpa using hh] at hlt; cases hlt
       have hp : ¬ gone μ i := fun hg => by have := hg _ hob; cases this
       obtain ⟨f1, f2⟩ := fz
       have hself : (w.freeze ⟨b, C.size, none⟩ 1).heap[b]? = some (.cells C te (if f1 == f2 then (C.size, C.size + 1) else (min f1 C.size, max f2 (C.size + 1)))) := by
        unfold World.freeze
        rw [if_neg (by omega)]
        simp [Array.getElem?_modify, r1]
       have hoth : ∀ k, k ≠ b → (w.freeze ⟨b, C.size, none⟩ 1).heap[k]? = w.heap[k]? := fun k hk => by
        unfold World.freeze
        rw [if_neg (by omega)]
        simp only [Array.getElem?_modify]
        rw [if_neg (fun e => hk e.symm)]
       have hsz : (w.freeze ⟨b, C.size, none⟩ 1).heap.size = w.heap.size := by
        unfold World.freeze
        rw [if_neg (by omega)]
        simp
       have hrun : (markStringish ⟨b, of, none⟩).run P w = .ok () (w.freeze ⟨b, C.size, none⟩ 1) := by
        have hshape : (shape b).run P w = .ok (some (te, C.size)) w := by
         simp only [shape, Sem.run, World.shape?, r1]
        simp only [markStringish, Sem.run_bind, hshape, Result.andThen_ok, freeze, Sem.run]
       have hv : VRel J (.slice (some ⟨i, of, none⟩) l c) (.slice (some ⟨b, of, none⟩) l c') := by rw [← hx']; exact hx
       refine ⟨J, .slice (some ⟨b, of, none⟩) l c', _, .inl ?_, hv, h.update hb (.cells n te zero over lo hi fx true) hsz hoth ?_, Step.update hb hp _ hsz hoth ?_ ?_ ?_⟩
       ·simp only [execOp, ho, convert, Sem.run_bind, jaw hu, jaw he, Result.andThen_ok, hx', beq_self_eq_true, hrun, Sem.run_pure]
       ·refine ⟨C, _, hself, r2, r3, r4, r5, ?_⟩
        by_cases hf : f1 = f2
        ·rw [if_pos (by simpa using hf)]
         exact .inr (.inl ⟨rfl, by simp; omega⟩)
        ·rw [if_neg (by simpa using hf)]
         rcases r6 with r6 | ⟨_, r6⟩ | ⟨_, _, r6⟩
         ·exact absurd r6 hf
         ·exact .inr (.inl ⟨rfl, by simp only at r6 ⊢; omega⟩)
         ·exact absurd r6 hlh
       ·unfold World.freeze; rw [if_neg (by omega)]
       ·unfold World.freeze; rw [if_neg (by omega)]
       ·unfold World.freeze; rw [if_neg (by omega)]
     ·cases hs
    ·cases hs
   ·cases hs
 ·cases hs
end
end Go.Proofs.YthnglblipoimhaaGreatDoor.Ev
