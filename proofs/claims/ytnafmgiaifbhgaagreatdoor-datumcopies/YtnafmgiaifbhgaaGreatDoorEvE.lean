/-
  The evaluator, part E: more operations without memory. No conditions.
-/
import Derived.Test.YtnafmgiaifbhgaaGreatDoorEvD
set_option linter.unusedSimpArgs false
set_option linter.unusedVariables false
namespace Go.Proofs.YtnafmgiaifbhgaaGreatDoor.Ev
noncomputable section
variable {P : Program} {J : Nat → Loc}
theorem jhH (bs : ByteArray) : ∀ (n i : Nat) (r : List UInt8), bs.size - i = n → ByteArray.toList.loop bs i r = r.reverse ++ bs.data.toList.drop i := by
 intro n
 induction n with
 | zero =>
   intro i r h
   rw [ByteArray.toList.loop, if_neg (by omega), List.drop_of_length_le (by rw [Array.length_toList]; show bs.size ≤ i; omega), List.append_nil]
 | succ n ih =>
   intro i r h
   have hi : i < bs.size := by omega
   rw [ByteArray.toList.loop, if_pos hi, ih (i + 1) _ (by omega)]
   have hd : i < bs.data.toList.length := by simpa using hi
   rw [List.drop_eq_getElem_cons hd, List.reverse_cons, List.append_assoc]
   congr 1
   show [bs.get! i] ++ _ = _
   rw [List.singleton_append]
   congr 1
   show bs.data[i]! = _
   rw [getElem!_pos bs.data i (by simpa using hi)]
   simp
theorem toList_data (bs : ByteArray) : bs.toList = bs.data.toList := by
 rw [ByteArray.toList, jhH bs bs.size 0 [] (by omega)]
 simp
def aPick (ρ : Operand → Value) (c a b : Operand) : Option Value :=
 match ρ c with
 | .bool true => some (ρ a)
 | .bool false => some (ρ b)
 | _ => none
theorem jif {ρ ρ' : Operand → Value} (hρ : ∀ x, VRel J (ρ x) (ρ' x)) {o : Oper} {c a b : Operand} {v : Value} (ho : o.op = .pick c a b)
  (h : aPick ρ c a b = some v) : Gives P J ρ' o v := by
 unfold aPick at h
 have hc := hρ c
 split at h
 ·rename_i e
  rw [e] at hc
  cases h
  exact ⟨_, hρ a, fun w => by simp [execOp, ho, jec hc, asBool, Sem.run_bind, Sem.run_pure, Result.andThen]⟩
 ·rename_i e
  rw [e] at hc
  cases h
  exact ⟨_, hρ b, fun w => by simp [execOp, ho, jec hc, asBool, Sem.run_bind, Sem.run_pure, Result.andThen]⟩
 ·cases h
def jeg (ρ : Operand → Value) (t : Operand) (i : Nat) : Option Value :=
 match ρ t with
 | .tuple vs => vs.toList[i]?
 | _ => none
theorem jfM {ρ ρ' : Operand → Value} (hρ : ∀ x, VRel J (ρ x) (ρ' x)) {o : Oper} {t : Operand} {i : Nat} {v : Value} (ho : o.op = .extract t i)
  (h : jeg ρ t i = some v) : Gives P J ρ' o v := by
 unfold jeg at h
 have hc := hρ t
 split at h
 ·rename_i vs e
  rw [e] at hc
  obtain ⟨x', hx', ha⟩ := tuple_inv hc
  obtain ⟨b, hb, hv⟩ := ha.get (i := i) (a := v) (by simpa using h)
  exact ⟨b, hv, fun w => by simp [execOp, ho, hx', Instr.extract, hb, Sem.run_bind, Sem.run_pure, Result.andThen]⟩
 ·cases h
def jdu (ρ : Operand → Value) (x : Operand) : Option Value :=
 match ρ x with
 | .pointer (some a) => some (.pointer (some a))
 | .iface t v => some (.iface t v)
 | .func (.func f) y z => some (.func (.func f) y z)
 | _ => none
theorem jfv {ρ ρ' : Operand → Value} (hρ : ∀ x, VRel J (ρ x) (ρ' x)) {o : Oper} {x : Operand} {v : Value} (ho : o.op = .nilCheck x)
  (h : jdu ρ x = some v) : Gives P J ρ' o v := by
 unfold jdu at h
 have hc := hρ x
 split at h
 ·rename_i a e
  rw [e] at hc
  cases h
  obtain ⟨a', ha', _⟩ := jdh hc
  rw [ha'] at hc
  exact ⟨_, hc, fun w => by simp [execOp, ho, ha', Sem.run_bind, Sem.run_pure, Result.andThen]⟩
 ·rename_i t y e
  rw [e] at hc
  cases h
  obtain ⟨a', ha', _⟩ := jcP hc
  rw [ha'] at hc
  exact ⟨_, hc, fun w => by simp [execOp, ho, ha', Sem.run_bind, Sem.run_pure, Result.andThen]⟩
 ·rename_i f y z e
  rw [e] at hc
  cases h
  generalize hq : ρ' x = q at hc
  cases hc with
  | func hf h1 h2 h3 h4 =>
    cases hf with
    | func f => exact ⟨_, .func (.func f) h1 h2 h3 h4, fun w => by simp [execOp, ho, hq, Sem.run_bind, Sem.run_pure, Result.andThen]⟩
 ·cases h
def jbv (P : Program) (ρ : Operand → Value) (t : TypeId) (x : Operand) : Option Value :=
 match P.underlying t with
 | some (.interface _) => none
 | some _ => match ρ x with
   | .chan _ => none
   | v => some (.iface t v)
 | none => none
theorem jeH {ρ ρ' : Operand → Value} (hρ : ∀ x, VRel J (ρ x) (ρ' x)) {o : Oper} {t : TypeId} {x : Operand} {v : Value} (ho : o.op = .makeInterface t x)
  (h : jbv P ρ t x = some v) : Gives P J ρ' o v := by
 unfold jbv at h
 split at h
 ·cases h
 ·rename_i d hni hd
  split at h
  ·cases h
  ·cases h
   have hc : P.concrete t = true := by
    unfold Program.concrete
    rw [hd]
    cases d <;> first | rfl | exact absurd rfl (hni _)
   exact ⟨_, .iface (hρ x), fun w => by simp [execOp, ho, run_makeInterface w t _ hc, Sem.run_bind, Sem.run_pure, Result.andThen]⟩
 ·cases h
theorem jiR {ρ ρ' : Operand → Value} (hρ : ∀ x, VRel J (ρ x) (ρ' x)) (l : Array Operand) : ARel J (l.toList.map ρ).toArray (l.map ρ') where
 size := by simp
 at_ i a b ha hb := by
  simp only [List.getElem?_toArray, List.getElem?_map, Array.getElem?_toList, Array.getElem?_map] at ha hb
  cases hl : l[i]? with
  | none => rw [hl] at ha; cases ha
  | some x =>
    rw [hl] at ha hb
    simp at ha hb
    subst ha hb
    exact hρ x
def jbK (ρ : Operand → Value) (fn : Fn) (x y : Array Operand) : Option Value :=
 match fn with
 | .yield _ => none
 | _ => some (.func fn (x.toList.map ρ).toArray (y.toList.map ρ).toArray)
theorem jfz {ρ ρ' : Operand → Value} (hρ : ∀ x, VRel J (ρ x) (ρ' x)) {o : Oper} {fn : Fn} {x y : Array Operand} {v : Value} (ho : o.op = .makeFunc fn x y)
  (h : jbK ρ fn x y = some v) : Gives P J ρ' o v := by
 have hx := jiR hρ x
 have hy := jiR hρ y
 unfold jbK at h
 split at h
 ·cases h
 ·rename_i hny
  cases h
  have hf : FnRel J fn fn := by
   cases fn with
   | func f => exact .func f
   | method n => exact .method n
   | methodOf t n => exact .methodOf t n
   | via t p f b => exact .via t p f b
   | yield l => exact absurd rfl (hny l)
  exact ⟨_, .func hf hx.size hx.at_ hy.size hy.at_, fun w => by simp [execOp, ho, Instr.makeFunc, Sem.run_bind, Sem.run_pure, Result.andThen]⟩
def cut (l : List Value) (i n : Nat) : List Value := (l.drop i).take n
def aPart (P : Program) (t : TypeId) (cs : List Value) (off : Nat) : Option Value :=
 match P.underlying t with
 | some (.struct _) => match P.info? t with
   | some inf => some (.agg (cut cs off inf.size).toArray)
   | none => none
 | some (.array _ _) => match P.info? t with
   | some inf => some (.agg (cut cs off inf.size).toArray)
   | none => none
 | some _ => cs[off]?
 | none => none
theorem jeE {x x' : Array Value} (h : ARel J x x') (i n : Nat) : ARel J (cut x.toList i n).toArray (x'.extract i (i + n)) where
 size := by simp [cut, h.size]; omega
 at_ k a b ha hb := by
  simp only [cut, List.getElem?_toArray, List.getElem?_take, List.getElem?_drop, Array.getElem?_toList] at ha
  rw [Array.getElem?_extract] at hb
  split at ha
  ·split at hb
   ·exact h.at_ _ _ _ ha hb
   ·cases hb
  ·cases ha
theorem jit {t : TypeId} {x x' : Array Value} {off : Nat} {v : Value} (hx : ARel J x x') (h : aPart P t x.toList off = some v) :
  ∃ v', VRel J v v' ∧ ∀ w, (part t x' off).run P w = .ok v' w := by
 unfold aPart at h
 split at h
 ·rename_i f hu
  split at h
  ·rename_i inf hinf
   cases h
   have := jeE hx off inf.size
   exact ⟨_, .agg this.size this.at_, fun w => by simp [part, isAgg, Sem.run_bind, jaF hu, Result.andThen_ok, Sem.run_pure, jba hinf]⟩
  ·cases h
 ·rename_i n e hu
  split at h
  ·rename_i inf hinf
   cases h
   have := jeE hx off inf.size
   exact ⟨_, .agg this.size this.at_, fun w => by simp [part, isAgg, Sem.run_bind, jaF hu, Result.andThen_ok, Sem.run_pure, jba hinf]⟩
  ·cases h
 ·rename_i d h1 h2 hu
  obtain ⟨b, hb, hv⟩ := hx.get (i := off) (a := v) (by simpa using h)
  refine ⟨b, hv, fun w => ?_⟩
  have hag : (isAgg t).run P w = .ok false w := by
   simp only [isAgg, Sem.run_bind, jaF hu, Result.andThen_ok]
   cases d <;> first | rfl | exact absurd rfl (h1 _) | exact absurd rfl (h2 _ _)
  simp only [part, Sem.run_bind, hag, Result.andThen_ok, Bool.false_eq_true, if_false, hb, Sem.run_pure]
 ·cases h
def jiW (P : Program) (ρ : Operand → Value) (t : TypeId) (x : Operand) (f : Nat) : Option Value :=
 match ρ x with
 | .agg cs => match P.underlying t with
   | some (.struct fields) => match fields[f]? with
     | some fd => aPart P fd.type cs.toList fd.offset
     | none => none
   | _ => none
 | _ => none
theorem jhz {ρ ρ' : Operand → Value} (hρ : ∀ x, VRel J (ρ x) (ρ' x)) {o : Oper} {t : TypeId} {x : Operand} {f : Nat} {v : Value} (ho : o.op = .field t x f)
  (h : jiW P ρ t x f = some v) : Gives P J ρ' o v := by
 unfold jiW at h
 have hc := hρ x
 split at h
 ·rename_i cs e
  rw [e] at hc
  obtain ⟨x', hx', ha⟩ := agg_inv hc
  split at h
  ·rename_i fields hu
   split at h
   ·rename_i fd hfd
    obtain ⟨v', hv, hr⟩ := jit ha h
    exact ⟨v', hv, fun w => by simp only [execOp, ho, hx', Instr.field, Sem.run_bind, jaF hu, Result.andThen_ok, hfd, asAgg, Sem.run_pure, hr w]⟩
   ·cases h
  ·cases h
 ·cases h
def ja3 (P : Program) (ρ : Operand → Value) (t : TypeId) (x ix : Operand) : Option Value :=
 match ρ x with
 | .agg cs => match ρ ix with
   | .int _ (.ofNat m) => match P.underlying t with
     | some (.array len e) => match Nat.blt m len with
       | true => match P.info? e with
         | some inf => aPart P e cs.toList (Nat.mul m inf.size)
         | none => none
       | false => none
     | _ => none
   | _ => none
 | .string s => match ρ ix with
   | .int _ (.ofNat m) => match P.underlying t with
     | some .string => match s.data.toList[m]? with
       | some b => some (.int .u8 b.toNat)
       | none => none
     | _ => none
   | _ => none
 | _ => none
theorem jhy {ρ ρ' : Operand → Value} (hρ : ∀ x, VRel J (ρ x) (ρ' x)) {o : Oper} {t : TypeId} {x ix : Operand} {v : Value} (ho : o.op = .index t x ix)
  (h : ja3 P ρ t x ix = some v) : Gives P J ρ' o v := by
 unfold ja3 at h
 have hc := hρ x
 have hi := hρ ix
 split at h
 ·rename_i cs e
  rw [e] at hc
  obtain ⟨x', hx', ha⟩ := agg_inv hc
  split at h
  ·rename_i k m ei
   rw [ei] at hi
   split at h
   ·rename_i len el hu
    split at h
    ·rename_i hb
     split at h
     ·rename_i inf hinf
      obtain ⟨v', hv, hr⟩ := jit ha h
      have hlt : m < len := by simpa using hb
      have h1 : (0 : Int) ≤ (Int.ofNat m) ∧ (Int.ofNat m) < (len : Int) := ⟨Int.natCast_nonneg m, by show (m : Int) < len; omega⟩
      exact ⟨v', hv, fun w => by
       simp only [execOp, ho, hx', jbc hi, Instr.index, asIntOf, Sem.run_bind, jaF hu, Result.andThen_ok, if_pos h1, jba hinf, Sem.run_pure]
       rw [show Nat.mul m inf.size = (Int.ofNat m).toNat * inf.size from rfl] at hr
       simp only [hr w, Result.andThen_ok]⟩
     ·cases h
    ·cases h
   ·cases h
  ·cases h
 ·rename_i s e
  rw [e] at hc
  split at h
  ·rename_i k m ei
   rw [ei] at hi
   split at h
   ·rename_i hu
    split at h
    ·rename_i b hb
     cases h
     have hg : s[m]? = some b := by
      have : s.data[m]? = some b := by simpa using hb
      obtain ⟨h1, h2⟩ := Array.getElem?_eq_some_iff.1 this
      exact (getElem?_pos s m h1).trans (congrArg some h2)
     refine ⟨_, .int .u8 b.toNat, fun w => ?_⟩
     have h0 : (0 : Int) ≤ Int.ofNat m := Int.natCast_nonneg m
     have h2 : (if 0 ≤ Int.ofNat m then s[(Int.ofNat m).toNat]? else none) = some b := by rw [if_pos h0]; exact hg
     simp only [execOp, ho, jbq hc, jbc hi, Instr.index, asIntOf, Sem.run_bind, jaF hu, Result.andThen_ok, Sem.run_pure, h2]
    ·cases h
   ·cases h
  ·cases h
 ·cases h
end
end Go.Proofs.YtnafmgiaifbhgaaGreatDoor.Ev
