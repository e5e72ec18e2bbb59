/-
  The evaluator, part Zv: what single operations give, for what is not known: a slice of one, a store of one cell, an element's place. No conditions.
-/
import Derived.Test.YtnafmgiaifbhgaaGreatDoorEvZu
set_option linter.unusedSimpArgs false
set_option linter.unusedVariables false
namespace Go.Proofs.YtnafmgiaifbhgaaGreatDoor.Ev
noncomputable section
variable {P : Program}
def one : Value → Bool
 | .agg _ => false
 | .tuple _ => false
 | .chan _ => false
 | _ => true
theorem jd2 {v : Value} (h : one v = true) : ja2 v = [v] := by cases v <;> first | rfl | cases h
theorem jep {v : Value} (h : one v = true) : jdi v = true := by cases v <;> first | rfl | cases h
theorem jeo {v : Value} (h : one v = true) : scalar v = true := by cases v <;> first | rfl | cases h
theorem jfJ {ρ : Operand → Value} {t e : TypeId} {inf : TypeInfo} {z0 v : Value} {x : Operand} (hu : P.underlying t = some (.slice e)) (hi : P.info? e = some inf) (hsz : inf.size = 1) (hz : jbh P e = some z0) (hzl : one z0 = true) (hx : ρ x = v) (hv : one v = true) :
  jbd P ρ t 1 #[(0, x)] = some (.cells 1 e #[v] .e 0 0 false false, fun id => .slice (some ⟨id, 0, none⟩) 1 2) := by
 unfold jbd
 simp only [hu, hi, hsz, hz, jd2 hzl]
 have e1 : jc7 (fun i => some (Nat.mul i 1, 1)) (tile [z0] (Nat.mul 1 1)) (#[(0, x)].toList.map fun p => (p.1, ρ p.2)) = some [v] := by
  simp only [List.map_cons, List.map_nil, hx]
  unfold jc7
  simp only [jd2 hv, jep hv]
  rfl
 rw [e1]
 rfl
theorem store_one {t : TypeId} {inf : TypeInfo} {v : Value} {μ : Mem} {i o n te : Nat} {zero : Array Value} {over : T Value} {fx sh : Bool} (hi : P.info? t = some inf) (hsz : inf.size = 1) (hv : one v = true) (hob : μ.obs.get i = some (.cells n te zero over 0 0 fx sh)) (ho : o < n) :
  jbt P μ t (.pointer (some ⟨i, o, none⟩)) v = some (undef, ⟨μ.obs.set i (.cells n te zero (over.set o v) 0 0 fx sh), μ.next⟩) := by
 unfold jbt
 have e1 : jb2 n 0 0 o 1 = true := by
  unfold jb2
  rw [show Nat.ble (Nat.add o 1) n = true from Nat.ble_eq_true_of_le (by show o + 1 ≤ n; omega)]
  rfl
 have e2 : scalars [v] = true := by simp only [scalars, jeo hv]
 simp only [hob, jep hv, hi, hsz, jd2 hv, List.length_cons, List.length_nil, Nat.zero_add, e1, e2, T.lay]
theorem ja1 {ρ : Operand → Value} {t e : TypeId} {inf : TypeInfo} {x y : Operand} {i o n c m : Nat} {kd : IntKind} (hu : P.underlying t = some (.slice e)) (hi : P.info? e = some inf) (hsz : inf.size = 1) (hx : ρ x = .slice (some ⟨i, o, none⟩) n c) (hy : ρ y = .int kd (.ofNat m)) (hm : m < n) :
  jas P ρ t x y = some (.pointer (some ⟨i, o + m, none⟩)) := by
 unfold jas
 simp only [hx, hy, hu, aIdx, hi, hsz]
 rw [show Nat.blt m n = true from by simpa using hm]
 simp only [Addr.add, Nat.mul_eq, Nat.mul_one]
 by_cases h0 : m = 0
 ·subst h0; rfl
 ·rw [if_neg h0]
theorem jjh (x : Array Value) : jdi (.agg x) = true := rfl
theorem je1 : ∀ (vs : List Value), vs.all one = true → scalars vs = true := by
 intro vs
 induction vs with
 | nil => intro _; rfl
 | cons v r ih => intro h; simp only [List.all_cons, Bool.and_eq_true] at h; simp only [scalars, jeo h.1, ih h.2]
theorem ji1 {t : TypeId} {inf : TypeInfo} {vs : List Value} {μ : Mem} {i o n te : Nat} {zero : Array Value} {over : T Value} {fx sh : Bool} (hi : P.info? t = some inf) (hsz : inf.size = vs.length) (hv : vs.all one = true) (hob : μ.obs.get i = some (.cells n te zero over 0 0 fx sh)) (ho : o + vs.length ≤ n) :
  jbt P μ t (.pointer (some ⟨i, o, none⟩)) (.agg vs.toArray) = some (undef, ⟨μ.obs.set i (.cells n te zero (over.lay o vs) 0 0 fx sh), μ.next⟩) := by
 unfold jbt
 have e1 : jb2 n 0 0 o vs.length = true := by
  unfold jb2
  rw [show Nat.ble (Nat.add o vs.length) n = true from Nat.ble_eq_true_of_le ho]
  rfl
 have e3 : ja2 (.agg vs.toArray) = vs := rfl
 have e4 : Nat.beq vs.length vs.length = true := by simp
 simp only [hob, jjh, hi, hsz, e3, e4, e1, je1 vs hv]
theorem jhW {t : TypeId} {fields : Array Field} {inf : TypeInfo} {μ : Mem} {i o n : Nat} {z : Array Value} {ov : T Value} (hu : P.underlying t = some (.struct fields)) (hi : P.info? t = some inf) (hob : jb5 (μ.obs.get i) = some (n, z, ov)) (ho : o + inf.size ≤ n) :
  jbH P μ t (.pointer (some ⟨i, o, none⟩)) = some (.agg (jaE z ov o inf.size).toArray) := by
 unfold jbH
 simp only [hob, hu, hi]
 rw [show Nat.ble (Nat.add o inf.size) n = true from Nat.ble_eq_true_of_le ho]
theorem go_call {X : FuncId → List Value → Mem → Option (Value × Mem)} {ev : Code → Rg → Mem → Option (Ax × Rg × Mem)} {S : List (FuncId × LK)} {g : FuncId} {fn : Func} (hf : P.funcs[g]? = some fn) (hb : fn.body.isSome = true) (hS : lkOf S g = none) (args : List Value) (μ : Mem) :
  aGo P X (jbL P ev S) g args μ = aFun P ev g args μ := (jcf hf hb).trans (call_body hS)
theorem jbJ {ρ : Operand → Value} {t : TypeId} {parts : Array (Nat × Operand)} {fields : Array Field} {z : Value} {pl : List (Nat × Nat)} {cs : List Value} (hz : jbh P t = some z) (hu : P.underlying t = some (.struct fields)) (hp : jct P fields.toList = some pl)
  (hf : jc7 (fun i => pl[i]?) (ja2 z) (parts.toList.map fun p => (p.1, ρ p.2)) = some cs) : jcc P ρ t parts = some (.agg cs.toArray) := by
 unfold jcc
 simp only [hz, hu, hp, hf]
theorem jdv {place : Nat → Option (Nat × Nat)} {cs : List Value} {i off : Nat} {v : Value} {r : List (Nat × Value)} (hp : place i = some (off, 1)) (hv : one v = true) (ho : off < cs.length) :
  jc7 place cs ((i, v) :: r) = jc7 place (cs.set off v) r := by
 have e0 : setL cs off [v] = cs.set off v := by
  unfold setL
  show cs.take off ++ ([v] ++ cs.drop (off + 1)) = cs.set off v
  rw [List.set_eq_take_append_cons_drop, if_pos ho]
  rfl
 rw [jc7]
 simp only [hp, jep hv, jd2 hv, List.length_cons, List.length_nil, Nat.zero_add, e0]
 rw [show Nat.ble (Nat.add off 1) cs.length = true from Nat.ble_eq_true_of_le ho]
def domOk (run : List Value → Option (Value × Mem)) (f : List Value → Option Value) (dom : List (List Value)) : Bool := dom.all fun args => match f args with
 | none => true
 | some v => match run args with
   | some (v', _) => veq 5 v' v
   | none => false
theorem plain_dom {X : FuncId → List Value → Mem → Option (Value × Mem)} (hN : jdc P) (hX : XOk P X) (hm : P.follows .mixedOrders = true) {S : List (FuncId × LK)} (hS : SumsOk P S) {k : Nat} {g : FuncId} {nx : Nat} (hnx : P.globals.size < nx)
  (f : List Value → Option Value) (dom : List (List Value)) (hdom : ∀ args v, f args = some v → args ∈ dom) (h : domOk (fun args => aFun P (jao P X S k) g args ⟨.e, nx⟩) f dom = true) : KOk P g (.plain f) := by
 intro args v hf hp hv W n R hR
 have h2 := List.all_eq_true.1 h args (hdom args v hf)
 rw [hf] at h2
 simp only at h2
 split at h2
 ·rename_i v1 μ' hrun
  have hv1 : v1 = v := jip 5 _ _ h2
  subst hv1
  have hnone : ∀ i b s, jby nx i ≠ .at b s := fun i b s e => by unfold jby at e; split at e <;> cases e
  have hr : Rel (jby nx) ⟨.e, nx⟩ W := ⟨fun i j b s t e _ => absurd e (hnone _ _ _), fun i b s e => absurd e (hnone _ _ _), fun i hi => if_neg (Nat.not_lt.2 hi), fun i o ho _ => by simp [T.get_e] at ho⟩
  have hB : Base P (jby nx) := ⟨fun g hg => .inr (if_pos (Nat.lt_trans hg hnx)), if_pos hnx⟩
  have ha : ARel (jby nx) args.toArray args.toArray := ⟨rfl, fun i a b ha hb => by
   rw [ha] at hb; cases hb
   refine jbr 5 (List.all_eq_true.1 hp _ ?_)
   have := Array.mem_of_getElem? ha
   simpa using this⟩
  refine jha (jia hN hX hm hS k).1 g args _ v1 μ' hrun _ W _ hr hB ha n R fun J' v' w' h1 h2 h3 => ?_
  rw [jeK 5 hv h1]
  exact hR w' ⟨h3.os, h3.output, h3.size, fun b hb => h3.frame b hb (fun i s e => absurd e (hnone _ _ _)), h3.tape⟩
 ·cases h2
end
end Go.Proofs.YtnafmgiaifbhgaaGreatDoor.Ev
