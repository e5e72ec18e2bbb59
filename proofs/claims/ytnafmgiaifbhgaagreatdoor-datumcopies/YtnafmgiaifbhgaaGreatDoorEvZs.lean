/-
  The evaluator, part Zs: runs over what is not known: rules for code, step by step. No conditions.
-/
import Derived.Test.YtnafmgiaifbhgaaGreatDoorEvZd
set_option linter.unusedSimpArgs false
set_option linter.unusedVariables false
namespace Go.Proofs.YtnafmgiaifbhgaaGreatDoor.Ev
noncomputable section
variable {P : Program} {X : FuncId → List Value → Mem → Option (Value × Mem)} {S : List (FuncId × LK)}
theorem aput_mk (n : Nat) (tm : T Value) (ds : List Nat) (rd : Option Nat) (d : Nat) (v : Value) : aput ⟨n, tm, ds, rd⟩ (some d) v = if d < n then some ⟨n, tm.set d v, ds, rd⟩ else none := by
 cases h : Nat.blt d n with
 | true =>
   have : d < n := by simpa using h
   simp only [aput, h, if_pos this]
 | false =>
   have : ¬ d < n := fun hh => by rw [show Nat.blt d n = true from by simpa using hh] at h; cases h
   simp only [aput, h, if_neg this]
theorem aput_none (r : Rg) (v : Value) : aput r none v = some r := rfl
def Ends (x : Option (Rg × Mem)) (Q : Rg → Mem → Prop) : Prop := ∃ r μ, x = some (r, μ) ∧ Q r μ
theorem ends_some {r : Rg} {μ : Mem} {Q : Rg → Mem → Prop} : Ends (some (r, μ)) Q = Q r μ := by
 apply propext
 constructor
 ·rintro ⟨r', μ', h, hq⟩; cases h; exact hq
 ·intro h; exact ⟨r, μ, rfl, h⟩
def run1 (P : Program) (X callF : FuncId → List Value → Mem → Option (Value × Mem)) (roundF : Nat → List Value → Mem → Option (Value × Mem)) : List Oper → Rg → Mem → Option (Rg × Mem)
 | [], r, μ => some (r, μ)
 | o :: rest, r, μ => match aOne P X callF roundF r μ o with
   | none => none
   | some (v, μ') => match aput r o.dst v with
     | some r' => run1 P X callF roundF rest r' μ'
     | none => none
theorem aOps_run1 {callF : FuncId → List Value → Mem → Option (Value × Mem)} {roundF : Nat → List Value → Mem → Option (Value × Mem)} (ops : List Oper) : ∀ (l : List Oper) (r : Rg) (μ : Mem), l.all (fun o => o.guard.isNone) = true →
  aOps P X callF roundF ops l r μ = run1 P X callF roundF l r μ := by
 intro l
 induction l with
 | nil => intro r μ _; rfl
 | cons o rest ih =>
   intro r μ h
   simp only [List.all_cons, Bool.and_eq_true] at h
   have hg : o.guard = none := by cases e : o.guard with
    | none => rfl
    | some x => rw [e] at h; simp at h
   simp only [aOps, run1, jcp, hg]
   cases aOne P X callF roundF r μ o with
   | none => rfl
   | some x =>
     obtain ⟨v, μ'⟩ := x
     simp only
     cases aput r o.dst v with
     | none => rfl
     | some r' => exact ih r' μ' h.2
theorem jcy {callF : FuncId → List Value → Mem → Option (Value × Mem)} {roundF : Nat → List Value → Mem → Option (Value × Mem)} {o : Oper} {rest : List Oper} {n : Nat} {tm : T Value} {ds : List Nat} {rd : Option Nat} {μ μ' : Mem} {v : Value} {d : Nat} {Q : Rg → Mem → Prop}
  (h : aOne P X callF roundF ⟨n, tm, ds, rd⟩ μ o = some (v, μ')) (hd : o.dst = some d) (hn : d < n) (hk : Ends (run1 P X callF roundF rest ⟨n, tm.set d v, ds, rd⟩ μ') Q) : Ends (run1 P X callF roundF (o :: rest) ⟨n, tm, ds, rd⟩ μ) Q := by
 unfold run1
 rw [h]
 simp only [hd, aput_mk, if_pos hn]
 exact hk
section
variable {callF : FuncId → List Value → Mem → Option (Value × Mem)} {roundF : Nat → List Value → Mem → Option (Value × Mem)} {r : Rg} {μ μ' : Mem} {o : Oper} {v : Value}
theorem jhT (h : aP P (aev P r) o = some v) : aOne P X callF roundF r μ o = some (v, μ) := by unfold aOne; rw [h]
end
def EndsC (x : Option (Ax × Rg × Mem)) (Q : Ax → Rg → Mem → Prop) : Prop := ∃ a r μ, x = some (a, r, μ) ∧ Q a r μ
theorem jaw {k id : Nat} {ops : Array Oper} {r : Rg} {μ : Mem} {Q : Ax → Rg → Mem → Prop} (hg : ops.toList.all (fun o => o.guard.isNone) = true)
  (h : Ends (run1 P X (jbL P (jao P X S k) S) (jdt (jao P X S k)) ops.toList r μ) (Q .normal)) : EndsC (jao P X S (k + 1) (.region id ops false) r μ) Q := by
 obtain ⟨r', μ', h1, h2⟩ := h
 refine ⟨.normal, r', μ', ?_, h2⟩
 simp only [jaJ, jbG, jgA, aOps_run1 _ _ _ _ hg, h1]
def jgN (k : Nat) (P : Program) (X : FuncId → List Value → Mem → Option (Value × Mem)) (S : List (FuncId × LK)) (b : Code) (Q : Ax → Rg → Mem → Prop) : Ax → Rg → Mem → Prop
 | .normal, r, μ => EndsC (jao P X S k b r μ) Q
 | .exit id, r, μ => Q (.exit id) r μ
 | .ret, r, μ => Q .ret r μ
 | .goto l, r, μ => Q (.goto l) r μ
theorem jak {k : Nat} {b : Code} {r : Rg} {μ : Mem} {Q : Ax → Rg → Mem → Prop} : jgN k P X S b Q .normal r μ = EndsC (jao P X S k b r μ) Q := rfl
theorem jcx {k l : Nat} {b : Code} {r : Rg} {μ : Mem} {Q : Ax → Rg → Mem → Prop} : jgN k P X S b Q (.goto l) r μ = Q (.goto l) r μ := rfl
theorem jbC {k id : Nat} {b : Code} {r : Rg} {μ : Mem} {Q : Ax → Rg → Mem → Prop} : jgN k P X S b Q (.exit id) r μ = Q (.exit id) r μ := rfl
theorem jag {k : Nat} {a b : Code} {r : Rg} {μ : Mem} {Q : Ax → Rg → Mem → Prop} (h : EndsC (jao P X S k a r μ) (jgN k P X S b Q)) : EndsC (jao P X S (k + 1) (.seq a b) r μ) Q := by
 obtain ⟨x, r', μ', h1, h2⟩ := h
 cases x with
 | normal =>
   obtain ⟨y, r2, μ2, h3, h4⟩ := h2
   exact ⟨y, r2, μ2, by simp only [jaJ, jbG, h1, h3], h4⟩
 | exit id => exact ⟨_, r', μ', by simp only [jaJ, jbG, h1], h2⟩
 | ret => exact ⟨_, r', μ', by simp only [jaJ, jbG, h1], h2⟩
 | goto l => exact ⟨_, r', μ', by simp only [jaJ, jbG, h1], h2⟩
theorem jbZ {k : Nat} {c : Operand} {a b : Code} {r : Rg} {μ : Mem} {Q : Ax → Rg → Mem → Prop} (hc : aev P r c = .bool true) (h : EndsC (jao P X S k a r μ) Q) : EndsC (jao P X S (k + 1) (.cond c a b) r μ) Q := by
 obtain ⟨x, r', μ', h1, h2⟩ := h
 exact ⟨x, r', μ', by simp only [jaJ, jbG, hc, h1], h2⟩
theorem jaC {k : Nat} {c : Operand} {a b : Code} {r : Rg} {μ : Mem} {Q : Ax → Rg → Mem → Prop} (hc : aev P r c = .bool false) (h : EndsC (jao P X S k b r μ) Q) : EndsC (jao P X S (k + 1) (.cond c a b) r μ) Q := by
 obtain ⟨x, r', μ', h1, h2⟩ := h
 exact ⟨x, r', μ', by simp only [jaJ, jbG, hc, h1], h2⟩
def jaX (id : Nat) (Q : Ax → Rg → Mem → Prop) : Ax → Rg → Mem → Prop
 | .normal, r, μ => Q .normal r μ
 | .exit id', r, μ => if id' = id then Q .normal r μ else Q (.exit id') r μ
 | .ret, r, μ => Q .ret r μ
 | .goto l, r, μ => Q (.goto l) r μ
theorem jf0 {k id : Nat} {c : Code} {r : Rg} {μ : Mem} {Q : Ax → Rg → Mem → Prop} (h : EndsC (jao P X S k c r μ) (jaX id Q)) : EndsC (jao P X S (k + 1) (.block id c) r μ) Q := by
 obtain ⟨x, r', μ', h1, h2⟩ := h
 cases x with
 | normal => exact ⟨_, r', μ', by simp only [jaJ, jbG, h1], h2⟩
 | ret => exact ⟨_, r', μ', by simp only [jaJ, jbG, h1], h2⟩
 | goto l => exact ⟨_, r', μ', by simp only [jaJ, jbG, h1], h2⟩
 | exit id' =>
   by_cases e : id' = id
   ·subst e
    have h2' : Q .normal r' μ' := by simpa [jaX] using h2
    exact ⟨.normal, r', μ', by simp only [jaJ, jbG, h1, show Nat.beq id' id' = true from by simp], h2'⟩
   ·have h2' : Q (.exit id') r' μ' := by simpa [jaX, e] using h2
    have hb : Nat.beq id' id = false := by
     cases hb : Nat.beq id' id with
     | false => rfl
     | true => exact absurd (Nat.eq_of_beq_eq_true hb) e
    exact ⟨.exit id', r', μ', by simp only [jaJ, jbG, h1, hb], h2'⟩
theorem jan {k : Nat} {c : Code} {r : Rg} {μ : Mem} {Q : Ax → Rg → Mem → Prop} (h : EndsC (jao P X S k c r μ) (jgN k P X S (.loop c) Q)) : EndsC (jao P X S (k + 1) (.loop c) r μ) Q := by
 obtain ⟨x, r', μ', h1, h2⟩ := h
 cases x with
 | normal =>
   obtain ⟨y, r2, μ2, h3, h4⟩ := h2
   exact ⟨y, r2, μ2, by simp only [jaJ, jbG, h1, h3], h4⟩
 | exit id => exact ⟨_, r', μ', by simp only [jaJ, jbG, h1], h2⟩
 | ret => exact ⟨_, r', μ', by simp only [jaJ, jbG, h1], h2⟩
 | goto l => exact ⟨_, r', μ', by simp only [jaJ, jbG, h1], h2⟩
theorem jah {k : Nat} {r : Rg} {μ : Mem} {Q : Ax → Rg → Mem → Prop} (h : Q .ret r μ) : EndsC (jao P X S (k + 1) .ret r μ) Q := ⟨.ret, r, μ, rfl, h⟩
theorem jbz {k : Nat} {r : Rg} {μ : Mem} {Q : Ax → Rg → Mem → Prop} (h : Q .normal r μ) : EndsC (jao P X S (k + 1) .skip r μ) Q := ⟨.normal, r, μ, rfl, h⟩
theorem jjB {k l : Nat} {r : Rg} {μ : Mem} {Q : Ax → Rg → Mem → Prop} (h : Q .normal r μ) : EndsC (jao P X S (k + 1) (.label l) r μ) Q := ⟨.normal, r, μ, rfl, h⟩
theorem jbA {k id : Nat} {r : Rg} {μ : Mem} {Q : Ax → Rg → Mem → Prop} (h : Q (.exit id) r μ) : EndsC (jao P X S (k + 1) (.exit id) r μ) Q := ⟨.exit id, r, μ, rfl, h⟩
theorem jcD {k l : Nat} {r : Rg} {μ : Mem} {Q : Ax → Rg → Mem → Prop} (h : Q (.goto l) r μ) : EndsC (jao P X S (k + 1) (.goto l) r μ) Q := ⟨.goto l, r, μ, rfl, h⟩
def noGo (Q : Ax → Rg → Mem → Prop) : Ax → Rg → Mem → Prop
 | .goto _, _, _ => False
 | x, r, μ => Q x r μ
def scopeC (k : Nat) (P : Program) (X : FuncId → List Value → Mem → Option (Value × Mem)) (S : List (FuncId × LK)) (c : Code) (Q : Ax → Rg → Mem → Prop) : Ax → Rg → Mem → Prop
 | .goto l, r, μ => ∃ rest, findLabel c l = some rest ∧ EndsC (jao P X S k rest r μ) (noGo Q)
 | x, r, μ => Q x r μ
theorem jdy {k : Nat} {c : Code} {r : Rg} {μ : Mem} {Q : Ax → Rg → Mem → Prop} (h : EndsC (jao P X S k c r μ) (scopeC k P X S c Q)) : EndsC (jao P X S (k + 1) (.scope c) r μ) Q := by
 obtain ⟨x, r', μ', h1, h2⟩ := h
 cases x with
 | normal => exact ⟨_, r', μ', by simp only [jaJ, jbG, h1], h2⟩
 | exit id => exact ⟨_, r', μ', by simp only [jaJ, jbG, h1], h2⟩
 | ret => exact ⟨_, r', μ', by simp only [jaJ, jbG, h1], h2⟩
 | goto l =>
   obtain ⟨rest, hf, y, r2, μ2, h3, h4⟩ := h2
   cases y with
   | normal => exact ⟨_, r2, μ2, by simp only [jaJ, jbG, h1, hf, h3], h4⟩
   | exit id => exact ⟨_, r2, μ2, by simp only [jaJ, jbG, h1, hf, h3], h4⟩
   | ret => exact ⟨_, r2, μ2, by simp only [jaJ, jbG, h1, hf, h3], h4⟩
   | goto l => exact h4.elim
theorem EndsC.mono {x : Option (Ax × Rg × Mem)} {Q R : Ax → Rg → Mem → Prop} (h : EndsC x Q) (hm : ∀ a r μ, Q a r μ → R a r μ) : EndsC x R := by
 obtain ⟨a, r, μ, h1, h2⟩ := h
 exact ⟨a, r, μ, h1, hm _ _ _ h2⟩
def EndsF (x : Option (Value × Mem)) (Q : Value → Mem → Prop) : Prop := ∃ v μ, x = some (v, μ) ∧ Q v μ
def retQ (P : Program) (fn : Func) (Q : Value → Mem → Prop) : Ax → Rg → Mem → Prop
 | .exit _, _, _ => False
 | .goto _, _, _ => False
 | _, r, μ => r.ds = [] ∧ ∃ v, jdz P μ r fn = some v ∧ Q v μ
theorem jaj {ev : Code → Rg → Mem → Option (Ax × Rg × Mem)} {g : FuncId} {args : List Value} {μ : Mem} {fn : Func} {c : Code} {n : Nat} {Q : Value → Mem → Prop} (hf : P.funcs[g]? = some fn) (hb : fn.body = some c) (hn : fn.ntmps = n) (ha : args.length ≤ n)
  (h : EndsC (ev c ⟨n, T.e.lay 0 args, [], none⟩ μ) (retQ P fn Q)) : EndsF (aFun P ev g args μ) Q := by
 obtain ⟨x, r, μ1, h1, h2⟩ := h
 have hle : Nat.ble args.length n = true := Nat.ble_eq_true_of_le ha
 cases x with
 | exit id => exact h2.elim
 | goto l => exact h2.elim
 | normal =>
   obtain ⟨hd, v, hv, hq⟩ := h2
   refine ⟨v, μ1, ?_, hq⟩
   unfold aFun
   simp only [hf, hb, hn, hle, h1, hd, jfx, hv]
 | ret =>
   obtain ⟨hd, v, hv, hq⟩ := h2
   refine ⟨v, μ1, ?_, hq⟩
   unfold aFun
   simp only [hf, hb, hn, hle, h1, hd, jfx, hv]
theorem EndsF.mono {x : Option (Value × Mem)} {Q R : Value → Mem → Prop} (h : EndsF x Q) (hm : ∀ v μ, Q v μ → R v μ) : EndsF x R := by
 obtain ⟨v, μ, h1, h2⟩ := h
 exact ⟨v, μ, h1, hm _ _ h2⟩
theorem jaK {P : Program} {s : TypeId} {fields : Array Field} {f : Nat} {ft off : Nat} {inf : TypeInfo} (hu : P.underlying s = some (.struct fields)) (hf : (fields[f]?).map (fun fd => (fd.type, fd.offset)) = some (ft, off)) (hi : P.info? ft = some inf) (hz : Nat.beq inf.size 0 = false) (ρ : Operand → Value) (x : Operand) :
  jaL P ρ s x f = (match ρ x with | .pointer (some a) => some (.pointer (some (a.add off))) | _ => none) := by
 cases hfd : fields[f]? with
 | none => rw [hfd] at hf; simp at hf
 | some fd =>
   rw [hfd] at hf
   simp only [Option.map_some, Option.some.injEq, Prod.mk.injEq] at hf
   obtain ⟨h1, h2⟩ := hf
   unfold jaL
   cases ρ x with
   | pointer a => cases a with
     | none => rfl
     | some a => simp only [hu, hfd, h1, hi, hz, h2]
   | _ => rfl
def jal (μ : Mem) (i o : Nat) : Option Value := match jb5 (μ.obs.get i) with
 | some (n, zero, over) => if o < n then some (cellAt zero over o) else none
 | none => none
def flatTy : TypeDesc → Bool
 | .struct _ => false
 | .array _ _ => false
 | _ => true
theorem jb6 {P : Program} {t : TypeId} {d : TypeDesc} (hu : P.underlying t = some d) (hd : flatTy d = true) (μ : Mem) (i o : Nat) : jbH P μ t (.pointer (some ⟨i, o, none⟩)) = jal μ i o := by
 unfold jbH jal
 simp only [hu]
 cases jb5 (μ.obs.get i) with
 | none => rfl
 | some x =>
   obtain ⟨n, z, ov⟩ := x
   have : (match Nat.blt o n with | true => some (cellAt z ov o) | false => none) = if o < n then some (cellAt z ov o) else none := by
    cases h : Nat.blt o n with
    | true => rw [if_pos (by simpa using h)]
    | false => rw [if_neg (fun hh => by rw [show Nat.blt o n = true from by simpa using hh] at h; cases h)]
   cases d <;> first | exact this | cases hd
theorem jf2 {μ : Mem} {i o n : Nat} {z : Array Value} {ov : T Value} (h : jb5 (μ.obs.get i) = some (n, z, ov)) (ho : o < n) : jal μ i o = some (cellAt z ov o) := by
 unfold jal; rw [h]; simp only [if_pos ho]
end
end Go.Proofs.YtnafmgiaifbhgaaGreatDoor.Ev
