/-
  The evaluator, part Zu: rules for regions with guards, and for regions that draw their order. No conditions.
-/
import Derived.Test.YtnafmgiaifbhgaaGreatDoorEvZt
set_option linter.unusedSimpArgs false
set_option linter.unusedVariables false
namespace Go.Proofs.YtnafmgiaifbhgaaGreatDoor.Ev
noncomputable section
variable {P : Program} {X : FuncId → List Value → Mem → Option (Value × Mem)} {S : List (FuncId × LK)}
def gOf (ops : List Oper) (o : Oper) : Option (Option (Nat × Bool)) := match o.guard with
 | none => some none
 | some (j, want) => match ops[j]? with
   | none => none
   | some oj => match oj.dst with
     | none => none
     | some d => some (some (d, want))
def wanted (r : Rg) (g : Option (Nat × Bool)) : Option Bool := match g with
 | none => some true
 | some (d, want) => if d < r.n then (match jam r.tm d with
   | .bool b => some (b == want)
   | .chan _ => none
   | _ => some false) else some false
theorem jgK {ops : List Oper} {o : Oper} {g : Option (Nat × Bool)} (h : gOf ops o = some g) (r : Rg) : jcp ops r o = wanted r g := by
 unfold gOf at h
 unfold jcp
 split at h
 ·rename_i e; cases h; rw [e]; rfl
 ·rename_i j want e
  rw [e]
  split at h
  ·cases h
  ·rename_i oj e2
   split at h
   ·cases h
   ·rename_i d e3
    cases h
    simp only [ayield, e2, e3, wanted]
    cases hb : Nat.blt d r.n with
    | true => rw [if_pos (by simpa using hb)]; rfl
    | false => rw [if_neg (fun hh => by rw [show Nat.blt d r.n = true from by simpa using hh] at hb; cases hb)]
def run2 (P : Program) (X callF : FuncId → List Value → Mem → Option (Value × Mem)) (roundF : Nat → List Value → Mem → Option (Value × Mem)) : List (Oper × Option (Nat × Bool)) → Rg → Mem → Option (Rg × Mem)
 | [], r, μ => some (r, μ)
 | (o, g) :: rest, r, μ => match wanted r g with
   | none => none
   | some false => match aput r o.dst undef with
     | some r' => run2 P X callF roundF rest r' μ
     | none => none
   | some true => match aOne P X callF roundF r μ o with
     | none => none
     | some (v, μ') => match aput r o.dst v with
       | some r' => run2 P X callF roundF rest r' μ'
       | none => none
def gsOf (ops : List Oper) : List Oper → Option (List (Oper × Option (Nat × Bool)))
 | [] => some []
 | o :: rest => match gOf ops o with
   | none => none
   | some g => match gsOf ops rest with
     | none => none
     | some l => some ((o, g) :: l)
theorem aOps_run2 {callF : FuncId → List Value → Mem → Option (Value × Mem)} {roundF : Nat → List Value → Mem → Option (Value × Mem)} (ops : List Oper) : ∀ (l : List Oper) (gs : List (Oper × Option (Nat × Bool))) (r : Rg) (μ : Mem), gsOf ops l = some gs →
  aOps P X callF roundF ops l r μ = run2 P X callF roundF gs r μ := by
 intro l
 induction l with
 | nil => intro gs r μ h; simp only [gsOf] at h; cases h; rfl
 | cons o rest ih =>
   intro gs r μ h
   simp only [gsOf] at h
   split at h
   ·cases h
   ·rename_i g hg
    split at h
    ·cases h
    ·rename_i l hl
     cases h
     simp only [aOps, run2, jgK hg]
     cases wanted r g with
     | none => rfl
     | some b => cases b with
       | false =>
         simp only
         cases aput r o.dst undef with
         | none => rfl
         | some r' => exact ih l r' μ hl
       | true =>
         simp only
         cases aOne P X callF roundF r μ o with
         | none => rfl
         | some x =>
           obtain ⟨v, μ'⟩ := x
           simp only
           cases aput r o.dst v with
           | none => rfl
           | some r' => exact ih l r' μ' hl
theorem jad {k id : Nat} {ops : Array Oper} {gs : List (Oper × Option (Nat × Bool))} {r : Rg} {μ : Mem} {Q : Ax → Rg → Mem → Prop} (hg : gsOf ops.toList ops.toList = some gs)
  (h : Ends (run2 P X (jbL P (jao P X S k) S) (jdt (jao P X S k)) gs r μ) (Q .normal)) : EndsC (jao P X S (k + 1) (.region id ops false) r μ) Q := by
 obtain ⟨r', μ', h1, h2⟩ := h
 refine ⟨.normal, r', μ', ?_, h2⟩
 simp only [jaJ, jbG, jgA, aOps_run2 _ _ _ _ _ hg, h1]
def dRun (P : Program) (X callF : FuncId → List Value → Mem → Option (Value × Mem)) (roundF : Nat → List Value → Mem → Option (Value × Mem)) (ms : List Nat) (base : Nat) :
  List (Nat × Oper × Option (Nat × Bool)) → Rg × Mem × List (Nat × Mem) → Option (Rg × Mem × List (Nat × Mem))
 | [], s => some s
 | (i, o, g) :: rest, s => match wanted s.1 g with
   | none => none
   | some false => match aput s.1 o.dst undef with
     | some r' => dRun P X callF roundF ms base rest (r', s.2)
     | none => none
   | some true => match jav P X callF roundF ms base i o s.1 s.2.1 s.2.2 with
     | none => none
     | some (v, x) => match aput s.1 o.dst v with
       | some r' => dRun P X callF roundF ms base rest (r', x)
       | none => none
def dsOf (ops : List Oper) : List Nat → Option (List (Nat × Oper × Option (Nat × Bool)))
 | [] => some []
 | i :: rest => match ops[i]? with
   | none => none
   | some o => match gOf ops o with
     | none => none
     | some g => match dsOf ops rest with
       | none => none
       | some l => some ((i, o, g) :: l)
theorem jhA {callF : FuncId → List Value → Mem → Option (Value × Mem)} {roundF : Nat → List Value → Mem → Option (Value × Mem)} (ops : List Oper) (ms : List Nat) (base : Nat) : ∀ (l : List Nat) (ds : List (Nat × Oper × Option (Nat × Bool))) (s : Rg × Mem × List (Nat × Mem)), dsOf ops l = some ds →
  jc8 P X callF roundF ops ms base l s = dRun P X callF roundF ms base ds s := by
 intro l
 induction l with
 | nil => intro ds s h; simp only [dsOf] at h; cases h; rfl
 | cons i rest ih =>
   intro ds s h
   simp only [dsOf] at h
   split at h
   ·cases h
   ·rename_i o ho
    split at h
    ·cases h
    ·rename_i g hg
     split at h
     ·cases h
     ·rename_i l hl
      cases h
      simp only [jc8, jdE, dRun, ho, jgK hg]
      cases wanted s.1 g with
      | none => rfl
      | some b => cases b with
        | false =>
          simp only
          cases aput s.1 o.dst undef with
          | none => rfl
          | some r' => exact ih l (r', s.2) hl
        | true =>
          simp only
          cases jav P X callF roundF ms base i o s.1 s.2.1 s.2.2 with
          | none => rfl
          | some x =>
            obtain ⟨v, y⟩ := x
            simp only
            cases aput s.1 o.dst v with
            | none => rfl
            | some r' => exact ih l (r', y) hl
def jjT (x : Option (Rg × Mem × List (Nat × Mem))) (Q : Rg → Mem → Prop) : Prop := ∃ r μ sn, x = some (r, μ, sn) ∧ Q r μ
theorem jay {r : Rg} {μ : Mem} {sn : List (Nat × Mem)} {Q : Rg → Mem → Prop} : jjT (some (r, μ, sn)) Q = Q r μ := by
 apply propext
 constructor
 ·rintro ⟨r', μ', sn', h, hq⟩; cases h; exact hq
 ·intro h; exact ⟨r, μ, sn, rfl, h⟩
theorem jaG {k id n : Nat} {ops : Array Oper} {ms ord : List Nat} {ds : List (Nat × Oper × Option (Nat × Bool))} {r : Rg} {μ : Mem} {Q : Ax → Rg → Mem → Prop} (hd : drawOk ops.toList = true) (hm : masks ops.toList = ms) (ho : alap ops.toList = ord)
  (hds : dsOf ops.toList ord = some ds) (hn : ops.toList.length = n)
  (h : jjT (dRun P X (jbL P (jao P X S k) S) (jdt (jao P X S k)) ms μ.next ds (r, ⟨μ.obs, μ.next + n⟩, [(n, ⟨μ.obs, μ.next + n⟩)])) (Q .normal)) : EndsC (jao P X S (k + 1) (.region id ops true) r μ) Q := by
 obtain ⟨r', μ', sn, h1, h2⟩ := h
 refine ⟨.normal, r', μ', ?_, h2⟩
 have e : jc8 P X (jbL P (jao P X S k) S) (jdt (jao P X S k)) ops.toList (masks ops.toList) μ.next (alap ops.toList) (r, ⟨μ.obs, Nat.add μ.next ops.toList.length⟩, [(ops.toList.length, ⟨μ.obs, Nat.add μ.next ops.toList.length⟩)]) = some (r', μ', sn) := by
  rw [hm, ho, jhA _ _ _ _ _ _ hds, hn]
  exact h1
 simp only [jaJ, jbG, hd, e]
theorem jar {callF : FuncId → List Value → Mem → Option (Value × Mem)} {roundF : Nat → List Value → Mem → Option (Value × Mem)} {ms : List Nat} {base i : Nat} {o : Oper} {g : Option (Nat × Bool)} {rest : List (Nat × Oper × Option (Nat × Bool))} {r r' : Rg} {μ μ' : Mem} {sn sn' : List (Nat × Mem)} {v : Value} {Q : Rg → Mem → Prop}
  (hw : wanted r g = some true) (h1 : jav P X callF roundF ms base i o r μ sn = some (v, μ', sn')) (h2 : aput r o.dst v = some r') (h : jjT (dRun P X callF roundF ms base rest (r', μ', sn')) Q) : jjT (dRun P X callF roundF ms base ((i, o, g) :: rest) (r, μ, sn)) Q := by
 simp only [dRun, hw, h1, h2]; exact h
theorem jaA {callF : FuncId → List Value → Mem → Option (Value × Mem)} {roundF : Nat → List Value → Mem → Option (Value × Mem)} {ms : List Nat} {base i : Nat} {o : Oper} {g : Option (Nat × Bool)} {rest : List (Nat × Oper × Option (Nat × Bool))} {r r' : Rg} {μ : Mem} {sn : List (Nat × Mem)} {Q : Rg → Mem → Prop}
  (hw : wanted r g = some false) (h2 : aput r o.dst undef = some r') (h : jjT (dRun P X callF roundF ms base rest (r', μ, sn)) Q) : jjT (dRun P X callF roundF ms base ((i, o, g) :: rest) (r, μ, sn)) Q := by
 simp only [dRun, hw, h2]; exact h
theorem jcf {callF : FuncId → List Value → Mem → Option (Value × Mem)} {g : FuncId} {fn : Func} {args : List Value} {μ : Mem} (hf : P.funcs[g]? = some fn) (hb : fn.body.isSome = true) : aGo P X callF g args μ = callF g args μ := by
 unfold aGo
 rw [hf]
 cases h : fn.body with
 | none => rw [h] at hb; cases hb
 | some c => simp only [h]
theorem call_body {ev : Code → Rg → Mem → Option (Ax × Rg × Mem)} {g : FuncId} {args : List Value} {μ : Mem} (hS : lkOf S g = none) : jbL P ev S g args μ = aFun P ev g args μ := by
 unfold jbL
 rw [hS]
theorem jjH {ev : Code → Rg → Mem → Option (Ax × Rg × Mem)} {g : FuncId} {f : List Value → Option Value} {args : List Value} {v : Value} {μ : Mem} (hS : lkOf S g = some (.plain f)) (hf : f args = some v) (hp : args.all (jaS 5) = true) (hv : jaS 5 v = true) : jbL P ev S g args μ = some (v, μ) := by
 unfold jbL
 rw [hS]
 simp only [aLK, hf, hp, hv]
def jdk : Code → List Code
 | .seq a b => jdk a ++ jdk b
 | .cond _ a b => jdk a ++ jdk b
 | .block _ c => jdk c
 | .scope c => jdk c
 | .loop c => c :: jdk c
 | _ => []
def jaR (fn : Func) (i : Nat) : Code := match fn.body with
 | some c => ((jdk c)[i]?).getD .skip
 | none => .skip
end
end Go.Proofs.YtnafmgiaifbhgaaGreatDoor.Ev
