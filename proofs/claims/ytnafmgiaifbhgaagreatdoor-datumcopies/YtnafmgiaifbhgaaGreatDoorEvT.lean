/-
  The evaluator, part T: what calls do, and one operation.
-/
import Derived.Test.YtnafmgiaifbhgaaGreatDoorEvS
set_option linter.unusedSimpArgs false
set_option linter.unusedVariables false
namespace Go.Proofs.YtnafmgiaifbhgaaGreatDoor.Ev
noncomputable section
variable {P : Program} {J : Nat → Loc}
theorem run_callFunc_enter {f : FuncId} {fn : Func} {c : Code} (hf : P.funcs[f]? = some fn) (hname : (fn.name == "runtime.NumGoroutine") = false) (hb : fn.body = some c) (args : Array Value) (w : World) :
  (callFunc f args).run P w = .ok (.enter f args) w := by
 have h1 : fn.name ≠ "runtime.NumGoroutine" := by simpa using hname
 simp [callFunc, Sem.run_bind, program, Sem.run, Result.andThen, hf, h1, hb, pure]
def Fine (P : Program) (rd : Option Nat) (J : Nat → Loc) (μ : Mem) (w : World) (v : Value) (μ' : Mem) (r : Result Next) : Prop :=
 ∀ (n : Nat) (o : Oper) (a : Act) (next : Act → World → Prop) (Q : Exit → Act → World → Prop),
  (∀ J' v' w', VRel J' v v' → Rel J' μ' w' → Step J μ w J' μ' w' → next (a.put o.dst v') w') → o.uponIn (fen rd) n P a next Q r
def jfC (P : Program) (callF : FuncId → List Value → Mem → Option (Value × Mem)) : Prop :=
 ∀ g args μ v μ', callF g args μ = some (v, μ') → ∀ J w args', Rel J μ w → Base P J → ARel J args.toArray args' →
  ∀ n (R : Ending → World → Prop), (∀ J' v' w', VRel J' v v' → Rel J' μ' w' → Step J μ w J' μ' w' → R (.returned v') w') → CallsIn Fence.wide n P g args' w R
def XOk (P : Program) (X : FuncId → List Value → Mem → Option (Value × Mem)) : Prop :=
 ∀ g args μ v μ' fn, P.funcs[g]? = some fn → fn.body = none → X g args μ = some (v, μ') → ∀ J w args', Rel J μ w → ARel J args.toArray args' →
  ∃ J' v' w', (callFunc g args').run P w = .ok (.value v') w' ∧ VRel J' v v' ∧ Rel J' μ' w' ∧ Step J μ w J' μ' w'
def jc9 (P : Program) (roundF : Nat → List Value → Mem → Option (Value × Mem)) : Prop :=
 ∀ l args μ v μ', roundF l args μ = some (v, μ') → ∀ J w b args', Rel J μ w → Base P J → Lives J l b → ARel J args.toArray args' →
  ∃ f tmps asg body, (Instr.yield b args').run P w = .ok (.round b f tmps asg body) w ∧
   ∀ n (R : Ending → World → Prop), (∀ J' v' w', VRel J' v v' → Rel J' μ' w' → Step J μ w J' μ' w' → R (.returned v') w') → RoundIn Fence.wide n P b f tmps asg body w R
def jdc (P : Program) : Prop := ∀ (g : FuncId) (fn : Func), P.funcs[g]? = some fn → (fn.name == "runtime.NumGoroutine") = false
theorem jcR {rd : Option Nat} {μ μ' : Mem} {w w' : World} {v v' : Value} {J' : Nat → Loc} (hv : VRel J' v v') (hr : Rel J' μ' w') (hs : Step J μ w J' μ' w') :
  Fine P rd J μ w v μ' (.ok (.value v') w') := fun n o a next Q h => h J' v' w' hv hr hs
theorem ARel.app {x y : List Value} {x' y' : Array Value} (hx : ARel J x.toArray x') (hy : ARel J y.toArray y') : ARel J (x ++ y).toArray (x' ++ y') := by
 have hs1 : x.length = x'.size := by simpa using hx.size
 have hs2 : y.length = y'.size := by simpa using hy.size
 refine ⟨by simp [hs1, hs2], fun i a b ha hb => ?_⟩
 simp only [List.getElem?_toArray] at ha
 rw [Array.getElem?_append] at hb
 rw [List.getElem?_append] at ha
 by_cases h : i < x.length
 ·rw [if_pos h] at ha
  rw [if_pos (by omega)] at hb
  exact hx.at_ i a b (by simpa using ha) hb
 ·rw [if_neg h] at ha
  rw [if_neg (by omega)] at hb
  exact hy.at_ (i - x.length) a b (by simpa using ha) (by rw [hs1]; exact hb)
theorem jcS {x x' : Array Value} (hs : x.size = x'.size) (h : ∀ (i : Nat) a b, x[i]? = some a → x'[i]? = some b → VRel J a b) : ARel J x.toList.toArray x' :=
 ⟨by simpa using hs, fun i a b ha hb => h i a b (by simpa using ha) hb⟩
theorem jft {v v' : Value} {x : List Value} {x' : Array Value} (hv : VRel J v v') (hx : ARel J x.toArray x') : ARel J (v :: x).toArray (#[v'] ++ x') :=
 ARel.app (x := [v]) (y := x) ⟨rfl, fun i a b ha hb => by
  match i with
  | 0 => simp at ha hb; subst ha hb; exact hv
  | i + 1 => simp at ha⟩ hx
theorem run_wrap (t : TypeId) (a : Addr) (x y : String) (w : World) : (Builtin.ssaWrapNilChk_ #[t] t #[.pointer (some a), strVal x, strVal y]).run P w = .ok (.pointer (some a)) w := rfl
theorem jfw {μ : Mem} {w : World} (h : Rel J μ w) {recv recv' x : Value} {name : String} {g : FuncId} (hv : VRel J recv recv') (hm : jgB P μ recv name = some (g, x)) :
  ∃ x', VRel J x x' ∧ ∀ args, (callMethod recv' name args).run P w = (callFunc g (#[x'] ++ args)).run P w := by
 unfold jgB at hm
 split at hm
 ·rename_i t v
  cases hv with
  | iface hv =>
  rename_i v'
  split at hm
  ·cases hm
  ·rename_i inf hinf
   split at hm
   ·cases hm
   ·rename_i m hfind
    have hfind' : inf.methods.find? (fun m => m.name == name) = some m := by rw [← Array.find?_toList]; exact hfind
    split at hm
    ·rename_i hpath
     have hpe : m.path = #[] := Array.toList_eq_nil_iff.1 hpath
     split at hm
     ·cases hm
     ·rename_i f pr hfn
      have key : ∀ (x' : Value), (receiverAt t (.val v') pr (if m.path.isEmpty then some ((name.splitOn ".").getLastD name) else none)).run P w = .ok x' w →
        ∀ args, (callMethod (.iface t v') name args).run P w = (callFunc f (#[x'] ++ args)).run P w := by
       intro x' hx args
       simp only [callMethod, Sem.run_bind, program, Sem.run, Result.andThen_ok]
       have hd : P.types.size + Made.depth = (P.types.size + 99) + 1 := rfl
       have hmeth : (method (P.types.size + Made.depth) t v' name).run P w = .ok (f, x') w := by
        rw [hd]
        generalize P.types.size + 99 = k
        simp only [method, Sem.run_bind, jcW hinf, Result.andThen_ok, hfind', hpath, follow, Sem.run_pure, hfn, hx]
       simp only [hmeth, Result.andThen_ok, pure, Sem.run]
      split at hm
      ·cases hm
      ·rename_i e hu
       split at hm
       ·cases hm
        refine ⟨v', hv, key v' ?_⟩
        simp only [receiverAt, Sem.run_bind, jaF hu, Result.andThen_ok, Place.get, Sem.run_pure]
       ·split at hm
        ·rename_i xx hl
         cases hm
         obtain ⟨a, x', h1, h2, h3⟩ := jcX (P := P) h hv hl
         refine ⟨x', h2, key x' ?_⟩
         rw [h1]
         simp only [receiverAt, Sem.run_bind, jaF hu, Result.andThen_ok, Place.get, Sem.run_pure, hpe, Array.isEmpty_empty, if_true, run_wrap]
         simpa [asAddr, Sem.run_pure] using h3
        ·cases hm
      ·rename_i d hnp hu
       split at hm
       ·cases hm
        refine ⟨v', hv, key v' ?_⟩
        cases d <;> first | exact absurd rfl (hnp _) | simp only [receiverAt, Sem.run_bind, jaF hu, Result.andThen_ok, Place.get, Sem.run_pure]
       ·cases hm
    ·cases hm
 ·cases hm
section calls
variable {X : FuncId → List Value → Mem → Option (Value × Mem)} {callF : FuncId → List Value → Mem → Option (Value × Mem)} {roundF : Nat → List Value → Mem → Option (Value × Mem)}
theorem jgE (hN : jdc P) (hX : XOk P X) (hF : jfC P callF) {rd : Option Nat} {g : FuncId} {args : List Value} {μ μ' : Mem} {v : Value} (h : aGo P X callF g args μ = some (v, μ')) {w : World} {args' : Array Value} (hr : Rel J μ w) (hB : Base P J)
  (ha : ARel J args.toArray args') : Fine P rd J μ w v μ' ((callFunc g args').run P w) := by
 unfold aGo at h
 split at h
 ·cases h
 ·rename_i fn hfn
  split at h
  ·rename_i c hb
   rw [run_callFunc_enter hfn (hN g fn hfn) hb]
   intro n o a next Q hk
   rw [Oper.uponIn_enter]
   refine ⟨fun hd => by simp [fen] at hd, ?_⟩
   have := hF g args μ v μ' h J w args' hr hB ha (n - 1) (fun e w'' => match e with
    | .returned v => next (a.put o.dst v) w''
    | .panicked chain => Q (.panic chain) a w''
    | .outgrown => LetsOut Q) (fun J' v' w' h1 h2 h3 => hk J' v' w' h1 h2 h3)
   have h2 : CallsIn (fen rd) (n - 1) P g args' w _ := this
   exact h2.mono fun e w'' he => by cases e <;> exact he
  ·rename_i hb
   obtain ⟨J', v', w', h1, h2, h3, h4⟩ := hX g args μ v μ' fn hfn hb h J w args' hr ha
   rw [h1]
   exact jcR h2 h3 h4
theorem jgF (hN : jdc P) (hX : XOk P X) (hF : jfC P callF) (hR : jc9 P roundF) {rd : Option Nat} {f f' : Value} {args : List Value} {μ μ' : Mem} {v : Value} (h : jeR P X callF roundF f args μ = some (v, μ')) {w : World} {args' : Array Value} (hr : Rel J μ w)
  (hB : Base P J) (hf : VRel J f f') (ha : ARel J args.toArray args') : Fine P rd J μ w v μ' ((Deferred.ofValue f' args' >>= fun d => invoke d.target d.args).run P w) := by
 unfold jeR at h
 split at h
 ·rename_i g fi ca
  cases hf with
  | func hfn h1 h2 h3 h4 =>
    cases hfn
    simp only [Deferred.ofValue, Sem.run_bind, Sem.run_pure, Result.andThen_ok, invoke]
    rw [Array.append_assoc]
    exact jgE hN hX hF h hr hB ((jcS h1 h2).app (ha.app (jcS h3 h4)))
 ·rename_i l fi ca
  cases hf with
  | func hfn h1 h2 h3 h4 =>
    have hlive : ∀ b, FnRel J (.yield l) (.yield b) → Lives J l b := fun b hh => by
     cases hh with
     | yield e => exact .inl ⟨_, e⟩
     | yieldDead _ e => exact .inr e
    cases hfn' : hfn with
    | yield e | yieldDead l' e =>
      simp only [Deferred.ofValue, Sem.run_bind, Sem.run_pure, Result.andThen_ok, invoke]
      obtain ⟨f, tmps, asg, body, hrun, hrest⟩ := hR l _ μ v μ' h J w _ _ hr hB (hlive _ hfn) ((jcS h1 h2).app ha)
      rw [hrun]
      intro n o a next Q hk
      rw [Oper.uponIn_round]
      refine ⟨fun hd => by simp [fen] at hd, ?_⟩
      have := hrest (n - 1) (fun e w'' => match e with
       | .returned v => next (a.put o.dst v) w''
       | .panicked chain => Q (.panic chain) a w''
       | .outgrown => LetsOut Q) (fun J' v' w' h1 h2 h3 => hk J' v' w' h1 h2 h3)
      have h2 : RoundIn (fen rd) (n - 1) P _ f tmps asg body w _ := this
      exact h2.mono fun e w'' he => by cases e <;> exact he
 ·rename_i nm fi ca
  cases hf with
  | func hfn h1 h2 h3 h4 =>
    cases hfn
    rename_i fi' ca'
    split at h
    ·rename_i rv rest hl
     split at h
     ·rename_i g x hm
      have hall := (jcS h1 h2).app ha
      rw [hl] at hall
      have hsz : 0 < (fi' ++ args').size := by have := hall.size; simp at this; simp; omega
      have hrv : VRel J rv (fi' ++ args')[0] := hall.at_ 0 _ _ (by simp) (Array.getElem?_eq_getElem hsz)
      obtain ⟨x', hx, hrun⟩ := jfw hr hrv hm
      have h0 : (fi' ++ args')[0]? = some (fi' ++ args')[0] := Array.getElem?_eq_getElem hsz
      simp only [Deferred.ofValue, Sem.run_bind, Sem.run_pure, Result.andThen_ok, invoke, h0]
      rw [hrun]
      refine jgE hN hX hF h hr hB (jft hx ⟨?_, fun i a b ha' hb' => ?_⟩)
      ·have := hall.size; simp at this; simp; omega
      ·simp only [List.getElem?_toArray] at ha'
       rw [Array.getElem?_extract] at hb'
       split at hb'
       ·exact hall.at_ (i + 1) a b (by simpa using ha') (by rw [Nat.add_comm]; exact hb')
       ·cases hb'
     ·cases h
    ·cases h
 ·cases h
theorem jjQ (hN : jdc P) (hX : XOk P X) (hF : jfC P callF) (hR : jc9 P roundF) {rd : Option Nat} {ρ ρ' : Operand → Value} (hρ : ∀ x, VRel J (ρ x) (ρ' x)) {μ μ' : Mem} {v : Value} {o : Oper} (h : jew P X callF roundF ρ μ o = some (v, μ')) {w : World} (hr : Rel J μ w)
  (hB : Base P J) : Fine P rd J μ w v μ' ((execOp ρ' o).run P w) := by
 unfold jew at h
 split at h
 ·rename_i c ho
  have hargs : ARel J (c.args.toList.map ρ).toArray (c.args.map ρ') := ⟨by simp, fun i a b ha hb => by
   simp only [List.getElem?_toArray, List.getElem?_map, Array.getElem?_toList, Option.map_eq_some_iff, Array.getElem?_map] at ha hb
   obtain ⟨x, hx, rfl⟩ := ha
   obtain ⟨y, hy, rfl⟩ := hb
   rw [hx] at hy; cases hy
   exact hρ x⟩
  split at h
  ·rename_i f hc
   have := jgF (rd := rd) hN hX hF hR h hr hB (hρ f) hargs
   simpa only [execOp, ho, resolve, hc] using this
  ·rename_i rv nm hc
   split at h
   ·rename_i g x hm
    obtain ⟨x', hx, hrun⟩ := jfw hr (hρ rv) hm
    have := jgE (rd := rd) hN hX hF h hr hB (jft hx hargs)
    rw [← hrun] at this
    have e0 : (#[ρ' rv] ++ c.args.map ρ')[0]? = some (ρ' rv) := by rw [Array.getElem?_append_left (by simp)]; rfl
    have e1 : (#[ρ' rv] ++ c.args.map ρ').extract 1 (#[ρ' rv] ++ c.args.map ρ').size = c.args.map ρ' := by
     rw [Array.extract_append]; simp
    have hex : (execOp ρ' o).run P w = (callMethod (ρ' rv) nm (c.args.map ρ')).run P w := by
     simp only [execOp, ho, resolve, hc, Sem.run_bind, Sem.run_pure, Result.andThen_ok, invoke, Array.append_empty, e0, e1]
    rw [hex]
    exact this
   ·cases h
  ·cases h
 ·cases h
end calls
end
end Go.Proofs.YtnafmgiaifbhgaaGreatDoor.Ev
