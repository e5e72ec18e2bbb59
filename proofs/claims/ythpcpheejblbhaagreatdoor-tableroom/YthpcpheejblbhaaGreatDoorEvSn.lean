/-
  The evaluator, part Sn: code whose end is not one alone: a range over a map. No conditions.
-/
import Derived.Test.YthpcpheejblbhaaGreatDoorEvZw
import Derived.Test.YthpcpheejblbhaaGreatDoorEvZe
import Derived.Maps.RangeRun
set_option linter.unusedSimpArgs false
set_option linter.unusedVariables false
namespace Go.Proofs.YthpcpheejblbhaaGreatDoor.Ev
open Go.ChangeMaps Go.MapKept
noncomputable section
variable {P : Program}
def Snd (P : Program) (c : Code) (r : Rg) (μ : Mem) (QQ : Ax → Rg → Mem → Prop) : Prop :=
 ∀ J a w rd n (Q : Exit → Act → World → Prop), Rel J μ w → Base P J → RgRel J rd r a →
  (∀ x r' μ' J' a' w', QQ x r' μ' → Rel J' μ' w' → RgRel J' rd r' a' → Step J μ w J' μ' w' → Q (toExit x) a' w') → c.wpIn (fen rd) n P Q a w
theorem snd_of {ev : Code → Rg → Mem → Option (Ax × Rg × Mem)} (hE : EvOk P ev) {c : Code} {r : Rg} {μ : Mem} {QQ : Ax → Rg → Mem → Prop} (h : EndsC (ev c r μ) QQ) : Snd P c r μ QQ := by
 obtain ⟨x, r', μ', h1, h2⟩ := h
 intro J a w rd n Q hr hB hg hk
 exact hE c r μ x r' μ' h1 J a w rd n Q hr hB hg fun J' a' w' g1 g2 g3 => hk x r' μ' J' a' w' h2 g1 g2 g3
theorem Snd.mono {c : Code} {r : Rg} {μ : Mem} {Q1 Q2 : Ax → Rg → Mem → Prop} (h : Snd P c r μ Q1) (hq : ∀ x r μ, Q1 x r μ → Q2 x r μ) : Snd P c r μ Q2 := by
 intro J a w rd n Q hr hB hg hk
 exact h J a w rd n Q hr hB hg fun x r' μ' J' a' w' h1 h2 h3 h4 => hk x r' μ' J' a' w' (hq x r' μ' h1) h2 h3 h4
theorem retQ_mono {fn : Func} {Q1 Q2 : Value → Mem → Prop} (hq : ∀ v μ, Q1 v μ → Q2 v μ) : ∀ (x : Ax) (r : Rg) (μ : Mem), retQ P fn Q1 x r μ → retQ P fn Q2 x r μ := by
 intro x r μ h
 cases x with
 | exit id => exact h.elim
 | normal => obtain ⟨h1, v, h2, h3⟩ := h; exact ⟨h1, v, h2, hq v μ h3⟩
 | ret => obtain ⟨h1, v, h2, h3⟩ := h; exact ⟨h1, v, h2, hq v μ h3⟩
def thenS (P : Program) (b : Code) (QQ : Ax → Rg → Mem → Prop) : Ax → Rg → Mem → Prop
 | .normal, r, μ => Snd P b r μ QQ
 | .exit id, r, μ => QQ (.exit id) r μ
 | .ret, r, μ => QQ .ret r μ
theorem snd_seq {c d : Code} {r : Rg} {μ : Mem} {QQ : Ax → Rg → Mem → Prop} (h : Snd P c r μ (thenS P d QQ)) : Snd P (.seq c d) r μ QQ := by
 intro J a w rd n Q hr hB hg hk
 refine wpIn_seq ?_
 refine h J a w rd n _ hr hB hg fun x r1 μ1 J1 a1 w1 hq g1 g2 g3 => ?_
 cases x with
 | normal => exact hq J1 a1 w1 rd n Q g1 (hB.mono g3.ext) g2 fun x r2 μ2 J2 a2 w2 hq2 k1 k2 k3 => hk x r2 μ2 J2 a2 w2 hq2 k1 k2 (g3.trans hr k3)
 | exit id => exact hk _ r1 μ1 J1 a1 w1 hq g1 g2 g3
 | ret => exact hk _ r1 μ1 J1 a1 w1 hq g1 g2 g3
def takeC : Nat → Code → Code
 | n + 1, .seq a b => .seq a (takeC n b)
 | _, _ => .skip
def dropC : Nat → Code → Code
 | n + 1, .seq _ b => dropC n b
 | _, c => c
theorem snd_cut {X : FuncId → List Value → Mem → Option (Value × Mem)} (hN : Named P) (hX : XOk P X) (hm : P.follows .mixedOrders = true) {S : List (FuncId × LK)} (hS : SumsOk P S) {QQ : Ax → Rg → Mem → Prop} : ∀ (n k : Nat) (c : Code) (r : Rg) (μ : Mem),
  EndsC (aCode P X S k (takeC n c) r μ) (thenS P (dropC n c) QQ) → Snd P c r μ QQ := by
 have skip : ∀ (k : Nat) (c : Code) (r : Rg) (μ : Mem), EndsC (aCode P X S k .skip r μ) (thenS P c QQ) → Snd P c r μ QQ := by
  rintro k c r μ ⟨x, r', μ', h1, h2⟩
  cases k with
  | zero => simp [aCode_zero] at h1
  | succ k => simp only [aCode_succ, aStep] at h1; cases h1; exact h2
 intro n
 induction n with
 | zero => intro k c r μ h; cases c <;> exact skip k _ r μ h
 | succ n ih =>
   intro k c r μ h
   cases c with
   | seq a b =>
     refine snd_seq ?_
     obtain ⟨x, r', μ', h1, h2⟩ := h
     cases k with
     | zero => simp [aCode_zero] at h1
     | succ k =>
       have hE := (code_ok hN hX hm hS k).1
       simp only [takeC, aCode_succ, aStep] at h1
       split at h1
       ·rename_i r1 μ1 e
        exact snd_of hE ⟨_, r1, μ1, e, ih k b r1 μ1 ⟨x, r', μ', h1, h2⟩⟩
       ·rename_i hno
        refine snd_of hE ⟨x, r', μ', h1, ?_⟩
        cases x with
        | normal => exact absurd h1 (hno r' μ')
        | exit id => exact h2
        | ret => exact h2
   | _ => exact skip k _ r μ h
theorem list_value {rd : Option Nat} {n : Nat} {ops : Array Oper} {Q : Exit → Act → World → Prop} {o : Oper} {rest : List Oper} {a : Act} {w w' : World} {v' : Value} (hgd : o.guard = none) (hnd : ∀ c, o.op ≠ .defer c)
  (hrun : (execOp a.eval o).run P w = .ok (.value v') w') (h : wpListIn (fen rd) n P ops Q rest (a.put o.dst v') w') : wpListIn (fen rd) n P ops Q (o :: rest) a w := by
 simp only [wpListIn]
 have : Region.wanted o (yielded ops a.tmps) = true := by unfold Region.wanted; rw [hgd]
 rw [if_pos this]
 refine ⟨fun _ _ => trivial, ?_⟩
 rw [Oper.semAt_eq _ _ _ hnd, hrun]
 exact h
theorem Rel.gone {J : Nat → Loc} {μ : Mem} {w w' : World} (h : Rel J μ w) {it rb s : Nat} (hi : J it = .at rb s) (hg : gone μ it) (hsz : w'.heap.size = w.heap.size) (hoth : ∀ c, c ≠ rb → w'.heap[c]? = w.heap[c]?) : Rel J μ w' where
 inj := h.inj
 bnd i b s e := by rw [hsz]; exact h.bnd i b s e
 fresh := h.fresh
 obj i o ho hd := by
  obtain ⟨b, s2, hb, hob⟩ := h.obj i o ho hd
  refine ⟨b, s2, hb, hob.keep (Ext.refl J) (hoth b fun e => ?_)⟩
  subst e
  have := h.inj i it b s2 s hb hi
  subst this
  exact hd (hg o ho)
theorem Step.from {J0 J : Nat → Loc} {μ0 μ : Mem} {w0 w w' : World} (h : Step J0 μ0 w0 J μ w) {rb : Nat} (hrb : w0.heap.size ≤ rb) (hsz : w'.heap.size = w.heap.size) (hoth : ∀ c, c ≠ rb → w'.heap[c]? = w.heap[c]?) (h1 : w'.os = w.os) (h2 : w'.tape = w.tape) (h3 : w'.output = w.output) : Step J0 μ0 w0 J μ w' :=
 ⟨h.at_, h.dead, h.unborn, h.born, h.next, h.gone_, by rw [hsz]; exact h.size, fun b hb hg => (hoth b (by omega)).trans (h.frame b hb hg), h1.trans h.os, h2.trans h.tape, h3.trans h.output⟩
def EsRel (J : Nat → Loc) (es : List (Value × Value × Nat)) (es' : Array MapEntry) : Prop := es.length = es'.size ∧ ∀ (i : Nat) k v n, es[i]? = some (k, v, n) → ∃ e, es'[i]? = some e ∧ VRel J k e.key ∧ VRel J v e.val ∧ e.born = n
theorem EsRel.born {J : Nat → Loc} {es : List (Value × Value × Nat)} {es' : Array MapEntry} (h : EsRel J es es') : es'.toList.map (·.born) = es.map (·.2.2) := by
 apply List.ext_getElem?
 intro i
 simp only [List.getElem?_map]
 by_cases hi : i < es.length
 ·obtain ⟨e, h1, _, _, h4⟩ := h.2 i es[i].1 es[i].2.1 es[i].2.2 (List.getElem?_eq_getElem hi)
  rw [List.getElem?_eq_getElem hi, Array.getElem?_toList, h1]
  simp [h4]
 ·have h1 : es[i]? = none := List.getElem?_eq_none (by omega)
  have h2 : es'[i]? = none := Array.getElem?_eq_none (by have := h.1; omega)
  rw [h1, Array.getElem?_toList, h2]
  rfl
theorem EsRel.mem {J : Nat → Loc} {es : List (Value × Value × Nat)} {es' : Array MapEntry} (h : EsRel J es es') {e : MapEntry} (he : e ∈ es'.toList) : ∃ k v, (k, v, e.born) ∈ es ∧ VRel J k e.key ∧ VRel J v e.val := by
 obtain ⟨i, hi⟩ := List.getElem?_of_mem he
 rw [Array.getElem?_toList] at hi
 have hlt : i < es.length := by rw [h.1]; exact (Array.getElem?_eq_some_iff.1 hi).1
 obtain ⟨e2, h1, h2, h3, h4⟩ := h.2 i es[i].1 es[i].2.1 es[i].2.2 (List.getElem?_eq_getElem hlt)
 rw [hi] at h1
 cases h1
 exact ⟨es[i].1, es[i].2.1, by rw [h4]; exact List.getElem_mem hlt, h2, h3⟩
def lc (es : List (Value × Value × Nat)) (seen : Array Nat) : Nat := ((es.map (·.2.2)).filter fun n => !seen.contains n).length
theorem filt_le {p q : Nat → Bool} (h : ∀ n, q n = true → p n = true) : ∀ l : List Nat, (l.filter q).length ≤ (l.filter p).length := by
 intro l
 induction l with
 | nil => exact Nat.le_refl _
 | cons x l ih =>
   rw [List.filter_cons, List.filter_cons]
   cases hq : q x with
   | true => rw [h x hq]; simp only [if_true, List.length_cons]; omega
   | false =>
     cases hp : p x with
     | true => simp only [if_true, List.length_cons]; exact Nat.le_succ_of_le ih
     | false => exact ih
theorem filt_lt {p q : Nat → Bool} (h : ∀ n, q n = true → p n = true) {b : Nat} (hp : p b = true) (hq : q b = false) : ∀ l : List Nat, b ∈ l → (l.filter q).length < (l.filter p).length := by
 intro l hb
 induction l with
 | nil => cases hb
 | cons x l ih =>
   rw [List.filter_cons, List.filter_cons]
   rcases List.mem_cons.1 hb with e | hb'
   ·subst e
    rw [hp, hq]
    exact Nat.lt_succ_of_le (filt_le h l)
   ·have := ih hb'
    cases hqx : q x with
    | true => rw [h x hqx]; simp only [if_true, List.length_cons]; omega
    | false =>
      cases hpx : p x with
      | true => simp only [if_true, List.length_cons]; exact Nat.lt_succ_of_lt this
      | false => exact this
theorem lc_push {es : List (Value × Value × Nat)} {seen : Array Nat} {b : Nat} (hb : b ∈ es.map (·.2.2)) (hs : seen.contains b = false) : lc es (seen.push b) < lc es seen := by
 refine filt_lt (fun n hn => ?_) (by rw [hs]; rfl) (by rw [contains_push]; simp) _ hb
 rw [contains_push] at hn
 cases hc : seen.contains n with
 | true => rw [hc] at hn; simp at hn
 | false => rfl
theorem itptr_at {J : Nat → Loc} {it rb s : Nat} {v : Value} (h : VRel J (.pointer (some ⟨it, 0, none⟩)) v) (hi : J it = .at rb s) : v = .pointer (some ⟨rb, 0, none⟩) := by
 cases h with
 | ptr e => rw [hi] at e; cases e; rfl
 | ptrDead a' e => rw [hi] at e; cases e
theorem exec_next {ρ : Operand → Value} {o : Oper} {x : Operand} {w w' : World} {v v' : Value} (h : o.op = .next x false) (hx : ρ x = v) (hrun : (Instr.next v false o.type).run P w = .ok v' w') : (execOp ρ o).run P w = .ok (.value v') w' := by
 simp only [execOp, h, hx, Sem.run_bind, hrun, Result.andThen_ok, Sem.run_pure]
theorem exec_entry {ρ : Operand → Value} {o : Oper} {x : Operand} {w w' : World} {v v' : Value} (h : o.op = .entry x) (hx : ρ x = v) (hrun : (Instr.entry v).run P w = .ok v' w') : (execOp ρ o).run P w = .ok (.value v') w' := by
 simp only [execOp, h, hx, Sem.run_bind, hrun, Result.andThen_ok, Sem.run_pure]
theorem exec_range {ρ : Operand → Value} {o : Oper} {t : TypeId} {x : Operand} {w w' : World} {v v' : Value} (h : o.op = .range t x) (hx : ρ x = v) (hrun : (Instr.range t v).run P w = .ok v' w') : (execOp ρ o).run P w = .ok (.value v') w' := by
 simp only [execOp, h, hx, Sem.run_bind, hrun, Result.andThen_ok, Sem.run_pure]
theorem exec_move {ρ : Operand → Value} {o : Oper} {x : Operand} {w : World} (h : o.op = .move x) : (execOp ρ o).run P w = .ok (.value (ρ x)) w := by
 simp only [execOp, h, Sem.run_pure]
theorem exec_extract {ρ : Operand → Value} {o : Oper} {x : Operand} {w : World} {l : Array Value} {v : Value} (h : o.op = .extract x 0) (hx : ρ x = .tuple l) (hl : l[0]? = some v) : (execOp ρ o).run P w = .ok (.value v) w := by
 have : (Instr.extract (.tuple l) 0).run P w = .ok v w := by
  unfold Instr.extract
  simp only [hl, Sem.run_pure]
 simp only [execOp, h, hx, Sem.run_bind, this, Result.andThen_ok, Sem.run_pure]
structure MapLoop (P : Program) (X : FuncId → List Value → Mem → Option (Value × Mem)) (S : List (FuncId × LK)) (k : Nat) (Inv : Rg → Mem → Prop) (es : List (Value × Value × Nat)) (clock mi it t2 t3 t4 t5 b2 : Nat) (l5 : List Oper) (body : Code) : Prop where
 map : ∀ r μ, Inv r μ → μ.obs.get mi = some (.map es clock) ∧ regAt r.tm t2 = .pointer (some ⟨it, 0, none⟩)
 next : ∀ r μ v b, Inv r μ → ∃ r1 r2, aput r (some t3) v = some r1 ∧ regAt r1.tm t3 = v ∧ aput r1 (some t4) (.bool b) = some r2 ∧ regAt r2.tm t4 = .bool b ∧ Inv r2 μ
 body : ∀ r μ key v n, Inv r μ → (key, v, n) ∈ es → ∃ r1, aput r (some t5) (.tuple #[key, v]) = some r1 ∧
  Ends (run1 P X (aCallS P (aCode P X S k) S) (aRound (aCode P X S k)) l5 r1 μ) fun r2 μ2 => EndsC (aCode P X S k body r2 μ2) fun x r3 μ3 => (x = .normal ∨ x = .exit b2) ∧ Inv r3 μ3
theorem tup_at {J : Nat → Loc} {x : Array Value} {v : Value} (h : VRel J (.tuple x) v) {b : Bool} (hb : x[0]? = some (.bool b)) : ∃ x', v = .tuple x' ∧ x'[0]? = some (.bool b) := by
 cases h with
 | tuple hs hx =>
   rename_i x'
   have hlt : 0 < x'.size := by rw [← hs]; exact (Array.getElem?_eq_some_iff.1 hb).1
   have := hx 0 _ _ hb (Array.getElem?_eq_getElem hlt)
   cases hv : x'[0] with
   | bool c => rw [hv] at this; cases this; exact ⟨x', rfl, by rw [Array.getElem?_eq_getElem hlt, hv]⟩
   | _ => rw [hv] at this; cases this
structure AtR (P : Program) (J0 : Nat → Loc) (μ0 : Mem) (w0 : World) (Inv : Rg → Mem → Prop) (clock mi it bm rb : Nat) (rd : Option Nat) (J : Nat → Loc) (a : Act) (w : World) (r : Rg) (μ : Mem) (seen : Array Nat) (c0 : Nat) : Prop where
 rel : Rel J μ w
 base : Base P J
 reg : RgRel J rd r a
 step : Step J0 μ0 w0 J μ w
 inv : Inv r μ
 itat : J it = .at rb 0
 gone : gone μ it
 mapat : ∃ s, J mi = .at bm s
 iter : w.heap[rb]? = some (.mapIter (some bm) clock seen c0)
 le : clock ≤ c0
theorem map_rounds {X : FuncId → List Value → Mem → Option (Value × Mem)} (hN : Named P) (hX : XOk P X) (hm : P.follows .mixedOrders = true) {S : List (FuncId × LK)} (hS : SumsOk P S) {k : Nat} {Inv : Rg → Mem → Prop} {es : List (Value × Value × Nat)} {clock mi it t2 t3 t4 t5 b1 b2 i1 i2 : Nat} {l5 : List Oper} {body : Code} {o3 o4 o5 : Oper}
  (hborn : ∀ x ∈ es, x.2.2 < clock) (hnd : (es.map (·.2.2)).Nodup) (L : MapLoop P X S k Inv es clock mi it t2 t3 t4 t5 b2 l5 body)
  (h3 : o3.op = .next (.tmp t2) false) (g3 : o3.guard = none) (d3 : o3.dst = some t3) (h4 : o4.op = .extract (.tmp t3) 0) (g4 : o4.guard = none) (d4 : o4.dst = some t4) (h5 : o5.op = .entry (.tmp t2)) (g5 : o5.guard = none) (d5 : o5.dst = some t5) (g5l : l5.all (fun o => o.guard.isNone) = true)
  {J0 : Nat → Loc} {μ0 : Mem} {w0 : World} {rd : Option Nat} {n bm rb : Nat} {Q : Exit → Act → World → Prop} (hr0 : Rel J0 μ0 w0) (hrb : w0.heap.size ≤ rb)
  (hend : ∀ J a w r μ, Rel J μ w → Base P J → RgRel J rd r a → Step J0 μ0 w0 J μ w → Inv r μ → Q (.exit b1) a w) :
  ∀ (m : Nat) J a w r μ seen c0, lc es seen ≤ m → AtR P J0 μ0 w0 Inv clock mi it bm rb rd J a w r μ seen c0 →
   Code.roundsIn (fen rd) n P (.seq (.region i1 #[o3, o4] false) (.seq (.cond (.tmp t4) .skip (.exit b1)) (.block b2 (.seq (.region i2 (o5 :: l5).toArray false) body)))) Q (m + 1) a w := by
 have hE := (code_ok hN hX hm hS k).1
 have hF := calls_ok hE hS
 have hRo := round_ok hE
 have key : ∀ m, (∀ J a w r μ seen c0, lc es seen + 1 ≤ m → AtR P J0 μ0 w0 Inv clock mi it bm rb rd J a w r μ seen c0 →
   Code.roundsIn (fen rd) n P (.seq (.region i1 #[o3, o4] false) (.seq (.cond (.tmp t4) .skip (.exit b1)) (.block b2 (.seq (.region i2 (o5 :: l5).toArray false) body)))) Q m a w) →
   ∀ J a w r μ seen c0, lc es seen ≤ m → AtR P J0 μ0 w0 Inv clock mi it bm rb rd J a w r μ seen c0 →
   Code.roundsIn (fen rd) n P (.seq (.region i1 #[o3, o4] false) (.seq (.cond (.tmp t4) .skip (.exit b1)) (.block b2 (.seq (.region i2 (o5 :: l5).toArray false) body)))) Q (m + 1) a w := by
  intro m ih J a w r μ seen c0 hle H
  obtain ⟨hmap, hit⟩ := L.map r μ H.inv
  obtain ⟨sm, hmi⟩ := H.mapat
  obtain ⟨b', s', hb', hob⟩ := H.rel.obj mi _ hmap (by simp)
  rw [hmi] at hb'
  cases hb'
  obtain ⟨es', hb, hlen, hes⟩ := hob
  have hER : EsRel J es es' := ⟨hlen, hes⟩
  have hold : ∀ x ∈ es'.toList, x.born < clock := fun x hx => by
   obtain ⟨k1, v1, hmem, _⟩ := hER.mem hx
   exact hborn _ hmem
  have hne : rb ≠ bm := fun e => by have h := H.iter; rw [e, hb] at h; cases h
  have hevi : a.eval (.tmp t2) = .pointer (some ⟨rb, 0, none⟩) := by
   have := aev_rel (P := P) (x := .tmp t2) H.base (fun d _ => H.reg.regs d)
   rw [show aev P r (.tmp t2) = regAt r.tm t2 from rfl, hit] at this
   exact itptr_at this H.itat
  rw [roundsIn_succ]
  refine wpIn_seq ?_
  refine wpIn_region_list ?_
  show wpListIn _ _ _ _ _ [o3, o4] a w
  rcases run_next_at (P := P) w o3.type rb bm clock c0 seen es' clock H.iter hb hold H.le with ⟨h0, hrun⟩ | ⟨e, he, w1, hal, hrun⟩
  ·obtain ⟨r1, r2, p1, q1, p2, q2, I2⟩ := L.next r μ (.tuple #[.bool false]) false H.inv
   have R1 : RgRel J rd r1 (a.put (some t3) (.tuple #[.bool false])) := H.reg.put p1 (.tuple rfl fun i a b ha hb => by
    match i with
    | 0 => simp at ha hb; subst ha hb; exact .bool _
    | i + 1 => simp at ha)
   have R2 : RgRel J rd r2 ((a.put (some t3) (.tuple #[.bool false])).put (some t4) (.bool false)) := R1.put p2 (.bool _)
   refine list_value g3 (fun c hc => by rw [h3] at hc; cases hc) (exec_next h3 hevi hrun) ?_
   rw [d3]
   have e3 := aev_rel (P := P) (x := .tmp t3) H.base (fun d _ => R1.regs d)
   rw [show aev P r1 (.tmp t3) = regAt r1.tm t3 from rfl, q1] at e3
   obtain ⟨x', e3, e4⟩ := tup_at e3 (b := false) rfl
   refine list_value g4 (fun c hc => by rw [h4] at hc; cases hc) (exec_extract h4 e3 e4) ?_
   rw [d4]
   refine wpIn_seq ?_
   have e5 := aev_rel (P := P) (x := .tmp t4) H.base (fun d _ => R2.regs d)
   rw [show aev P r2 (.tmp t4) = regAt r2.tm t4 from rfl, q2] at e5
   refine wpIn_cond_false (bool_inv e5) (wpIn_exit ?_)
   exact hend J _ w r2 μ H.rel H.base R2 H.step I2
  ·obtain ⟨hem, hes1⟩ := mem_left he
   obtain ⟨k1, v1, hmem, hk1, hv1⟩ := hER.mem hem
   have hsz1 : w1.heap = w.heap ∧ w1.os = w.os ∧ w1.tape = w.tape ∧ w1.output = w.output := by rcases hal with rfl | rfl <;> exact ⟨rfl, rfl, rfl, rfl⟩
   have hr1 : w1.heap[rb]? = some (.mapIter (some bm) clock seen c0) := by rw [hsz1.1]; exact H.iter
   obtain ⟨w2, hw2⟩ : ∃ w2, w2 = setBlock w1 rb (.mapIter (some bm) clock (seen.push e.born) clock) := ⟨_, rfl⟩
   rw [← hw2] at hrun
   have hset : w2.heap[rb]? = some (.mapIter (some bm) clock (seen.push e.born) clock) ∧ ∀ c, c ≠ rb → w2.heap[c]? = w1.heap[c]? := by
    have h := Go.Proofs.YthpcpheejblbhaaGreatDoor.Ev.heap_set (w := w1) (b := rb) (o := .mapIter (some bm) clock (seen.push e.born) clock) (Array.getElem?_eq_some_iff.1 hr1).1
    rw [hw2]
    exact ⟨h.1, h.2.1⟩
   have hsz : w2.heap.size = w.heap.size := by rw [hw2, ← hsz1.1]; simp [setBlock]
   have hoth : ∀ c, c ≠ rb → w2.heap[c]? = w.heap[c]? := fun c hc => by rw [hset.2 c hc, hsz1.1]
   have hb2 : w2.heap[bm]? = some (.map es' clock) := (hoth bm fun e => hne e.symm).trans hb
   have Rel2 : Rel J μ w2 := H.rel.gone H.itat H.gone hsz hoth
   have St2 : Step J0 μ0 w0 J μ w2 := H.step.from hrb hsz hoth (by rw [hw2]; exact hsz1.2.1) (by rw [hw2]; exact hsz1.2.2.1) (by rw [hw2]; exact hsz1.2.2.2)
   have hv : VRel J (.tuple #[.bool true, k1, v1]) (.tuple #[.bool true, e.key, e.val]) := .tuple rfl fun i a b ha hb => by
    match i with
    | 0 => simp at ha hb; subst ha hb; exact .bool _
    | 1 => simp at ha hb; subst ha hb; exact hk1
    | 2 => simp at ha hb; subst ha hb; exact hv1
    | i + 3 => simp at ha
   obtain ⟨r1, r2, p1, q1, p2, q2, I2⟩ := L.next r μ (.tuple #[.bool true, k1, v1]) true H.inv
   have R1 : RgRel J rd r1 (a.put (some t3) (.tuple #[.bool true, e.key, e.val])) := H.reg.put p1 hv
   have R2 : RgRel J rd r2 ((a.put (some t3) (.tuple #[.bool true, e.key, e.val])).put (some t4) (.bool true)) := R1.put p2 (.bool _)
   refine list_value g3 (fun c hc => by rw [h3] at hc; cases hc) (exec_next h3 hevi hrun) ?_
   rw [d3]
   have e3 := aev_rel (P := P) (x := .tmp t3) H.base (fun d _ => R1.regs d)
   rw [show aev P r1 (.tmp t3) = regAt r1.tm t3 from rfl, q1] at e3
   obtain ⟨x', e3, e4⟩ := tup_at e3 (b := true) rfl
   refine list_value g4 (fun c hc => by rw [h4] at hc; cases hc) (exec_extract h4 e3 e4) ?_
   rw [d4]
   refine wpIn_seq ?_
   have e5 := aev_rel (P := P) (x := .tmp t4) H.base (fun d _ => R2.regs d)
   rw [show aev P r2 (.tmp t4) = regAt r2.tm t4 from rfl, q2] at e5
   refine wpIn_cond_true (bool_inv e5) (wpIn_skip ?_)
   obtain ⟨a2, ha2⟩ : ∃ a2, a2 = (a.put (some t3) (.tuple #[.bool true, e.key, e.val])).put (some t4) (.bool true) := ⟨_, rfl⟩
   rw [← ha2] at R2 ⊢
   refine wpIn_block ?_
   refine wpIn_seq ?_
   refine wpIn_region_list ?_
   show wpListIn _ _ _ _ _ (o5 :: l5) a2 w2
   obtain ⟨hmap2, hit2⟩ := L.map r2 μ I2
   have hevi2 : a2.eval (.tmp t2) = .pointer (some ⟨rb, 0, none⟩) := by
    have := aev_rel (P := P) (x := .tmp t2) H.base (fun d _ => R2.regs d)
    rw [show aev P r2 (.tmp t2) = regAt r2.tm t2 from rfl, hit2] at this
    exact itptr_at this H.itat
   have hrun5 := run_entry_at (P := P) w2 rb bm clock seen es' clock e hset.1 hb2 hem (by rw [hER.born]; exact hnd)
   refine list_value g5 (fun c hc => by rw [h5] at hc; cases hc) (exec_entry h5 hevi2 hrun5) ?_
   rw [d5]
   obtain ⟨r3, p5, hb5⟩ := L.body r2 μ k1 v1 e.born I2 hmem
   have R3 : RgRel J rd r3 (a2.put (some t5) (.tuple #[e.key, e.val])) := R2.put p5 (.tuple rfl fun i a b ha hb => by
    match i with
    | 0 => simp at ha hb; subst ha hb; exact hk1
    | 1 => simp at ha hb; subst ha hb; exact hv1
    | i + 2 => simp at ha)
   obtain ⟨r4, μ4, h6, x, r5, μ5, h7, hx, I5⟩ := hb5
   rw [← aOps_run1 (o5 :: l5) l5 r3 μ g5l] at h6
   refine aOps_sound hN hX hF hRo (ops := (o5 :: l5).toArray) l5 r3 μ r4 μ4 h6 J _ w2 Rel2 H.base R3 fun J4 a4 w4 k1' k2' k3' => ?_
   have B4 := H.base.mono k3'.ext
   refine hE body r4 μ4 x r5 μ5 h7 J4 a4 w4 rd n _ k1' B4 k2' fun J5 a5 w5 m1 m2 m3 => ?_
   have St4 := k3'.trans Rel2 m3
   have hgone5 : gone μ5 it := St4.gone_ it (by
    rcases Nat.lt_or_ge it μ.next with h | h
    ·exact h
    ·have h' := Rel2.fresh it h; rw [H.itat] at h'; cases h') H.gone
   have it5 : J5 it = .at rb 0 := by
    rcases St4.at_ it rb 0 H.itat with h | ⟨_, h⟩
    ·exact h
    ·exact absurd H.gone h
   have iter5 : w5.heap[rb]? = some (.mapIter (some bm) clock (seen.push e.born) clock) := by
    rw [St4.frame rb ((Array.getElem?_eq_some_iff.1 hset.1).1) (fun i s hi => by
     have := H.rel.inj i it rb s 0 hi H.itat
     subst this
     exact H.gone)]
    exact hset.1
   obtain ⟨hmap5, _⟩ := L.map r5 μ5 I5
   have map5 : ∃ s, J5 mi = .at bm s := by
    obtain ⟨b6, s6, h8, _⟩ := m1.obj mi _ hmap5 (by simp)
    rcases St4.at_ mi bm _ hmi with h | ⟨h, _⟩
    ·exact ⟨_, h⟩
    ·rw [h] at h8; cases h8
   have next := ih J5 a5 w5 r5 μ5 (seen.push e.born) clock (by have := lc_push (es := es) (seen := seen) (b := e.born) (List.mem_map.2 ⟨_, hmem, rfl⟩) hes1; omega)
    ⟨m1, B4.mono m3.ext, m2, St2.trans hr0 St4, I5, it5, hgone5, map5, iter5, Nat.le_refl _⟩
   rcases hx with rfl | rfl
   ·exact next
   ·show Exit.inBlock b2 _ (.exit b2) a5 w5
    simp only [Exit.inBlock, if_true]
    exact next
 intro m
 induction m with
 | zero => exact key 0 fun _ _ _ _ _ _ _ h => absurd h (by omega)
 | succ m ih => exact key (m + 1) fun J a w r μ seen c0 h => ih J a w r μ seen c0 (by omega)
theorem snd_maprange {X : FuncId → List Value → Mem → Option (Value × Mem)} (hN : Named P) (hX : XOk P X) (hm : P.follows .mixedOrders = true) {S : List (FuncId × LK)} (hS : SumsOk P S) {k k2 : Nat} {Inv : Rg → Mem → Prop} {es : List (Value × Value × Nat)} {clock mi t1 t2 t3 t4 t5 b1 b2 i0 i1 i2 : Nat} {t kt et : TypeId} {x1 : Operand} {l5 : List Oper} {body rest : Code} {o1 o2 o3 o4 o5 : Oper} {r : Rg} {μ : Mem} {QQ : Ax → Rg → Mem → Prop}
  (hu : P.underlying t = some (.map kt et)) (hx : aev P r x1 = .map (some mi)) (hob : μ.obs.get mi = some (.map es clock))
  (hborn : ∀ x ∈ es, x.2.2 < clock) (hnd : (es.map (·.2.2)).Nodup) (L : MapLoop P X S k Inv es clock mi μ.next t2 t3 t4 t5 b2 l5 body)
  (h1 : o1.op = .move x1) (g1 : o1.guard = none) (d1 : o1.dst = some t1) (h2 : o2.op = .range t (.tmp t1)) (g2 : o2.guard = none) (d2 : o2.dst = some t2)
  (h3 : o3.op = .next (.tmp t2) false) (g3 : o3.guard = none) (d3 : o3.dst = some t3) (h4 : o4.op = .extract (.tmp t3) 0) (g4 : o4.guard = none) (d4 : o4.dst = some t4) (h5 : o5.op = .entry (.tmp t2)) (g5 : o5.guard = none) (d5 : o5.dst = some t5) (g5l : l5.all (fun o => o.guard.isNone) = true)
  (h0 : ∃ r1 r2, aput r (some t1) (.map (some mi)) = some r1 ∧ regAt r1.tm t1 = .map (some mi) ∧ aput r1 (some t2) (.pointer (some ⟨μ.next, 0, none⟩)) = some r2 ∧ Inv r2 ⟨μ.obs.set μ.next .dead, μ.next + 1⟩)
  (hrest : ∀ r μ, Inv r μ → EndsC (aCode P X S k2 rest r μ) QQ) :
  Snd P (.seq (.seq (.region i0 #[o1, o2] false) (.block b1 (.loop (.seq (.region i1 #[o3, o4] false) (.seq (.cond (.tmp t4) .skip (.exit b1)) (.block b2 (.seq (.region i2 (o5 :: l5).toArray false) body))))))) rest) r μ QQ := by
 intro J a w rd n Q hr hB hg hk
 obtain ⟨r1, r2, p1, q1, p2, I2⟩ := h0
 obtain ⟨bm, sm, hmi, es', hb, hlen, hes⟩ := hr.obj mi _ hob (by simp)
 have hvm : ∀ {v : Value}, VRel J (.map (some mi)) v → v = .map (some bm) := fun {v} h => by
  cases h with
  | map e => rw [hmi] at e; cases e; rfl
  | mapDead b e => rw [hmi] at e; cases e
 refine wpIn_seq (wpIn_seq (wpIn_region_list ?_))
 show wpListIn _ _ _ _ _ [o1, o2] a w
 have e1 := aev_rel (P := P) (x := x1) hB (fun d _ => hg.regs d)
 rw [hx] at e1
 have e1' := hvm e1
 refine list_value g1 (fun c hc => by rw [h1] at hc; cases hc) (exec_move h1) ?_
 rw [e1', d1]
 have R1 : RgRel J rd r1 (a.put (some t1) (.map (some bm))) := hg.put p1 (.map hmi)
 have e2 := aev_rel (P := P) (x := .tmp t1) hB (fun d _ => R1.regs d)
 rw [show aev P r1 (.tmp t1) = regAt r1.tm t1 from rfl, q1] at e2
 have hrun := run_range_map w t kt et bm es' clock hu hb
 refine list_value g2 (fun c hc => by rw [h2] at hc; cases hc) (exec_range h2 (hvm e2) hrun) ?_
 rw [d2]
 have hun : J μ.next = .unborn := hr.fresh _ (Nat.le_refl _)
 have Rel3 := hr.alloc (i := μ.next) (nx := μ.next + 1) 0 .dead (.mapIter (some bm) clock #[] clock) hun (Nat.lt_succ_self _) (Nat.le_succ _) trivial
 have St3 := Step.alloc hr (i := μ.next) (nx := μ.next + 1) 0 .dead (.mapIter (some bm) clock #[] clock) (Nat.le_refl _) (Nat.lt_succ_self _) (Nat.le_succ _)
 have he3 : Ext J (upd J μ.next (.at w.heap.size 0)) := ext_upd _ hun
 have R2 : RgRel (upd J μ.next (.at w.heap.size 0)) rd r2 ((a.put (some t1) (.map (some bm))).put (some t2) (.pointer (some ⟨w.heap.size, 0, none⟩))) := (R1.mono he3).put p2 (.ptr (upd_same _ _ _))
 refine wpIn_block ?_
 have hne : mi ≠ μ.next := fun e => by rw [e, hun] at hmi; cases hmi
 have hE := (code_ok hN hX hm hS k2).1
 refine wpIn_loop_rounds (lc es #[] + 1) (map_rounds hN hX hm hS hborn hnd L h3 g3 d3 h4 g4 d4 h5 g5 d5 g5l (J0 := J) (μ0 := μ) (w0 := w) (bm := bm) (rb := w.heap.size) hr (Nat.le_refl _) (fun J' a' w' r' μ' k1 k2' k3 k4 k5 => ?_) (lc es #[]) _ _ _ r2 ⟨μ.obs.set μ.next .dead, μ.next + 1⟩ #[] clock (Nat.le_refl _)
  ⟨Rel3, hB.mono he3, R2, St3, I2, upd_same _ _ _, fun o ho => by rw [T.get_set, if_pos rfl] at ho; cases ho; rfl, ⟨sm, by rw [upd_other hne]; exact hmi⟩, heap_alloc_new _ _, Nat.le_refl _⟩)
 show Exit.inBlock b1 _ (.exit b1) a' w'
 simp only [Exit.inBlock, if_true]
 obtain ⟨x, r6, μ6, h6, h7⟩ := hrest r' μ' k5
 exact hE rest r' μ' x r6 μ6 h6 J' a' w' rd n _ k1 k2' k3 fun J7 a7 w7 m1 m2 m3 => hk x r6 μ6 J7 a7 w7 h7 m1 m2 (k4.trans hr m3)
theorem fun_snd {g : FuncId} {args : List Value} {μ : Mem} {fn : Func} {c : Code} {QF : Value → Mem → Prop} (hfn : P.funcs[g]? = some fn) (hc : fn.body = some c) (hle' : args.length ≤ fn.ntmps)
  (h : Snd P c ⟨fn.ntmps, T.e.lay 0 args, [], none⟩ μ (retQ P fn QF)) {J : Nat → Loc} {w : World} {args' : Array Value} (hr : Rel J μ w) (hB : Base P J) (ha : ARel J args.toArray args') (n : Nat) (R : Ending → World → Prop)
  (hR : ∀ v μ' J' v' w', QF v μ' → VRel J' v v' → Rel J' μ' w' → Step J μ w J' μ' w' → R (.returned v') w') : CallsIn Fence.wide n P g args' w R := by
 have hsz : args.length = args'.size := by simpa using ha.size
 refine callsIn_of_wp_marks hfn hc trivial ?_ rfl
 refine h J _ w none n _ hr hB ⟨by simp; omega, fun d => ?_, .nil, .none⟩ fun x r μ1 J1 a1 w1 hq g1 g2 g3 => ?_
 ·simp only [regAt, T.get_lay]
  by_cases hd : d < args.length
  ·rw [if_pos ⟨Nat.zero_le _, by omega⟩, Nat.sub_zero, List.getElem?_eq_getElem hd]
   have : (args' ++ Array.replicate (fn.ntmps - args'.size) undef).getD d undef = args'[d]'(by omega) := by
    simp only [Array.getD_eq_getD_getElem?, Array.getElem?_append]
    rw [if_pos (by omega), Array.getElem?_eq_getElem (by omega)]; rfl
   rw [this]
   exact ha.at_ d _ _ (by simp [hd]) (Array.getElem?_eq_getElem (by omega))
  ·rw [if_neg (fun hh => hd (by omega))]
   have : (args' ++ Array.replicate (fn.ntmps - args'.size) undef).getD d undef = undef := by
    simp only [Array.getD_eq_getD_getElem?, Array.getElem?_append]
    rw [if_neg (by omega), Array.getElem?_replicate]
    split <;> rfl
   rw [this]
   exact undef_rel
 ·have fin : r.ds = [] ∧ (∃ v, aResults P μ1 r fn = some v ∧ QF v μ1) → LeavesInM (fen none) n P fn a1.tmps R a1.defers .returning w1 := fun ⟨hds, v, hv, hqf⟩ => by
   have hm := g2.ds
   rw [hds] at hm
   exact aMarks_sound (rd := none) [] a1.defers μ1 μ1 rfl hv J1 w1 g1 hm g2.regs fun J2 v' w2 k1 k2 k3 => hR v μ1 J2 v' w2 hqf k1 k2 (g3.trans hr k3)
  cases x with
  | normal => exact fin hq
  | ret => exact fin hq
  | exit id => exact hq.elim
end
end Go.Proofs.YthpcpheejblbhaaGreatDoor.Ev
