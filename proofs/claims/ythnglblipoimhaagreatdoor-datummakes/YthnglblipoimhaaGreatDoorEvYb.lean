/-
  The evaluator, part Yb: a region whose last two operations that turn memory are stores in no order: both orders are run, and come to one end. No conditions.
-/
import Derived.Test.YthnglblipoimhaaGreatDoorEvZ
set_option linter.unusedSimpArgs false
set_option linter.unusedVariables false
namespace Go.Proofs.YthnglblipoimhaaGreatDoor.Ev
noncomputable section
variable {P : Program}
section pre
variable {X : FuncId → List Value → Mem → Option (Value × Mem)} {callF : FuncId → List Value → Mem → Option (Value × Mem)} {roundF : Nat → List Value → Mem → Option (Value × Mem)} {ops : List Oper} {bs : Nat}
theorem jev {ms : List Nat} {a b i j : Nat} (h : j ≠ b) : bef (jhM ms a b) i j = bef ms i j := by
 unfold jhM
 split
 ·unfold bef
  rw [List.getElem?_set]
  rw [if_neg (fun e => h e.symm)]
 ·rfl
theorem jh8 {ρ : Operand → Value} {o : Oper} {ms ms' : List Nat} {i : Nat} (h : ∀ k, bef ms k i = bef ms' k i) : ∀ l, ja8 P ρ o ms i l = ja8 P ρ o ms' i l := by
 intro l
 induction l with
 | nil => rfl
 | cons x l ih =>
   obtain ⟨k, μ⟩ := x
   simp only [ja8, ih, h]
theorem dStep_ms {ms ms' : List Nat} {i : Nat} (h : ∀ k, bef ms k i = bef ms' k i) (s : St) : jcG P X callF roundF ops ms bs i s = jcG P X callF roundF ops ms' bs i s := by
 simp only [jcG, jaO, jh8 h]
def Runs (P : Program) (X : FuncId → List Value → Mem → Option (Value × Mem)) (callF : FuncId → List Value → Mem → Option (Value × Mem)) (roundF : Nat → List Value → Mem → Option (Value × Mem))
  (ops : List Oper) (ms : List Nat) (bs : Nat) (l : List Nat) (S : Nat → St) : Prop := ∀ (q i : Nat), l[q]? = some i → jcG P X callF roundF ops ms bs i (S q) = some (S (q + 1))
theorem Runs.append {ms : List Nat} {l1 l2 : List Nat} {S S' : Nat → St} (h1 : Runs P X callF roundF ops ms bs l1 S) (h2 : Runs P X callF roundF ops ms bs l2 S') (h : S' 0 = S l1.length) :
  Runs P X callF roundF ops ms bs (l1 ++ l2) (fun q => if q ≤ l1.length then S q else S' (q - l1.length)) := by
 intro q i hq
 by_cases hlt : q < l1.length
 ·rw [List.getElem?_append_left hlt] at hq
  show jcG P X callF roundF ops ms bs i (if q ≤ l1.length then S q else _) = some (if q + 1 ≤ l1.length then S (q + 1) else _)
  rw [if_pos (by omega), if_pos (by omega)]
  exact h1 q i hq
 ·rw [List.getElem?_append_right (by omega)] at hq
  have := h2 _ i hq
  show jcG P X callF roundF ops ms bs i (if q ≤ l1.length then S q else _) = some (if q + 1 ≤ l1.length then S (q + 1) else _)
  rw [if_neg (show ¬ q + 1 ≤ l1.length by omega)]
  by_cases e : q = l1.length
  ·subst e
   rw [if_pos (Nat.le_refl _), ← h]
   rw [Nat.sub_self] at this
   rw [this, show l1.length + 1 - l1.length = 0 + 1 by omega]
  ·rw [if_neg (by omega), this, show q + 1 - l1.length = q - l1.length + 1 by omega]
theorem tail_step {ms : List Nat} {i : Nat} {o : Oper} {s s' : St} {l : List Nat} (ho : ops[i]? = some o) (ht : jho P s.1 o = some l) (h : jcG P X callF roundF ops ms bs i s = some s') :
  (∀ j, j ∉ l → s'.2.1.obs.get j = s.2.1.obs.get j) ∧ s'.2.1.next = s.2.1.next ∧ (∀ d, o.dst ≠ some d → jak s'.1.tm d = jak s.1.tm d) ∧ (∀ v ob, ¬ jdp P ops.toArray ms bs i o v ob s s') := by
 have h' : jcG P X callF roundF ops.toArray.toList ms bs i s = some s' := by simpa using h
 obtain ⟨o2, v, ho2, hput, hkind⟩ := jcj h'
 have : o2 = o := by
  have : ops[i]? = some o2 := by simpa using ho2
  rw [ho] at this; cases this; rfl
 subst this
 obtain ⟨_, _, _, hreg⟩ := jfR hput
 have hregs : ∀ d, o2.dst ≠ some d → jak s'.1.tm d = jak s.1.tm d := fun d hd => by
  rcases hreg d with ⟨e, _⟩ | ⟨_, e⟩
  ·exact absurd e hd
  ·exact e
 have hA : ∀ v ob, ¬ jdp P ops.toArray ms bs i o2 v ob s s' := fun v ob hm => by
  obtain ⟨_, hh, _, _, mk, ha, _⟩ := hm
  unfold jho at ht
  split at ht
  ·rename_i t a x hop
   rw [hop] at hh
   cases hh
  ·rw [hh] at ht
   simp only [ha] at ht
   cases ht
 refine ⟨fun j hj => ?_, ?_, hregs, hA⟩
 ·rcases hkind with ⟨_, _, h2⟩ | ⟨_, hh, _, hex⟩ | ⟨_, h2, _⟩ | ⟨ob, hm⟩
  ·rw [h2]
  ·unfold jho at ht
   split at ht
   ·rename_i t a x hop
    split at ht
    ·rename_i ad hp
     cases ht
     rcases hex with hex | hex
     ·simp only [aT, hop, jb6, hp] at hex
      split at hex
      ·rename_i i2 of e
       cases e
       split at hex
       ·split at hex <;> first | (cases hex; done) | skip
        split at hex <;> first | (cases hex; done) | skip
        split at hex <;> first | (cases hex; done) | skip
        split at hex <;> first | (cases hex; done) | skip
        split at hex <;> first | (cases hex; done) | skip
        injection hex with hex
        have := congrArg Prod.snd hex
        simp only at this
        rw [← this]
        simp only [Go.Proofs.YthnglblipoimhaaGreatDoor.Ev.T.get_set]
        rw [if_neg (fun e => hj (by rw [e]; simp))]
       ·cases hex
      ·cases hex
     ·simp only [jeb, hop] at hex
      cases hex
    ·cases ht
   ·rw [hh] at ht; cases ht
  ·rw [h2]
  ·exact absurd hm (hA v ob)
 ·rcases hkind with ⟨_, _, h2⟩ | ⟨_, hh, _, hex⟩ | ⟨_, h2, _⟩ | ⟨ob, hm⟩
  ·rw [h2]
  ·unfold jho at ht
   split at ht
   ·rename_i t a x hop
    split at ht
    ·rename_i ad hp
     rcases hex with hex | hex
     ·simp only [aT, hop, jb6, hp] at hex
      split at hex
      ·split at hex
       ·split at hex <;> first | (cases hex; done) | skip
        split at hex <;> first | (cases hex; done) | skip
        split at hex <;> first | (cases hex; done) | skip
        split at hex <;> first | (cases hex; done) | skip
        split at hex <;> first | (cases hex; done) | skip
        injection hex with hex
        have := congrArg Prod.snd hex
        simp only at this
        rw [← this]
       ·cases hex
      ·cases hex
     ·simp only [jeb, hop] at hex
      cases hex
    ·cases ht
   ·rw [hh] at ht; cases ht
  ·rw [h2]
  ·exact absurd hm (hA v ob)
theorem jhn {ms : List Nat} : ∀ (l : List Nat) (s s' : St) (ids ids' : List Nat), jeW P X callF roundF ops ms bs l s ids = some (s', ids') →
  (∀ j, j ∈ ids → j ∈ ids') ∧ (∀ j, j ∉ ids' → s'.2.1.obs.get j = s.2.1.obs.get j) ∧ s'.2.1.next = s.2.1.next ∧
  (∀ d, (∀ i ∈ l, ∀ o, ops[i]? = some o → o.dst ≠ some d) → jak s'.1.tm d = jak s.1.tm d) ∧
  ∃ S : Nat → St, S 0 = s ∧ S l.length = s' ∧ Runs P X callF roundF ops ms bs l S ∧ ∀ (q i : Nat), l[q]? = some i → ∀ o, ops[i]? = some o → ∀ v ob, ¬ jdp P ops.toArray ms bs i o v ob (S q) (S (q + 1)) := by
 intro l
 induction l with
 | nil =>
   intro s s' ids ids' h
   simp only [jeW] at h
   cases h
   exact ⟨fun j h => h, fun j _ => rfl, rfl, fun d _ => rfl, fun _ => s, rfl, rfl, fun q i hq => by simp at hq, fun q i hq => by simp at hq⟩
 | cons i l ih =>
   intro s s' ids ids' h
   simp only [jeW] at h
   split at h
   ·cases h
   ·rename_i o ho
    split at h
    ·cases h
    ·rename_i tl ht
     split at h
     ·cases h
     ·rename_i s1 hs1
      obtain ⟨g1, g2, g3, g4, S, e0, e1, hS, hM⟩ := ih s1 s' _ _ h
      obtain ⟨k1, k2, k3, k4⟩ := tail_step ho ht hs1
      refine ⟨fun j hj => g1 j (by simp [hj]), fun j hj => ?_, g3.trans k2, fun d hd => ?_, fun | 0 => s | q + 1 => S q, rfl, e1, fun q i2 hq => ?_, fun q i2 hq o2 ho2 => ?_⟩
      ·rw [g2 j hj]
       exact k1 j fun hh => hj (g1 j (by simp [hh]))
      ·rw [g4 d fun i hi => hd i (List.mem_cons_of_mem _ hi)]
       exact k3 d (hd i (List.mem_cons_self ..) o ho)
      ·match q with
       | 0 => simp at hq; subst hq; rw [hs1]; exact congrArg some e0.symm
       | q + 1 => exact hS q i2 (by simpa using hq)
      ·match q with
       | 0 =>
         simp at hq; subst hq
         rw [ho] at ho2; cases ho2
         intro v ob
         show ¬ jdp P ops.toArray ms bs i o v ob s (S 0)
         rw [e0]
         exact k4 v ob
       | q + 1 => exact hM q i2 (by simpa using hq) o2 ho2
theorem jgD : ∀ (a b : T Value), tvEq a b = true → a = b
 | .e, .e, _ => rfl
 | .e, .n _ _ _, h => by simp [tvEq] at h
 | .n _ _ _, .e, h => by simp [tvEq] at h
 | .n a l r, .n b l' r', h => by
   simp only [tvEq, Bool.and_eq_true] at h
   obtain ⟨h1, h2, h3⟩ := h
   rw [jgD l l' h2, jgD r r' h3]
   cases a <;> cases b <;> first
    | rfl
    | (cases h1; done)
    | (rw [jgc 5 _ _ h1])
theorem obEqC_eq {a b : Option Ob} (h : obEqC a b = true) : a = b := by
 unfold obEqC at h
 split at h
 ·simp only [Bool.and_eq_true] at h
  obtain ⟨h1, h2, h3, h4, h5, h6, h7, h8⟩ := h
  rw [Nat.eq_of_beq_eq_true h1, Nat.eq_of_beq_eq_true h2, jdI (jfq (jgc 5) _ _ h3), jgD _ _ h4, Nat.eq_of_beq_eq_true h5, Nat.eq_of_beq_eq_true h6, of_decide_eq_true h7, of_decide_eq_true h8]
 ·rfl
 ·cases h
theorem eqOb_eq {a b : Option Ob} (h : eqOb a b = true) : a = b := by
 unfold eqOb at h
 split at h
 ·rename_i e; exact obEqC_eq e
 ·exact @of_decide_eq_true _ (Classical.propDecidable _) h
end pre
theorem Rel.same {J : Nat → Loc} {μ μ' : Mem} {w : World} (h : Rel J μ w) (hg : ∀ j, μ'.obs.get j = μ.obs.get j) (hn : μ'.next = μ.next) : Rel J μ' w :=
 ⟨h.inj, h.bnd, fun i hi => h.fresh i (by rw [← hn]; exact hi), fun i o ho hd => h.obj i o (by rw [← hg]; exact ho) hd⟩
theorem gone_same {μ μ' : Mem} (hg : ∀ j, μ'.obs.get j = μ.obs.get j) (i : Nat) : gone μ' i ↔ gone μ i := by
 unfold gone; rw [hg]
theorem Step.same {J J' : Nat → Loc} {μ0 μ μ' : Mem} {w w' : World} (h : Step J μ0 w J' μ w') (hg : ∀ j, μ'.obs.get j = μ.obs.get j) (hn : μ'.next = μ.next) : Step J μ0 w J' μ' w' :=
 ⟨h.at_, h.dead, h.unborn, h.born, by rw [hn]; exact h.next, fun i hi hgo => (gone_same hg i).2 (h.gone_ i hi hgo), h.size, h.frame, h.os, h.tape, h.output⟩
section rdy
variable {ops : Array Oper} {ms ord : List Nat} {x0 : Option (Nat × Nat)}
theorem jcQ (D : DOk ops.toList ms ord x0) {listed : Array Bool} (hls : listed.size = ops.size) {i : Nat} (hi : i ∈ Region.ready .any ops listed) (hx : ∀ b, x0 ≠ some (b, i))
  (hdown : ∀ i j, i < ops.size → bef ms i j = true → listed.getD j false = true → listed.getD i false = true) :
  ¬ listed.getD i false = true ∧ i < ops.size ∧ ∀ k, k < ops.size → bef ms k i = true → listed.getD k false = true := by
 obtain ⟨h1, o, ho, h2⟩ := mem_ready.1 hi
 have hlt : i < ops.size := (Array.getElem?_eq_some_iff.1 ho).1
 refine ⟨fun h => ?_, hlt, fun k hk hb => ?_⟩
 ·have : i < listed.size := by omega
  simp [Array.getD, this] at h h1
  rw [h] at h1; cases h1
 ·rcases D.conv i o (by simpa using ho) k (by simpa using hk) hb with ⟨b, hx1, _⟩ | ⟨e, he, hbd, hor⟩
  ·exact absurd hx1 (hx b)
  ·have he' := h2 e he hbd
   rcases hor with rfl | hor
   ·exact he'
   ·exact hdown k e.on hk hor he'
theorem jgm (D : DOk ops.toList ms ord x0) {listed : Array Bool} (hls : listed.size = ops.size) (hr : Region.ready .any ops listed = []) : ∀ i, i < ops.size → listed.getD i false = true := by
 have : ∀ (q i : Nat), ord[q]? = some i → listed.getD i false = true := by
  intro q
  induction q using Nat.strongRecOn with
  | _ q ih =>
    intro i hi
    cases hli : listed.getD i false with
    | true => rfl
    | false =>
      exfalso
      have hlt : i < ops.size := by have := D.lt i (List.mem_of_getElem? hi); simpa using this
      have hm : i ∈ Region.ready .any ops listed := mem_ready.2 ⟨by
        have : i < listed.size := by omega
        simp [Array.getD, this] at hli ⊢
        exact hli, ops[i], Array.getElem?_eq_getElem hlt, fun e he hb => by
        have hbf := D.aft i ops[i] (by simp [hlt]) e he hb
        obtain ⟨k, hk, hk2⟩ := D.pre q i hi e.on (D.on i ops[i] (by simp [hlt]) e he hb) hbf
        exact ih k hk e.on hk2⟩
      rw [hr] at hm
      cases hm
 intro i hi
 obtain ⟨q, hq⟩ := jdw D hi
 exact this q i hq
end rdy
section sp
variable {X : FuncId → List Value → Mem → Option (Value × Mem)} {callF : FuncId → List Value → Mem → Option (Value × Mem)} {roundF : Nat → List Value → Mem → Option (Value × Mem)} {ops : Array Oper} {bs : Nat} {J0 : Nat → Loc} {μ0 : Mem} {w0 : World} {rd : Option Nat} {r0 : Rg} {E : Nat → Prop} {J : Nat → Loc} {a : Act} {w : World} {p : Nat}
theorem Inv.light {ms ord : List Nat} {x0 : Option (Nat × Nat)} {S : Nat → St} (D : DOk ops.toList ms ord x0) (T : Runs P X callF roundF ops.toList ms bs ord S) {m0 : Nat × Mem} (hS0 : (S 0).2 = (m0.2, [m0]))
  (I : Inv P ops ms ord bs S J0 μ0 w0 rd r0 E J a w p) (h0 : (S 0).1 = r0) {q i : Nat} {o : Oper} (hi : ord[q]? = some i) (ho : ops[i]? = some o) (hE : ¬ E i)
  (hpre : ∀ k, k < ops.size → bef ms k i = true → E k) (hh : heavy o.op = false) (hM : ∀ v ob, ¬ jdp P ops ms bs i o v ob (S q) (S (q + 1))) :
  ∃ b v', Region.wanted o (yielded ops a.tmps) = b ∧ (b = false → v' = undef) ∧ (b = true → (o.semAt rd a.eval).run P w = .ok (.value v') w) ∧
   Inv P ops ms ord bs S J0 μ0 w0 rd r0 (more E i) J (a.put o.dst v') w p := by
 obtain ⟨o2, v, ho2, hput, hkind⟩ := jcj (T q i hi)
 rw [ho] at ho2
 cases ho2
 have hpq : p ≤ q := Nat.le_of_not_lt fun h => hE (I.before q i h hi)
 rcases hkind with h | h | h | ⟨ob, h⟩
 ·have hv : v = undef := h.2.1
  rw [hv] at hput
  exact ⟨false, undef, I.wanted D T h0 hi ho hE hpre h.1, fun _ => rfl, (fun e => by cases e), I.calm D T h0 hi ho hE hpre hput jcA h.2.2 (jdZ h)⟩
 ·have := h.2.1; rw [hh] at this; cases this
 ·have hρ := I.operand D hi ho hE hpre
  have hval : ∃ v', VRel J v v' ∧ (o.semAt rd a.eval).run P w = .ok (.value v') w := by
   rcases h.2.2.2 with hp | ⟨_, hrd⟩
   ·exact jja hρ I.base.stop hp
   ·have hq := jej D hi
    have := jjs D T hS0 (ρ := aev P (S q).1) (o := o) (i := i) I.last (q - p) v (by omega) (fun q2 h2 g1 g2 g3 g4 => ?_) (by rw [show p + (q - p) = q by omega]; exact hrd)
    ·exact ji8 hρ I.rel this
    ·have hne := I.later q2 h2 g1 g3 g4
     have hlt : h2 < ops.size := by have := D.lt h2 (List.mem_of_getElem? g3); simpa using this
     cases hb : bef ms h2 i with
     | false => rfl
     | true => exact absurd (hpre h2 hlt hb) hne
  obtain ⟨v', hv, hrun⟩ := hval
  exact ⟨true, v', I.wanted D T h0 hi ho hE hpre h.1, (fun e => by cases e), fun _ => hrun, I.calm D T h0 hi ho hE hpre hput hv h.2.1 (jdx h)⟩
 ·exact absurd h (hM v ob)
variable {ms1 ms2 : List Nat} {pre t1 t2 : List Nat} {x1 x2 : Option (Nat × Nat)} {S1 S2 : Nat → St}
theorem jc3 {ms t : List Nat} {x : Option (Nat × Nat)} (D : DOk ops.toList ms (pre ++ t) x) {q i : Nat} (h : (pre ++ t)[q]? = some i) : i ∈ pre ↔ q < pre.length := by
 constructor
 ·intro hm
  obtain ⟨k, hk, e⟩ := List.getElem_of_mem hm
  have h2 : (pre ++ t)[k]? = some i := by rw [List.getElem?_append_left hk, List.getElem?_eq_getElem hk, e]
  have := jcn D h h2
  omega
 ·intro hq
  rw [List.getElem?_append_left hq] at h
  exact List.mem_of_getElem? h
theorem jhD {t t' : List Nat} {q i : Nat} (hq : q < pre.length) (h : (pre ++ t)[q]? = some i) : (pre ++ t')[q]? = some i := by
 rw [List.getElem?_append_left hq] at h ⊢; exact h
theorem Inv.turnover (D1 : DOk ops.toList ms1 (pre ++ t1) x1) (D2 : DOk ops.toList ms2 (pre ++ t2) x2) (T2 : Runs P X callF roundF ops.toList ms2 bs (pre ++ t2) S2) (hS : ∀ q, q ≤ pre.length → S2 q = S1 q)
  (hms : ∀ i ∈ pre, ∀ k, bef ms1 k i = bef ms2 k i) (I : Inv P ops ms1 (pre ++ t1) bs S1 J0 μ0 w0 rd r0 E J a w p) (hE : ∀ i, E i ↔ i ∈ pre) (hlt : pre.length < ops.size) :
  Inv P ops ms2 (pre ++ t2) bs S2 J0 μ0 w0 rd r0 E J a w p := by
 have hp : p ≤ pre.length := by
  refine Nat.le_of_not_lt fun h => ?_
  obtain ⟨i, hi, _⟩ := jgv D1 hlt
  have := (hE i).1 (I.before _ i h hi)
  have := (jc3 D1 hi).1 this
  omega
 have hSp := hS p hp
 refine ⟨I.hp, fun i j hi hb hj => ?_, fun q i hq hi => ?_, fun q i hq hi hh => ?_, ?_, by rw [hSp]; exact I.rel, I.base, by rw [hSp]; exact I.step, fun q i o v ob hq hi ho hEi hm => ?_, fun q i hq hi hn => ?_, fun q i hq hi => ?_, by rw [hSp]; exact I.next, I.size, I.marks, I.rdr, fun d q hq hmt => ?_⟩
 ·have hj2 := (hE j).1 hj
  rw [← hms j hj2] at hb
  exact I.down i j hi hb hj
 ·have hq2 : q < pre.length := by omega
  exact (hE i).2 ((jc3 D2 hi).2 hq2)
 ·by_cases hq2 : q < pre.length
  ·rw [hS _ (by omega), hS _ (by omega)] at hh
   exact I.later q i hq (jhD hq2 hi) hh
  ·exact fun h => hq2 ((jc3 D2 hi).1 ((hE i).1 h))
 ·rcases I.last with e | ⟨i, hi, hh⟩
  ·exact .inl e
  ·by_cases e0 : p = 0
   ·exact .inl e0
   ·refine .inr ⟨i, jhD (by omega) hi, ?_⟩
    rw [hSp, hS (p - 1) (by omega)]
    exact hh
 ·have hq2 := (jc3 D2 hi).1 ((hE i).1 hEi)
  have hip := (hE i).1 hEi
  rw [hS _ (by omega), hS _ (by omega)] at hm
  refine I.al q i o v ob hq (jhD hq2 hi) ho hEi ?_
  obtain ⟨m1, m2, m3, m4, m5⟩ := hm
  exact ⟨m1, m2, m3, by rw [jh8 (hms i hip)]; exact m4, m5⟩
 ·obtain ⟨q1, hq1⟩ := jdw D1 (i := i) (by have := D2.lt i (List.mem_of_getElem? hi); simpa using this)
  refine I.un q1 i (Nat.le_of_not_lt fun h => hn (I.before q1 i h hq1)) hq1 hn
 ·obtain ⟨q1, hq1⟩ := jdw D1 (i := i) (by have := D2.lt i (List.mem_of_getElem? hi); simpa using this)
  rw [hSp]
  refine I.gon q1 i (Nat.le_of_not_lt fun h => ?_) hq1
  have := jcn D2 hi (jhD (t' := t2) (by omega) hq1)
  omega
 ·have low : ∀ q, q ≤ pre.length → Match ops (pre ++ t2) E d q → VRel J (jak (S2 q).1.tm d) (a.tmps.getD d undef) := by
   intro q hq2 hmt
   rw [hS q hq2]
   refine I.regs d q (by omega) fun q' i o hi ho hd => ?_
   by_cases h : q' < pre.length
   ·exact hmt q' i o (jhD h hi) ho hd
   ·refine ⟨fun hh => ?_, fun hh => by omega⟩
    exact absurd ((jc3 D1 hi).1 ((hE i).1 hh)) h
  by_cases hq2 : q ≤ pre.length
  ·exact low q hq2 hmt
  ·rw [jfj D2 T2 (q1 := pre.length) q (by omega) hq fun q' i o h1 h2 hi ho hd => ?_]
   ·refine low _ (Nat.le_refl _) fun q' i o hi ho hd => ?_
    rw [hE i]; exact jc3 D2 hi
   ·have := (hmt q' i o hi ho hd).2 h2
    have := (jc3 D2 hi).1 ((hE i).1 this)
    omega
section main
variable {f g : Nat}
theorem jkM (hN : jcX P) (hX : XOk P X) (hF : jeC P callF) (hR : jcJ P roundF) (D1 : DOk ops.toList ms1 (pre ++ t1) (some (f, g))) (D2 : DOk ops.toList ms2 (pre ++ t2) (some (g, f)))
 (T1 : Runs P X callF roundF ops.toList ms1 bs (pre ++ t1) S1) (T2 : Runs P X callF roundF ops.toList ms2 bs (pre ++ t2) S2) {m0 : Nat × Mem} (hS1 : (S1 0).2 = (m0.2, [m0])) (hS2 : (S2 0).2 = (m0.2, [m0]))
 (h01 : (S1 0).1 = r0) (h02 : (S2 0).1 = r0) (hbs : μ0.next ≤ bs) (hr0 : Rel J0 μ0 w0) (hfg : f ≠ g) (hf : f < ops.size) (hg : g < ops.size)
 (L1 : ∀ (q i : Nat), pre.length ≤ q → (pre ++ t1)[q]? = some i → ∀ o, ops[i]? = some o → ∀ v ob, ¬ jdp P ops ms1 bs i o v ob (S1 q) (S1 (q + 1)))
 (L2 : ∀ (q i : Nat), pre.length ≤ q → (pre ++ t2)[q]? = some i → ∀ o, ops[i]? = some o → ∀ v ob, ¬ jdp P ops ms2 bs i o v ob (S2 q) (S2 (q + 1)))
 (HH : ∀ (i : Nat) (o : Oper), i ∉ pre → ops[i]? = some o → i ≠ f → i ≠ g → heavy o.op = false) {n : Nat} {Q : Exit → Act → World → Prop}
 (hQ1 : ∀ J a w, Rel J (S1 ops.size).2.1 w → RgRel J rd (S1 ops.size).1 a → Step J0 μ0 w0 J (S1 ops.size).2.1 w → Q .normal a w)
 (hQ2 : ∀ J a w, Rel J (S2 ops.size).2.1 w → RgRel J rd (S2 ops.size).1 a → Step J0 μ0 w0 J (S2 ops.size).2.1 w → Q .normal a w) :
  ∀ (fuel : Nat) (listed : Array Bool), listed.size = ops.size → ops.size ≤ fuel + listed.toList.countP id → ∀ J a w p1 p2,
   Inv P ops ms1 (pre ++ t1) bs S1 J0 μ0 w0 rd r0 (fun i => listed.getD i false = true) J a w p1 → Inv P ops ms2 (pre ++ t2) bs S2 J0 μ0 w0 rd r0 (fun i => listed.getD i false = true) J a w p2 →
   ¬ listed.getD f false = true → ¬ listed.getD g false = true → (∀ i ∈ pre, listed.getD i false = true) → wpAnyIn (fen rd) n P .any ops Q fuel listed a w := by
 intro fuel
 induction fuel with
 | zero =>
   intro listed hls hcnt J a w p1 p2 I1 I2 nf ng hpre
   exact absurd (ji5 (by omega) (by omega)) nf
 | succ fuel ih =>
   intro listed hls hcnt J a w p1 p2 I1 I2 nf ng hpre
   refine ⟨fun hr => absurd (jgm D1 hls hr f hf) nf, fun i hi => ?_⟩
   have hun : listed.getD i true = false := (mem_ready.1 hi).1
   have hcnt' : ops.size ≤ fuel + (listed.setIfInBounds i true).toList.countP id := by rw [ji0 hun]; omega
   by_cases ef : i = f
   ·subst ef
    obtain ⟨k1, k2, k3⟩ := jcQ D1 hls hi (fun b e => by cases e; exact hfg rfl) fun i j hi hb hj => I1.down i j hi hb hj
    obtain ⟨q, hq⟩ := jdw D1 k2
    refine jgR hN hX hF hR D1 T1 hS1 I1 h01 hbs hr0 hq k1 k3 fun J' a' w' p' I' => ?_
    refine jfS hN hX hF hR D1 T1 hS1 h01 hbs hr0 hQ1 fuel (listed.setIfInBounds i true) (by simpa using hls) hcnt' (fun b c e => by cases e; exact (jcd (by omega)).2 (.inr rfl)) J' a' w' p' ?_
    have e : (fun j => (listed.setIfInBounds i true).getD j false = true) = more (fun j => listed.getD j false = true) i := by
     funext j
     exact propext (jcd (by omega))
    rw [e]
    exact I'
   ·by_cases eg : i = g
    ·subst eg
     obtain ⟨k1, k2, k3⟩ := jcQ D2 hls hi (fun b e => by cases e; exact hfg rfl) fun i j hi hb hj => I2.down i j hi hb hj
     obtain ⟨q, hq⟩ := jdw D2 k2
     refine jgR hN hX hF hR D2 T2 hS2 I2 h02 hbs hr0 hq k1 k3 fun J' a' w' p' I' => ?_
     refine jfS hN hX hF hR D2 T2 hS2 h02 hbs hr0 hQ2 fuel (listed.setIfInBounds i true) (by simpa using hls) hcnt' (fun b c e => by cases e; exact (jcd (by omega)).2 (.inr rfl)) J' a' w' p' ?_
     have e : (fun j => (listed.setIfInBounds i true).getD j false = true) = more (fun j => listed.getD j false = true) i := by
      funext j
      exact propext (jcd (by omega))
     rw [e]
     exact I'
    ·obtain ⟨k1, k2, k3⟩ := jcQ D1 hls hi (fun b e => by cases e; exact eg rfl) fun i j hi hb hj => I1.down i j hi hb hj
     obtain ⟨_, _, k4⟩ := jcQ D2 hls hi (fun b e => by cases e; exact ef rfl) fun i j hi hb hj => I2.down i j hi hb hj
     obtain ⟨q1, hq1⟩ := jdw D1 k2
     obtain ⟨q2, hq2⟩ := jdw D2 k2
     have hnp : i ∉ pre := fun h => k1 (hpre i h)
     have ho : ops[i]? = some ops[i] := Array.getElem?_eq_getElem k2
     have hh := HH i ops[i] hnp ho ef eg
     obtain ⟨b1, v1, c1, c2, c3, c4⟩ := I1.light D1 T1 hS1 h01 hq1 ho k1 k3 hh (L1 q1 i (Nat.le_of_not_lt fun h => hnp ((jc3 D1 hq1).2 h)) hq1 _ ho)
     obtain ⟨b2, v2, e1, e2, e3, e4⟩ := I2.light D2 T2 hS2 h02 hq2 ho k1 k4 hh (L2 q2 i (Nat.le_of_not_lt fun h => hnp ((jc3 D2 hq2).2 h)) hq2 _ ho)
     have hb : b2 = b1 := e1.symm.trans c1
     subst hb
     have hv : v2 = v1 := by
      cases b2 with
      | false => rw [c2 rfl, e2 rfl]
      | true =>
        have := (e3 rfl).symm.trans (c3 rfl)
        cases this; rfl
     subst hv
     have e : (fun j => (listed.setIfInBounds i true).getD j false = true) = more (fun j => listed.getD j false = true) i := by
      funext j
      exact propext (jcd (by omega))
     have hK : wpAnyIn (fen rd) n P .any ops Q fuel (listed.setIfInBounds i true) (a.put (ops[i]).dst v2) w := by
      refine ih (listed.setIfInBounds i true) (by simpa using hls) hcnt' J _ w p1 p2 (by rw [e]; exact c4) (by rw [e]; exact e4) (fun h => ?_) (fun h => ?_) fun k hk => (jcd (by omega)).2 (.inl (hpre k hk))
      ·rcases (jcd (by omega)).1 h with h | h
       ·exact nf h
       ·exact ef h.symm
      ·rcases (jcd (by omega)).1 h with h | h
       ·exact ng h
       ·exact eg h.symm
     unfold wpOpIn
     rw [ho]
     dsimp only
     rw [c1]
     cases b2 with
     | false =>
       simp only [Bool.false_eq_true, if_false]
       rw [c2 rfl] at hK
       exact ⟨fun _ _ => trivial, hK⟩
     | true =>
       simp only [if_true]
       refine ⟨fun _ _ => trivial, ?_⟩
       have : ((ops[i]).semAt (fen rd).round a.eval).run P w = .ok (.value v2) w := c3 rfl
       rw [this]
       exact hK
theorem jiV (hN : jcX P) (hX : XOk P X) (hF : jeC P callF) (hR : jcJ P roundF) (D1 : DOk ops.toList ms1 (pre ++ t1) (some (f, g))) (D2 : DOk ops.toList ms2 (pre ++ t2) (some (g, f)))
 (T1 : Runs P X callF roundF ops.toList ms1 bs (pre ++ t1) S1) (T2 : Runs P X callF roundF ops.toList ms2 bs (pre ++ t2) S2) {m0 : Nat × Mem} (hS1 : (S1 0).2 = (m0.2, [m0])) (hS2 : (S2 0).2 = (m0.2, [m0]))
 (h01 : (S1 0).1 = r0) (h02 : (S2 0).1 = r0) (hbs : μ0.next ≤ bs) (hr0 : Rel J0 μ0 w0) (hfg : f ≠ g) (hf : f < ops.size) (hg : g < ops.size)
 (L1 : ∀ (q i : Nat), pre.length ≤ q → (pre ++ t1)[q]? = some i → ∀ o, ops[i]? = some o → ∀ v ob, ¬ jdp P ops ms1 bs i o v ob (S1 q) (S1 (q + 1)))
 (L2 : ∀ (q i : Nat), pre.length ≤ q → (pre ++ t2)[q]? = some i → ∀ o, ops[i]? = some o → ∀ v ob, ¬ jdp P ops ms2 bs i o v ob (S2 q) (S2 (q + 1)))
 (HH : ∀ (i : Nat) (o : Oper), i ∉ pre → ops[i]? = some o → i ≠ f → i ≠ g → heavy o.op = false) {n : Nat} {Q : Exit → Act → World → Prop}
 (hQ1 : ∀ J a w, Rel J (S1 ops.size).2.1 w → RgRel J rd (S1 ops.size).1 a → Step J0 μ0 w0 J (S1 ops.size).2.1 w → Q .normal a w)
 (hQ2 : ∀ J a w, Rel J (S2 ops.size).2.1 w → RgRel J rd (S2 ops.size).1 a → Step J0 μ0 w0 J (S2 ops.size).2.1 w → Q .normal a w)
 (hS : ∀ q, q ≤ pre.length → S2 q = S1 q) (hms : ∀ i ∈ pre, ∀ k, bef ms1 k i = bef ms2 k i) (hfp : f ∉ pre) (hgp : g ∉ pre)
 (hT1 : ∀ i, i < ops.size → i ∉ pre → i ≠ g → ∀ k ∈ pre, bef ms1 k i = true) (hT2 : ∀ k ∈ pre, bef ms2 k g = true) :
  ∀ (fuel : Nat) (listed : Array Bool), listed.size = ops.size → ops.size ≤ fuel + listed.toList.countP id → ∀ J a w p1,
   Inv P ops ms1 (pre ++ t1) bs S1 J0 μ0 w0 rd r0 (fun i => listed.getD i false = true) J a w p1 → (∀ i, listed.getD i false = true → i ∈ pre) → wpAnyIn (fen rd) n P .any ops Q fuel listed a w := by
 have hlt : pre.length < ops.size := by
  obtain ⟨q, hq⟩ := jdw D1 hf
  have h1 := jej D1 hq
  have h2 : ¬ q < pre.length := fun h => hfp ((jc3 D1 hq).2 h)
  omega
 have hin : ∀ k ∈ pre, k < ops.size := fun k hk => by
  have := D1.lt k (by simp [hk])
  simpa using this
 intro fuel
 induction fuel with
 | zero =>
   intro listed hls hcnt J a w p1 I1 hsub
   exact absurd (hsub f (ji5 (by omega) (by omega))) hfp
 | succ fuel ih =>
   intro listed hls hcnt J a w p1 I1 hsub
   by_cases hall : ∀ i ∈ pre, listed.getD i false = true
   ·have I2 := I1.turnover D1 D2 T2 hS hms (fun i => ⟨hsub i, hall i⟩) hlt
    exact jkM hN hX hF hR D1 D2 T1 T2 hS1 hS2 h01 h02 hbs hr0 hfg hf hg L1 L2 HH hQ1 hQ2 (fuel + 1) listed hls hcnt J a w p1 p1 I1 I2 (fun h => hfp (hsub f h)) (fun h => hgp (hsub g h)) hall
   ·refine ⟨fun hr => absurd (hsub f (jgm D1 hls hr f hf)) hfp, fun i hi => ?_⟩
    have hun : listed.getD i true = false := (mem_ready.1 hi).1
    have hlti : i < ops.size := by
     obtain ⟨_, o, ho, _⟩ := mem_ready.1 hi
     exact (Array.getElem?_eq_some_iff.1 ho).1
    by_cases hip : i ∈ pre
    ·obtain ⟨k1, k2, k3⟩ := jcQ D1 hls hi (fun b e => by cases e; exact hgp hip) fun i j hi hb hj => I1.down i j hi hb hj
     obtain ⟨q, hq⟩ := jdw D1 k2
     refine jgR hN hX hF hR D1 T1 hS1 I1 h01 hbs hr0 hq k1 k3 fun J' a' w' p' I' => ih (listed.setIfInBounds i true) (by simpa using hls) ?_ J' a' w' p' ?_ fun k hk => ?_
     ·rw [ji0 hun]; omega
     ·have e : (fun j => (listed.setIfInBounds i true).getD j false = true) = more (fun j => listed.getD j false = true) i := by
       funext j
       exact propext (jcd (by omega))
      rw [e]
      exact I'
     ·rcases (jcd (by omega)).1 hk with h | h
      ·exact hsub k h
      ·rw [h]; exact hip
    ·exfalso
     apply hall
     by_cases eg : i = g
     ·subst eg
      obtain ⟨k1, k2, k3⟩ := jcQ D2 hls hi (fun b e => by cases e; exact hfg rfl) fun i j hi hb hj => I1.down i j hi (by rw [hms j (hsub j hj)]; exact hb) hj
      exact fun k hk => k3 k (hin k hk) (hT2 k hk)
     ·obtain ⟨k1, k2, k3⟩ := jcQ D1 hls hi (fun b e => by cases e; exact eg rfl) fun i j hi hb hj => I1.down i j hi hb hj
      exact fun k hk => k3 k (hin k hk) (hT1 i hlti hip eg k hk)
end main
end sp
end
end Go.Proofs.YthnglblipoimhaaGreatDoor.Ev
