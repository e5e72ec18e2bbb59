/-
  The evaluator, part W: the trace of a region that draws its order; what holds when some of its operations have been done.
-/
import Derived.Test.YtnafmgiaifbhgaaGreatDoorEvV
import Derived.OrdersIn
set_option linter.unusedSimpArgs false
set_option linter.unusedVariables false
namespace Go.Proofs.YtnafmgiaifbhgaaGreatDoor.Ev
noncomputable section
variable {P : Program}
abbrev St := Rg × Mem × List (Nat × Mem)
theorem jhp {r r' : Rg} {d : Option Nat} {v : Value} (h : aput r d v = some r') : r'.n = r.n ∧ r'.ds = r.ds ∧ r'.rd = r.rd ∧ ∀ e, (d = some e ∧ jam r'.tm e = v) ∨ (d ≠ some e ∧ jam r'.tm e = jam r.tm e) := by
 unfold aput at h
 cases d with
 | none => cases h; exact ⟨rfl, rfl, rfl, fun e => .inr ⟨by simp, rfl⟩⟩
 | some d =>
   simp only at h
   split at h
   ·cases h
    refine ⟨rfl, rfl, rfl, fun e => ?_⟩
    by_cases he : e = d
    ·subst he; exact .inl ⟨rfl, by simp [jcM]⟩
    ·exact .inr ⟨by simp; exact fun x => he x.symm, by simp [jcM, he]⟩
   ·cases h
section tr
variable {X : FuncId → List Value → Mem → Option (Value × Mem)} {callF : FuncId → List Value → Mem → Option (Value × Mem)} {roundF : Nat → List Value → Mem → Option (Value × Mem)} {ops : Array Oper} {ms : List Nat} {bs : Nat}
theorem jir : ∀ (ord : List Nat) (s s' : St), jc8 P X callF roundF ops.toList ms bs ord s = some s' →
  ∃ S : Nat → St, S 0 = s ∧ S ord.length = s' ∧ ∀ (q i : Nat), ord[q]? = some i → jdE P X callF roundF ops.toList ms bs i (S q) = some (S (q + 1))
 | [], s, s', h => by
   simp only [jc8] at h
   cases h
   exact ⟨fun _ => s, rfl, rfl, fun q i hq => by simp at hq⟩
 | j :: ord, s, s', h => by
   simp only [jc8] at h
   split at h
   ·cases h
   ·rename_i s1 h1
    obtain ⟨S, e0, e1, hS⟩ := jir ord s1 s' h
    refine ⟨fun | 0 => s | q + 1 => S q, rfl, e1, fun q i hq => ?_⟩
    match q with
    | 0 => simp at hq; subst hq; rw [h1]; exact congrArg some e0.symm
    | q + 1 => exact hS q i (by simpa using hq)
def Skips (ops : Array Oper) (o : Oper) (v : Value) (s s' : St) : Prop := jcp ops.toList s.1 o = some false ∧ v = undef ∧ s'.2 = s.2
def Turnt (P : Program) (X : FuncId → List Value → Mem → Option (Value × Mem)) (callF : FuncId → List Value → Mem → Option (Value × Mem)) (roundF : Nat → List Value → Mem → Option (Value × Mem))
  (ops : Array Oper) (i : Nat) (o : Oper) (v : Value) (s s' : St) : Prop :=
 jcp ops.toList s.1 o = some true ∧ heavy o.op = true ∧ s'.2.2 = (i, s'.2.1) :: s.2.2 ∧ (aT P s.2.1 (aev P s.1) o = some (v, s'.2.1) ∨ jew P X callF roundF (aev P s.1) s.2.1 o = some (v, s'.2.1))
def Yieldt (P : Program) (ops : Array Oper) (ms : List Nat) (i : Nat) (o : Oper) (v : Value) (s s' : St) : Prop :=
 jcp ops.toList s.1 o = some true ∧ s'.2 = s.2 ∧ heavy o.op = false ∧ (aP P (aev P s.1) o = some v ∨ (aP P (aev P s.1) o = none ∧ jaI P (aev P s.1) o ms i s.2.2 = some v))
def jio (P : Program) (ops : Array Oper) (ms : List Nat) (bs i : Nat) (o : Oper) (v : Value) (ob : Ob) (s s' : St) : Prop :=
 jcp ops.toList s.1 o = some true ∧ heavy o.op = false ∧ aP P (aev P s.1) o = none ∧ jaI P (aev P s.1) o ms i s.2.2 = none ∧ ∃ mk, aA P (aev P s.1) o = some (ob, mk) ∧ v = mk (bs + i) ∧
  s'.2 = (⟨s.2.1.obs.set (bs + i) ob, s.2.1.next⟩, s.2.2)
theorem jcw {i : Nat} {s s' : St} (h : jdE P X callF roundF ops.toList ms bs i s = some s') : ∃ o v, ops[i]? = some o ∧ aput s.1 o.dst v = some s'.1 ∧
  (Skips ops o v s s' ∨ Turnt P X callF roundF ops i o v s s' ∨ Yieldt P ops ms i o v s s' ∨ ∃ ob, jio P ops ms bs i o v ob s s') := by
 unfold jdE at h
 rw [Array.getElem?_toList] at h
 cases ho : ops[i]? with
 | none => rw [ho] at h; cases h
 | some o =>
   rw [ho] at h
   simp only at h
   split at h
   ·cases h
   ·rename_i hw
    split at h
    ·rename_i r' hp
     cases h
     exact ⟨o, undef, rfl, hp, .inl ⟨hw, rfl, rfl⟩⟩
    ·cases h
   ·rename_i hw
    split at h
    ·cases h
    ·rename_i v x hd
     split at h
     ·rename_i r' hp
      cases h
      refine ⟨o, v, rfl, hp, .inr ?_⟩
      unfold jav at hd
      split at hd
      ·rename_i hh
       split at hd
       ·rename_i v1 m1 ht
        cases hd
        exact .inl ⟨hw, hh, rfl, .inl ht⟩
       ·split at hd
        ·rename_i v1 m1 ht
         cases hd
         exact .inl ⟨hw, hh, rfl, .inr ht⟩
        ·cases hd
      ·rename_i hh
       split at hd
       ·rename_i v1 hp1
        cases hd
        exact .inr (.inl ⟨hw, rfl, hh, .inl hp1⟩)
       ·rename_i hp0
        split at hd
        ·rename_i v1 hr1
         cases hd
         exact .inr (.inl ⟨hw, rfl, hh, .inr ⟨hp0, hr1⟩⟩)
        ·rename_i hr0
         split at hd
         ·rename_i ob mk ha
          cases hd
          exact .inr (.inr ⟨ob, hw, hh, hp0, hr0, mk, ha, rfl, rfl⟩)
         ·cases hd
     ·cases h
end tr
def Match (ops : Array Oper) (ord : List Nat) (E : Nat → Prop) (d q : Nat) : Prop := ∀ (q' i : Nat) (o : Oper), ord[q']? = some i → ops[i]? = some o → o.dst = some d → (E i ↔ q' < q)
structure Inv (P : Program) (ops : Array Oper) (ms ord : List Nat) (bs : Nat) (S : Nat → St) (J0 : Nat → Loc) (μ0 : Mem) (w0 : World) (rd : Option Nat) (r0 : Rg) (E : Nat → Prop) (J : Nat → Loc) (a : Act) (w : World) (p : Nat) : Prop where
 hp : p ≤ ops.size
 down : ∀ i j, i < ops.size → bef ms i j = true → E j → E i
 before : ∀ (q i : Nat), q < p → ord[q]? = some i → E i
 later : ∀ (q i : Nat), p ≤ q → ord[q]? = some i → (S (q + 1)).2.2 = (i, (S (q + 1)).2.1) :: (S q).2.2 → ¬ E i
 last : p = 0 ∨ ∃ i, ord[p - 1]? = some i ∧ (S p).2.2 = (i, (S p).2.1) :: (S (p - 1)).2.2
 rel : Rel J (S p).2.1 w
 base : Base P J
 step : Step J0 μ0 w0 J (S p).2.1 w
 al : ∀ (q i : Nat) (o : Oper) (v : Value) (ob : Ob), p ≤ q → ord[q]? = some i → ops[i]? = some o → E i → jio P ops ms bs i o v ob (S q) (S (q + 1)) → ∃ b s, J (bs + i) = .at b s ∧ ObRel J w b s ob
 un : ∀ (q i : Nat), p ≤ q → ord[q]? = some i → ¬ E i → J (bs + i) = .unborn
 gon : ∀ (q i : Nat), p ≤ q → ord[q]? = some i → gone (S p).2.1 (bs + i)
 next : bs + ops.size ≤ (S p).2.1.next
 size : a.tmps.size = r0.n
 marks : Marks J r0.ds a.defers
 rdr : RdRel J r0.rd rd
 regs : ∀ d q, q ≤ ops.size → Match ops ord E d q → VRel J (jam (S q).1.tm d) (a.tmps.getD d undef)
section inv
variable {X : FuncId → List Value → Mem → Option (Value × Mem)} {callF : FuncId → List Value → Mem → Option (Value × Mem)} {roundF : Nat → List Value → Mem → Option (Value × Mem)} {ops : Array Oper} {ms ord : List Nat} {x0 : Option (Nat × Nat)} {bs : Nat} {S : Nat → St} {J0 : Nat → Loc} {μ0 : Mem} {w0 : World} {rd : Option Nat} {r0 : Rg} {E : Nat → Prop} {J : Nat → Loc} {a : Act} {w : World} {p : Nat}
theorem jcs (D : DOk ops.toList ms ord x0) {q q' i : Nat} (h : ord[q]? = some i) (h' : ord[q']? = some i) : q = q' := by
 have h1 := (List.getElem?_eq_some_iff.1 h).1
 exact (List.getElem?_inj h1 D.nd).1 (h.trans h'.symm)
theorem jhn (D : DOk ops.toList ms ord x0) {q : Nat} (h : q < ops.size) : ∃ i, ord[q]? = some i ∧ i < ops.size := by
 have hl := D.len
 simp at hl
 have h1 : q < ord.length := by omega
 refine ⟨ord[q], List.getElem?_eq_getElem h1, ?_⟩
 have := D.lt ord[q] (List.getElem_mem h1)
 simpa using this
theorem je7 (D : DOk ops.toList ms ord x0) {q i : Nat} (h : ord[q]? = some i) : q < ops.size := by
 have h1 := (List.getElem?_eq_some_iff.1 h).1
 have hl := D.len
 simp at hl
 omega
theorem pos_of (D : DOk ops.toList ms ord x0) {i : Nat} (h : i < ops.size) : ∃ q : Nat, ord[q]? = some i := by
 have := D.all i (by simpa using h)
 obtain ⟨q, hq, e⟩ := List.getElem_of_mem this
 exact ⟨q, by rw [List.getElem?_eq_getElem hq, e]⟩
theorem jgi (D : DOk ops.toList ms ord x0) (T : ∀ (q i : Nat), ord[q]? = some i → jdE P X callF roundF ops.toList ms bs i (S q) = some (S (q + 1))) : ∀ q, q ≤ ops.size → (S q).1.n = (S 0).1.n ∧ (S q).1.ds = (S 0).1.ds ∧ (S q).1.rd = (S 0).1.rd := by
 intro q
 induction q with
 | zero => intro _; exact ⟨rfl, rfl, rfl⟩
 | succ q ih =>
   intro hq
   obtain ⟨i, hi, _⟩ := jhn D (show q < ops.size by omega)
   obtain ⟨o, v, _, hp, _⟩ := jcw (T q i hi)
   obtain ⟨h1, h2, h3, _⟩ := jhp hp
   obtain ⟨g1, g2, g3⟩ := ih (by omega)
   exact ⟨h1.trans g1, h2.trans g2, h3.trans g3⟩
theorem jiC (D : DOk ops.toList ms ord x0) (T : ∀ (q i : Nat), ord[q]? = some i → jdE P X callF roundF ops.toList ms bs i (S q) = some (S (q + 1))) {d q1 : Nat} : ∀ q2, q1 ≤ q2 → q2 ≤ ops.size → (∀ (q i : Nat) (o : Oper), q1 ≤ q → q < q2 → ord[q]? = some i → ops[i]? = some o → o.dst ≠ some d) → jam (S q2).1.tm d = jam (S q1).1.tm d := by
 intro q2 h
 induction q2 with
 | zero => intro _ _; have : q1 = 0 := by omega
           subst this; rfl
 | succ q2 ih =>
   intro hq hno
   by_cases he : q1 = q2 + 1
   ·rw [he]
   ·obtain ⟨i, hi, _⟩ := jhn D (show q2 < ops.size by omega)
    obtain ⟨o, v, ho, hp, _⟩ := jcw (T q2 i hi)
    obtain ⟨_, _, _, h4⟩ := jhp hp
    rcases h4 d with ⟨e, _⟩ | ⟨_, e⟩
    ·exact absurd e (hno q2 i o (by omega) (by omega) hi ho)
    ·rw [e]
     exact ih (by omega) (by omega) fun q i o h1 h2 => hno q i o h1 (by omega)
theorem Inv.slot (D : DOk ops.toList ms ord x0) (I : Inv P ops ms ord bs S J0 μ0 w0 rd r0 E J a w p) {q i : Nat} {o : Oper} (hi : ord[q]? = some i) (ho : ops[i]? = some o) (hE : ¬ E i) (hpre : ∀ k, k < ops.size → bef ms k i = true → E k)
  {d : Nat} (hd : d ∈ tmpsOf ops.toList o) : VRel J (jam (S q).1.tm d) (a.tmps.getD d undef) := by
 refine I.regs d q (Nat.le_of_lt (je7 D hi)) fun q' i' o' hi' ho' hd' => ?_
 have ho1 : ops.toList[i]? = some o := by simpa using ho
 have ho2 : ops.toList[i']? = some o' := by simpa using ho'
 have hlt' : i' < ops.size := (Array.getElem?_eq_some_iff.1 ho').1
 have hlt : i < ops.size := (Array.getElem?_eq_some_iff.1 ho).1
 rcases D.slots i' o' d ho2 hd' i o ho1 hd with e | e | e
 ·subst e
  have := jcs D hi hi'
  subst this
  exact ⟨fun h => absurd h hE, fun h => absurd h (Nat.lt_irrefl _)⟩
 ·obtain ⟨k, hk, hk2⟩ := D.pre q i hi i' (by simpa using hlt') e
  have := jcs D hk2 hi'
  subst this
  exact ⟨fun _ => hk, fun _ => hpre i' hlt' e⟩
 ·obtain ⟨k, hk, hk2⟩ := D.pre q' i' hi' i (by simpa using hlt) e
  have := jcs D hk2 hi
  subst this
  refine ⟨fun h => absurd (I.down i i' hlt e h) hE, fun h => by omega⟩
theorem Inv.operand (D : DOk ops.toList ms ord x0) (I : Inv P ops ms ord bs S J0 μ0 w0 rd r0 E J a w p) {q i : Nat} {o : Oper} (hi : ord[q]? = some i) (ho : ops[i]? = some o) (hE : ¬ E i) (hpre : ∀ k, k < ops.size → bef ms k i = true → E k) :
  ∀ x ∈ o.op.operands, VRel J (aev P (S q).1 x) (a.eval x) := fun x hx => jgx I.base fun d e => I.slot D hi ho hE hpre (by
 subst e
 unfold tmpsOf
 simp only [List.mem_append, List.mem_filterMap]
 exact .inl (.inl ⟨.tmp d, by simpa using hx, rfl⟩))
theorem Inv.wanted (D : DOk ops.toList ms ord x0) (T : ∀ (q i : Nat), ord[q]? = some i → jdE P X callF roundF ops.toList ms bs i (S q) = some (S (q + 1))) (I : Inv P ops ms ord bs S J0 μ0 w0 rd r0 E J a w p) (h0 : (S 0).1 = r0) {q i : Nat} {o : Oper} {b : Bool} (hi : ord[q]? = some i) (ho : ops[i]? = some o) (hE : ¬ E i) (hpre : ∀ k, k < ops.size → bef ms k i = true → E k)
  (hw : jcp ops.toList (S q).1 o = some b) : Region.wanted o (yielded ops a.tmps) = b := by
 refine jei ?_ (fun j w oj d hg hj hd => I.slot D hi ho hE hpre ?_) hw
 ·rw [I.size, (jgi D T q (Nat.le_of_lt (je7 D hi))).1, h0]
 ·unfold tmpsOf
  simp only [List.mem_append]
  refine .inl (.inr ?_)
  rw [hg]
  simp only
  rw [Array.getElem?_toList, hj]
  simp [hd]
theorem Inv.regs_step (D : DOk ops.toList ms ord x0) (T : ∀ (q i : Nat), ord[q]? = some i → jdE P X callF roundF ops.toList ms bs i (S q) = some (S (q + 1))) (I : Inv P ops ms ord bs S J0 μ0 w0 rd r0 E J a w p) (h0 : (S 0).1 = r0) {q i : Nat} {o : Oper} {v v' : Value} {J' : Nat → Loc} (hi : ord[q]? = some i) (ho : ops[i]? = some o) (hE : ¬ E i)
  (hpre : ∀ k, k < ops.size → bef ms k i = true → E k) (hput : aput (S q).1 o.dst v = some (S (q + 1)).1) (hx : Ext J J') (hv : VRel J' v v') :
  (a.put o.dst v').tmps.size = r0.n ∧ (a.put o.dst v').defers = a.defers ∧
  ∀ d q1, q1 ≤ ops.size → Match ops ord (fun j => E j ∨ j = i) d q1 → VRel J' (jam (S q1).1.tm d) ((a.put o.dst v').tmps.getD d undef) := by
 have hs : a.tmps.size = (S q).1.n := by rw [I.size, (jgi D T q (Nat.le_of_lt (je7 D hi))).1, h0]
 obtain ⟨g1, g2, _, _, g5, g6⟩ := put_rel (v' := v') hs hput
 refine ⟨by rw [g1, g2, (jgi D T q (Nat.le_of_lt (je7 D hi))).1, h0], g5, fun d q1 hq1 hm => ?_⟩
 rcases g6 d with ⟨e1, e2, e3⟩ | ⟨e1, e2, e3⟩
 ·rw [e3]
  have hlt : q < q1 := (hm q i o hi ho e1).1 (.inr rfl)
  rw [jiC D T (q1 := q + 1) q1 hlt hq1 ?_, e2]
  ·exact hv
  ·intro q2 i2 o2 hq2 hq3 hi2 ho2 hd2
   have hlt2 : i2 < ops.size := (Array.getElem?_eq_some_iff.1 ho2).1
   have hlti : i < ops.size := (Array.getElem?_eq_some_iff.1 ho).1
   have hne : i2 ≠ i := fun e => by
    subst e
    have := jcs D hi hi2
    omega
   have hE2 : E i2 := ((hm q2 i2 o2 hi2 ho2 hd2).2 hq3).resolve_right hne
   have hd1 : d ∈ tmpsOf ops.toList o2 := by
    unfold tmpsOf
    simp only [List.mem_append]
    exact .inr (by simp [hd2])
   rcases D.slots i o d (by simpa using ho) e1 i2 o2 (by simpa using ho2) hd1 with e | e | e
   ·exact hne e.symm
   ·exact hE (I.down i i2 hlti e hE2)
   ·obtain ⟨k, hk, hk2⟩ := D.pre q i hi i2 (by simpa using hlt2) e
    have := jcs D hk2 hi2
    omega
 ·rw [e3]
  refine (I.regs d q1 hq1 fun q' i' o' hi' ho' hd' => ?_).mono hx
  rw [← hm q' i' o' hi' ho' hd']
  have : i' ≠ i := fun e => by subst e; rw [ho] at ho'; cases ho'; exact e1 hd'
  simp [this]
end inv
end
end Go.Proofs.YtnafmgiaifbhgaaGreatDoor.Ev
