/-
  The evaluator, part D: operations without memory. No conditions.
-/
import Derived.Test.YtnafmgiaifbhgaaGreatDoorEvC
set_option linter.unusedSimpArgs false
set_option linter.unusedVariables false
namespace Go.Proofs.YtnafmgiaifbhgaaGreatDoor.Ev
noncomputable section
variable {P : Program} {J : Nat → Loc}
def pv (P : Program) {α : Type} : Sem α → Option α
 | .pure a => some a
 | .program k => pv P (k P)
 | .mark _ k => pv P k
 | .choose q k => match q.forced with
   | true => pv P (k 0)
   | false => none
 | _ => none
theorem pv_run {α : Type} {a : α} : ∀ {s : Sem α}, pv P s = some a → ∀ w, s.run P w = .ok a w := by
 intro s
 induction s with
 | pure x => intro h w; simp only [pv, Option.some.injEq] at h; subst h; rfl
 | program k ih => intro h w; simp only [pv] at h; simp only [Sem.run]; exact ih P h w
 | mark m k ih => intro h w; simp only [pv] at h; simp only [Sem.run]; exact ih h w
 | choose q k ih =>
   intro h w
   simp only [pv] at h
   split at h
   ·rename_i hq
    simp only [Sem.run, hq, if_true]; exact ih 0 h w
   ·cases h
 | _ => intro h; simp [pv] at h
def jbV (ρ : Operand → Value) : List Operand → Bool
 | [] => true
 | x :: r => match jaS 5 (ρ x) with
   | true => jbV ρ r
   | false => false
theorem plains_eq {ρ ρ' : Operand → Value} (hρ : ∀ x, VRel J (ρ x) (ρ' x)) : ∀ (l : List Operand), jbV ρ l = true → ∀ x ∈ l, ρ' x = ρ x := by
 intro l
 induction l with
 | nil => intro _ x hx; cases hx
 | cons y r ih =>
   intro h x hx
   simp only [jbV] at h
   split at h
   ·rename_i hy
    rcases List.mem_cons.1 hx with e | e
    ·subst e; exact jeK 5 hy (hρ x)
    ·exact ih h x e
   ·cases h
def opsOf : Op → Option (List Operand)
 | .binOp _ _ x y _ => some [x, y]
 | .unOp _ _ x => some [x]
 | .convert _ _ x => some [x]
 | .index _ x i => some [x, i]
 | .field _ x _ => some [x]
 | .typeAssert x _ _ _ => some [x]
 | .slice _ x none none none => some [x]
 | .slice _ x (some l) none none => some [x, l]
 | .slice _ x none (some h) none => some [x, h]
 | .slice _ x (some l) (some h) none => some [x, l, h]
 | _ => none
theorem jg4 {op : Op} {l : List Operand} (h : opsOf op = some l) : (∀ cs b, op ≠ .select cs b) ∧ ∀ x ∈ op.operands, x ∈ l := by
 unfold opsOf at h
 split at h <;> first | (cases h; done) | skip
 all_goals
  cases h
  exact ⟨fun cs b e => (by cases e), fun x hx => by simpa [Op.operands] using hx⟩
def jaT (P : Program) (ρ : Operand → Value) (o : Oper) : Option Value :=
 match opsOf o.op with
 | none => none
 | some l => match jbV ρ l with
   | true => match pv P (execOp ρ o) with
     | some (.value v) => match jaS 5 v with
       | true => some v
       | false => none
     | _ => none
   | false => none
def Gives (P : Program) (J : Nat → Loc) (ρ' : Operand → Value) (o : Oper) (v : Value) : Prop :=
 ∃ v', VRel J v v' ∧ ∀ w, (execOp ρ' o).run P w = .ok (.value v') w
theorem jcr {ρ ρ' : Operand → Value} (hρ : ∀ x, VRel J (ρ x) (ρ' x)) {o : Oper} {v : Value} (h : jaT P ρ o = some v) : Gives P J ρ' o v := by
 unfold jaT at h
 split at h
 ·cases h
 ·rename_i l hl
  obtain ⟨hsel, hmem⟩ := jg4 hl
  split at h
  ·rename_i hp
   split at h
   ·rename_i v1 hv
    split at h
    ·rename_i hpl
     cases h
     refine ⟨v, jbr 5 hpl, fun w => ?_⟩
     rw [execOp_congr (ρ := ρ') (ρ' := ρ) o hsel (fun x hx => plains_eq hρ _ hp x (hmem x hx))]
     exact pv_run hv w
    ·cases h
   ·cases h
  ·cases h
theorem jbc {k : IntKind} {n : Int} {p : Value} (h : VRel J (.int k n) p) : p = .int k n := by cases h; rfl
theorem jec {b : Bool} {p : Value} (h : VRel J (.bool b) p) : p = .bool b := by cases h; rfl
theorem jbq {s : ByteArray} {p : Value} (h : VRel J (.string s) p) : p = .string s := by cases h; rfl
theorem agg_inv {x : Array Value} {p : Value} (h : VRel J (.agg x) p) : ∃ x', p = .agg x' ∧ ARel J x x' := by cases h; exact ⟨_, rfl, ‹_›, ‹_›⟩
theorem tuple_inv {x : Array Value} {p : Value} (h : VRel J (.tuple x) p) : ∃ x', p = .tuple x' ∧ ARel J x x' := by cases h; exact ⟨_, rfl, ‹_›, ‹_›⟩
theorem jcP {t : TypeId} {v p : Value} (h : VRel J (.iface t v) p) : ∃ v', p = .iface t v' ∧ VRel J v v' := by cases h; exact ⟨_, rfl, ‹_›⟩
theorem jdh {a : Addr} {p : Value} (h : VRel J (.pointer (some a)) p) : ∃ a', p = .pointer (some a') ∧ ∀ n, VRel J (.pointer (some (a.add n))) (.pointer (some (a'.add n))) := by
 cases h with
 | ptr e =>
   refine ⟨_, rfl, fun n => ?_⟩
   unfold Addr.add
   by_cases hn : n = 0
   ·rw [if_pos hn, if_pos hn]; exact .ptr e
   ·rw [if_neg hn, if_neg hn]; exact .ptr e
 | ptrDead a' e =>
   refine ⟨_, rfl, fun n => ?_⟩
   refine .ptrDead _ ?_
   unfold Addr.add
   by_cases hn : n = 0
   ·rw [if_pos hn]; exact e
   ·rw [if_neg hn]; exact e
theorem jbm {a : Addr} {l c : Nat} {p : Value} (h : VRel J (.slice (some a) l c) p) : ∃ a' c', p = .slice (some a') l c' ∧ (∀ n, VRel J (.pointer (some (a.add n))) (.pointer (some (a'.add n)))) ∧
  ((∃ i o b s, a = ⟨i, o, none⟩ ∧ a' = ⟨b, o, none⟩ ∧ J i = .at b s ∧ CapRel c c' l o s) ∨ (J a.block = .dead ∧ CapD c c' l)) := by
 cases h with
 | slice e hc =>
   refine ⟨_, _, rfl, fun n => ?_, .inl ⟨_, _, _, _, rfl, rfl, e, hc⟩⟩
   unfold Addr.add
   by_cases hn : n = 0
   ·rw [if_pos hn, if_pos hn]; exact .ptr e
   ·rw [if_neg hn, if_neg hn]; exact .ptr e
 | sliceDead a' c' e hc =>
   refine ⟨_, _, rfl, fun n => ?_, .inr ⟨e, hc⟩⟩
   refine .ptrDead _ ?_
   unfold Addr.add
   by_cases hn : n = 0
   ·rw [if_pos hn]; exact e
   ·rw [if_neg hn]; exact e
theorem jaF {t : TypeId} {d : TypeDesc} (h : P.underlying t = some d) (w : World) : (underlying t).run P w = .ok d w := by
 simp [underlying, program, Sem.run_bind, Sem.run, Result.andThen, h, pure]
theorem jcW {t : TypeId} {d : TypeInfo} (h : P.info? t = some d) (w : World) : (typeInfo t).run P w = .ok d w := by
 simp [typeInfo, program, Sem.run_bind, Sem.run, Result.andThen, h, pure]
theorem jba {t : TypeId} {d : TypeInfo} (h : P.info? t = some d) (w : World) : (sizeOf t).run P w = .ok d.size w := by
 simp [sizeOf, Sem.run_bind, jcW h, Result.andThen, Sem.run_pure]
def aIdx (P : Program) (a : Addr) (len : Nat) (e : TypeId) (n : Int) : Option Value :=
 match P.info? e with
 | some inf => match n with
   | .ofNat m => match Nat.blt m len with
     | true => some (.pointer (some (a.add (Nat.mul m inf.size))))
     | false => none
   | _ => none
 | none => none
def jaL (P : Program) (ρ : Operand → Value) (s : TypeId) (x : Operand) (f : Nat) : Option Value :=
 match ρ x with
 | .pointer (some a) => match P.underlying s with
   | some (.struct fields) => match fields[f]? with
     | some fd => match P.info? fd.type with
       | some inf => match Nat.beq inf.size 0 with
         | true => none
         | false => some (.pointer (some (a.add fd.offset)))
       | none => none
     | none => none
   | _ => none
 | _ => none
def jas (P : Program) (ρ : Operand → Value) (t : TypeId) (x ix : Operand) : Option Value :=
 match ρ ix with
 | .int _ n => match ρ x with
   | .pointer (some a) => match P.underlying t with
     | some (.array len e) => aIdx P a len e n
     | _ => none
   | .slice (some a) len _ => match P.underlying t with
     | some (.slice e) => aIdx P a len e n
     | _ => none
   | _ => none
 | _ => none
theorem jeJ {ρ ρ' : Operand → Value} (hρ : ∀ x, VRel J (ρ x) (ρ' x)) {o : Oper} {s : TypeId} {x : Operand} {f : Nat} {v : Value} (ho : o.op = .fieldAddr s x f)
  (h : jaL P ρ s x f = some v) : Gives P J ρ' o v := by
 unfold jaL at h
 split at h
 ·rename_i a hx
  have hv := hρ x
  rw [hx] at hv
  obtain ⟨a', hx', hadd⟩ := jdh hv
  split at h
  ·rename_i fields hu
   split at h
   ·rename_i fd hfd
    split at h
    ·rename_i inf hinf
     split at h
     ·cases h
     ·rename_i hz
      cases h
      refine ⟨_, hadd fd.offset, fun w => ?_⟩
      have hz' : inf.size ≠ 0 := Nat.ne_of_beq_eq_false hz
      simp only [execOp, ho, Instr.fieldAt, Sem.run_bind, jaF hu, Result.andThen_ok, hfd, hx', Instr.sureAddr, fieldPlace, jba hinf, if_neg hz', Sem.run_pure]
    ·cases h
   ·cases h
  ·cases h
 ·cases h
theorem jiV {ρ' : Operand → Value} {a a' : Addr} {len : Nat} {e : TypeId} {n : Int} {v : Value} (hadd : ∀ n, VRel J (.pointer (some (a.add n))) (.pointer (some (a'.add n))))
  (h : aIdx P a len e n = some v) : ∃ inf m, P.info? e = some inf ∧ n = (m : Nat) ∧ m < len ∧ VRel J v (.pointer (some (a'.add (m * inf.size)))) := by
 unfold aIdx at h
 split at h
 ·rename_i inf hinf
  split at h
  ·rename_i m
   split at h
   ·rename_i hb
    cases h
    exact ⟨inf, m, hinf, rfl, by simpa using hb, hadd _⟩
   ·cases h
  ·cases h
 ·cases h
theorem jeI {ρ ρ' : Operand → Value} (hρ : ∀ x, VRel J (ρ x) (ρ' x)) {o : Oper} {t : TypeId} {x ix : Operand} {v : Value} (ho : o.op = .indexAddr t x ix)
  (h : jas P ρ t x ix = some v) : Gives P J ρ' o v := by
 unfold jas at h
 split at h
 ·rename_i k n hi
  have hvi := hρ ix
  rw [hi] at hvi
  have hi' : ρ' ix = .int k n := jbc hvi
  have hv := hρ x
  split at h
  ·rename_i a hx
   rw [hx] at hv
   obtain ⟨a', hx', hadd⟩ := jdh hv
   split at h
   ·rename_i len e hu
    obtain ⟨inf, m, hinf, rfl, hlt, hr⟩ := jiV (ρ' := ρ') hadd h
    refine ⟨_, hr, fun w => ?_⟩
    have h1 : (0 : Int) ≤ (m : Int) ∧ (m : Int) < (len : Int) := ⟨by omega, by omega⟩
    simp only [execOp, ho, Instr.indexAt, Sem.run_bind, jaF hu, Result.andThen_ok, hi', asIntOf, hx', Instr.sureAddr, if_pos h1, jba hinf, Sem.run_pure, Int.toNat_natCast]
   ·cases h
  ·rename_i a len c hx
   rw [hx] at hv
   obtain ⟨a', c', hx', hadd, _⟩ := jbm hv
   split at h
   ·rename_i e hu
    obtain ⟨inf, m, hinf, rfl, hlt, hr⟩ := jiV (ρ' := ρ') hadd h
    refine ⟨_, hr, fun w => ?_⟩
    have h1 : (0 : Int) ≤ (m : Int) ∧ (m : Int) < (len : Int) := ⟨by omega, by omega⟩
    simp only [execOp, ho, Instr.indexAt, Sem.run_bind, jaF hu, Result.andThen_ok, hi', asIntOf, hx', Instr.sureAddr, if_pos h1, jba hinf, Sem.run_pure, Int.toNat_natCast]
   ·cases h
  ·cases h
 ·cases h
end
end Go.Proofs.YtnafmgiaifbhgaaGreatDoor.Ev
