/-
  The evaluator, part Q: all that reads; all that turns memory; calls. No conditions.
-/
import Derived.Test.YtnafmgiaifbhgaaGreatDoorEvPa
set_option linter.unusedSimpArgs false
set_option linter.unusedVariables false
namespace Go.Proofs.YtnafmgiaifbhgaaGreatDoor.Ev
noncomputable section
variable {P : Program} {J : Nat → Loc}
def jiS (P : Program) (μ : Mem) (t : TypeId) (a b : Value) : Option Bool :=
 match a, b with
 | .pointer (some ⟨i, o, none⟩), .pointer (some ⟨j, q, none⟩) => match Nat.beq i j with
   | false => none
   | true => match μ.obs.get i with
     | some (.cells _ _ _ _ _ _ _ _) => match P.underlying t with
       | some (.pointer e) => match P.info? e with
         | some inf => match Nat.beq inf.size 0 with
           | true => none
           | false => some (Nat.beq o q)
         | none => none
       | _ => none
     | _ => none
 | _, _ => none
theorem jf6 {μ : Mem} {w : World} (h : Rel J μ w) {t : TypeId} {a b a' b' : Value} {r : Bool} (ha : VRel J a a') (hb : VRel J b b') (hs : jiS P μ t a b = some r) :
  (Op.equal t a' b').run P w = .ok r w ∧ (∀ op x y, (eqGuard op t x y a' b').run P w = .ok () w) ∧ binOp .eql t a' b' = (do pure (.bool (← Op.equal t a' b'))) ∧
   binOp .neq t a' b' = (do pure (.bool (!(← Op.equal t a' b')))) := by
 unfold jiS at hs
 split at hs
 ·rename_i i o j q
  split at hs
  ·cases hs
  ·rename_i hij
   obtain rfl : i = j := Nat.eq_of_beq_eq_true hij
   split at hs
   ·rename_i n te zero over lo hi fx sh hob
    obtain ⟨bb, s, hbb, _⟩ := cell_of h hob
    rw [jgY hbb ha, jgY hbb hb]
    split at hs
    ·rename_i e hu
     split at hs
     ·rename_i inf hinf
      split at hs
      ·cases hs
      ·rename_i hz
       have hz' : inf.size ≠ 0 := Nat.ne_of_beq_eq_false hz
       cases hs
       refine ⟨?_, fun op x y => by unfold eqGuard; split <;> rfl, rfl, rfl⟩
       have key : ∀ d, (Op.equalIn (d + 1) t (.pointer (some ⟨bb, o, none⟩)) (.pointer (some ⟨bb, q, none⟩))).run P w = .ok (Nat.beq o q) w := by
        intro d
        simp only [Op.equalIn, Sem.run_bind, jaF hu, Result.andThen_ok, jba hinf, if_pos hz', sameAddr, beq_self_eq_true, if_true, Sem.run_pure]
        congr 1
        rw [Bool.eq_iff_iff]
        simp
       exact key 9999
     ·cases hs
    ·cases hs
   ·cases hs
 ·cases hs
def jid (P : Program) (μ : Mem) (src dst : TypeId) (v : Value) : Option Value :=
 match v with
 | .pointer (some ⟨i, o, none⟩) => match μ.obs.get i with
   | some (.cells n te _ _ _ _ false _) => match Nat.blt o n with
     | false => none
     | true => match P.underlying src with
       | some (.pointer t) => match P.underlying dst with
         | some .unsafePointer => match P.info? t with
           | some inf => match Nat.beq inf.size 0 with
             | true => none
             | false => some v
           | none => none
         | _ => none
       | some .unsafePointer => match P.underlying dst with
         | some (.pointer u) => match liesAt P P.depth te (Nat.div n (P.cellsOf te)) o u 1 with
           | true => match P.info? u with
             | some inf => match Nat.beq inf.size 0 with
               | true => none
               | false => some v
             | none => none
           | false => none
         | _ => none
       | _ => none
   | _ => none
 | _ => none
theorem jgy {ρ ρ' : Operand → Value} (hρ : ∀ x, VRel J (ρ x) (ρ' x)) {μ : Mem} {w : World} (h : Rel J μ w) {o : Oper} {src dst : TypeId} {x : Operand} {v : Value} (ho : o.op = .convert src dst x)
  (hs : jid P μ src dst (ρ x) = some v) : ∃ v', VRel J v v' ∧ (execOp ρ' o).run P w = .ok (.value v') w := by
 have hx := hρ x
 unfold jid at hs
 split at hs
 ·rename_i i of e
  rw [e] at hx
  split at hs
  ·rename_i n te zero over lo hi sh hob
   obtain ⟨b, s, hb, hr, _⟩ := cell_of h hob
   have hx' := jgY hb hx
   have hx2 := hx
   rw [hx'] at hx2
   obtain ⟨cc, fz, h1, h2, h3, h4, h5, h6⟩ := hr
   have hns : n = cc.size := by rw [h2]; exact h4 rfl
   have hshape : (shape b).run P w = .ok (some (te, cc.size)) w := by simp [shape, Sem.run, World.shape?, h1]
   have hview : (viewAt b).run P w = .ok none w := by
    simp only [viewAt, Sem.run_bind, hshape, Result.andThen_ok, Option.isSome_some, if_true, Sem.run_pure]
   have hseen : (Conv.seenAt ⟨b, of, none⟩).run P w = .ok ⟨b, of, none⟩ w := by
    simp only [Conv.seenAt, Sem.run_bind, hview, Result.andThen_ok, Sem.run_pure]
   have hcin : (cellsIn b).run P w = .ok (some cc.size) w := by
    simp only [cellsIn, Sem.run_bind, hshape, Result.andThen_ok, Sem.run_pure]
   split at hs
   ·cases hs
   ·rename_i hlt
    have hlt' : of < n := by simpa using hlt
    split at hs
    ·rename_i t hu
     split at hs
     ·rename_i hd
      split at hs
      ·rename_i inf hinf
       split at hs
       ·cases hs
       ·rename_i hz
        have hz' : inf.size ≠ 0 := Nat.ne_of_beq_eq_false hz
        cases hs
        rw [e]
        refine ⟨_, hx2, ?_⟩
        have hzd : decide (inf.size = 0) = false := by simpa using hz'
        have hno : decide (of ≥ cc.size) = false := by simp; omega
        simp only [execOp, ho, convert, Sem.run_bind, jaF hu, jaF hd, Result.andThen_ok, hx', Conv.unsafePointer, hseen, hcin, jba hinf, hno, Bool.false_and, hzd, Bool.or_false, Bool.false_eq_true, if_false, Sem.run_pure]
      ·cases hs
     ·cases hs
    ·rename_i hu
     split at hs
     ·rename_i u hd
      split at hs
      ·rename_i hl
       split at hs
       ·rename_i inf hinf
        split at hs
        ·cases hs
        ·rename_i hz
         have hz' : inf.size ≠ 0 := Nat.ne_of_beq_eq_false hz
         cases hs
         rw [e]
         refine ⟨_, hx2, ?_⟩
         have hva : (variablesAt ⟨b, of, none⟩ u 1).run P w = .ok true w := by
          have hl' : liesAt P P.depth te (cc.size / P.cellsOf te) of u 1 = true := by rw [← hns]; exact hl
          simp only [variablesAt, Sem.run_bind, program, Sem.run, Result.andThen_ok, hshape, Sem.run_pure, hl', pure]
         simp only [execOp, ho, convert, Sem.run_bind, jaF hu, jaF hd, Result.andThen_ok, hx', Conv.unsafePointer, hseen, jba hinf, hva, Bool.or_true, if_true, Sem.run_pure]
       ·cases hs
      ·cases hs
     ·cases hs
    ·cases hs
  ·cases hs
 ·cases hs
def aR (P : Program) (μ : Mem) (ρ : Operand → Value) (o : Oper) : Option Value :=
 match o.op with
 | .load t a => jbH P μ t (ρ a)
 | .convert s d x => match jid P μ s d (ρ x) with
   | some v => some v
   | none => jcK P μ s d (ρ x)
 | .binOp .eql t x y _ => match jiS P μ t (ρ x) (ρ y) with
   | some r => some (.bool r)
   | none => none
 | .binOp .neq t x y _ => match jiS P μ t (ρ x) (ρ y) with
   | some r => some (.bool (!r))
   | none => none
 | .lookup t x y c => aLookup P μ t (ρ x) (ρ y) c
 | .call c => match c.callee with
   | .builtin .len => match c.args.toList, c.argTypes.toList with
     | [x], t :: _ => match P.underlying t with
       | some (.map _ _) => aMapLen μ (ρ x)
       | _ => none
     | _, _ => none
   | _ => none
 | _ => none
theorem aR_sound {ρ ρ' : Operand → Value} (hρ : ∀ x, VRel J (ρ x) (ρ' x)) {μ : Mem} {w : World} (h : Rel J μ w) {o : Oper} {v : Value} (hs : aR P μ ρ o = some v) :
  ∃ v', VRel J v v' ∧ (execOp ρ' o).run P w = .ok (.value v') w := by
 unfold aR at hs
 split at hs
 ·rename_i t a ho
  obtain ⟨ad, x', h1, h2, h3⟩ := jcX (P := P) h (hρ a) hs
  exact ⟨x', h2, by simp only [execOp, ho, Instr.loadAt, h1, Instr.sureAddr, Sem.run_bind, Sem.run_pure, Result.andThen_ok, h3]⟩
 ·rename_i s d x ho
  split at hs
  ·rename_i v1 e; cases hs; exact jgy hρ h ho e
  ·exact jdG hρ h ho hs
 ·rename_i t x y yt ho
  split at hs
  ·rename_i r e
   cases hs
   obtain ⟨r1, r2, r3, r4⟩ := jf6 (P := P) h (hρ x) (hρ y) e
   exact ⟨_, .bool r, by simp only [execOp, ho, Sem.run_bind, r2, Result.andThen_ok, r3, r1, Sem.run_pure]⟩
  ·cases hs
 ·rename_i t x y yt ho
  split at hs
  ·rename_i r e
   cases hs
   obtain ⟨r1, r2, r3, r4⟩ := jf6 (P := P) h (hρ x) (hρ y) e
   exact ⟨_, .bool (!r), by simp only [execOp, ho, Sem.run_bind, r2, Result.andThen_ok, r4, r1, Sem.run_pure]⟩
  ·cases hs
 ·rename_i t x y c ho; exact jgD hρ h ho hs
 ·rename_i c ho
  split at hs
  ·rename_i hc
   split at hs
   ·rename_i x t r ha ht
    split at hs
    ·rename_i kt et hu; exact jgC hρ h ho hc ha ht hu hs
    ·cases hs
   ·cases hs
  ·cases hs
 ·cases hs
def aT (P : Program) (μ : Mem) (ρ : Operand → Value) (o : Oper) : Option (Value × Mem) :=
 match o.op with
 | .store t a x => jbt P μ t (ρ a) (ρ x)
 | .next it true => jii μ (ρ it)
 | .convert s d x => jie P μ s d (ρ x)
 | .mapUpdate t x y z => jij P μ t (ρ x) (ρ y) (ρ z)
 | .insert t x y z => jij P μ t (ρ x) (ρ y) (ρ z)
 | .mapEntry t x y => jhx P μ t (ρ x) (ρ y)
 | .entryStore _ x y z => jfA μ (ρ x) (ρ y) (ρ z)
 | .call c => match c.callee with
   | .builtin .append => match c.args.toList, c.argTypes.toList with
     | [x, y], st :: xt :: _ => jbk P μ st xt (ρ x) (ρ y)
     | _, _ => none
   | .builtin .copy => match c.args.toList, c.argTypes.toList with
     | [x, y], dt :: _ => jjP P μ dt (ρ x) (ρ y)
     | _, _ => none
   | .builtin .unsafeString => match c.args.toList, c.argTypes.toList with
     | [x, y], [pt, _] => jcg P μ pt (ρ x) (ρ y)
     | _, _ => none
   | _ => none
 | _ => none
theorem aT_sound {ρ ρ' : Operand → Value} (hρ : ∀ x, VRel J (ρ x) (ρ' x)) {μ : Mem} {w : World} (h : Rel J μ w) {o : Oper} {v : Value} {μ' : Mem} (hs : aT P μ ρ o = some (v, μ')) : jfP P J ρ' o μ w v μ' := by
 unfold aT at hs
 split at hs
 ·rename_i ho; exact jhr hρ h ho hs
 ·rename_i ho; exact jih hρ h ho hs
 ·rename_i ho; exact jgz hρ h ho hs
 ·rename_i ho; exact jee hρ h (.inl ho) hs
 ·rename_i ho; exact jee hρ h (.inr ho) hs
 ·rename_i ho; exact jfy hρ h ho hs
 ·rename_i ho; exact jev hρ h ho hs
 ·rename_i c ho
  split at hs
  ·rename_i hc
   split at hs
   ·rename_i ha ht; exact jgI hρ h ho hc ha ht hs
   ·cases hs
  ·rename_i hc
   split at hs
   ·rename_i ha ht; exact jil hρ h ho hc ha (jgm ht) hs
   ·cases hs
  ·rename_i hc
   split at hs
   ·rename_i ha ht; exact jdR hρ h ho hc ha ht hs
   ·cases hs
  ·cases hs
 ·cases hs
end
end Go.Proofs.YtnafmgiaifbhgaaGreatDoor.Ev
