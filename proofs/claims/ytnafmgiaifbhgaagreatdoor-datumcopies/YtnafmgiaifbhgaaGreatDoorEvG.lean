/-
  The evaluator, part G: slices, assertions, builtins without memory. No conditions.
-/
import Derived.Test.YtnafmgiaifbhgaaGreatDoorEvF
set_option linter.unusedSimpArgs false
set_option linter.unusedVariables false
namespace Go.Proofs.YtnafmgiaifbhgaaGreatDoor.Ev
noncomputable section
variable {P : Program} {J : Nat → Loc}
def jb0 (ρ : Operand → Value) (v : Option Operand) (dflt y : Nat) : Option Nat :=
 match v with
 | none => some dflt
 | some x => match ρ x with
   | .int _ (.ofNat m) => match Nat.ble m y with
     | true => some m
     | false => none
   | _ => none
theorem jdZ {ρ ρ' : Operand → Value} (hρ : ∀ x, VRel J (ρ x) (ρ' x)) {x : Operand} {d y y' m : Nat} (h : jb0 ρ (some x) d y = some m) (hy : y ≤ y') (c : BoundsCode) (w : World) :
  (Instr.sliceBound (ρ' x) y' c).run P w = .ok m w ∧ m ≤ y := by
 unfold jb0 at h
 have hx := hρ x
 simp only at h
 split at h
 ·rename_i k n e
  rw [e] at hx
  split at h
  ·rename_i hb
   cases h
   have hm : m ≤ y := Nat.le_of_ble_eq_true hb
   refine ⟨?_, hm⟩
   have h1 : (0 : Int) ≤ Int.ofNat m ∧ Int.ofNat m ≤ (y' : Int) := ⟨Int.natCast_nonneg m, by show (m : Int) ≤ y'; omega⟩
   simp only [Instr.sliceBound, jbc hx, asIntOf, Sem.run_bind, Sem.run_pure, Result.andThen_ok, if_pos h1]
   rfl
  ·cases h
 ·cases h
def jbp (ρ : Operand → Value) (len cap : Nat) (lo hi mx : Option Operand) : Option (Nat × Nat × Nat) :=
 match jb0 ρ mx cap cap with
 | none => none
 | some m => match hi with
   | none => match mx with
     | some _ => none
     | none => match jb0 ρ lo 0 len with
       | some l => some (l, len, m)
       | none => none
   | some x => match jb0 ρ (some x) 0 m with
     | none => none
     | some h => match jb0 ρ lo 0 h with
       | some l => some (l, h, m)
       | none => none
theorem jhO {ρ ρ' : Operand → Value} (hρ : ∀ x, VRel J (ρ x) (ρ' x)) {lo : Option Operand} {hh l : Nat} (hl : jb0 ρ lo 0 hh = some l) (c : BoundsCode) (w : World)
  (K : Nat → Sem (Nat × Nat × Nat)) :
  (match lo.map ρ' with
   | some v => do let l ← Instr.sliceBound v hh c; K l
   | none => do let l ← pure 0; K l : Sem (Nat × Nat × Nat)).run P w = (K l).run P w ∧ l ≤ hh := by
 cases lo with
 | none => simp only [jb0] at hl; cases hl; exact ⟨rfl, Nat.zero_le _⟩
 | some x =>
   obtain ⟨r, hle⟩ := jdZ (P := P) hρ hl (Nat.le_refl _) c w
   refine ⟨?_, hle⟩
   simp only [Option.map_some, Sem.run_bind, r, Result.andThen_ok]
theorem jcm {ρ ρ' : Operand → Value} (hρ : ∀ x, VRel J (ρ x) (ρ' x)) {len cap cap' : Nat} {lo hi mx : Option Operand} {l h m : Nat}
  (hb : jbp ρ len cap lo hi mx = some (l, h, m)) (hc : cap ≤ cap') (isS : Bool) (w : World) :
  ∃ m', (Instr.sliceBounds isS len cap' (lo.map ρ') (hi.map ρ') (mx.map ρ')).run P w = .ok (l, h, m') w ∧ (mx.isSome = true → m' = m) ∧ (mx = none → m' = cap') ∧ l ≤ h ∧
   (hi = none → h = len) ∧ (hi.isSome = true → h ≤ m) ∧ m ≤ cap := by
 unfold jbp at hb
 split at hb
 ·cases hb
 ·rename_i m0 hm0
  have hm : ∃ m', (match mx.map ρ' with | some v => Instr.sliceBound v cap' (if isS then .slice3Acap else .slice3Alen) | none => pure cap' : Sem Nat).run P w = .ok m' w ∧
    (mx.isSome = true → m' = m0) ∧ (mx = none → m' = cap') ∧ m0 ≤ cap ∧ m0 ≤ m' := by
   cases mx with
   | none =>
     simp only [jb0] at hm0
     cases hm0
     exact ⟨cap', rfl, fun h => by simp at h, fun _ => rfl, Nat.le_refl _, hc⟩
   | some x =>
     obtain ⟨r, hle⟩ := jdZ (P := P) hρ hm0 hc (if isS then .slice3Acap else .slice3Alen) w
     exact ⟨m0, r, fun _ => rfl, fun h => by simp at h, hle, Nat.le_refl _⟩
  obtain ⟨m', hr, h1, h2, h3, h4⟩ := hm
  split at hb
  ·split at hb
   ·cases hb
   ·split at hb
    ·rename_i l' hl
     cases hb
     obtain ⟨r, hle⟩ := jhO (P := P) hρ hl .sliceB w (fun l => pure (l, len, m'))
     refine ⟨m', ?_, h1, h2, hle, fun _ => rfl, fun h => by simp at h, h3⟩
     simp only [Option.map_none] at hr
     unfold Instr.sliceBounds
     simp only [Option.map_none, Sem.run_bind, hr, Result.andThen_ok, Sem.run_pure, Option.isSome_none, Bool.false_eq_true, if_false]
     exact r
    ·cases hb
  ·rename_i x
   split at hb
   ·cases hb
   ·rename_i hh hhh
    split at hb
    ·rename_i l' hl
     cases hb
     cases mx with
     | none =>
       obtain ⟨r, hle⟩ := jhO (P := P) hρ hl .sliceB w (fun l => pure (l, h, m'))
       obtain ⟨r2, hle2⟩ := jdZ (P := P) hρ hhh (y' := m') h4 (if isS then .sliceAcap else .sliceAlen) w
       refine ⟨m', ?_, h1, h2, hle, fun h => by simp at h, fun _ => hle2, h3⟩
       simp only [Option.map_none] at hr
       unfold Instr.sliceBounds
       simp only [Option.map_none, Option.map_some, Sem.run_bind, hr, Result.andThen_ok, Sem.run_pure, Option.isSome_none, Bool.false_eq_true, if_false, r2]
       exact r
     | some mxo =>
       obtain ⟨r, hle⟩ := jhO (P := P) hρ hl .slice3C w (fun l => pure (l, h, m'))
       obtain ⟨r2, hle2⟩ := jdZ (P := P) hρ hhh (y' := m') h4 .slice3B w
       refine ⟨m', ?_, h1, h2, hle, fun h => by simp at h, fun _ => hle2, h3⟩
       simp only [Option.map_some] at hr
       unfold Instr.sliceBounds
       simp only [Option.map_some, Sem.run_bind, hr, Result.andThen_ok, Sem.run_pure, Option.isSome_some, if_true, r2]
       exact r
    ·cases hb
theorem jfr {ρ : Operand → Value} {len cap : Nat} {lo hi : Option Operand} {l h m : Nat} (hb : jbp ρ len cap lo hi none = some (l, h, m)) : m = cap := by
 simp only [jbp, jb0] at hb
 split at hb
 ·split at hb <;> simp at hb; exact hb.2.2.symm
 ·split at hb
  ·cases hb
  ·split at hb <;> simp at hb; exact hb.2.2.symm
def emptyAt (P : Program) : Value := .slice (some ⟨P.globals.size, 0, none⟩) 0 1
def isSome {α : Type} : Option α → Bool
 | some _ => true
 | none => false
def jbg (P : Program) (ρ : Operand → Value) (t : TypeId) (x : Operand) (lo hi mx : Option Operand) : Option Value :=
 match ρ x with
 | .slice (some a) len c => match P.underlying t with
   | some (.slice e) => match P.info? e with
     | some inf => match Nat.beq (Nat.mod c 2) 0 with
       | true => match jbp ρ len (Nat.div c 2) lo hi mx with
         | some (l, h, m) => some (.slice (some (match Nat.beq m l with | true => a | false => a.add (Nat.mul l inf.size))) (Nat.sub h l) (Nat.mul 2 (Nat.sub m l)))
         | none => none
       | false => match jbp ρ len len lo hi mx with
         | some (l, h, m) => match isSome mx with
           | true => some (.slice (some (match Nat.beq m l with | true => a | false => a.add (Nat.mul l inf.size))) (Nat.sub h l) (Nat.mul 2 (Nat.sub m l)))
           | false => match Nat.beq l 0 with
             | true => some (.slice (some a) h c)
             | false => match Nat.blt l len with
               | true => match Nat.beq (Nat.div c 2) inf.size with
                 | true => some (.slice (some (a.add (Nat.mul l inf.size))) (Nat.sub h l) c)
                 | false => none
               | false => some (emptyAt P)
         | none => none
     | none => none
   | _ => none
 | .pointer (some a) => match P.underlying t with
   | some (.array n e) => match P.info? e with
     | some inf => match jbp ρ n n lo hi mx with
       | some (l, h, m) => some (.slice (some (match Nat.beq m l with | true => a | false => a.add (Nat.mul l inf.size))) (Nat.sub h l) (Nat.mul 2 (Nat.sub m l)))
       | none => none
     | none => none
   | _ => none
 | .string s => match P.underlying t with
   | some .string => match mx with
     | some _ => none
     | none => match jbp ρ s.data.toList.length s.data.toList.length lo hi none with
       | some (l, h, _) => some (.string ⟨((s.data.toList.drop l).take (Nat.sub h l)).toArray⟩)
       | none => none
   | _ => none
 | .slice none l c => match Nat.beq (Nat.add l c) 0 with
   | true => match P.underlying t with
     | some (.slice e) => match P.info? e with
       | some _ => match jbp ρ 0 0 lo hi mx with
         | some _ => some (.slice none 0 0)
         | none => none
       | none => none
     | _ => none
   | false => none
 | _ => none
theorem jgQ {l c : Nat} {v : Value} (h : VRel J (.slice none l c) v) : v = .slice none l c := by
 cases h
 rfl
theorem jeZ {a a' : Addr} {i o b s : Nat} (ha : a = ⟨i, o, none⟩) (ha' : a' = ⟨b, o, none⟩) (hJ : J i = .at b s) {l h m z : Nat} :
  VRel J (.slice (some (match Nat.beq m l with | true => a | false => a.add (Nat.mul l z))) (Nat.sub h l) (Nat.mul 2 (Nat.sub m l)))
   (.slice (some (if m = l then a' else a'.add (l * z))) (h - l) (m - l)) := by
 subst ha ha'
 have hc : ∀ off, CapRel (2 * (m - l)) (m - l) (h - l) off s := fun off => .inl ⟨by omega, by omega⟩
 cases hb : Nat.beq m l with
 | true =>
   have : m = l := Nat.eq_of_beq_eq_true hb
   rw [if_pos this]
   exact .slice hJ (hc _)
 | false =>
   have : m ≠ l := Nat.ne_of_beq_eq_false hb
   rw [if_neg this]
   show VRel J (.slice (some (Addr.add _ (l * z))) _ _) _
   unfold Addr.add
   by_cases hz : l * z = 0
   ·rw [if_pos hz, if_pos hz]; exact .slice hJ (hc _)
   ·rw [if_neg hz, if_neg hz]; exact .slice hJ (hc _)
theorem jgc {a a' : Addr} (hJ : J a.block = .dead) {l h m z : Nat} :
  VRel J (.slice (some (match Nat.beq m l with | true => a | false => a.add (Nat.mul l z))) (Nat.sub h l) (Nat.mul 2 (Nat.sub m l)))
   (.slice (some (if m = l then a' else a'.add (l * z))) (h - l) (m - l)) := by
 refine .sliceDead _ _ ?_ (.inl ⟨by show (2 * (m - l)) % 2 = 0; omega, by show m - l = (2 * (m - l)) / 2; omega⟩)
 cases Nat.beq m l with
 | true => exact hJ
 | false => show J (Addr.add a _).block = _; unfold Addr.add; split <;> exact hJ
theorem add_dead {a : Addr} (hJ : J a.block = .dead) (n : Nat) : J (a.add n).block = .dead := by
 unfold Addr.add; split <;> exact hJ
theorem jhs {ρ ρ' : Operand → Value} (hρ : ∀ x, VRel J (ρ x) (ρ' x)) (hD : J P.globals.size = .dead) {o : Oper} {t : TypeId} {x : Operand} {lo hi mx : Option Operand} {v : Value}
  (ho : o.op = .slice t x lo hi mx) (h : jbg P ρ t x lo hi mx = some v) : Gives P J ρ' o v := by
 unfold jbg at h
 have hx := hρ x
 split at h
 ·rename_i a len c e
  rw [e] at hx
  obtain ⟨a', c', hx', _, hcase⟩ := jbm hx
  split at h
  ·rename_i el hu
   have hrun : ∀ {l hh m' : Nat} {inf : TypeInfo} (hinf : P.info? el = some inf) {w : World} (hr : (Instr.sliceBounds true len c' (lo.map ρ') (hi.map ρ') (mx.map ρ')).run P w = .ok (l, hh, m') w),
     (execOp ρ' o).run P w = .ok (.value (.slice (some (if m' = l then a' else a'.add (l * inf.size))) (hh - l) (m' - l))) w := by
    intro l hh m' inf hinf w hr
    simp only [execOp, ho, Instr.sliceAt, Sem.run_bind, jaF hu, Result.andThen_ok, hx', Instr.slice, hr, jba hinf, Sem.run_pure, Option.map_some]
    by_cases hml : m' = l
    ·rw [if_pos hml, if_pos hml]
    ·rw [if_neg hml, if_neg hml]
   split at h
   ·rename_i inf hinf
    split at h
    ·rename_i hcf
     have hcf' : c % 2 = 0 := Nat.eq_of_beq_eq_true hcf
     split at h
     ·rename_i l hh m hb
      cases h
      have hcc : c' = c / 2 := by
       rcases hcase with ⟨i, o', b, s, ha, ha', hJ, hcap⟩ | ⟨_, hcap⟩
       ·rcases hcap with ⟨_, e2⟩ | ⟨e2, _⟩
        ·exact e2
        ·omega
       ·rcases hcap with ⟨_, e2⟩ | ⟨e2, _⟩
        ·exact e2
        ·omega
      subst hcc
      have hr : ∀ w, (Instr.sliceBounds true len (c / 2) (lo.map ρ') (hi.map ρ') (mx.map ρ')).run P w = .ok (l, hh, m) w := by
       intro w
       obtain ⟨m', hr, h1, h2, _⟩ := jcm (P := P) hρ hb (Nat.le_refl (c / 2)) true w
       have hmm : m' = m := by
        cases mx with
        | none => exact (h2 rfl).trans (jfr hb).symm
        | some q => exact h1 rfl
       rw [hmm] at hr
       exact hr
      rcases hcase with ⟨i, o', b, s, ha, ha', hJ, hcap⟩ | ⟨hdead, _⟩
      ·exact ⟨_, jeZ ha ha' hJ, fun w => hrun hinf (hr w)⟩
      ·exact ⟨_, jgc hdead, fun w => hrun hinf (hr w)⟩
     ·cases h
    ·rename_i hcf
     have hcf' : c % 2 = 1 := by have : c % 2 ≠ 0 := Nat.ne_of_beq_eq_false hcf; omega
     have hlc : len ≤ c' := by
      rcases hcase with ⟨i, o', b, s, ha, ha', hJ, hcap⟩ | ⟨_, hcap⟩
      ·rcases hcap with ⟨e2, _⟩ | ⟨_, e2, _⟩
       ·omega
       ·exact e2
      ·rcases hcap with ⟨e2, _⟩ | ⟨_, e2⟩
       ·omega
       ·exact e2
     split at h
     ·rename_i l hh m hb
      obtain ⟨m0, _, _, _, hlh, hh1, hh2, hml⟩ := jcm (P := P) hρ hb hlc true default
      have hhl : hh ≤ len := by
       cases hi with
       | none => rw [hh1 rfl]; exact Nat.le_refl _
       | some q => exact Nat.le_trans (hh2 rfl) hml
      split at h
      ·rename_i hs
       cases h
       have hr : ∀ w, (Instr.sliceBounds true len c' (lo.map ρ') (hi.map ρ') (mx.map ρ')).run P w = .ok (l, hh, m) w := by
        intro w
        obtain ⟨m', hr, h1, h2, _⟩ := jcm (P := P) hρ hb hlc true w
        have hmm : m' = m := by
         cases mx with
         | none => cases hs
         | some q => exact h1 rfl
        rw [hmm] at hr
        exact hr
       rcases hcase with ⟨i, o', b, s, ha, ha', hJ, hcap⟩ | ⟨hdead, _⟩
       ·exact ⟨_, jeZ ha ha' hJ, fun w => hrun hinf (hr w)⟩
       ·exact ⟨_, jgc hdead, fun w => hrun hinf (hr w)⟩
      ·rename_i hs
       have hr : ∀ w, (Instr.sliceBounds true len c' (lo.map ρ') (hi.map ρ') (mx.map ρ')).run P w = .ok (l, hh, c') w := by
        intro w
        obtain ⟨m', hr, h1, h2, _⟩ := jcm (P := P) hρ hb hlc true w
        have hmm : m' = c' := by
         cases mx with
         | none => exact h2 rfl
         | some q => cases hs
        rw [hmm] at hr
        exact hr
       split at h
       ·rename_i hl0
        obtain rfl : l = 0 := Nat.eq_of_beq_eq_true hl0
        cases h
        have ea : (if c' = 0 then a' else a'.add (0 * inf.size)) = a' := by
         split
         ·rfl
         ·rw [Nat.zero_mul]; unfold Addr.add; rw [if_pos rfl]
        refine ⟨.slice (some a') hh c', ?_, fun w => by have := hrun hinf (hr w); rw [ea] at this; exact this⟩
        rcases hcase with ⟨i, o', b, s, ha, ha', hJ, hcap⟩ | ⟨hdead, hcap⟩
        ·subst ha ha'
         rcases hcap with ⟨e2, _⟩ | ⟨e1, e2, e3⟩
         ·omega
         ·exact .slice hJ (.inr ⟨e1, by omega, e3⟩)
        ·exact .sliceDead _ _ hdead (.inr ⟨hcf', by omega⟩)
       ·split at h
        ·rename_i hll
         have hll' : l < len := by simpa using hll
         split at h
         ·rename_i hes
          have hes' : c / 2 = inf.size := Nat.eq_of_beq_eq_true hes
          cases h
          have ea : (if c' = l then a' else a'.add (l * inf.size)) = a'.add (l * inf.size) := if_neg (by omega)
          refine ⟨.slice (some (a'.add (l * inf.size))) (hh - l) (c' - l), ?_, fun w => by have := hrun hinf (hr w); rw [ea] at this; exact this⟩
          rcases hcase with ⟨i, o', b, s, ha, ha', hJ, hcap⟩ | ⟨hdead, hcap⟩
          ·subst ha ha'
           rcases hcap with ⟨e2, _⟩ | ⟨e1, e2, e3⟩
           ·omega
           ·rw [hes'] at e3
            have key : ∀ x, x = o' + l * inf.size → CapRel c (c' - l) (hh - l) x s := by
             intro x hx
             refine .inr ⟨e1, by omega, ?_⟩
             rw [hes', hx, Nat.sub_mul]
             have : l * inf.size ≤ c' * inf.size := Nat.mul_le_mul_right _ (by omega)
             omega
            show VRel J (.slice (some (Addr.add _ (l * inf.size))) _ _) _
            unfold Addr.add
            by_cases hz : l * inf.size = 0
            ·rw [if_pos hz, if_pos hz]; exact .slice hJ (key _ (by omega))
            ·rw [if_neg hz, if_neg hz]; exact .slice hJ (key _ rfl)
          ·exact .sliceDead _ _ (add_dead hdead _) (.inr ⟨hcf', by show hh - l ≤ c' - l; omega⟩)
         ·cases h
        ·rename_i hll
         have hll' : ¬ l < len := fun hlt => by rw [show l.blt len = true from by simpa using hlt] at hll; cases hll
         cases h
         have e0 : hh - l = 0 := by omega
         refine ⟨.slice (some (if c' = l then a' else a'.add (l * inf.size))) 0 (c' - l), .sliceDead _ _ hD (.inr ⟨rfl, Nat.zero_le _⟩), fun w => by
          have := hrun hinf (hr w); rw [e0] at this; exact this⟩
     ·cases h
   ·cases h
  ·cases h
 ·rename_i a e
  rw [e] at hx
  split at h
  ·rename_i n el hu
   split at h
   ·rename_i inf hinf
    ·split at h
     ·rename_i l hh m hb
      cases h
      obtain ⟨a', hx', _⟩ := jdh hx
      have hr : ∀ w, (Instr.sliceBounds false n n (lo.map ρ') (hi.map ρ') (mx.map ρ')).run P w = .ok (l, hh, m) w := by
       intro w
       obtain ⟨m', hr, h1, h2, _⟩ := jcm (P := P) hρ hb (Nat.le_refl n) false w
       have hmm : m' = m := by
        cases mx with
        | none => exact (h2 rfl).trans (jfr hb).symm
        | some q => exact h1 rfl
       rw [hmm] at hr
       exact hr
      have hrun : ∀ w, (execOp ρ' o).run P w = .ok (.value (.slice (some (if m = l then a' else a'.add (l * inf.size))) (hh - l) (m - l))) w := by
       intro w
       simp only [execOp, ho, Instr.sliceAt, Sem.run_bind, jaF hu, Result.andThen_ok, hx', Instr.sureAddr, hr w, jba hinf, Sem.run_pure]
      rw [hx'] at hx
      cases hx with
      | ptr hJ => exact ⟨_, jeZ rfl rfl hJ, hrun⟩
      | ptrDead _ hdead => exact ⟨_, jgc hdead, hrun⟩
     ·cases h
   ·cases h
  ·cases h
 ·rename_i s e
  rw [e] at hx
  split at h
  ·rename_i hu
   split at h
   ·cases h
   ·split at h
    ·rename_i l hh m hb
     cases h
     have hlen : s.data.toList.length = s.size := by rw [Array.length_toList]; rfl
     rw [hlen] at hb
     refine ⟨_, .string _, fun w => ?_⟩
     obtain ⟨m', hr, h1, h2, hlh, _⟩ := jcm (P := P) hρ hb (Nat.le_refl _) false w
     simp only [Option.map_none] at hr
     have ex : s.extract l hh = ⟨((s.data.toList.drop l).take (Nat.sub hh l)).toArray⟩ := by
      apply ByteArray.ext
      rw [ByteArray.data_extract]
      apply Array.ext'
      rw [Array.toList_extract]
      rfl
     simp only [execOp, ho, Instr.sliceAt, Sem.run_bind, jaF hu, Result.andThen_ok, jbq hx, Instr.slice, Option.map_none, Option.isSome_none, Bool.false_eq_true, if_false, hr, Sem.run_pure, ex]
    ·cases h
  ·cases h
 ·rename_i l0 c0 e
  rw [e] at hx
  have hx' : ρ' x = .slice none l0 c0 := jgQ hx
  split at h
  ·rename_i hz
   have hz' : l0 + c0 = 0 := Nat.eq_of_beq_eq_true hz
   obtain rfl : l0 = 0 := by omega
   obtain rfl : c0 = 0 := by omega
   split at h
   ·rename_i el hu
    split at h
    ·rename_i inf hinf
     split at h
     ·rename_i r hb
      cases h
      obtain ⟨l, hh, m⟩ := r
      refine ⟨.slice none 0 0, .sliceNil 0 0, fun w => ?_⟩
      obtain ⟨m', hr, h1, h2, hlh, hh1, hh2, hml⟩ := jcm (P := P) hρ hb (Nat.le_refl 0) true w
      obtain rfl : m = 0 := by omega
      obtain rfl : hh = 0 := by
       rcases hi with _ | q
       ·exact hh1 rfl
       ·exact Nat.le_zero.1 (hh2 rfl)
      obtain rfl : l = 0 := by omega
      obtain rfl : m' = 0 := by
       rcases mx with _ | q
       ·exact h2 rfl
       ·exact h1 rfl
      simp only [execOp, ho, Instr.sliceAt, Sem.run_bind, jaF hu, Result.andThen_ok, hx', Instr.slice, hr, jba hinf, Sem.run_pure, if_true]
     ·cases h
    ·cases h
   ·cases h
  ·cases h
 ·cases h
end
end Go.Proofs.YtnafmgiaifbhgaaGreatDoor.Ev
