/-
  The evaluator, part P: append as an operation, steps of an iterator, texts over bytes. No conditions.
-/
import Derived.Test.YtnafmgiaifbhgaaGreatDoorEvO
import Derived.Lib.UnsafeStr
set_option linter.unusedSimpArgs false
set_option linter.unusedVariables false
namespace Go.Proofs.YtnafmgiaifbhgaaGreatDoor.Ev
noncomputable section
variable {P : Program} {J : Nat → Loc}
theorem jgI {ρ ρ' : Operand → Value} (hρ : ∀ x, VRel J (ρ x) (ρ' x)) {μ : Mem} {w : World} (h : Rel J μ w) {o : Oper} {c : Call} {st xt : TypeId} {r : List TypeId} {x y : Operand} {v : Value} {μ' : Mem} (ho : o.op = .call c)
  (hc : c.callee = .builtin .append) (ha : c.args.toList = [x, y]) (ht : c.argTypes.toList = st :: xt :: r) (hs : jbk P μ st xt (ρ x) (ρ y) = some (v, μ')) : jfP P J ρ' o μ w v μ' := by
 have h0 : c.argTypes[0]? = some st := by rw [← Array.getElem?_toList, ht]; rfl
 have h1 : c.argTypes[1]? = some xt := by rw [← Array.getElem?_toList, ht]; rfl
 unfold jbk at hs
 split at hs
 ·rename_i e hu
  split at hs
  ·cases hs
  ·rename_i inf hinf
   split at hs
   ·cases hs
   ·rename_i hb
    split at hs
    ·cases hs
    ·rename_i z hz
     split at hs
     ·cases hs
     ·rename_i hzs
      split at hs
      ·cases hs
      ·rename_i hux
       split at hs
       ·cases hs
       ·rename_i n hn
        split at hs
        ·cases hs
        ·rename_i hn2
         split at hs
         ·cases hs
         ·rename_i news hnew
          split at hs
          ·cases hs
          ·rename_i hnl
           have hzc : z.cells.size = inf.size := by
            have : (ja2 z).length = inf.size := Nat.eq_of_beq_eq_true hzs
            rw [jhh] at this; simpa using this
           have hux' : (∃ e2, P.underlying xt = some (.slice e2)) ∨ P.underlying xt = some .string := by
            split at hux
            ·rename_i e2 he2; exact .inl ⟨e2, he2⟩
            ·rename_i he2; exact .inr he2
            ·cases hux
           have A : AppArgs P c st xt e inf z := ⟨h0, h1, hu, hinf, hux', hz, hzc, Nat.le_of_ble_eq_true hb⟩
           obtain ⟨J', v', w', r1, r2, r3, r4⟩ := jfB h A (ty := o.type) (hρ x) (hρ y) hn (Nat.le_of_ble_eq_true hn2) hnew (Nat.eq_of_beq_eq_true hnl) hs
           refine ⟨J', v', w', .inl ?_, r2, r3, r4⟩
           rw [jcl ho hc, jdN ha]
           simp only [builtin, Sem.run_bind, r1, Result.andThen_ok, Sem.run_pure]
 ·cases hs
def jii (μ : Mem) (v : Value) : Option (Value × Mem) :=
 match v with
 | .pointer (some ⟨i, 0, none⟩) => match μ.obs.get i with
   | some (.siter s pos) => match Nat.blt pos s.data.toList.length with
     | true => some (.tuple #[.bool true, .int .i64 pos, .int .i32 (Utf8.decode s pos).1], ⟨μ.obs.set i (.siter s (Nat.add pos (Utf8.decode s pos).2)), μ.next⟩)
     | false => some (.tuple #[.bool false], μ)
   | _ => none
 | _ => none
theorem jgY {i b s o : Nat} {p : Value} (hb : J i = .at b s) (h : VRel J (.pointer (some ⟨i, o, none⟩)) p) : p = .pointer (some ⟨b, o, none⟩) := by
 cases h with
 | ptr e => rw [hb] at e; cases e; rfl
 | ptrDead a' e => rw [show J i = _ from hb] at e; cases e
theorem heap_set {w : World} {b : Nat} {o : Obj} (h : b < w.heap.size) : ({ w with heap := w.heap.setIfInBounds b o } : World).heap[b]? = some o ∧
  (∀ c, c ≠ b → ({ w with heap := w.heap.setIfInBounds b o } : World).heap[c]? = w.heap[c]?) ∧ ({ w with heap := w.heap.setIfInBounds b o } : World).heap.size = w.heap.size := by
 refine ⟨by simp [h], fun c hc => ?_, by simp⟩
 simp only [Array.getElem?_setIfInBounds]
 rw [if_neg (fun e => hc e.symm)]
theorem jih {ρ ρ' : Operand → Value} (hρ : ∀ x, VRel J (ρ x) (ρ' x)) {μ : Mem} {w : World} (h : Rel J μ w) {o : Oper} {x : Operand} {v : Value} {μ' : Mem} (ho : o.op = .next x true)
  (hs : jii μ (ρ x) = some (v, μ')) : jfP P J ρ' o μ w v μ' := by
 have hx := hρ x
 unfold jii at hs
 split at hs
 ·rename_i i e
  rw [e] at hx
  split at hs
  ·rename_i s pos hob
   obtain ⟨b, sz, hb, hr⟩ := h.obj i _ hob (by simp)
   have hx' := jgY hb hx
   have hlen : s.data.toList.length = s.size := by rw [Array.length_toList]; rfl
   rw [hlen] at hs
   have hget : (getObj b).run P w = .ok (.stringIter s pos) w := by
    have hr' : w.heap[b]? = some (.stringIter s pos) := hr
    simp [getObj, Sem.run, hr']
   split at hs
   ·rename_i hlt
    have hlt' : pos < s.size := by simpa using hlt
    cases hs
    have hbl : b < w.heap.size := h.bnd _ _ _ hb
    obtain ⟨g1, g2, g3⟩ := heap_set (w := w) (o := .stringIter s (pos + (Utf8.decode s pos).2)) hbl
    have hset : (setObj b (.stringIter s (pos + (Utf8.decode s pos).2))).run P w = .ok () { w with heap := w.heap.setIfInBounds b (.stringIter s (pos + (Utf8.decode s pos).2)) } := by
     have hr' : w.heap[b]? = some (.stringIter s pos) := hr
     simp [setObj, Sem.run, hr']
    have hp : ¬ gone μ i := fun hg => by have := hg _ hob; cases this
    refine ⟨J, .tuple #[.bool true, .int .i64 pos, .int .i32 (Utf8.decode s pos).1], _, .inl ?_, jbr 5 rfl, h.update hb (.siter s (Nat.add pos (Utf8.decode s pos).2)) g3 g2 g1, Step.update hb hp _ g3 g2 rfl rfl rfl⟩
    simp only [execOp, ho, Instr.next, hx', Sem.run_bind, hget, Result.andThen_ok, if_pos hlt', hset, Sem.run_pure, goInt]
   ·rename_i hlt
    have hlt' : ¬ pos < s.size := fun hh => by rw [show Nat.blt pos s.size = true from by simpa using hh] at hlt; cases hlt
    cases hs
    refine ⟨J, .tuple #[.bool false], w, .inl ?_, jbr 5 rfl, h, Step.refl _ _ _⟩
    simp only [execOp, ho, Instr.next, hx', Sem.run_bind, hget, Result.andThen_ok, if_neg hlt', Sem.run_pure]
  ·cases hs
 ·cases hs
def jc4 : List Value → Option (List UInt8)
 | [] => some []
 | .int .u8 (.ofNat k) :: r => match Nat.blt k 256 with
   | true => match jc4 r with
     | some l => some (UInt8.ofNat k :: l)
     | none => none
   | false => none
 | _ :: _ => none
theorem jib : ∀ (vs : List Value) (l : List UInt8), jc4 vs = some l → vs.length = l.length ∧ ∀ (j : Nat) x, l[j]? = some x → vs[j]? = some (.int .u8 x.toNat) := by
 intro vs
 induction vs with
 | nil => intro l h; simp only [jc4] at h; cases h; exact ⟨rfl, fun j x hx => by simp at hx⟩
 | cons v vs ih =>
   intro l h
   unfold jc4 at h
   split at h
   ·rename_i e; cases e
   ·rename_i k r e
    cases e
    split at h
    ·rename_i hk
     have hk' : k < 256 := by simpa using hk
     split at h
     ·rename_i l' hl
      cases h
      obtain ⟨h1, h2⟩ := ih _ hl
      refine ⟨by simp [h1], fun j x hx => ?_⟩
      cases j with
      | zero =>
        simp at hx
        subst hx
        have : (UInt8.ofNat k).toNat = k := by simp; omega
        simp [this]
      | succ j => simp at hx ⊢; exact h2 j x hx
     ·cases h
    ·cases h
   ·cases h
def jcg (P : Program) (μ : Mem) (pt : TypeId) (p n : Value) : Option (Value × Mem) :=
 match n with
 | .int .i64 (.ofNat m) => match m with
   | 0 => match p with
     | .pointer _ => some (.string .empty, μ)
     | _ => none
   | _ => match p with
     | .pointer (some ⟨i, 0, none⟩) => match μ.obs.get i with
       | some (.cells k te zero over lo hi fx false) => match P.underlying pt with
         | some (.pointer e) => match Nat.beq te e with
           | false => none
           | true => match Nat.beq (P.cellsOf e) 1 with
             | false => none
             | true => match Nat.ble m k with
               | false => none
               | true => match Nat.ble m 1073741824 with
                 | false => none
                 | true => match jc4 (jaE zero over 0 m) with
                   | none => none
                   | some l => some (.string ⟨l.toArray⟩, ⟨μ.obs.set i (.cells k te zero over 0 (match Nat.blt lo hi with | true => Nat.max hi m | false => m) fx false), μ.next⟩)
         | _ => none
       | _ => none
     | _ => none
 | _ => none
theorem jdR {ρ ρ' : Operand → Value} (hρ : ∀ x, VRel J (ρ x) (ρ' x)) {μ : Mem} {w : World} (h : Rel J μ w) {o : Oper} {c : Call} {pt it : TypeId} {x y : Operand} {v : Value} {μ' : Mem} (ho : o.op = .call c)
  (hc : c.callee = .builtin .unsafeString) (ha : c.args.toList = [x, y]) (ht : c.argTypes.toList = [pt, it]) (hs : jcg P μ pt (ρ x) (ρ y) = some (v, μ')) : jfP P J ρ' o μ w v μ' := by
 have hx := hρ x
 have hy := hρ y
 have hts : c.argTypes = #[pt, it] := by cases hq : c.argTypes; rw [hq] at ht; simp at ht; rw [ht]
 unfold jcg at hs
 split at hs
 ·rename_i m e
  rw [e] at hy
  have hy' : ρ' y = .int .i64 (m : Int) := jbc hy
  split at hs
  ·split at hs
   ·rename_i a e2
    cases hs
    rw [e2] at hx
    refine ⟨J, _, w, .inl ?_, .string _, h, Step.refl _ _ _⟩
    rw [jcl ho hc, jdN ha, hts, hy']
    have hp : ∃ p, ρ' x = .pointer p := by
     generalize ρ' x = q at hx
     cases hx with
     | ptrNil => exact ⟨_, rfl⟩
     | ptr _ => exact ⟨_, rfl⟩
     | ptrDead a' _ => exact ⟨_, rfl⟩
    obtain ⟨p, hp⟩ := hp
    rw [hp]
    simp only [builtin, Sem.run_bind]
    rw [show ((0 : Nat) : Int) = 0 from rfl, Lib.run_unsafeString_none]
    rfl
   ·cases hs
  ·rename_i hm0
   have hm0' : m ≠ 0 := fun e => hm0 (by omega)
   split at hs
   ·rename_i i e2
    rw [e2] at hx
    split at hs
    ·rename_i k te zero over lo hi fx hob
     split at hs
     ·rename_i el hpt
      split at hs
      ·cases hs
      ·rename_i hte
       obtain rfl : te = el := Nat.eq_of_beq_eq_true hte
       split at hs
       ·cases hs
       ·rename_i hc1
        have hc1' : P.cellsOf te = 1 := Nat.eq_of_beq_eq_true hc1
        split at hs
        ·cases hs
        ·rename_i hmk
         have hmk' : m ≤ k := Nat.le_of_ble_eq_true hmk
         split at hs
         ·cases hs
         ·rename_i hmb
          have hmb' : m ≤ 1073741824 := Nat.le_of_ble_eq_true hmb
          split at hs
          ·cases hs
          ·rename_i l hl
           cases hs
           obtain ⟨b, sz, hb, hr, hcells⟩ := cell_of h hob
           have hx' := jgY hb hx
           obtain ⟨hl1, hl2⟩ := jib _ _ hl
           have hlm : l.length = m := by rw [← hl1, jbe]
           obtain ⟨cc, fz, h1, h2, h3, h4, h5, h6⟩ := hr
           have hsh : w.shape? b = some (te, cc.size) := by simp [World.shape?, h1]
           have hcell : ∀ (j : Nat) x, l[j]? = some x → w.cell? ((⟨b, 0, none⟩ : Addr).add j) = some (.int .u8 x.toNat) := by
            intro j x hjx
            have hj : j < m := by rw [← hlm]; exact (List.getElem?_eq_some_iff.1 hjx).1
            have hv := hl2 j x hjx
            rw [jc3 _ _ _ hj, Option.some.injEq, Nat.zero_add] at hv
            obtain ⟨y, hy1, hy2⟩ := hcells j (by omega)
            rw [hv] at hy2
            rw [jf5, Nat.zero_add, hy1, jbc hy2]
           have hrun := Lib.run_unsafeString_row (P := P) (w := w) pt it o.type te hpt hc1' b cc.size hsh l (fun e => by rw [e] at hlm; simp at hlm; omega) (by omega) (by omega) hcell
           have hw' : (w.freeze ⟨b, 0, none⟩ l.length).heap[b]? = some (.cells cc te (if fz.1 == fz.2 then (0, m) else (min fz.1 0, max fz.2 m))) := by
            unfold World.freeze
            rw [if_neg (by omega), hlm]
            obtain ⟨f1, f2⟩ := fz
            simp [Array.getElem?_modify, h1]
           have hoth : ∀ q, q ≠ b → (w.freeze ⟨b, 0, none⟩ l.length).heap[q]? = w.heap[q]? := by
            intro q hq
            unfold World.freeze
            rw [if_neg (by omega)]
            simp only [Array.getElem?_modify]
            rw [if_neg (fun e => hq e.symm)]
           have hsz : (w.freeze ⟨b, 0, none⟩ l.length).heap.size = w.heap.size := by
            unfold World.freeze
            rw [if_neg (by omega)]
            simp
           have hp : ¬ gone μ i := fun hg => by have := hg _ hob; cases this
           have hnew : ObRel J (w.freeze ⟨b, 0, none⟩ l.length) b sz (.cells k te zero over 0 (match Nat.blt lo hi with | true => Nat.max hi m | false => m) fx false) := by
            refine ⟨cc, _, hw', h2, h3, h4, h5, ?_⟩
            rcases h6 with h6 | ⟨h6, _⟩ | ⟨g1, g2, g3⟩
            ·rw [if_pos (by simpa using h6)]
             refine .inr (.inr ⟨Nat.zero_le _, ?_, ?_⟩)
             ·split
              ·exact Nat.le_max_right _ _
              ·exact Nat.le_refl _
             ·split
              ·exact Nat.lt_of_lt_of_le (by omega) (Nat.le_max_right hi m)
              ·omega
            ·cases h6
            ·have hb2 : Nat.blt lo hi = true := by simpa using g3
             rw [hb2]
             split
             ·exact .inr (.inr ⟨Nat.zero_le _, Nat.le_max_right _ _, Nat.lt_of_lt_of_le (by omega) (Nat.le_max_right hi m)⟩)
             ·refine .inr (.inr ⟨Nat.zero_le _, ?_, Nat.lt_of_lt_of_le (by omega) (Nat.le_max_right hi m)⟩)
              show max fz.2 m ≤ max hi m
              omega
           refine ⟨J, _, _, .inl ?_, .string _, h.update hb _ hsz hoth hnew, Step.update hb hp _ hsz hoth ?_ ?_ ?_⟩
           ·rw [jcl ho hc, jdN ha, hts, hx', hy']
            rw [hlm] at hrun
            simp only [builtin, Sem.run_bind, hrun, Result.andThen_ok, Sem.run_pure, hlm]
           ·unfold World.freeze; rw [if_neg (by omega)]
           ·unfold World.freeze; rw [if_neg (by omega)]
           ·unfold World.freeze; rw [if_neg (by omega)]
     ·cases hs
    ·cases hs
   ·cases hs
 ·cases hs
end
end Go.Proofs.YtnafmgiaifbhgaaGreatDoor.Ev
