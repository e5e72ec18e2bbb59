/-
  The evaluator, part Ze: a run over one block that was handed in, and laid variables.
-/
import Derived.Test.YtfcpiamdmbliaaaGreatDoorEvZd
set_option linter.unusedSimpArgs false
set_option linter.unusedVariables false
namespace Go.Proofs.YtfcpiamdmbliaaaGreatDoor.Ev
noncomputable section
variable {P : Program}

/-- where what is known lies: laid variables, and one block under a number of its own -/
def heldLoc (nx : Nat) (roms : List (Nat × List Value × TypeId)) (ι : Nat → Nat) (h b : Nat) : Nat → Loc := fun i => if i = h then .at b 0 else romLoc nx roms ι i

theorem held_calls {X : FuncId → List Value → Mem → Option (Value × Mem)} (hN : Named P) (hX : XOk P X) (hm : P.follows .mixedOrders = true) {S : List (FuncId × LK)} (hS : SumsOk P S) {k : Nat} {g : FuncId} {nx : Nat} (hnx : P.globals.size < nx)
    (roms : List (Nat × List Value × TypeId)) (hlt : roms.all (fun x => Nat.blt x.1 P.globals.size && x.2.1.all (plainV 5)) = true) (hkn : roms.all (fun x => !isOpn x.2.1) = true) {W : World} (hW : ∀ x ∈ roms, RomAt W x)
    {hid b : Nat} {c : Array Value} {t : TypeId} {fz : Nat × Nat} (hb : W.heap[b]? = some (.cells c t fz)) (hh : P.globals.size < hid) (hh2 : hid < nx) (hbr : ∀ x ∈ roms, x.1 ≠ b) {args : List Value} {args' : Array Value}
    (ha : ∀ J, J hid = .at b 0 → ARel J args.toArray args') {v : Value} {μ' : Mem}
    (hrun : aFun P (aCode P X S k) g args ⟨(romObs roms).set hid (.held c t fz), nx⟩ = some (v, μ')) (hkept : romKept μ' roms = true) (hkh : μ'.obs.get hid = some (.held c t fz)) (hpv : plainV 5 v = true) :
    Calls P g args' W fun e W' => e = .returned v ∧ Same W W' := by
  have hglob : ∀ x ∈ roms, x.1 < P.globals.size ∧ ∀ v ∈ x.2.1, plainV 5 v = true := fun x hx => by
    have := List.all_eq_true.1 hlt x hx
    simp only [Bool.and_eq_true] at this
    exact ⟨by simpa using this.1, fun v hv => List.all_eq_true.1 this.2 v hv⟩
  have hfind : ∀ {i : Nat} {x : Nat × List Value × TypeId}, roms.find? (fun x => Nat.beq x.1 i) = some x → x ∈ roms ∧ x.1 = i := fun {i x} hf => by
    have := List.find?_some hf
    exact ⟨List.mem_of_find?_eq_some hf, Nat.eq_of_beq_eq_true (by simpa using this)⟩
  have hno : ∀ x ∈ roms, isOpn x.2.1 = false := fun x hx => by
    have := List.all_eq_true.1 hkn x hx
    simpa using this
  have hnf : ∀ i, P.globals.size ≤ i → roms.find? (fun x => Nat.beq x.1 i) = none := fun i hi => by
    cases hf : roms.find? (fun x => Nat.beq x.1 i) with
    | none => rfl
    | some x =>
      obtain ⟨h1, h2⟩ := hfind hf
      have := (hglob x h1).1
      omega
  have hJh : heldLoc nx roms (fun _ => 0) hid b hid = .at b 0 := if_pos rfl
  have hJo : ∀ {i : Nat}, i ≠ hid → heldLoc nx roms (fun _ => 0) hid b i = romLoc nx roms (fun _ => 0) i := fun h => if_neg h
  have hloc : ∀ i b2 s, romLoc nx roms (fun _ => 0) i = .at b2 s → ∃ x ∈ roms, x.1 = i ∧ b2 = i := fun i b2 s e => by
    unfold romLoc at e
    split at e
    · rename_i x hf
      obtain ⟨h1, h2⟩ := hfind hf
      cases e
      exact ⟨x, h1, h2, h2⟩
    · unfold noneKnown at e; split at e <;> cases e
  have hJr : ∀ x ∈ roms, heldLoc nx roms (fun _ => 0) hid b x.1 = .at x.1 0 := fun x hx => by
    rw [hJo (by have := (hglob x hx).1; omega)]
    unfold romLoc
    cases hf : roms.find? (fun y => Nat.beq y.1 x.1) with
    | some y => simp only [(hfind hf).2]
    | none =>
      have := List.find?_eq_none.1 hf x hx
      simp at this
  have hr : Rel (heldLoc nx roms (fun _ => 0) hid b) ⟨(romObs roms).set hid (.held c t fz), nx⟩ W := by
    refine ⟨fun i j b2 s t2 e1 e2 => ?_, fun i b2 s e => ?_, fun i hi => ?_, fun i o ho _ => ?_⟩
    · by_cases h1 : i = hid
      · by_cases h2 : j = hid
        · rw [h1, h2]
        · subst h1
          rw [hJh] at e1; cases e1
          rw [hJo h2] at e2
          obtain ⟨x, hx, g1, g2⟩ := hloc _ _ _ e2
          exact absurd (g1.trans g2.symm) (hbr x hx)
      · by_cases h2 : j = hid
        · subst h2
          rw [hJh] at e2; cases e2
          rw [hJo h1] at e1
          obtain ⟨x, hx, g1, g2⟩ := hloc _ _ _ e1
          exact absurd (g1.trans g2.symm) (hbr x hx)
        · rw [hJo h1] at e1; rw [hJo h2] at e2
          obtain ⟨_, _, _, g1⟩ := hloc _ _ _ e1
          obtain ⟨_, _, _, g2⟩ := hloc _ _ _ e2
          omega
    · by_cases h1 : i = hid
      · subst h1; rw [hJh] at e; cases e; exact (Array.getElem?_eq_some_iff.1 hb).1
      · rw [hJo h1] at e
        obtain ⟨x, hx, g1, g2⟩ := hloc _ _ _ e
        have := (Array.getElem?_eq_some_iff.1 ((hW x hx).known (hno x hx))).1
        omega
    · have hi' : nx ≤ i := hi
      rw [hJo (by omega)]
      unfold romLoc
      rw [hnf i (by omega)]
      exact if_neg (by omega)
    · simp only [T.get_set] at ho
      by_cases h1 : i = hid
      · rw [if_pos h1] at ho; cases ho; subst h1; exact ⟨b, 0, hJh, hb⟩
      · rw [if_neg h1, romObs_get] at ho
        split at ho
        · rename_i x hf
          cases ho
          obtain ⟨g1, g2⟩ := hfind hf
          subst g2
          refine ⟨x.1, 0, hJr x g1, ?_⟩
          unfold romOb
          rw [hno x g1]
          exact ⟨(hW x g1).known (hno x g1), fun v hv => plain_refl 5 ((hglob x g1).2 v hv)⟩
        · cases ho
  have hB : Base P (heldLoc nx roms (fun _ => 0) hid b) := by
    refine ⟨fun g hg => ?_, ?_⟩
    · unfold Lives
      rw [hJo (by omega)]
      unfold romLoc
      cases hf : roms.find? (fun x => Nat.beq x.1 g) with
      | some x =>
        obtain ⟨h1, h2⟩ := hfind hf
        exact .inl ⟨0, by simp only [h2]⟩
      | none => exact .inr (if_pos (Nat.lt_trans hg hnx))
    · rw [hJo (by omega)]
      unfold romLoc
      rw [hnf _ (Nat.le_refl _)]
      exact if_pos hnx
  refine callsIn_wide.1 (fun_ok (code_ok hN hX hm hS k).1 g args _ _ μ' hrun _ W args' hr hB (ha _ hJh) 0 _ fun J' v' w' h1 h2 h3 => ?_)
  refine ⟨by rw [plain_eq 5 hpv h1], h3.os, h3.output, h3.size, fun b2 hb2 => ?_, h3.tape⟩
  by_cases hbh : b2 = b
  · subst hbh
    obtain ⟨b3, s3, hJ, hob⟩ := h2.obj _ _ hkh (by simp)
    rcases h3.at_ _ _ _ hJh with e | ⟨e, _⟩
    · rw [e] at hJ; cases hJ
      have hob' : w'.heap[b2]? = _ := hob
      rw [hob', hb]
    · rw [e] at hJ; cases hJ
  · by_cases hbr2 : ∃ x ∈ roms, x.1 = b2
    · obtain ⟨x, hx, hxb⟩ := hbr2
      have hk := List.all_eq_true.1 hkept x hx
      split at hk
      · rename_i l t2 hob
        split at hk
        · cases hk
        · simp only [Bool.and_eq_true] at hk
          have e1 : l = x.2.1 := veqs_eq (veq_eq 5) _ _ hk.1
          have e2 : t2 = x.2.2 := Nat.eq_of_beq_eq_true hk.2
          subst e1 e2
          obtain ⟨b3, s3, hJ, hc, _⟩ := h2.obj _ _ hob (by simp)
          rcases h3.at_ _ _ _ (hJr x hx) with e | ⟨e, _⟩
          · rw [e] at hJ; cases hJ
            rw [← hxb, hc, (hW x hx).known (hno x hx)]
          · rw [e] at hJ; cases hJ
      · rename_i t2 hob
        simp only [Bool.and_eq_true] at hk
        rw [hno x hx] at hk
        exact absurd hk.1 (by simp)
      · cases hk
    · refine h3.frame b2 hb2 fun i s e => ?_
      by_cases h1 : i = hid
      · subst h1; rw [hJh] at e; cases e; exact absurd rfl hbh
      · rw [hJo h1] at e
        obtain ⟨x, hx, g1, g2⟩ := hloc _ _ _ e
        exact absurd ⟨x, hx, by omega⟩ hbr2

/-- a run where nothing is known of what lies there -/
theorem dead_calls {X : FuncId → List Value → Mem → Option (Value × Mem)} (hN : Named P) (hX : XOk P X) (hm : P.follows .mixedOrders = true) {S : List (FuncId × LK)} (hS : SumsOk P S) {k : Nat} {g : FuncId} {nx : Nat} (hnx : P.globals.size < nx) {W : World} {args : List Value} {args' : Array Value}
    (ha : ARel (noneKnown nx) args.toArray args') {v : Value} {μ' : Mem} (hrun : aFun P (aCode P X S k) g args ⟨.e, nx⟩ = some (v, μ')) (hpv : plainV 5 v = true) : Calls P g args' W fun e W' => e = .returned v ∧ Same W W' := by
  have hnone : ∀ i b s, noneKnown nx i ≠ .at b s := fun i b s e => by unfold noneKnown at e; split at e <;> cases e
  have hr : Rel (noneKnown nx) ⟨.e, nx⟩ W := ⟨fun i j b s t e _ => absurd e (hnone _ _ _), fun i b s e => absurd e (hnone _ _ _), fun i hi => if_neg (Nat.not_lt.2 hi), fun i o ho _ => by simp [T.get_e] at ho⟩
  have hB : Base P (noneKnown nx) := ⟨fun g hg => .inr (if_pos (Nat.lt_trans hg hnx)), if_pos hnx⟩
  refine callsIn_wide.1 (fun_ok (code_ok hN hX hm hS k).1 g args _ v μ' hrun _ W args' hr hB ha 0 _ fun J' v' w' h1 h2 h3 => ?_)
  exact ⟨by rw [plain_eq 5 hpv h1], h3.os, h3.output, h3.size, fun b hb => h3.frame b hb (fun i s e => absurd e (hnone _ _ _)), h3.tape⟩

theorem arel_single {J : Nat → Loc} {v v' : Value} (h : VRel J v v') : ARel J [v].toArray #[v'] := ⟨rfl, fun i a b ha hb => by
  match i with
  | 0 => simp at ha hb; subst ha hb; exact h
  | i + 1 => simp at ha⟩
end
end Go.Proofs.YtfcpiamdmbliaaaGreatDoor.Ev
