/-
  The evaluator, part Zd: a run without arguments over variables that are laid as arrays of numbers.
-/
import Derived.Test.YtnafmgiaifbhgaaGreatDoorEvZc
import Derived.Lib.LaidU8
import Derived.OpenShut
import Derived.ChangeArms
import Derived.MakeChecks
set_option linter.unusedSimpArgs false
set_option linter.unusedVariables false
namespace Go.Proofs.YtnafmgiaifbhgaaGreatDoor.Ev
noncomputable section
variable {P : Program}
def flatL : Nat → DataW Unit → Option (List Value)
 | 0, _ => none
 | _ + 1, .lit l => some [l.value]
 | n + 1, .agg ds => go n ds
 | _ + 1, _ => none
 where
 go (n : Nat) : List (DataW Unit) → Option (List Value)
  | [] => some []
  | d :: r => match flatL n d with
    | none => none
    | some x => match go n r with
      | none => none
      | some y => some (x ++ y)
def jeO (P : Program) (g : TypeId → Bool) : Nat → List Field → Bool
 | _, [] => true
 | i, f :: r => (Nat.beq f.offset i && (Nat.beq (P.cellsOf f.type) 1 && g f.type)) && jeO P g (Nat.add i 1) r
theorem jgr {g : TypeId → Bool} : ∀ (fs : List Field) (i : Nat), jeO P g i fs = true → ∀ (j : Nat) f, fs[j]? = some f → f.offset = i + j ∧ P.cellsOf f.type = 1 ∧ g f.type = true := by
 intro fs
 induction fs with
 | nil => intro i _ j f h; simp at h
 | cons x fs ih =>
   intro i h j f hj
   simp only [jeO, Bool.and_eq_true] at h
   obtain ⟨⟨h1, h2, h3⟩, h4⟩ := h
   match j with
   | 0 => simp at hj; subst hj; exact ⟨by have := Nat.eq_of_beq_eq_true h1; omega, Nat.eq_of_beq_eq_true h2, h3⟩
   | j + 1 =>
     obtain ⟨a, b, c⟩ := ih (i + 1) h4 j f (by simpa using hj)
     exact ⟨by omega, b, c⟩
def jh5 (P : Program) : Nat → TypeId → Bool
 | 0, _ => false
 | k + 1, t => match P.underlying t with
   | some (.int _) => true
   | some .bool => true
   | some .string => true
   | some (.float _) => true
   | some (.array n e) => Nat.beq (P.cellsOf t) (Nat.mul n (P.cellsOf e)) && jh5 P k e
   | some (.struct fs) => Nat.beq (P.cellsOf t) fs.toList.length && jeO P (jh5 P k) 0 fs.toList
   | _ => false
theorem jiF {n : Nat} : ∀ (ds : List (DataW Unit)) (vs : List Value), flatL.go n ds = some vs → ∃ vss : List (List Value), vs = vss.flatten ∧ vss.length = ds.length ∧ ∀ (i : Nat) d, ds[i]? = some d → ∃ x, vss[i]? = some x ∧ flatL n d = some x := by
 intro ds
 induction ds with
 | nil => intro vs h; simp only [flatL.go] at h; cases h; exact ⟨[], rfl, rfl, fun i d h => by simp at h⟩
 | cons d ds ih =>
   intro vs h
   simp only [flatL.go] at h
   split at h
   ·cases h
   ·rename_i x hx
    split at h
    ·cases h
    ·rename_i y hy
     cases h
     obtain ⟨vss, e1, e2, e3⟩ := ih y hy
     refine ⟨x :: vss, by simp [e1], by simp [e2], fun i d2 hi => ?_⟩
     match i with
     | 0 => simp at hi; subst hi; exact ⟨x, rfl, hx⟩
     | i + 1 => exact e3 i d2 (by simpa using hi)
theorem chunks {c : Nat} : ∀ (vss : List (List Value)) (cs : List Value), cs.length = vss.length * c → (∀ (i : Nat) x, vss[i]? = some x → (cs.drop (i * c)).take c = x) → cs = vss.flatten := by
 intro vss
 induction vss with
 | nil => intro cs h _; simp at h; simp [h]
 | cons x vss ih =>
   intro cs h hall
   have h0 := hall 0 x rfl
   simp at h0
   have := ih (cs.drop c) (by simp at h ⊢; rw [h, Nat.succ_mul]; omega) (fun i y hy => by
    have := hall (i + 1) y (by simpa using hy)
    rw [List.drop_drop]
    rw [show c + i * c = (i + 1) * c by rw [Nat.succ_mul]; omega]
    exact this)
   rw [List.flatten_cons, ← this, ← h0, List.take_append_drop]
theorem jej {H : Type} {enc : TypeId × Value → H} {w : World} {base fuel : Nat} {sp : Nat → Bool} {held : Bool} {t : TypeId} {k : FloatKind} {cs : List Value} {x : DataW H × List MemPlace} (ht : P.underlying t = some (.float k)) (h : DataW.trod enc P w base sp held fuel t cs = some x) : ∃ b, cs = [.float k b] ∧ x = (.lit (.float k b), []) ∧ (Lit.float k b).wf = true := by
 cases fuel with
 | zero => simp [DataW.trod] at h
 | succ n =>
   unfold DataW.trod at h
   rw [ht] at h
   split at h <;> simp_all
theorem jhd {w : World} {base : Nat} {sp : Nat → Bool} : ∀ (k : Nat) (t : TypeId) (f m : Nat) (cs vs : List Value) (d : DataW Unit) (p : List MemPlace), jh5 P k t = true → DataW.trod (fun _ => ()) P w base sp false f t cs = some (d, p) →
  flatL m d = some vs → cs = vs := by
 intro k
 induction k with
 | zero => intro t f m cs vs d p h; simp [jh5] at h
 | succ k ih =>
   intro t f m cs vs d p h hd hv
   unfold jh5 at h
   split at h
   ·rename_i kd hu
    obtain ⟨n, rfl, e, _⟩ := DataW.trod_int hu hd
    cases e
    cases m with
    | zero => simp [flatL] at hv
    | succ m => simp only [flatL] at hv; cases hv; rfl
   ·rename_i hu
    obtain ⟨b, rfl, e⟩ := DataW.trod_bool hu hd
    cases e
    cases m with
    | zero => simp [flatL] at hv
    | succ m => simp only [flatL] at hv; cases hv; rfl
   ·rename_i hu
    obtain ⟨b, rfl, e, _⟩ := DataW.trod_string hu hd
    cases e
    cases m with
    | zero => simp [flatL] at hv
    | succ m => simp only [flatL] at hv; cases hv; simp [Lit.value]
   ·rename_i kd hu
    obtain ⟨n, rfl, e, _⟩ := jej hu hd
    cases e
    cases m with
    | zero => simp [flatL] at hv
    | succ m => simp only [flatL] at hv; cases hv; rfl
   ·rename_i n e hu
    simp only [Bool.and_eq_true] at h
    obtain ⟨h1, h2⟩ := h
    have hsz : P.cellsOf t = n * P.cellsOf e := Nat.eq_of_beq_eq_true h1
    obtain ⟨xs, g, rfl, hx, hl, hxl, hall⟩ := DataW.trod_array hu hd
    cases hx
    cases m with
    | zero => simp [flatL] at hv
    | succ m =>
      simp only [flatL] at hv
      obtain ⟨vss, e1, e2, e3⟩ := jiF _ _ hv
      rw [e1]
      have hlen : vss.length = n := by rw [e2]; simpa using hxl
      refine chunks (c := P.cellsOf e) vss cs (by rw [hl, hsz, hlen]) fun i x hi => ?_
      have hin : i < n := by have := (List.getElem?_eq_some_iff.1 hi).1; omega
      have hxi : xs[i]? = some xs[i] := List.getElem?_eq_getElem (by omega)
      obtain ⟨y, hy1, hy2⟩ := e3 i (xs[i]).1 (by simp [hxi])
      rw [hi] at hy1; cases hy1
      have := hall i hin
      rw [hxi] at this
      exact ih e g m _ x (xs[i]).1 (xs[i]).2 h2 this hy2
   ·rename_i fs hu
    simp only [Bool.and_eq_true] at h
    obtain ⟨h1, h2⟩ := h
    have hsz : P.cellsOf t = fs.size := by have := Nat.eq_of_beq_eq_true h1; simpa using this
    obtain ⟨xs, g, rfl, hx, hl, hxl, hall⟩ := DataW.trod_struct hu hd
    cases hx
    cases m with
    | zero => simp [flatL] at hv
    | succ m =>
      simp only [flatL] at hv
      obtain ⟨vss, e1, e2, e3⟩ := jiF _ _ hv
      rw [e1]
      have hlen : vss.length = fs.size := by rw [e2]; simpa using hxl
      refine chunks (c := 1) vss cs (by rw [hl, hsz, hlen, Nat.mul_one]) fun i x hi => ?_
      have hin : i < fs.size := by have := (List.getElem?_eq_some_iff.1 hi).1; omega
      obtain ⟨o1, o2, o3⟩ := jgr fs.toList 0 h2 i fs[i] (by simp [hin])
      have hxi : xs[i]? = some xs[i] := List.getElem?_eq_getElem (by omega)
      obtain ⟨y, hy1, hy2⟩ := e3 i (xs[i]).1 (by simp [hxi])
      rw [hi] at hy1; cases hy1
      have := hall i fs[i] (by simp [hin])
      rw [hxi, o1, o2, Nat.zero_add] at this
      rw [Nat.mul_one]
      exact ih _ g m _ x (xs[i]).1 (xs[i]).2 o3 this hy2
   ·cases h
def romOb (l : List Value) (t : TypeId) : Ob := match jfe l with
 | true => .opn t
 | false => .rom l t
def jeB : List (Nat × List Value × TypeId) → T Ob
 | [] => .e
 | (g, l, t) :: r => (jeB r).set g (romOb l t)
def jdf (nx : Nat) (roms : List (Nat × List Value × TypeId)) (ι : Nat → Nat) : Nat → Loc := fun i => match roms.find? (fun x => Nat.beq x.1 i) with
 | some x => .at x.1 (ι x.1)
 | none => jby nx i
def jgk (roms : List (Nat × List Value × TypeId)) (x : Option (Value × Mem)) : Bool := match x with
 | some (.bool b, μ) => b && je4 μ roms
 | _ => false
theorem ji8 : ∀ (roms : List (Nat × List Value × TypeId)) (i : Nat), (jeB roms).get i = match roms.find? (fun x => Nat.beq x.1 i) with
 | some x => some (romOb x.2.1 x.2.2)
 | none => none := by
 intro roms
 induction roms with
 | nil => intro i; simp [jeB, T.get_e]
 | cons x r ih =>
   intro i
   obtain ⟨g, l, t⟩ := x
   simp only [jeB, T.get_set, List.find?_cons]
   by_cases h : i = g
   ·subst h; simp
   ·have : Nat.beq g i = false := by
     cases hb : Nat.beq g i with
     | false => rfl
     | true => exact absurd (Nat.eq_of_beq_eq_true hb).symm h
    rw [if_neg h, this]
    simp only
    exact ih i
theorem rom_calls {X : FuncId → List Value → Mem → Option (Value × Mem)} (hN : jdc P) (hX : XOk P X) (hm : P.follows .mixedOrders = true) {S : List (FuncId × LK)} (hS : SumsOk P S) {k : Nat} {g : FuncId} {nx : Nat} (hnx : P.globals.size < nx)
  (roms : List (Nat × List Value × TypeId)) (hlt : roms.all (fun x => Nat.blt x.1 P.globals.size && (jfe x.2.1 || x.2.1.all (jaS 5))) = true) {W : World} (hW : ∀ x ∈ roms, RomAt W x)
  (h : jgk roms (aFun P (jao P X S k) g [] ⟨jeB roms, nx⟩) = true) (n : Nat) (R : Ending → World → Prop) (hR : ∀ W', Same W W' → R (.returned (.bool true)) W') : CallsIn Fence.wide n P g #[] W R := by
 unfold jgk at h
 split at h
 ·rename_i b μ' hrun
  simp only [Bool.and_eq_true] at h
  obtain ⟨hb, hkept⟩ := h
  subst hb
  obtain ⟨ι, hι0⟩ : ∃ ι : Nat → Nat, ∀ (i s : Nat) (t : TypeId), W.heap[i]? = some (Obj.cells #[.int .i64 (deZ s)] t (0, 0)) → W.heap[i]? = some (Obj.cells #[.int .i64 (deZ (ι i))] t (0, 0)) := by
   have hk : ∀ i : Nat, ∃ k : Nat, ∀ (s : Nat) (t : TypeId), W.heap[i]? = some (Obj.cells #[.int .i64 (deZ s)] t (0, 0)) → W.heap[i]? = some (Obj.cells #[.int .i64 (deZ k)] t (0, 0)) := fun i => by
    by_cases h : ∃ (s : Nat) (t : TypeId), W.heap[i]? = some (Obj.cells #[.int .i64 (deZ s)] t (0, 0))
    ·obtain ⟨s, t, e⟩ := h
     refine ⟨s, fun s2 t2 e2 => ?_⟩
     rw [e] at e2 ⊢
     injection e2 with e2
     injection e2 with e3 e4
     rw [e4]
    ·exact ⟨0, fun s t e => absurd ⟨s, t, e⟩ h⟩
   exact ⟨fun i => Classical.choose (hk i), fun i => Classical.choose_spec (hk i)⟩
  have hι : ∀ x ∈ roms, jfe x.2.1 = true → W.heap[x.1]? = some (Obj.cells #[.int .i64 (deZ (ι x.1))] x.2.2 (0, 0)) := fun x hx ho => by
   obtain ⟨m, hm2⟩ := (hW x hx).opn ho
   obtain ⟨s, hs⟩ := deZ_onto m
   exact hι0 x.1 s x.2.2 (by rw [hs]; exact hm2)
  have hfind : ∀ {i : Nat} {x : Nat × List Value × TypeId}, roms.find? (fun x => Nat.beq x.1 i) = some x → x ∈ roms ∧ x.1 = i := fun {i x} hf => by
   have := List.find?_some hf
   exact ⟨List.mem_of_find?_eq_some hf, Nat.eq_of_beq_eq_true (by simpa using this)⟩
  have hloc : ∀ i b s, jdf nx roms ι i = .at b s → ∃ x ∈ roms, x.1 = i ∧ b = i ∧ s = ι x.1 ∧ roms.find? (fun x => Nat.beq x.1 i) = some x := fun i b s e => by
   unfold jdf at e
   split at e
   ·rename_i x hf
    obtain ⟨h1, h2⟩ := hfind hf
    cases e
    exact ⟨x, h1, h2, h2, rfl, hf⟩
   ·unfold jby at e; split at e <;> cases e
  have hglob : ∀ x ∈ roms, x.1 < P.globals.size ∧ (jfe x.2.1 = false → ∀ v ∈ x.2.1, jaS 5 v = true) := fun x hx => by
   have := List.all_eq_true.1 hlt x hx
   simp only [Bool.and_eq_true, Bool.or_eq_true] at this
   refine ⟨by simpa using this.1, fun hno v hv => ?_⟩
   rcases this.2 with h1 | h1
   ·rw [hno] at h1; cases h1
   ·exact List.all_eq_true.1 h1 v hv
  have hsize : ∀ x ∈ roms, x.1 < W.heap.size := fun x hx => by
   cases ho : jfe x.2.1 with
   | true => exact (Array.getElem?_eq_some_iff.1 (hι x hx ho)).1
   | false => exact (Array.getElem?_eq_some_iff.1 ((hW x hx).known ho)).1
  have hnf : ∀ i, P.globals.size ≤ i → roms.find? (fun x => Nat.beq x.1 i) = none := fun i hi => by
   cases hf : roms.find? (fun x => Nat.beq x.1 i) with
   | none => rfl
   | some x =>
     obtain ⟨h1, h2⟩ := hfind hf
     have := (hglob x h1).1
     omega
  have hr : Rel (jdf nx roms ι) ⟨jeB roms, nx⟩ W := by
   refine ⟨fun i j b s t e1 e2 => ?_, fun i b s e => ?_, fun i hi => ?_, fun i o ho _ => ?_⟩
   ·obtain ⟨_, _, _, h1, _⟩ := hloc i b s e1
    obtain ⟨_, _, _, h2, _⟩ := hloc j b t e2
    omega
   ·obtain ⟨x, hx, h1, h2, _⟩ := hloc i b s e
    have := hsize x hx
    omega
   ·show jdf nx roms ι i = .unborn
    have hi' : nx ≤ i := hi
    unfold jdf
    rw [hnf i (by omega)]
    exact if_neg (by omega)
   ·simp only [ji8] at ho
    split at ho
    ·rename_i x hf
     cases ho
     obtain ⟨h1, h2⟩ := hfind hf
     refine ⟨i, ι x.1, ?_, ?_⟩
     ·unfold jdf; rw [hf]; simp only [h2]
     ·unfold romOb
      cases hop : jfe x.2.1 with
      | true =>
        show W.heap[i]? = _
        rw [← h2]
        exact hι x h1 hop
      | false => exact ⟨by rw [← h2]; exact (hW x h1).known hop, fun v hv => jbr 5 ((hglob x h1).2 hop v hv)⟩
    ·cases ho
  have hB : Base P (jdf nx roms ι) := by
   refine ⟨fun g hg => ?_, ?_⟩
   ·unfold Lives jdf
    cases hf : roms.find? (fun x => Nat.beq x.1 g) with
    | some x =>
      obtain ⟨h1, h2⟩ := hfind hf
      exact .inl ⟨ι x.1, by simp only [h2]⟩
    | none => exact .inr (if_pos (Nat.lt_trans hg hnx))
   ·unfold jdf
    rw [hnf _ (Nat.le_refl _)]
    exact if_pos hnx
  refine jha (jia hN hX hm hS k).1 g [] _ _ μ' hrun _ W #[] hr hB ⟨rfl, fun i a b ha => by simp at ha⟩ n R fun J' v' w' h1 h2 h3 => ?_
  have hv : v' = .bool true := by cases h1; rfl
  subst hv
  refine hR w' ⟨h3.os, h3.output, h3.size, fun b hb => ?_, h3.tape⟩
  by_cases hbr : ∃ x ∈ roms, x.1 = b
  ·obtain ⟨x, hx, hxb⟩ := hbr
   have hk := List.all_eq_true.1 hkept x hx
   have hJ0 : jdf nx roms ι x.1 = .at x.1 (ι x.1) := by
    unfold jdf
    cases hf : roms.find? (fun y => Nat.beq y.1 x.1) with
    | some y => simp only [(hfind hf).2]
    | none =>
      have := List.find?_eq_none.1 hf x hx
      simp at this
   have hJ1 : ∀ {o : Ob}, μ'.obs.get x.1 = some o → o ≠ .dead → ObRel J' w' x.1 (ι x.1) o := fun {o} ho hd => by
    obtain ⟨b2, s2, hJ, hob⟩ := h2.obj _ _ ho hd
    rcases h3.at_ _ _ _ hJ0 with e | ⟨e, _⟩
    ·rw [e] at hJ; cases hJ; exact hob
    ·rw [e] at hJ; cases hJ
   split at hk
   ·rename_i l t hob
    split at hk
    ·cases hk
    ·rename_i hno
     simp only [Bool.and_eq_true] at hk
     have e1 : l = x.2.1 := jf8 (jip 5) _ _ hk.1
     have e2 : t = x.2.2 := Nat.eq_of_beq_eq_true hk.2
     subst e1 e2
     obtain ⟨hc, _⟩ := hJ1 hob (by simp)
     rw [← hxb, hc, (hW x hx).known hno]
   ·rename_i t hob
    simp only [Bool.and_eq_true] at hk
    have e2 : t = x.2.2 := Nat.eq_of_beq_eq_true hk.2
    subst e2
    have hc : w'.heap[x.1]? = _ := hJ1 hob (by simp)
    rw [← hxb, hc, hι x hx hk.1]
   ·cases hk
  ·exact h3.frame b hb fun i s e => by
    obtain ⟨x, hx, e1, e2, _⟩ := hloc i b s e
    exact absurd ⟨x, hx, by omega⟩ hbr
 ·cases h
theorem sum_of {X : FuncId → List Value → Mem → Option (Value × Mem)} (hN : jdc P) (hX : XOk P X) (hm : P.follows .mixedOrders = true) {S : List (FuncId × LK)} (hS : SumsOk P S) {k : Nat} {g : FuncId} {nx : Nat} (hnx : P.globals.size < nx)
  (roms : List (Nat × List Value × TypeId)) (hlt : roms.all (fun x => Nat.blt x.1 P.globals.size && (jfe x.2.1 || x.2.1.all (jaS 5))) = true)
  (h : jgk roms (aFun P (jao P X S k) g [] ⟨jeB roms, nx⟩) = true) : KOk P g (.alive roms) := by
 refine ⟨fun x hx => ?_, fun w n R hw hR => rom_calls hN hX hm hS hnx roms hlt hw h n R hR⟩
 have := List.all_eq_true.1 hlt x hx
 simp only [Bool.and_eq_true] at this
 simpa using this.1
end
end Go.Proofs.YtnafmgiaifbhgaaGreatDoor.Ev
