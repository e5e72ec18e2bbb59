/-
  The evaluator, part Z: code, functions.
-/
import Derived.Test.YtnafmgiaifbhgaaGreatDoorEvY
import Derived.RangeFuncLeaves
import Derived.RangeFuncRecord
import Derived.LoopNIn
set_option linter.unusedSimpArgs false
set_option linter.unusedVariables false
namespace Go.Proofs.YtnafmgiaifbhgaaGreatDoor.Ev
noncomputable section
variable {P : Program}
def jeX : Ax → Exit
 | .normal => .normal
 | .exit id => .exit id
 | .ret => .ret
 | .goto l => .goto l
section draw
variable {X : FuncId → List Value → Mem → Option (Value × Mem)} {callF : FuncId → List Value → Mem → Option (Value × Mem)} {roundF : Nat → List Value → Mem → Option (Value × Mem)}
theorem jjy (hN : jdc P) (hX : XOk P X) (hF : jfC P callF) (hR : jc9 P roundF) (hm : P.follows .mixedOrders = true) {id : Nat} {ops : Array Oper} (hd : drawOk ops.toList = true) {r r' : Rg} {μ μ' : Mem} {sn : List (Nat × Mem)}
  (h : jc8 P X callF roundF ops.toList (masks ops.toList) μ.next (alap ops.toList) (r, ⟨μ.obs, Nat.add μ.next ops.toList.length⟩, [(ops.toList.length, ⟨μ.obs, Nat.add μ.next ops.toList.length⟩)]) = some (r', μ', sn))
  {J : Nat → Loc} {a : Act} {w : World} {rd : Option Nat} (hr : Rel J μ w) (hB : Base P J) (hg : RgRel J rd r a) {n : Nat} {Q : Exit → Act → World → Prop}
  (hk : ∀ J' a' w', Rel J' μ' w' → RgRel J' rd r' a' → Step J μ w J' μ' w' → Q .normal a' w') : (Code.region id ops true).wpIn (fen rd) n P Q a w := by
 have D := jh7 hd
 generalize masks ops.toList = ms at h D
 generalize alap ops.toList = ord at h D
 obtain ⟨S, e0, e1, hT⟩ := jir ord _ _ h
 have hlen : ord.length = ops.size := by have := D.len; simpa using this
 have hnx : Nat.add μ.next ops.toList.length = μ.next + ops.size := by simp
 rw [hnx] at e0
 have hS0 : (S 0).2 = (((ops.toList.length, (⟨μ.obs, μ.next + ops.size⟩ : Mem)) : Nat × Mem).2, [(ops.toList.length, ⟨μ.obs, μ.next + ops.size⟩)]) := by rw [e0]
 have h0 : (S 0).1 = r := by rw [e0]
 have hM0 : (S 0).2.1 = ⟨μ.obs, μ.next + ops.size⟩ := by rw [e0]
 refine wpIn_region_any hm ?_
 have hr1 : Rel J μ { w with drawn := w.drawn + 1 } := hr.heap rfl
 have hgone : ∀ i, μ.next ≤ i → gone μ i := fun i hi o ho => by
  cases o with
  | dead => rfl
  | _ =>
    obtain ⟨b, s, hb, _⟩ := hr.obj i _ ho (by simp)
    rw [hr.fresh i hi] at hb; cases hb
 have hfalse : ∀ i, (Array.replicate ops.size false).getD i false = true → False := fun i hi => by
  simp only [Array.getD_eq_getD_getElem?, Array.getElem?_replicate] at hi
  split at hi <;> simp at hi
 refine any_sound hN hX hF hR D hT hS0 h0 (Nat.le_refl _) hr1 ?_ ops.size (Array.replicate ops.size false) (by simp) (by omega) (fun _ _ e => by cases e) J a _ 0 ?_
 ·intro J2 a2 w2 g1 g2 g3
  rw [hlen] at e1
  rw [e1] at g1 g2 g3
  exact hk J2 a2 w2 g1 g2 ⟨g3.at_, g3.dead, g3.unborn, g3.born, g3.next, g3.gone_, g3.size, g3.frame, g3.os, g3.tape, g3.output⟩
 ·refine ⟨Nat.zero_le _, fun i j _ _ h => absurd h (fun h => hfalse j h), fun q i hq => absurd hq (Nat.not_lt_zero _), fun q i _ _ _ => hfalse i, .inl rfl, ?_, hB, ?_, fun q i o v ob _ _ _ h => absurd h (fun h => hfalse i h), fun q i _ _ _ => hr.fresh _ (by omega), fun q i _ _ => ?_, ?_, hg.size.trans (by rfl), hg.ds, hg.rd, fun d q hq hmt => ?_⟩
  ·rw [hM0]
   exact ⟨hr1.inj, hr1.bnd, fun i hi => hr1.fresh i (Nat.le_trans (Nat.le_add_right _ _) hi), hr1.obj⟩
  ·rw [hM0]
   have := Step.refl J μ ({ w with drawn := w.drawn + 1 } : World)
   exact ⟨this.at_, this.dead, this.unborn, this.born, Nat.le_add_right _ _, this.gone_, this.size, this.frame, rfl, rfl, rfl⟩
  ·rw [hM0]; exact hgone _ (by omega)
  ·rw [hM0]; exact Nat.le_refl _
  ·rw [jiC D hT (q1 := 0) q (Nat.zero_le _) hq (fun q2 i2 o2 _ h2 hi2 ho2 hd2 => hfalse i2 ((hmt q2 i2 o2 hi2 ho2 hd2).2 h2)), h0]
   exact hg.regs d
end draw
def EvOk (P : Program) (ev : Code → Rg → Mem → Option (Ax × Rg × Mem)) : Prop :=
 ∀ c r μ x r' μ', ev c r μ = some (x, r', μ') → ∀ J a w rd n (Q : Exit → Act → World → Prop), Rel J μ w → Base P J → RgRel J rd r a →
  (∀ J' a' w', Rel J' μ' w' → RgRel J' rd r' a' → Step J μ w J' μ' w' → Q (jeX x) a' w') → c.wpIn (fen rd) n P Q a w
theorem jjN {μ : Mem} {w : World} {J : Nat → Loc} {r : Rg} {tmps : Array Value} (hr : Rel J μ w) (hg : ∀ d, VRel J (jam r.tm d) (tmps.getD d undef)) : ∀ (rs : List ResultVar) (l : List Value), aRes P μ r rs = some l →
  ∃ l', (rs.mapM (fun | .tmp t => pure (tmps.getD t undef) | .cell a t => do loadVar t (← asAddr (tmps.getD a undef))) : Sem (List Value)).run P w = .ok l' w ∧ l.length = l'.length ∧
   ∀ (i : Nat) a b, l[i]? = some a → l'[i]? = some b → VRel J a b := by
 intro rs
 induction rs with
 | nil => intro l h; simp only [aRes] at h; cases h; exact ⟨[], rfl, rfl, fun i a b ha => by simp at ha⟩
 | cons x rs ih =>
   intro l h
   have cons2 : ∀ {v v' : Value} {x : List Value} {x' : List Value}, VRel J v v' → (x.length = x'.length ∧ ∀ (i : Nat) a b, x[i]? = some a → x'[i]? = some b → VRel J a b) →
     ((v :: x).length = (v' :: x').length ∧ ∀ (i : Nat) a b, (v :: x)[i]? = some a → (v' :: x')[i]? = some b → VRel J a b) := fun hv hx =>
    ⟨by simp [hx.1], fun i a b ha hb => by
     match i with
     | 0 => simp at ha hb; subst ha hb; exact hv
     | i + 1 => exact hx.2 i a b (by simpa using ha) (by simpa using hb)⟩
   cases x with
   | tmp t =>
     simp only [aRes] at h
     split at h
     ·rename_i l1 h1
      cases h
      obtain ⟨l', g1, g2⟩ := ih l1 h1
      refine ⟨tmps.getD t undef :: l', ?_, cons2 (hg t) g2⟩
      simp only [List.mapM_cons, Sem.run_bind, Sem.run_pure, Result.andThen_ok, g1]
     ·cases h
   | cell a t =>
     simp only [aRes] at h
     split at h
     ·cases h
     ·rename_i v hv
      split at h
      ·rename_i l1 h1
       cases h
       obtain ⟨l', g1, g2⟩ := ih l1 h1
       obtain ⟨ad, x', k1, k2, k3⟩ := jcX (P := P) hr (hg a) hv
       refine ⟨x' :: l', ?_, cons2 k2 g2⟩
       have k4 : (asAddr (tmps.getD a undef)).run P w = .ok ad w := by rw [k1]; rfl
       simp only [List.mapM_cons, Sem.run_bind, k4, Sem.run_pure, Result.andThen_ok, k3, g1]
      ·cases h
theorem jfK {μ : Mem} {w : World} {J : Nat → Loc} {r : Rg} {tmps : Array Value} {fn : Func} {v : Value} (hr : Rel J μ w) (hg : ∀ d, VRel J (jam r.tm d) (tmps.getD d undef)) (h : jdz P μ r fn = some v) :
  ∃ v', (results fn tmps).run P w = .ok v' w ∧ VRel J v v' := by
 unfold jdz at h
 have key : ∀ l, aRes P μ r fn.results.toList = some l → ∃ l' : List Value, (results fn tmps).run P w = .ok (if h : l'.toArray.size = 1 then l'.toArray[0] else .tuple l'.toArray) w ∧ l.length = l'.length ∧
   ∀ (i : Nat) a b, l[i]? = some a → l'[i]? = some b → VRel J a b := by
  intro l hl
  obtain ⟨l', g1, g2⟩ := jjN (P := P) hr hg _ l hl
  refine ⟨l', ?_, g2⟩
  unfold results
  rw [Array.mapM_eq_mapM_toList, Sem.run_bind]
  have : (Functor.map List.toArray (fn.results.toList.mapM (fun | .tmp t => pure (tmps.getD t undef) | .cell a t => do loadVar t (← asAddr (tmps.getD a undef)))) : Sem (Array Value)).run P w = .ok l'.toArray w := by
   rw [map_eq_pure_bind]
   simp only [Sem.run_bind, g1, Result.andThen_ok, Sem.run_pure]
  erw [this]
  simp only [Result.andThen_ok, Sem.run_pure]
 split at h
 ·rename_i x hx
  cases h
  obtain ⟨l', g1, g2, g3⟩ := key _ hx
  match l', g2 with
  | [y], _ => exact ⟨y, by rw [g1]; rfl, g3 0 _ _ rfl rfl⟩
 ·rename_i l hno hx
  cases h
  obtain ⟨l', g1, g2, g3⟩ := key _ hx
  have hne : l'.toArray.size ≠ 1 := fun e => by
   match l, hno, g2 with
   | [], _, g2 => simp at g2 e; omega
   | [x], hno, _ => exact absurd rfl (hno x)
   | a :: b :: l, _, g2 => simp at g2 e; omega
  refine ⟨_, g1, ?_⟩
  rw [dif_neg hne]
  exact .tuple (by simpa using g2) (fun i a b ha hb => g3 i a b (by simpa using ha) (by simpa using hb))
 ·cases h
theorem jhw {rd : Option Nat} {n : Nat} {fn : Func} {tmps : Array Value} {R : Ending → World → Prop} {r : Rg} {v : Value} : ∀ (is : List Nat) (ds : List Deferred) (μ μ' : Mem), jfx μ is = some μ' → jdz P μ' r fn = some v →
  ∀ (J : Nat → Loc) (w : World), Rel J μ w → Marks J is ds → (∀ d, VRel J (jam r.tm d) (tmps.getD d undef)) →
   (∀ J' v' w', VRel J' v v' → Rel J' μ' w' → Step J μ w J' μ' w' → R (.returned v') w') → LeavesInM (fen rd) n P fn tmps R ds .returning w := by
 intro is
 induction is with
 | nil =>
   intro ds μ μ' hm hv J w hr hk hg hR
   cases hk
   simp only [jfx] at hm
   cases hm
   obtain ⟨v', g1, g2⟩ := jfK hr hg hv
   exact ⟨v', g1, hR J v' w g2 hr (Step.refl _ _ _)⟩
 | cons i is ih =>
   intro ds μ μ' hm hv J w hr hk hg hR
   cases hk with
   | cons hb ht =>
   rename_i b ds
   simp only [jfx] at hm
   split at hm
   ·rename_i ho
    obtain ⟨b', s, hb', hob⟩ := hr.obj i _ ho (by simp)
    have hbb : b' = b := by
     rcases hb with ⟨s2, e⟩ | e
     ·rw [e] at hb'; cases hb'; rfl
     ·rw [e] at hb'; cases hb'
    subst hbb
    have hob' : w.heap[b']? = some (.deferred (some [])) := hob
    have htake := run_takeDeferred (P := P) hob'
    have hlt : b' < w.heap.size := (Array.getElem?_eq_some_iff.1 hob').1
    have hsz : (w.putObj b' (.deferred none)).heap.size = w.heap.size := World.putObj_size
    have hoth : ∀ c, c ≠ b' → (w.putObj b' (.deferred none)).heap[c]? = w.heap[c]? := fun c hc => World.putObj_heap_other hc
    have hr2 : Rel J ⟨μ.obs.set i .dead, μ.next⟩ (w.putObj b' (.deferred none)) := hr.update hb' .dead hsz hoth trivial
    have hs2 : Step J μ w J ⟨μ.obs.set i .dead, μ.next⟩ (w.putObj b' (.deferred none)) :=
     Step.update hb' (fun hg => by have := hg _ ho; cases this) .dead hsz hoth rfl rfl rfl
    exact ⟨by simp, .inl ⟨b', _, rfl, htake, ih ds _ μ' hm hv J _ hr2 ht hg fun J' v' w' h1 h2 h3 => hR J' v' w' h1 h2 (hs2.trans hr h3)⟩⟩
   ·cases hm
theorem jha {ev : Code → Rg → Mem → Option (Ax × Rg × Mem)} (hE : EvOk P ev) : jfC P (aFun P ev) := by
 intro g args μ v μ' h J w args' hr hB ha n R hR
 unfold aFun at h
 split at h
 ·cases h
 ·rename_i fn hfn
  split at h
  ·cases h
  ·rename_i c hc
   split at h
   ·cases h
   ·rename_i hle
    have hle' : args.length ≤ fn.ntmps := Nat.le_of_ble_eq_true hle
    have hsz : args.length = args'.size := by simpa using ha.size
    split at h
    ·cases h
    ·cases h
    ·cases h
    ·rename_i x r μ1 hne hng hev
     split at h
     ·cases h
     ·rename_i μ2 hmk
      split at h
      ·cases h
      ·rename_i v2 hres
       cases h
       refine callsIn_of_wp_marks hfn hc trivial ?_ rfl
       refine hE c _ μ x r μ1 hev J _ w none n _ hr hB ⟨by simp; omega, fun d => ?_, .nil, .none⟩ fun J1 a1 w1 g1 g2 g3 => ?_
       ·simp only [jam, T.get_lay]
        by_cases hd : d < args.length
        ·rw [if_pos ⟨Nat.zero_le _, by omega⟩, Nat.sub_zero, List.getElem?_eq_getElem hd]
         have : (args' ++ Array.replicate (fn.ntmps - args'.size) undef).getD d undef = args'[d]'(by omega) := by
          simp only [Array.getD_eq_getD_getElem?, Array.getElem?_append]
          rw [if_pos (by omega), Array.getElem?_eq_getElem (by omega)]; rfl
         rw [this]
         exact ha.at_ d _ _ (by simp [hd]) (Array.getElem?_eq_getElem (by omega))
        ·rw [if_neg (fun hh => hd (by omega))]
         have : (args' ++ Array.replicate (fn.ntmps - args'.size) undef).getD d undef = undef := by
          simp only [Array.getD_eq_getD_getElem?, Array.getElem?_append]
          rw [if_neg (by omega), Array.getElem?_replicate]
          split <;> rfl
         rw [this]
         exact jdV
       ·have hfin : LeavesInM (fen none) n P fn a1.tmps R a1.defers .returning w1 :=
         jhw (rd := none) r.ds a1.defers μ1 μ' hmk hres J1 w1 g1 g2.ds g2.regs fun J2 v' w2 k1 k2 k3 => hR J2 v' w2 k1 k2 (g3.trans hr k3)
        cases x with
        | normal => exact hfin
        | ret => exact hfin
        | exit id => exact (hne id rfl).elim
        | goto l => exact (hng l rfl).elim
end
end Go.Proofs.YtnafmgiaifbhgaaGreatDoor.Ev
