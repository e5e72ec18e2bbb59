/-
  The evaluator, part Yc: such a region, joined. No conditions.
-/
import Derived.Test.YthnglblipoimhaaGreatDoorEvYb
set_option linter.unusedSimpArgs false
set_option linter.unusedVariables false
namespace Go.Proofs.YthnglblipoimhaaGreatDoor.Ev
noncomputable section
variable {P : Program}
variable {X : FuncId → List Value → Mem → Option (Value × Mem)} {callF : FuncId → List Value → Mem → Option (Value × Mem)} {roundF : Nat → List Value → Mem → Option (Value × Mem)}
theorem inv_start {ops : Array Oper} {ms ord : List Nat} {x0 : Option (Nat × Nat)} {S : Nat → St} (D : DOk ops.toList ms ord x0) {r : Rg} {μ : Mem} (hT : Runs P X callF roundF ops.toList ms μ.next ord S)
  {sn : List (Nat × Mem)} (e0 : S 0 = (r, ⟨μ.obs, μ.next + ops.size⟩, sn)) {J : Nat → Loc} {a : Act} {w : World} {rd : Option Nat} (hr : Rel J μ w) (hB : Base P J) (hg : RgRel J rd r a) :
  Inv P ops ms ord μ.next S J μ { w with drawn := w.drawn + 1 } rd r (fun i => (Array.replicate ops.size false).getD i false = true) J a { w with drawn := w.drawn + 1 } 0 := by
 have h0 : (S 0).1 = r := by rw [e0]
 have hM0 : (S 0).2.1 = ⟨μ.obs, μ.next + ops.size⟩ := by rw [e0]
 have hr1 : Rel J μ { w with drawn := w.drawn + 1 } := hr.heap rfl
 have hgone : ∀ i, μ.next ≤ i → gone μ i := fun i hi o ho => by
  cases o with
  | dead => rfl
  | _ =>
    obtain ⟨b, s, hb, _⟩ := hr.obj i _ ho (by simp)
    rw [hr.fresh i hi] at hb; cases hb
 have hfalse : ∀ i, (Array.replicate ops.size false).getD i false = true → False := fun i hi => by
  simp only [Array.getD_eq_getD_getElem?, Array.getElem?_replicate] at hi
  split at hi <;> simp at hi
 refine ⟨Nat.zero_le _, fun i j _ _ h => absurd h (fun h => hfalse j h), fun q i hq => absurd hq (Nat.not_lt_zero _), fun q i _ _ _ => hfalse i, .inl rfl, ?_, hB, ?_, fun q i o v ob _ _ _ h => absurd h (fun h => hfalse i h), fun q i _ _ _ => hr.fresh _ (by omega), fun q i _ _ => ?_, ?_, hg.size.trans (by rfl), hg.ds, hg.rd, fun d q hq hmt => ?_⟩
 ·rw [hM0]
  exact ⟨hr1.inj, hr1.bnd, fun i hi => hr1.fresh i (Nat.le_trans (Nat.le_add_right _ _) hi), hr1.obj⟩
 ·rw [hM0]
  have := Step.refl J μ ({ w with drawn := w.drawn + 1 } : World)
  exact ⟨this.at_, this.dead, this.unborn, this.born, Nat.le_add_right _ _, this.gone_, this.size, this.frame, rfl, rfl, rfl⟩
 ·rw [hM0]; exact hgone _ (by omega)
 ·rw [hM0]; exact Nat.le_refl _
 ·rw [jfj D hT (q1 := 0) q (Nat.zero_le _) hq (fun q2 i2 o2 _ h2 hi2 ho2 hd2 => hfalse i2 ((hmt q2 i2 o2 hi2 ho2 hd2).2 h2)), h0]
  exact hg.regs d
theorem joined {ops : Array Oper} {ms ms' : List Nat} {bs : Nat} {pre t : List Nat} {S0 Sq : Nat → St} (h0 : Runs P X callF roundF ops.toList ms bs pre S0) (hms : ∀ i ∈ pre, ∀ k, bef ms k i = bef ms' k i)
  (ht : Runs P X callF roundF ops.toList ms' bs t Sq) (e : Sq 0 = S0 pre.length) (hne : t ≠ [])
  (hM : ∀ (q i : Nat), t[q]? = some i → ∀ o, ops.toList[i]? = some o → ∀ v ob, ¬ jdp P ops.toList.toArray ms' bs i o v ob (Sq q) (Sq (q + 1))) :
  ∃ S : Nat → St, Runs P X callF roundF ops.toList ms' bs (pre ++ t) S ∧ (∀ q, q ≤ pre.length → S q = S0 q) ∧ S (pre ++ t).length = Sq t.length ∧
   ∀ (q i : Nat), pre.length ≤ q → (pre ++ t)[q]? = some i → ∀ o, ops[i]? = some o → ∀ v ob, ¬ jdp P ops ms' bs i o v ob (S q) (S (q + 1)) := by
 have h0' : Runs P X callF roundF ops.toList ms' bs pre S0 := fun q i hq => by
  rw [← dStep_ms (hms i (List.mem_of_getElem? hq))]
  exact h0 q i hq
 refine ⟨_, h0'.append ht e, fun q hq => if_pos hq, ?_, fun q i hq hi o ho v ob => ?_⟩
 ·have : 0 < t.length := List.length_pos_iff.2 hne
  show (if (pre ++ t).length ≤ pre.length then _ else Sq ((pre ++ t).length - pre.length)) = _
  rw [List.length_append, if_neg (by omega), show pre.length + t.length - pre.length = t.length by omega]
 ·rw [List.getElem?_append_right hq] at hi
  have := hM _ i hi o (by simpa using ho) v ob
  show ¬ jdp P ops ms' bs i o v ob (if q ≤ pre.length then S0 q else Sq (q - pre.length)) (if q + 1 ≤ pre.length then S0 (q + 1) else Sq (q + 1 - pre.length))
  rw [if_neg (show ¬ q + 1 ≤ pre.length by omega), show q + 1 - pre.length = q - pre.length + 1 by omega]
  have hSq : (if q ≤ pre.length then S0 q else Sq (q - pre.length)) = Sq (q - pre.length) := by
   by_cases h : q = pre.length
   ·subst h; rw [if_pos (Nat.le_refl _), ← e, Nat.sub_self]
   ·rw [if_neg (by omega)]
  rw [hSq]
  simpa using this
theorem jir (hN : jcX P) (hX : XOk P X) (hF : jeC P callF) (hR : jcJ P roundF) (hm : P.follows .mixedOrders = true) {id : Nat} {ops : Array Oper} {ms : List Nat} {r r' : Rg} {μ μ' : Mem} {x : Ax}
  (h : aSplit P X callF roundF ops.toList ms r μ = some (x, r', μ'))
  {J : Nat → Loc} {a : Act} {w : World} {rd : Option Nat} (hr : Rel J μ w) (hB : Base P J) (hg : RgRel J rd r a) {n : Nat} {Q : Exit → Act → World → Prop}
  (hk : ∀ J' a' w', Rel J' μ' w' → RgRel J' rd r' a' → Step J μ w J' μ' w' → Q (je1 x) a' w') : (Code.region id ops true).wpIn (fen rd) n P Q a w := by
 unfold aSplit at h
 split at h
 ·cases h
 ·rename_i f g pre la lb hsp
  split at h
  ·cases h
  ·rename_i hok
   split at h
   ·cases h
   ·rename_i s0 hpre
    split at h
    ·cases h
    ·rename_i s1 i1 ht1
     split at h
     ·cases h
     ·rename_i s2 i2 ht2
      split at h
      ·rename_i hend
       cases h
       unfold splitOk at hok
       simp only [Bool.and_eq_true] at hok
       obtain ⟨k1, k2, k3, k4, k5, k6, k7, k8⟩ := hok
       have D1 := jeO k1
       have D2 := jeO k2
       have hfg : f ≠ g := fun e => by subst e; simp at k7
       have hnp : ∀ i ∈ pre, i ≠ f ∧ i ≠ g := fun i hi => by
        have := List.all_eq_true.1 k8 i hi
        simp only [Bool.and_eq_true, Bool.not_eq_true'] at this
        exact ⟨fun e => by subst e; simp at this, fun e => by subst e; simp at this⟩
       have hfm : f ∈ la := by simpa using k5
       have hgm : g ∈ lb := by simpa using k6
       have hfs : f < ops.size := by have := D1.lt f (by simp [hfm]); simpa using this
       have hgs : g < ops.size := by have := D1.lt g (by simp [hgm]); simpa using this
       have hnx : Nat.add μ.next ops.toList.length = μ.next + ops.size := by simp
       rw [hnx] at hpre
       obtain ⟨S0, a0, a1, hT0⟩ := jgG pre _ _ hpre
       obtain ⟨_, c2, c3, c4, St1, b0, b1, hR1, hM1⟩ := jhn _ _ _ _ _ ht1
       obtain ⟨_, d2, d3, d4, St2, e0, e1, hR2, hM2⟩ := jhn _ _ _ _ _ ht2
       have hm1 : ∀ i ∈ pre, ∀ k, bef ms k i = bef (jhM ms f g) k i := fun i hi k => (jev (hnp i hi).2).symm
       have hm2 : ∀ i ∈ pre, ∀ k, bef ms k i = bef (jhM ms g f) k i := fun i hi k => (jev (hnp i hi).1).symm
       obtain ⟨S1, T1, p1, q1, L1⟩ := joined hT0 hm1 hR1 (b0.trans a1.symm) (by intro e; simp at e; rw [e.1] at hfm; cases hfm) hM1
       obtain ⟨S2, T2, p2, q2, L2⟩ := joined hT0 hm2 hR2 (e0.trans a1.symm) (by intro e; simp at e; rw [e.2] at hfm; cases hfm) hM2
       have hl1 : (pre ++ (la ++ lb)).length = ops.size := by have := D1.len; simpa using this
       have hl2 : (pre ++ (lb ++ la)).length = ops.size := by have := D2.len; simpa using this
       rw [hl1, b1] at q1
       rw [hl2, e1] at q2
       have z1 : S1 0 = (r, ⟨μ.obs, μ.next + ops.size⟩, [(ops.toList.length, ⟨μ.obs, μ.next + ops.size⟩)]) := (p1 0 (Nat.zero_le _)).trans a0
       have z2 : S2 0 = (r, ⟨μ.obs, μ.next + ops.size⟩, [(ops.toList.length, ⟨μ.obs, μ.next + ops.size⟩)]) := (p2 0 (Nat.zero_le _)).trans a0
       have hS01 : (S1 0).2 = (((ops.toList.length, (⟨μ.obs, μ.next + ops.size⟩ : Mem)) : Nat × Mem).2, [(ops.toList.length, ⟨μ.obs, μ.next + ops.size⟩)]) := by rw [z1]
       have hS02 : (S2 0).2 = (((ops.toList.length, (⟨μ.obs, μ.next + ops.size⟩ : Mem)) : Nat × Mem).2, [(ops.toList.length, ⟨μ.obs, μ.next + ops.size⟩)]) := by rw [z2]
       unfold sameEnd at hend
       simp only [Bool.and_eq_true] at hend
       obtain ⟨w1, w2⟩ := hend
       have hget : ∀ j, s1.2.1.obs.get j = s2.2.1.obs.get j := fun j => by
        by_cases hj : j ∈ i1 ++ i2
        ·exact eqOb_eq (List.all_eq_true.1 w1 j hj)
        ·simp only [List.mem_append, not_or] at hj
         rw [c2 j hj.1, d2 j hj.2]
       have hnext : s1.2.1.next = s2.2.1.next := c3.trans d3.symm
       have hreg : ∀ d, jak s1.1.tm d = jak s2.1.tm d := fun d => by
        by_cases hd : ∃ i ∈ la ++ lb, ∃ o, ops.toList[i]? = some o ∧ o.dst = some d
        ·obtain ⟨i, hi, o, ho, hdd⟩ := hd
         have := List.all_eq_true.1 w2 i hi
         simp only [ho, hdd] at this
         exact jjJ this
        ·rw [c4 d fun i hi o ho hdd => hd ⟨i, hi, o, ho, hdd⟩, d4 d fun i hi o ho hdd => hd ⟨i, by simp only [List.mem_append] at hi ⊢; exact hi.symm, o, ho, hdd⟩]
       obtain ⟨n1, n2, n3⟩ := jeQ D1 T1 ops.size (Nat.le_refl _)
       obtain ⟨n4, n5, n6⟩ := jeQ D2 T2 ops.size (Nat.le_refl _)
       rw [q1, z1] at n1 n2 n3
       rw [q2, z2] at n4 n5 n6
       have hr1 : Rel J μ { w with drawn := w.drawn + 1 } := hr.heap rfl
       have hfalse : ∀ i, (Array.replicate ops.size false).getD i false = true → False := fun i hi => by
        simp only [Array.getD_eq_getD_getElem?, Array.getElem?_replicate] at hi
        split at hi <;> simp at hi
       have fin : ∀ J2 a2 w2, Rel J2 s1.2.1 w2 → RgRel J2 rd s1.1 a2 → Step J μ { w with drawn := w.drawn + 1 } J2 s1.2.1 w2 → Q .normal a2 w2 := fun J2 a2 w2 g1 g2 g3 =>
        hk J2 a2 w2 g1 g2 ⟨g3.at_, g3.dead, g3.unborn, g3.born, g3.next, g3.gone_, g3.size, g3.frame, g3.os, g3.tape, g3.output⟩
       refine wpIn_region_any hm ?_
       refine jiV hN hX hF hR D1 D2 T1 T2 hS01 hS02 (by rw [z1]) (by rw [z2]) (Nat.le_refl _) hr1 hfg hfs hgs L1 L2 ?_ (n := n) (Q := Q) ?_ ?_ (fun q hq => (p2 q hq).trans (p1 q hq).symm)
        (fun i hi k => (hm1 i hi k).symm.trans (hm2 i hi k)) (fun hh => (hnp f hh).1 rfl) (fun hh => (hnp g hh).2 rfl) ?_ ?_ ops.size (Array.replicate ops.size false) (by simp) (by omega) J a _ 0 (inv_start D1 T1 z1 hr hB hg) (fun i hi => (hfalse i hi).elim)
       ·intro i o hip ho hif hig
        have hlt : i < ops.size := (Array.getElem?_eq_some_iff.1 ho).1
        have hmem : i ∈ pre ++ (la ++ lb) := D1.all i (by simpa using hlt)
        have hit : i ∈ la ++ lb := (List.mem_append.1 hmem).resolve_left hip
        have := List.all_eq_true.1 k4 i hit
        simp only [Bool.or_eq_true] at this
        rcases this with e | e | e
        ·exact absurd (Nat.eq_of_beq_eq_true e) hif
        ·exact absurd (Nat.eq_of_beq_eq_true e) hig
        ·unfold jjv at e
         have ho' : ops.toList[i]? = some o := by simpa using ho
         rw [ho'] at e
         simpa using e
       ·intro J2 a2 w2 g1 g2 g3
        rw [q1] at g1 g2 g3
        exact fin J2 a2 w2 g1 g2 g3
       ·intro J2 a2 w2 g1 g2 g3
        rw [q2] at g1 g2 g3
        refine fin J2 a2 w2 (g1.same hget hnext) ⟨?_, fun d => ?_, ?_, ?_⟩ (g3.same hget hnext)
        ·rw [n1, ← n4]; exact g2.size
        ·rw [hreg d]; exact g2.regs d
        ·rw [n2, ← n5]; exact g2.ds
        ·rw [n3, ← n6]; exact g2.rd
       ·intro i hlt hip hig k hkp
        have hmem : i ∈ pre ++ (la ++ lb) := D1.all i (by simpa using hlt)
        have hit : i ∈ la ++ lb := (List.mem_append.1 hmem).resolve_left hip
        rw [jev hig]
        exact List.all_eq_true.1 (List.all_eq_true.1 k3 i hit) k hkp
       ·intro k hkp
        rw [jev (fun e => hfg e.symm)]
        exact List.all_eq_true.1 (List.all_eq_true.1 k3 g (by simp [hgm])) k hkp
      ·cases h
end
end Go.Proofs.YthnglblipoimhaaGreatDoor.Ev
