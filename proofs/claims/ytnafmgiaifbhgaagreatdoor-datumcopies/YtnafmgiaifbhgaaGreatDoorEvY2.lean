/-
  The evaluator, part Y2: a range over a function: its record, its rounds, the statement.
-/
import Derived.Test.YtnafmgiaifbhgaaGreatDoorEvZ
import Derived.RangeFuncNested
set_option linter.unusedSimpArgs false
set_option linter.unusedVariables false
namespace Go.Proofs.YtnafmgiaifbhgaaGreatDoor.Ev
noncomputable section
variable {P : Program} {J : Nat → Loc}
theorem jjf {n : Nat} : ∀ (ps : List Nat) (vs vs' : List Value) (tm tm' : T Value) (tmps : Array Value), jdS n ps vs tm = some tm' → vs.length = vs'.length →
  (∀ (i : Nat) a b, vs[i]? = some a → vs'[i]? = some b → VRel J a b) → tmps.size = n → RegRel J tm tmps →
  ps.length = vs'.length ∧ ((ps.zip vs').foldl (fun (tmps : Array Value) (p : Nat × Value) => tmps.setIfInBounds p.1 p.2) tmps).size = n ∧ RegRel J tm' ((ps.zip vs').foldl (fun (tmps : Array Value) (p : Nat × Value) => tmps.setIfInBounds p.1 p.2) tmps) := by
 intro ps
 induction ps with
 | nil =>
   intro vs vs' tm tm' tmps h hl hv hs hr
   cases vs with
   | nil =>
     simp only [jdS] at h
     cases h
     have : vs' = [] := List.length_eq_zero_iff.1 (by simpa using hl.symm)
     subst this
     exact ⟨rfl, hs, hr⟩
   | cons v vs => simp [jdS] at h
 | cons p ps ih =>
   intro vs vs' tm tm' tmps h hl hv hs hr
   cases vs with
   | nil => simp [jdS] at h
   | cons v vs =>
     cases vs' with
     | nil => simp at hl
     | cons v' vs' =>
       simp only [jdS] at h
       split at h
       ·rename_i hp
        have hp' : p < n := by simpa using hp
        have hvv : VRel J v v' := hv 0 v v' rfl rfl
        have := ih vs vs' (tm.set p v) tm' (tmps.setIfInBounds p v') h (by simpa using hl) (fun i a b ha hb => hv (i + 1) a b (by simpa using ha) (by simpa using hb)) (by simpa using hs) (fun t => by
         rw [jcM]
         simp only [Array.getD_eq_getD_getElem?, Array.getElem?_setIfInBounds]
         by_cases e : t = p
         ·subst e
          rw [if_pos rfl, if_pos rfl, if_pos (by omega)]
          exact hvv
         ·rw [if_neg e, if_neg (fun x => e x.symm)]
          have := hr t
          simpa only [Array.getD_eq_getD_getElem?] using this)
        refine ⟨by simp [this.1], ?_, ?_⟩
        ·simpa using this.2.1
        ·simpa using this.2.2
       ·cases h
theorem jhV {μ : Mem} {w : World} (hr : Rel J μ w) {l b : Nat} (hl : Lives J l b) {st : LoopState} {pe : Option Code} {ps : Array Tmp} {asg body : Code} {n : Nat} {tm : T Value} {d : Nat}
  (ho : μ.obs.get l = some (.loop st pe ps asg body n tm d)) : ∃ s, J l = .at b s ∧ ObRel J w b s (.loop st pe ps asg body n tm d) := by
 obtain ⟨b', s, hb, hob⟩ := hr.obj l _ ho (by simp)
 rcases hl with ⟨s2, e⟩ | e
 ·rw [e] at hb; cases hb; exact ⟨s, e, hob⟩
 ·rw [e] at hb; cases hb
theorem jdO {μ μ' : Mem} {w : World} {l b : Nat} {st : LoopState} {pe : Option Code} (h : jcI μ l st pe = some μ') (hr : Rel J μ w) (hl : Lives J l b) :
  ∃ L : Loop, w.heap[b]? = some (.loop L) ∧
   (∀ st0 pe0 ps asg body n tm d, μ.obs.get l = some (.loop st0 pe0 ps asg body n tm d) → L.state = st0 ∧ L.pending = pe0) ∧
   ∀ L' : Loop, L'.state = st → L'.pending = pe → L'.params = L.params → L'.assign = L.assign → L'.body = L.body → L'.tmps = L.tmps → L'.defers = L.defers →
    Rel J μ' (w.putObj b (.loop L')) ∧ Step J μ w J μ' (w.putObj b (.loop L')) := by
 unfold jcI at h
 split at h
 ·rename_i st0 pe0 ps asg body n tm d ho
  cases h
  obtain ⟨s, hb, L, h1, h2, h3, h4, h5, h6, h7, h8, h9⟩ := jhV hr hl ho
  have hlt : b < w.heap.size := (Array.getElem?_eq_some_iff.1 h1).1
  refine ⟨L, h1, fun a1 a2 a3 a4 a5 a6 a7 a8 e => by rw [ho] at e; cases e; exact ⟨h2, h3⟩, fun L' k1 k2 k3 k4 k5 k6 k7 => ?_⟩
  have hsz : (w.putObj b (.loop L')).heap.size = w.heap.size := World.putObj_size
  have hoth : ∀ c, c ≠ b → (w.putObj b (.loop L')).heap[c]? = w.heap[c]? := fun c hc => World.putObj_heap_other hc
  have hself : (w.putObj b (.loop L')).heap[b]? = some (.loop L') := by simp [World.putObj, hlt]
  refine ⟨hr.update hb _ hsz hoth ⟨L', hself, k1, k2, k3.trans h4, k4.trans h5, k5.trans h6, by rw [k6]; exact h7, by rw [k6]; exact h8, by rw [k7]; exact h9⟩,
   Step.update hb (fun hg => by have := hg _ ho; cases this) _ hsz hoth rfl rfl rfl⟩
 ·cases h
theorem round_ok {ev : Code → Rg → Mem → Option (Ax × Rg × Mem)} (hE : EvOk P ev) : jc9 P (jdt ev) := by
 intro l args μ v μ' h J w b args' hr hB hl ha
 unfold jdt at h
 split at h
 ·rename_i st0 pe0 ps asg body n tm d ho
  obtain ⟨s, hJ, L, h1, h2, h3, h4, h5, h6, h7, h8, h9⟩ := jhV hr hl ho
  split at h
  ·cases h
  ·rename_i tm' hp
   obtain ⟨p1, p2, p3⟩ := jjf ps.toList args args'.toList tm tm' L.tmps hp (by simpa using ha.size) (fun i a b hia hib => ha.at_ i a b (by simpa using hia) (by simpa using hib)) h7 h8
   have hsz : args'.size = L.params.size := by rw [h4]; simpa using p1.symm
   have hfold : ((L.params.zip args').foldl (fun tmps (t, a) => tmps.setIfInBounds t a) L.tmps) = ((ps.toList.zip args'.toList).foldl (fun (tmps : Array Value) (p : Nat × Value) => tmps.setIfInBounds p.1 p.2) L.tmps) := by
    rw [h4, ← Array.foldl_toList, Array.toList_zip]
   split at h
   ·rename_i r1 μ1 hev1
    split at h
    ·rename_i ps1 asg1 body1 n1 tm1 d1 ho1
     split at h
     ·cases h
     ·rename_i μ2 hset1
      split at h
      ·cases h
      ·rename_i x r2 μ3 hev2
       have main : ∀ (stE : LoopState) (peE : Option Code) (vb : Bool) (μ4 : Mem), jcI μ3 l stE peE = some μ4 → (∀ (n' : Nat) (R : Ending → World → Prop) a3 w3 (L3 : Loop), w3.heap[b]? = some (.loop L3) →
         R (.returned (.bool vb)) (w3.putObj b (.loop { L3 with state := stE, pending := peE })) → roundPost P b R (jeX x) a3 w3) →
         ∃ f tmps asg body, (Instr.yield b args').run P w = .ok (.round b f tmps asg body) w ∧
          ∀ n (R : Ending → World → Prop), (∀ J' v' w', VRel J' (.bool vb) v' → Rel J' μ4 w' → Step J μ w J' μ4 w' → R (.returned v') w') → RoundIn Fence.wide n P b f tmps asg body w R := by
        intro stE peE vb μ4 hset3 hpost
        refine ⟨L.fn, _, L.assign, L.body, run_yield h1 hsz, fun n' R hR => ?_⟩
        rw [hfold, h5, h6]
        refine roundIn_of_wpIn trivial ?_
        refine hE asg _ μ .normal r1 μ1 hev1 J _ w (some b) n' _ hr hB ⟨p2, p3, .nil, .some hl⟩ fun J1 a1 w1 g1 g2 g3 => ?_
        have hl1 := hl.mono g3.ext
        obtain ⟨L1, hL1, hf1, hput1⟩ := jdO hset1 g1 hl1
        obtain ⟨e1, e2⟩ := hf1 _ _ _ _ _ _ _ _ ho1
        obtain ⟨k1, k2⟩ := hput1 { L1 with state := .busy } rfl e2 rfl rfl rfl rfl rfl
        refine ⟨_, run_beginRound hL1 e1, ?_⟩
        refine hE body r1 μ2 x r2 μ3 hev2 J1 a1 _ (some b) n' _ k1 (hB.mono g3.ext) g2 fun J3 a3 w3 m1 m2 m3 => ?_
        obtain ⟨L3, hL3, _, hput3⟩ := jdO hset3 m1 (hl1.mono m3.ext)
        obtain ⟨q1, q2⟩ := hput3 { L3 with state := stE, pending := peE } rfl rfl rfl rfl rfl rfl rfl
        exact hpost n' R a3 w3 L3 hL3 (hR J3 _ _ (.bool vb) q1 (g3.trans hr (k2.trans g1 (m3.trans k1 q2))))
       split at h
       ·split at h
        ·split at h
         ·rename_i μ4 hset3
          cases h
          exact main .ready none true μ' hset3 fun n' R a3 w3 L3 hL3 hRR => ⟨_, _, run_endRound none hL3, hRR⟩
         ·cases h
        ·split at h
         ·rename_i μ4 hset3
          cases h
          exact main .done (some .ret) false μ' hset3 fun n' R a3 w3 L3 hL3 hRR => ⟨_, _, run_endRound (some .ret) hL3, hRR⟩
         ·cases h
        ·rename_i id
         split at h
         ·rename_i μ4 hset3
          cases h
          exact main .done (some (.exit id)) false μ' hset3 fun n' R a3 w3 L3 hL3 hRR => ⟨_, _, run_endRound (some (.exit id)) hL3, hRR⟩
         ·cases h
        ·cases h
       ·cases h
    ·cases h
   ·cases h
 ·cases h
theorem jfU {ev : Code → Rg → Mem → Option (Ax × Rg × Mem)} (hN : jdc P) (hE : EvOk P ev) {f : Value} {l b : Nat} {r r' : Rg} {μ μ' : Mem} {x : Ax} (h : jdA P ev f l r μ = some (x, r', μ')) {w : World} {a0 a : Act} {rd : Option Nat}
  (hr : Rel J μ w) (hB : Base P J) (hg : RgRel J rd r a) (hl : ∃ s, J l = .at b s) {g : Operand} (hf : VRel J f (a0.eval g)) {n : Nat} {Q : Exit → Act → World → Prop}
  (hk : ∀ J' a' w', Rel J' μ' w' → RgRel J' rd r' a' → Step J μ w J' μ' w' → Q (jeX x) a' w') :
  ∃ (d : Deferred) (w₁' : World) (fi : FuncId) (args : Array Value) (w₂ : World), (resolve a0.eval (rangeCall g b) 0).run P w = .ok d w₁' ∧ (invoke d.target d.args).run P w₁' = .ok (.enter fi args) w₂ ∧
   CallsIn (fen rd) (n - 1) P fi args w₂ (rangePost (fen rd) n P b Q a) := by
 unfold jdA at h
 split at h
 ·rename_i gf fi ca
  split at h
  ·cases h
  ·rename_i fn hfn
   split at h
   ·cases h
   ·rename_i c hc
    split at h
    ·cases h
    ·rename_i v0 μ2 hfun
     split at h
     ·cases h
     ·rename_i st pe ps asg body n0 tm d hnb ho
      split at h
      ·cases h
      ·rename_i μ3 hset
       cases hq : a0.eval g with
       | func fn' fi' ca' =>
         rw [hq] at hf
         cases hf with
         | func hfn' q1 q2 q3 q4 =>
         cases hfn'
         obtain ⟨s, hs⟩ := hl
         have hy : VRel J (.func (.yield l) #[] #[]) (.func (.yield b) #[] #[]) := .func (.yield hs) rfl (fun i a b ha => by simp at ha) rfl (fun i a b ha => by simp at ha)
         refine ⟨{ target := .fn (.func gf) ca', args := fi' ++ #[.func (.yield b) #[] #[]] }, w, gf, fi' ++ #[.func (.yield b) #[] #[]] ++ ca', w, ?_, ?_, ?_⟩
         ·have e0 : resolve a0.eval (rangeCall g b) 0 = Deferred.ofValue (a0.eval g) #[.func (.yield b) #[] #[]] := by
           simp only [resolve, rangeCall, List.map_toArray, List.map_cons, List.map_nil]
           rfl
          rw [e0, hq]
          rfl
         ·simp only [invoke]
          exact run_callFunc_enter hfn (hN gf fn hfn) hc _ w
         ·have hargs : ARel J (fi.toList ++ (.func (.yield l) #[] #[] :: ca.toList)).toArray (fi' ++ #[.func (.yield b) #[] #[]] ++ ca') := by
           rw [Array.append_assoc]
           exact (jcS q1 q2).app (jft hy (jcS q3 q4))
          have hres := jha hE gf _ μ v0 μ2 hfun J w _ hr hB hargs (n - 1) (rangePost (fen rd) n P b Q a) (fun J2 v' w2 m1 m2 m3 => ?_)
          ·exact hres
          ·have hl2 : Lives J2 l b := Lives.mono m3.ext (.inl ⟨s, hs⟩)
           obtain ⟨L2, hL2, hf2, hput2⟩ := jdO hset m2 hl2
           obtain ⟨e1, e2⟩ := hf2 _ _ _ _ _ _ _ _ ho
           obtain ⟨k1, k2⟩ := hput2 { L2 with state := .exhausted } rfl e2 rfl rfl rfl rfl rfl
           have hnb' : L2.state ≠ .busy := by rw [e1]; intro e; exact hnb e
           refine ⟨pe, _, (by rw [← e2]; exact run_endLoop hL2 hnb'), ?_⟩
           cases pe with
           | none =>
             cases h
             exact hk J2 a _ k1 (hg.mono m3.ext) (m3.trans hr k2)
           | some c' =>
             simp only at h ⊢
             exact hE c' r μ3 x r' μ' h J2 a _ rd n Q k1 (hB.mono m3.ext) (hg.mono m3.ext) fun J4 a4 w4 g1 g2 g3 => hk J4 a4 w4 g1 g2 (m3.trans hr (k2.trans m2 g3))
       | _ => rw [hq] at hf; cases hf
     ·cases h
 ·cases h
theorem range_ok {ev : Code → Rg → Mem → Option (Ax × Rg × Mem)} (hN : jdc P) (hE : EvOk P ev) {f : Operand} {ps : Array Tmp} {asg body : Code} {r r' : Rg} {μ μ' : Mem} {x : Ax}
  (h : (match r.rd with
   | none => jdA P ev (aev P r f) (Nat.add μ.next 1) { r with ds := μ.next :: r.ds }
     ⟨(μ.obs.set μ.next .deferred).set (Nat.add μ.next 1) (.loop .ready none ps asg body r.n r.tm μ.next), Nat.add μ.next 2⟩
   | some l0 => match μ.obs.get l0 with
     | some (.loop _ _ _ _ _ _ _ d) => jdA P ev (aev P r f) μ.next r ⟨μ.obs.set μ.next (.loop .ready none ps asg body r.n r.tm d), Nat.add μ.next 1⟩
     | _ => none) = some (x, r', μ')) {w : World} {a : Act} {rd : Option Nat} (hr : Rel J μ w) (hB : Base P J) (hg : RgRel J rd r a) {n : Nat} {Q : Exit → Act → World → Prop}
  (hk : ∀ J' a' w', Rel J' μ' w' → RgRel J' rd r' a' → Step J μ w J' μ' w' → Q (jeX x) a' w') : (Code.rangeFunc f ps asg body).wpIn (fen rd) n P Q a w := by
 have hv : VRel J (aev P r f) (a.eval f) := jgx hB fun d _ => hg.regs d
 have hrd := hg.rd
 refine wpIn_rangeFunc fun fn _ => ?_
 cases hrr : r.rd with
 | none =>
   rw [hrr] at h hrd
   cases hrd
   have hJ0 : J μ.next = .unborn := hr.fresh _ (Nat.le_refl _)
   have r1 := hr.alloc (i := μ.next) (nx := μ.next + 1) 0 .deferred (.deferred (some [])) hJ0 (Nat.lt_succ_self _) (Nat.le_succ _) (heap_alloc_new w _)
   have s1 := Step.alloc hr (i := μ.next) (nx := μ.next + 1) 0 .deferred (.deferred (some [])) (Nat.le_refl _) (Nat.lt_succ_self _) (Nat.le_succ _)
   generalize hJ1 : upd J μ.next (.at w.heap.size 0) = J1 at r1 s1
   have hJ1n : J1 μ.next = .at w.heap.size 0 := by rw [← hJ1, upd_same]
   have hx1 := s1.ext
   generalize hw1 : w.alloc (.deferred (some [])) = w1 at r1 s1
   have hw1s : w1.heap.size = w.heap.size + 1 := by rw [← hw1, World.size_alloc]
   let L : Loop := { state := .ready, pending := none, fn := fn, tmps := a.tmps, params := ps, assign := asg, body := body, defers := w.heap.size }
   have hJ2 : J1 (μ.next + 1) = .unborn := r1.fresh _ (Nat.le_refl _)
   have hx2 : Ext J1 (upd J1 (μ.next + 1) (.at w1.heap.size 0)) := jc2 _ hJ2
   have r2 := r1.alloc (i := μ.next + 1) (nx := μ.next + 2) 0 (.loop .ready none ps asg body r.n r.tm μ.next) (.loop L) hJ2 (by omega) (by show μ.next + 1 ≤ _; omega)
    ⟨L, heap_alloc_new w1 _, rfl, rfl, rfl, rfl, rfl, hg.size, (fun t => ((hg.regs t).mono hx1).mono hx2), .inl ⟨0, by rw [jaD (by omega)]; exact hJ1n⟩⟩
   have s2 := Step.alloc r1 (i := μ.next + 1) (nx := μ.next + 2) 0 (.loop .ready none ps asg body r.n r.tm μ.next) (.loop L) (Nat.le_refl _) (by omega) (by show μ.next + 1 ≤ _; omega)
   have hxx := hx1.trans hx2
   have hst := s1.trans hr s2
   obtain ⟨d, w1', fi, args, w2, k1, k2, k3⟩ := jfU (n := n) (Q := Q) (a0 := a) (a := { a with defers := [{ target := .collected w.heap.size, args := #[] }] ++ a.defers }) hN hE h r2 (hB.mono hxx)
    ⟨hg.size, fun t => (hg.regs t).mono hxx, .cons (.inl ⟨0, by rw [jaD (by omega)]; exact hJ1n⟩) (hg.ds.mono hxx), .none⟩
    ⟨0, upd_same _ _ _⟩ (hv.mono hxx) (fun J' a' w' g1 g2 g3 => hk J' a' w' g1 g2 (hst.trans hr g3))
   refine ⟨w.heap.size + 1, [{ target := .collected w.heap.size, args := #[] }], w1.alloc (.loop L), d, w1', fi, args, w2, ?_, ?_, fun _ _ => trivial, k2, fun hh => by simp [fen] at hh, ?_⟩
   ·rw [← hw1]; exact run_enterLoop_outer fn a.tmps ps asg body
   ·rw [← hw1s]; exact k1
   ·rw [← hw1s]; exact k3
 | some l0 =>
   rw [hrr] at h hrd
   cases hrd with
   | some hl0 =>
   rename_i b0
   simp only at h
   split at h
   ·rename_i st0 pe0 ps0 asg0 body0 n0 tm0 d0 ho
    obtain ⟨s, hJ, L0, h1, h2, h3, h4, h5, h6, h7, h8, h9⟩ := jhV hr hl0 ho
    let L : Loop := { state := .ready, pending := none, fn := fn, tmps := a.tmps, params := ps, assign := asg, body := body, defers := L0.defers }
    have hJ2 : J μ.next = .unborn := hr.fresh _ (Nat.le_refl _)
    have hx2 : Ext J (upd J μ.next (.at w.heap.size 0)) := jc2 _ hJ2
    have r2 := hr.alloc (i := μ.next) (nx := μ.next + 1) 0 (.loop .ready none ps asg body r.n r.tm d0) (.loop L) hJ2 (Nat.lt_succ_self _) (Nat.le_succ _)
     ⟨L, heap_alloc_new w _, rfl, rfl, rfl, rfl, rfl, hg.size, (fun t => (hg.regs t).mono hx2), Lives.mono hx2 h9⟩
    have s2 := Step.alloc hr (i := μ.next) (nx := μ.next + 1) 0 (.loop .ready none ps asg body r.n r.tm d0) (.loop L) (Nat.le_refl _) (Nat.lt_succ_self _) (Nat.le_succ _)
    obtain ⟨d, w1', fi, args, w2, k1, k2, k3⟩ := jfU (n := n) (Q := Q) (a0 := a) (a := { a with defers := [] ++ a.defers }) hN hE h r2 (hB.mono hx2)
     ⟨hg.size, fun t => (hg.regs t).mono hx2, hg.ds.mono hx2, hg.rd.mono hx2⟩
     ⟨0, upd_same _ _ _⟩ (hv.mono hx2) (fun J' a' w' g1 g2 g3 => hk J' a' w' g1 g2 (s2.trans hr g3))
    exact ⟨w.heap.size, [], w.alloc (.loop L), d, w1', fi, args, w2, run_enterLoop_inner h1 fn a.tmps ps asg body, k1, fun _ _ => trivial, k2, fun hh => by simp [fen] at hh, k3⟩
   ·cases h
end
end Go.Proofs.YtnafmgiaifbhgaaGreatDoor.Ev
