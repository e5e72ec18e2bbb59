/-
  The evaluator, part O: append, whole. No conditions.
-/
import Derived.Test.YtnafmgiaifbhgaaGreatDoorEvN
set_option linter.unusedSimpArgs false
set_option linter.unusedVariables false
namespace Go.Proofs.YtnafmgiaifbhgaaGreatDoor.Ev
noncomputable section
variable {P : Program} {J : Nat → Loc}
def jcu (μ : Mem) (e : TypeId) (size need : Nat) (cs : List Value) (lo hi : Nat) (sh : Bool) : Value × Mem :=
 (.slice (some ⟨μ.next, 0, none⟩) need (Nat.add (Nat.mul 2 size) 1), ⟨μ.obs.set μ.next (.cells cs.length e cs.toArray .e lo hi true sh), Nat.add μ.next 1⟩)
def jdU (lo hi o k : Nat) : Bool :=
 match Nat.blt lo hi with
 | false => true
 | true => match Nat.ble k lo with
   | true => true
   | false => Nat.ble hi o
def jbo (P : Program) (μ : Mem) (e : TypeId) (size n : Nat) (new : List Value) (s : Value) : Option (Value × Mem) :=
 match s with
 | .slice none 0 0 => match n with
   | 0 => some (.slice none 0 0, μ)
   | _ => some (jcu μ e size n new 0 0 false)
 | .slice (some ⟨i, o, none⟩) l c => match Nat.ble (Nat.add l n) 67108864 with
   | false => none
   | true => match Nat.beq (Nat.mod c 2) 0 with
     | true => match Nat.ble (Nat.add l n) (Nat.div c 2) with
       | true => match new with
         | [] => some (.slice (some ⟨i, o, none⟩) (Nat.add l n) c, μ)
         | _ => match μ.obs.get i with
           | some (.cells m te zero over lo hi fx sh) => match jb2 m lo hi (Nat.add o (Nat.mul l size)) new.length with
             | false => none
             | true => match scalars new with
               | false => none
               | true => some (.slice (some ⟨i, o, none⟩) (Nat.add l n) c, ⟨μ.obs.set i (.cells m te zero (over.lay (Nat.add o (Nat.mul l size)) new) lo hi fx sh), μ.next⟩)
           | _ => none
       | false => match ja7 μ size l (.slice (some ⟨i, o, none⟩) l c) with
         | some old => some (jcu μ e size (Nat.add l n) (old ++ new) 0 0 false)
         | none => none
     | false => match n with
       | 0 => some (.slice (some ⟨i, o, none⟩) l c, μ)
       | _ => match o with
         | 0 => match μ.obs.get i with
           | some (.cells m te zero over lo hi fx sh) => match Nat.beq (Nat.div c 2) size with
             | false => none
             | true => match Nat.beq te e with
               | false => none
               | true => match Nat.ble (Nat.mul l size) m with
                 | false => none
                 | true => match jdU lo hi (Nat.mul l size) (Nat.mul (Nat.add l n) size) with
                   | false => none
                   | true => match scalars new with
                     | false => none
                     | true => some (.slice (some ⟨μ.next, 0, none⟩) (Nat.add l n) c,
                       ⟨(μ.obs.set i .dead).set μ.next (.cells (jaE zero over 0 (Nat.mul l size) ++ new).length e (jaE zero over 0 (Nat.mul l size) ++ new).toArray .e lo hi true sh), Nat.add μ.next 1⟩)
           | _ => none
         | _ => none
 | _ => none
def jbk (P : Program) (μ : Mem) (st xt : TypeId) (s x : Value) : Option (Value × Mem) :=
 match P.underlying st with
 | some (.slice e) => match P.info? e with
   | none => none
   | some inf => match Nat.ble inf.bytes 4096 with
     | false => none
     | true => match jbh P e with
       | none => none
       | some z => match Nat.beq (ja2 z).length inf.size with
         | false => none
         | true => match (match P.underlying xt with | some (.slice _) => true | some .string => true | _ => false) with
           | false => none
           | true => match lenV x with
             | none => none
             | some n => match Nat.ble n 67108864 with
               | false => none
               | true => match ja7 μ inf.size n x with
                 | none => none
                 | some new => match Nat.beq new.length (Nat.mul n inf.size) with
                   | false => none
                   | true => jbo P μ e inf.size n new s
 | _ => none
theorem jbe {zero : Array Value} {over : T Value} : ∀ (n o : Nat), (jaE zero over o n).length = n := by
 intro n
 induction n with
 | zero => intro o; rfl
 | succ n ih => intro o; simp [jaE, ih]
theorem jc3 {zero : Array Value} {over : T Value} : ∀ (n o k : Nat), k < n → (jaE zero over o n)[k]? = some (cellAt zero over (o + k)) := by
 intro n
 induction n with
 | zero => intro o k h; omega
 | succ n ih =>
   intro o k h
   cases k with
   | zero => rfl
   | succ k =>
     rw [jaE, List.getElem?_cons_succ, ih _ _ (by omega)]
     rw [show Nat.add o 1 + k = o + (k + 1) from by show o + 1 + k = _; omega]
theorem app_cells {J : Nat → Loc} {a b c : List Value} {a' b' c' : Array Value} (h1 : ARel J a.toArray a') (h2 : ARel J b.toArray b') : ARel J (a ++ b).toArray (a' ++ b') where
 size := by have e1 := h1.size; have e2 := h2.size; simp at e1 e2 ⊢; omega
 at_ i x y hx hy := by
  have e1 : a.length = a'.size := by simpa using h1.size
  simp only [List.getElem?_toArray] at hx
  by_cases h : i < a.length
  ·rw [List.getElem?_append_left h] at hx
   rw [Array.getElem?_append_left (by omega)] at hy
   exact h1.at_ i x y (by simpa using hx) hy
  ·rw [List.getElem?_append_right (by omega)] at hx
   rw [Array.getElem?_append_right (by omega)] at hy
   rw [e1] at hx
   exact h2.at_ _ x y (by simpa using hx) hy
theorem jjE {w : World} {l : List Value} {x' r : Array Value} {t : TypeId} {lo hi : Nat} {sh : Bool} (h : ARel J l.toArray x') :
  ObRel J (w.alloc (.cells (x' ++ r) t)) w.heap.size (x' ++ r).size (.cells l.length t l.toArray .e lo hi true sh) := by
 have hs : l.length = x'.size := by simpa using h.size
 refine ⟨x' ++ r, (0, 0), heap_alloc_new w _, rfl, by simp; omega, (fun h => by cases h), fun i hi => ?_, .inl rfl⟩
 refine ⟨x'[i], by rw [Array.getElem?_append_left (by omega)]; exact Array.getElem?_eq_getElem (by omega), ?_⟩
 refine h.at_ i _ _ ?_ (Array.getElem?_eq_getElem (by omega))
 have hm : Nat.mod i l.toArray.size = i := by show i % _ = i; rw [Nat.mod_eq_of_lt]; simpa using hi
 simp only [cellAt, T.get_e, hm]
 rw [Array.getElem?_eq_getElem (by simpa using hi), Array.getD, dif_pos (by simpa using hi)]
 rfl
theorem jeq {μ : Mem} {w : World} (h : Rel J μ w) {c : Call} {st xt e : TypeId} {inf : TypeInfo} {z : Value} (A : AppArgs P c st xt e inf z) {ty : TypeId} {base : Option Addr} {l cp n : Nat} {x' : Value}
  {olds news : List Value} {old new : Array Value} {lo hi : Nat} {sh : Bool}
  (hn : ∀ w, (Builtin.lenOf x').run P w = .ok n w) (hgt : cp < l + n) (hs : l + n ≤ 67108864)
  (hnew : ∀ w', w'.heap = w.heap → (Builtin.firstCells inf.size n x').run P w' = .ok new w') (hold : ∀ w', w'.heap = w.heap → (Builtin.firstCells inf.size l (.slice base l cp)).run P w' = .ok old w')
  (ho : ARel J olds.toArray old) (hne : ARel J news.toArray new) (hlen : (olds ++ news).length = (l + n) * inf.size) :
  ∃ J' v' w', (Builtin.append_ c.argTypes ty #[.slice base l cp, x']).run P w = .ok v' w' ∧ VRel J' (jcu μ e inf.size (l + n) (olds ++ news) lo hi sh).1 v' ∧
   Rel J' (jcu μ e inf.size (l + n) (olds ++ news) lo hi sh).2 w' ∧ Step J μ w J' (jcu μ e inf.size (l + n) (olds ++ news) lo hi sh).2 w' := by
 obtain ⟨nc, w1, hnc, hw1, o1, o2, o3, hrun⟩ := run_grows A (ty := ty) hn hgt hs hnew hold
 have hcs := app_cells (c := []) (c' := #[]) ho hne
 have h1 : Rel J μ w1 := h.heap hw1
 have hsz : (old ++ new).size = (l + n) * inf.size := by have := hcs.size; simp only [List.size_toArray] at this; omega
 have hfull : (old ++ new ++ Builtin.zeroCells z.cells (nc - (l + n))).size = nc * inf.size := by
  rw [Array.size_append, hsz, jfD, A.zsize, Nat.sub_mul]
  have : (l + n) * inf.size ≤ nc * inf.size := Nat.mul_le_mul_right _ hnc
  omega
 have hu : J μ.next = .unborn := h.fresh _ (Nat.le_refl _)
 refine ⟨upd J μ.next (.at w1.heap.size (old ++ new ++ Builtin.zeroCells z.cells (nc - (l + n))).size), _, _, hrun, ?_, ?_, ?_⟩
 ·rw [show w.heap.size = w1.heap.size from by rw [hw1]]
  refine .slice (upd_same _ _ _) (.inr ⟨by show (2 * inf.size + 1) % 2 = 1; omega, hnc, ?_⟩)
  rw [hfull, show (Nat.add (Nat.mul 2 inf.size) 1) / 2 = inf.size from by show (2 * inf.size + 1) / 2 = _; omega]
  omega
 ·exact h1.alloc _ _ _ hu (Nat.lt_succ_self _) (Nat.le_succ _) ((jjE hcs).keep (jc2 _ hu) rfl)
 ·have s1 : Step J μ w J μ w1 := { Step.refl J μ w with size := by rw [hw1]; exact Nat.le_refl _, frame := fun b _ _ => by rw [hw1], os := o1, tape := o2, output := o3, born := (Step.refl J μ w).born }
  exact s1.trans h (Step.alloc h1 _ _ _ (Nat.le_refl _) (Nat.lt_succ_self _) (Nat.le_succ _))
def AppTurns (P : Program) (J : Nat → Loc) (c : Call) (ty : TypeId) (s' x' : Value) (μ : Mem) (w : World) (v : Value) (μ' : Mem) : Prop :=
 ∃ J' v' w', (Builtin.append_ c.argTypes ty #[s', x']).run P w = .ok v' w' ∧ VRel J' v v' ∧ Rel J' μ' w' ∧ Step J μ w J' μ' w'
theorem jhG {lo hi o k s : Nat} {fz : Nat × Nat} {sh : Bool} (h : jdU lo hi o k = true) (hs : k ≤ s) (hf : FzRel fz s lo hi sh) : ∀ j, o ≤ j → j < k → ¬ (fz.1 ≤ j ∧ j < fz.2) := by
 unfold jdU at h
 intro j hj1 hj2 ⟨e1, e2⟩
 rcases hf with hf | ⟨_, hf⟩ | ⟨hf1, hf2, hf3⟩
 ·omega
 ·omega
 ·split at h
  ·rename_i h2
   have : ¬ lo < hi := fun hlt => by rw [show Nat.blt lo hi = true from by simpa using hlt] at h2; cases h2
   omega
  ·split at h
   ·rename_i h3
    have h3' : k ≤ lo := Nat.le_of_ble_eq_true h3
    omega
   ·have h3' : hi ≤ o := Nat.le_of_ble_eq_true h
    omega
theorem jfB {μ : Mem} {w : World} (h : Rel J μ w) {c : Call} {st xt e : TypeId} {inf : TypeInfo} {z : Value} (A : AppArgs P c st xt e inf z) {ty : TypeId} {s s' x x' : Value} {n : Nat} {news : List Value} {v : Value} {μ' : Mem}
  (hx : VRel J s s') (hy : VRel J x x') (hn : lenV x = some n) (hn2 : n ≤ 67108864) (hnew : ja7 μ inf.size n x = some news) (hnl : news.length = n * inf.size)
  (hs : jbo P μ e inf.size n news s = some (v, μ')) : AppTurns P J c ty s' x' μ w v μ' := by
 have hlen : ∀ w, (Builtin.lenOf x').run P w = .ok n w := jgT hy hn
 obtain ⟨new, hnew1, hnew2⟩ := jcV (P := P) h hy hnew
 have hns : news.length = new.size := by simpa using hnew2.size
 unfold jbo at hs
 split at hs
 ·
  cases hx
  split at hs
  ·cases hs
   refine ⟨J, .slice none 0 0, w, ?_, .sliceNil 0 0, h, Step.refl _ _ _⟩
   exact jdY A (base := none) (l := 0) (cp := 0) (hlen w) (Nat.le_refl _) (hnew1 w rfl) (fun a e => by cases e) (fun _ => rfl)
  ·rename_i hn0
   cases hs
   have hn0' : 0 < n := Nat.pos_of_ne_zero fun e => hn0 (by omega)
   have := jeq h A (ty := ty) (base := none) (l := 0) (cp := 0) (olds := []) (old := #[]) (lo := 0) (hi := 0) (sh := false) hlen (by omega) (by omega) hnew1 (fun w' _ => rfl) ⟨rfl, fun i a b ha => by simp at ha⟩ hnew2 (by simpa using hnl)
   rw [Nat.zero_add] at this
   exact this
 ·rename_i i of l cp
  obtain ⟨a', c', hx', hadd, hcase⟩ := jbm hx
  have hx2 := hx
  rw [hx'] at hx2 ⊢
  split at hs
  ·cases hs
  ·rename_i hsum
   have hsum' : l + n ≤ 67108864 := Nat.le_of_ble_eq_true hsum
   split at hs
   ·rename_i heven
    have heven' : cp % 2 = 0 := Nat.eq_of_beq_eq_true heven
    have hcc : c' = cp / 2 := by
     rcases hcase with ⟨_, _, _, _, _, _, _, hcap⟩ | ⟨_, hcap⟩
     ·rcases hcap with ⟨_, e2⟩ | ⟨e2, _⟩
      ·exact e2
      ·omega
     ·rcases hcap with ⟨_, e2⟩ | ⟨e2, _⟩
      ·exact e2
      ·omega
    split at hs
    ·rename_i hfit
     have hfit' : l + n ≤ c' := by rw [hcc]; exact Nat.le_of_ble_eq_true hfit
     have hval : ∀ J', Ext J J' → VRel J' (.slice (some ⟨i, of, none⟩) (Nat.add l n) cp) (.slice (some a') (l + n) c') := by
      intro J' hE
      rcases hcase with ⟨i2, o2, b2, s2, e1, e2, e3, hcap⟩ | ⟨e1, hcap⟩
      ·cases e1
       subst e2
       refine VRel.mono hE (.slice e3 ?_)
       rcases hcap with hcap | ⟨e4, _⟩
       ·exact .inl hcap
       ·omega
      ·refine VRel.mono hE (.sliceDead _ _ e1 ?_)
       rcases hcap with hcap | ⟨e4, _⟩
       ·exact .inl hcap
       ·omega
     split at hs
     ·cases hs
      have hnil : new = #[] := Array.eq_empty_of_size_eq_zero (by rw [← hns]; rfl)
      refine ⟨J, _, w, jdY A (base := some a') (w' := w) (hlen w) hfit' (hnew1 w rfl) (fun a e => by cases e; rw [hnil]; rfl) (fun e => by cases e), hval J (Ext.refl J), h, Step.refl _ _ _⟩
     ·split at hs
      ·rename_i m te zero over lo hi fx sh hob
       split at hs
       ·cases hs
       ·rename_i hw
        split at hs
        ·cases hs
        ·rename_i hsc
         cases hs
         obtain ⟨b, sz, hb, w', r1, r2, r3⟩ := jel (P := P) (vs' := new.toList) h hob hw hsc (by simpa using hnew2)
         have ha' : a' = ⟨b, of, none⟩ := by
          rcases hcase with ⟨i2, o2, b2, s2, e1, e2, e3, _⟩ | ⟨e1, _⟩
          ·cases e1; rw [hb] at e3; cases e3; exact e2
          ·rw [show J i = _ from hb] at e1; cases e1
         refine ⟨J, _, w', jdY A (base := some a') (w' := w') (hlen w) hfit' (hnew1 w rfl) (fun a e => ?_) (fun e => by cases e), hval J (Ext.refl J), r2, r3⟩
         cases e
         rw [ha', jf5]
         exact r1
      ·cases hs
    ·rename_i hfit
     have hfit' : c' < l + n := by
      have : ¬ (l + n ≤ cp / 2) := fun hle => by rw [show Nat.ble (Nat.add l n) (Nat.div cp 2) = true from Nat.ble_eq_true_of_le hle] at hfit; cases hfit
      omega
     split at hs
     ·rename_i olds hold
      cases hs
      obtain ⟨old, ho1, ho2⟩ := jcV (P := P) h hx hold
      rw [hx'] at ho1
      have hol : olds.length = l * inf.size := by
       unfold ja7 at hold
       simp only at hold
       split at hold
       ·rename_i h0; cases hold; exact h0.symm
       ·split at hold
        ·split at hold
         ·cases hold; rw [jbe]; rfl
         ·cases hold
        ·split at hold
         ·cases hold; rw [jbe]; rfl
         ·cases hold
        ·split at hold
         ·cases hold; rw [jbe]; rfl
         ·cases hold
        ·split at hold
         ·cases hold; rw [jbe]; rfl
         ·cases hold
        ·cases hold
      exact jeq h A hlen hfit' hsum' hnew1 ho1 ho2 hnew2 (by rw [List.length_append, hol, hnl, Nat.add_mul])
     ·cases hs
   ·rename_i hodd
    have hodd' : cp % 2 = 1 := by have : cp % 2 ≠ 0 := Nat.ne_of_beq_eq_false hodd; omega
    have hlc : l ≤ c' := by
     rcases hcase with ⟨_, _, _, _, _, _, _, hcap⟩ | ⟨_, hcap⟩
     ·rcases hcap with ⟨e2, _⟩ | ⟨_, e2, _⟩
      ·omega
      ·exact e2
     ·rcases hcap with ⟨e2, _⟩ | ⟨_, e2⟩
      ·omega
      ·exact e2
    split at hs
    ·cases hs
     have hnil : new = #[] := Array.eq_empty_of_size_eq_zero (by rw [← hns, hnl, Nat.zero_mul])
     refine ⟨J, _, w, jdY A (base := some a') (w' := w) (hlen w) (by omega) (hnew1 w rfl) (fun a e => by cases e; rw [hnil]; rfl) (fun e => by cases e), hx2, h, Step.refl _ _ _⟩
    ·rename_i hn0
     split at hs
     ·split at hs
      ·rename_i m te zero over lo hi fx sh hob
       split at hs
       ·cases hs
       ·rename_i hes
        have hes' : cp / 2 = inf.size := Nat.eq_of_beq_eq_true hes
        split at hs
        ·cases hs
        ·rename_i hte
         obtain rfl : te = e := Nat.eq_of_beq_eq_true hte
         split at hs
         ·cases hs
         ·rename_i hle
          have hle' : l * inf.size ≤ m := Nat.le_of_ble_eq_true hle
          split at hs
          ·cases hs
          ·rename_i huf
           split at hs
           ·cases hs
           ·rename_i hsc
            cases hs
            obtain ⟨b, sz, hb, hr, hcells⟩ := cell_of h hob
            have hcap : a' = ⟨b, 0, none⟩ ∧ c' * inf.size ≤ sz := by
             rcases hcase with ⟨i2, o2, b2, s2, e1, e2, e3, hcap⟩ | ⟨e1, _⟩
             ·cases e1; rw [hb] at e3; cases e3
              rcases hcap with ⟨e4, _⟩ | ⟨_, _, e4⟩
              ·omega
              ·rw [hes'] at e4; exact ⟨e2, by omega⟩
             ·rw [show J i = _ from hb] at e1; cases e1
            obtain ⟨ha', hcap⟩ := hcap
            subst ha'
            obtain ⟨ol, ho1, ho2⟩ := jbQ (P := P) (w := w) (zero := zero) (over := over) (b := b) (o := 0) (l * inf.size) 0 #[] (fun k hk => hcells _ (by omega))
            have hol : (jaE zero over 0 (l * inf.size)).length = l * inf.size := jbe _ _
            have hwhole : (jaE zero over 0 (Nat.mul l inf.size) ++ news).length = (l + n) * inf.size := by
             rw [List.length_append, show Nat.mul l inf.size = l * inf.size from rfl, hol, hnl, Nat.add_mul]
            by_cases hfit : l + n ≤ c'
            ·
             obtain ⟨cc, fz, h1, h2, h3, h4, h5, h6⟩ := hr
             have hnc : (l + n) * inf.size ≤ sz := Nat.le_trans (Nat.mul_le_mul_right _ hfit) hcap
             have hfree := jhG huf hnc h6
             have hscm : ∀ v ∈ new.toList, (∀ x, v ≠ .agg x) ∧ (∀ x, v ≠ .tuple x) := by
              intro u hum
              obtain ⟨k, hk, rfl⟩ := List.mem_iff_getElem.1 hum
              have hk' : k < new.size := by simpa using hk
              have hk2 : k < news.length := by omega
              exact jfR (hnew2.at_ k news[k] new.toList[k] (by simp [hk2]) (by simp [hk'])) (je2 news hsc _ (List.getElem_mem hk2))
             obtain ⟨w', cc', r1, r2, r3⟩ := jdI (P := P) (o := l * inf.size) new.toList 0 w cc h1 (by simp only [Array.length_toList]; rw [← hns, hnl, h2]; rw [Nat.add_mul] at hnc; omega)
              (fun k a b => hfree k (by show l * inf.size ≤ k; omega) (by simp only [Array.length_toList] at b; rw [← hns, hnl] at b; show k < (l + n) * inf.size; rw [Nat.add_mul]; omega)) hscm
             have hob2 : ∀ J', Ext J J' → ObRel J' w' b sz (.cells (jaE zero over 0 (Nat.mul l inf.size) ++ news).length te (jaE zero over 0 (Nat.mul l inf.size) ++ news).toArray .e lo hi true sh) := by
              intro J' hE
              refine ⟨cc', fz, r2.block, by rw [r2.cells]; exact h2, by rw [hwhole]; exact hnc, (fun h => by cases h), fun k hk => ?_, h6⟩
              have hm : Nat.mod k (jaE zero over 0 (Nat.mul l inf.size) ++ news).toArray.size = k := by show k % _ = k; rw [Nat.mod_eq_of_lt]; simpa using hk
              have hval : cellAt (jaE zero over 0 (Nat.mul l inf.size) ++ news).toArray .e k = (jaE zero over 0 (Nat.mul l inf.size) ++ news)[k] := by
               simp only [cellAt, T.get_e, hm]
               rw [Array.getD, dif_pos (by simpa using hk)]; rfl
              rw [hval, r3 k]
              by_cases hk2 : k < l * inf.size
              ·rw [if_neg (by omega)]
               obtain ⟨y, hy1, hy2⟩ := hcells k (by omega)
               have hcell : cc[k]? = some y := by
                simp only [World.cell?, h1] at hy1
                simpa using hy1
               refine ⟨y, hcell, VRel.mono hE ?_⟩
               rw [List.getElem_append_left (by rw [show Nat.mul l inf.size = l * inf.size from rfl, hol]; exact hk2)]
               have hcf : (jaE zero over 0 (l * inf.size))[k]? = some (cellAt zero over (0 + k)) := jc3 _ _ _ hk2
               rw [List.getElem?_eq_getElem (by omega), Option.some.injEq, Nat.zero_add] at hcf
               exact hcf ▸ hy2
              ·have hk4 : k < (l + n) * inf.size := by rw [← hwhole]; exact hk
               rw [Nat.add_mul] at hk4
               rw [if_pos ⟨by omega, by simp only [Array.length_toList]; omega⟩]
               have hk5 : k - (l * inf.size + 0) < new.size := by omega
               refine ⟨new[k - (l * inf.size + 0)], by simp [hk5], VRel.mono hE ?_⟩
               rw [List.getElem_append_right (by rw [show Nat.mul l inf.size = l * inf.size from rfl, hol]; omega)]
               refine hnew2.at_ (k - (l * inf.size + 0)) _ _ ?_ (by simp [hk5])
               simp only [List.getElem?_toArray]
               rw [List.getElem?_eq_getElem (by omega)]
               congr 2
               rw [show Nat.mul l inf.size = l * inf.size from rfl, hol]
               omega
             have hp : ¬ gone μ i := fun hg => by have := hg _ hob; cases this
             have hne : μ.next ≠ i := by have := jdj h hb; omega
             refine ⟨_, _, w', jdY A (base := some ⟨b, 0, none⟩) (w' := w') (hlen w) hfit (hnew1 w rfl) (fun a e => ?_) (fun e => by cases e), ?_,
              h.move hb _ r2.size r2.other hob2, Step.move h hb hp _ r2.size r2.other r2.os r2.tape r2.output⟩
             ·cases e
              rw [jf5, Nat.zero_add]
              exact r1
             ·exact .slice (upd_same _ _ _) (.inr ⟨hodd', hfit, by rw [hes']; omega⟩)
            ·
             have hp : ¬ gone μ i := fun hg => by have := hg _ hob; cases this
             have hold : ∀ w', w'.heap = w.heap → (Builtin.firstCells inf.size l (.slice (some ⟨b, 0, none⟩) l c')).run P w' = .ok ol.toArray w' := fun w' hw' => by
              have := ho1 w' hw'
              simpa [Builtin.firstCells, loadCells] using this
             obtain ⟨J', v', w', g1, g2, g3, g4⟩ := jeq (h.kill hb) A (ty := ty) (base := some ⟨b, 0, none⟩) (l := l) (cp := c') (lo := lo) (hi := hi) (sh := sh) hlen (by omega) hsum' hnew1 hold
              ((show ARel J (jaE zero over 0 (l * inf.size)).toArray ol.toArray from ho2).mono (jdx i)) (hnew2.mono (jdx i)) hwhole
             have hcpe : cp = 2 * inf.size + 1 := by omega
             refine ⟨J', v', w', g1, ?_, g3, (Step.kill h hb hp).trans h g4⟩
             rw [hcpe]
             exact g2
      ·cases hs
     ·cases hs
 ·cases hs
end
end Go.Proofs.YtnafmgiaifbhgaaGreatDoor.Ev
