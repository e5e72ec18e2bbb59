/-
  The evaluator, part Zw: numbers; blocks of cells; structs that lie in them; memory that grows; slices of wide elements. No conditions.
-/
import Derived.Test.YtnafmgiaifbhgaaGreatDoorEvZv
set_option linter.unusedSimpArgs false
set_option linter.unusedVariables false
namespace Go.Proofs.YtnafmgiaifbhgaaGreatDoor.Ev
noncomputable section
variable {P : Program} {X : FuncId → List Value → Mem → Option (Value × Mem)}
theorem jaf {cf : FuncId → List Value → Mem → Option (Value × Mem)} {rf : Nat → List Value → Mem → Option (Value × Mem)} {o : Oper} {g : Option (Nat × Bool)} {rest : List (Oper × Option (Nat × Bool))} {r r' : Rg} {μ μ' : Mem} {v : Value} {Q : Rg → Mem → Prop}
  (hw : wanted r g = some true) (h1 : aOne P X cf rf r μ o = some (v, μ')) (h2 : aput r o.dst v = some r') (h : Go.Proofs.YtnafmgiaifbhgaaGreatDoor.Ev.Ends (run2 P X cf rf rest r' μ') Q) : Go.Proofs.YtnafmgiaifbhgaaGreatDoor.Ev.Ends (run2 P X cf rf ((o, g) :: rest) r μ) Q := by
 simp only [run2, hw, h1, h2]; exact h
theorem jai {cf : FuncId → List Value → Mem → Option (Value × Mem)} {rf : Nat → List Value → Mem → Option (Value × Mem)} {o : Oper} {g : Option (Nat × Bool)} {rest : List (Oper × Option (Nat × Bool))} {r r' : Rg} {μ : Mem} {Q : Rg → Mem → Prop}
  (hw : wanted r g = some false) (h2 : aput r o.dst undef = some r') (h : Go.Proofs.YtnafmgiaifbhgaaGreatDoor.Ev.Ends (run2 P X cf rf rest r' μ) Q) : Go.Proofs.YtnafmgiaifbhgaaGreatDoor.Ev.Ends (run2 P X cf rf ((o, g) :: rest) r μ) Q := by
 simp only [run2, hw, h2]; exact h
theorem jaN {x : Option (Value × Mem)} {v : Value} {μ : Mem} (h : EndsF x fun v' μ' => v' = v ∧ μ' = μ) : x = some (v, μ) := by
 obtain ⟨v', μ', h1, rfl, rfl⟩ := h; exact h1
theorem q64 (m : Nat) (h : m < 9223372036854775808) : jax .i64 (.ofNat m) = .ofNat m := by
 unfold jax
 simp only
 rw [show Nat.blt m 9223372036854775808 = true from by simpa using h]
theorem jck (a b : Nat) (h : b ≤ a) (h1 : a < 4611686018427387904) : jax .i64 (Int.sub (.ofNat a) (.ofNat b)) = .ofNat (a - b) := by
 rw [show Int.sub (.ofNat a) (.ofNat b) = .ofNat (a - b) from by show (a : Int) - (b : Int) = _; simp only [Int.ofNat_eq_natCast]; omega]
 exact q64 _ (by omega)
theorem mul_nat (a b : Nat) (h : a * b < 4611686018427387904) : jax .i64 (Int.mul (.ofNat a) (.ofNat b)) = .ofNat (a * b) := q64 (a * b) (by omega)
def Grow (μ μ' : Mem) : Prop := μ.next ≤ μ'.next ∧ ∀ i, i < μ.next → μ'.obs.get i = μ.obs.get i
theorem Grow.refl (μ : Mem) : Grow μ μ := ⟨Nat.le_refl _, fun _ _ => rfl⟩
theorem Grow.trans {a b c : Mem} (h : Grow a b) (g : Grow b c) : Grow a c := ⟨Nat.le_trans h.1 g.1, fun i hi => (g.2 i (Nat.lt_of_lt_of_le hi h.1)).trans (h.2 i hi)⟩
theorem jbn (μ : Mem) (o1 : Ob) : Grow μ ⟨μ.obs.set μ.next o1, μ.next + 1⟩ := ⟨Nat.le_succ _, fun i hi => by show T.get _ i = _; rw [T.get_set, if_neg (by omega)]⟩
theorem jb7 (μ : Mem) (d : Nat) : Grow μ ⟨μ.obs, μ.next + d⟩ := ⟨Nat.le_add_right _ _, fun _ _ => rfl⟩
def Blk (μ : Mem) (i n t : Nat) : Prop := ∃ z ov fx sh, μ.obs.get i = some (.cells n t z ov 0 0 fx sh)
def putL (μ : Mem) (i o : Nat) (vs : List Value) : Mem := match μ.obs.get i with
 | some (.cells n t z ov a b fx sh) => ⟨μ.obs.set i (.cells n t z (ov.lay o vs) a b fx sh), μ.next⟩
 | _ => μ
theorem jbb (μ : Mem) (i o : Nat) (vs : List Value) : (putL μ i o vs).next = μ.next := by
 unfold putL; split <;> rfl
theorem jbx (μ : Mem) (i o : Nat) (vs : List Value) {j : Nat} (h : j ≠ i) : (putL μ i o vs).obs.get j = μ.obs.get j := by
 unfold putL; split
 ·show T.get _ j = _; rw [T.get_set, if_neg h]
 ·rfl
theorem Blk.put {μ : Mem} {i j m s : Nat} (o : Nat) (vs : List Value) (g : Blk μ j m s) : Blk (putL μ i o vs) j m s := by
 by_cases e : j = i
 ·subst e
  obtain ⟨z, ov, fx, sh, hz⟩ := g
  refine ⟨z, ov.lay o vs, fx, sh, ?_⟩
  unfold putL; rw [hz]; show T.get _ j = _; rw [T.get_set, if_pos rfl]
 ·unfold Blk; rw [jbx _ _ _ _ e]; exact g
theorem jbO (z : Array Value) (ov : T Value) (o k : Nat) (vs : List Value) : cellAt z (ov.lay o vs) k = if h : o ≤ k ∧ k < o + vs.length then vs[k - o]'(by omega) else cellAt z ov k := by
 unfold cellAt
 rw [T.get_lay]
 by_cases h : o ≤ k ∧ k < o + vs.length
 ·rw [if_pos h, dif_pos h, List.getElem?_eq_getElem (by omega)]
 ·rw [if_neg h, dif_neg h]
theorem jcE {μ : Mem} {i n t o j p : Nat} {vs : List Value} (h : Blk μ i n t) (ho : o + vs.length ≤ n) : jal (putL μ i o vs) j p = if h : j = i ∧ o ≤ p ∧ p < o + vs.length then some (vs[p - o]'(by omega)) else jal μ j p := by
 obtain ⟨z, ov, fx, sh, hz⟩ := h
 by_cases e : j = i
 ·subst e
  have e1 : jb5 ((putL μ j o vs).obs.get j) = some (n, z, ov.lay o vs) := by
   unfold putL; rw [hz]; show jb5 (T.get _ j) = _; rw [T.get_set, if_pos rfl]; rfl
  have e2 : jb5 (μ.obs.get j) = some (n, z, ov) := by rw [hz]; rfl
  unfold jal
  rw [e1, e2]
  simp only
  rw [jbO]
  by_cases e3 : o ≤ p ∧ p < o + vs.length
  ·rw [dif_pos e3, dif_pos ⟨trivial, e3⟩, if_pos (by omega)]
  ·rw [dif_neg e3, dif_neg (fun x => e3 x.2)]
 ·rw [dif_neg (fun x => e x.1)]
  unfold jal; rw [jbx _ _ _ _ e]
theorem cells_off {μ : Mem} {i o j p : Nat} {vs : List Value} (h : j ≠ i) : jal (putL μ i o vs) j p = jal μ j p := by
 unfold jal; rw [jbx _ _ _ _ h]
theorem jbl {t : TypeId} {inf : TypeInfo} {v : Value} {μ : Mem} {i o n te : Nat} (hi : P.info? t = some inf) (hsz : inf.size = 1) (hv : one v = true) (h : Blk μ i n te) (ho : o < n) :
  jbt P μ t (.pointer (some ⟨i, o, none⟩)) v = some (undef, putL μ i o [v]) := by
 obtain ⟨z, ov, fx, sh, hz⟩ := h
 rw [store_one hi hsz hv hz ho]
 unfold putL; rw [hz]; rfl
theorem jcL {t : TypeId} {inf : TypeInfo} {vs : List Value} {μ : Mem} {i o n te : Nat} (hi : P.info? t = some inf) (hsz : inf.size = vs.length) (hv : vs.all one = true) (h : Blk μ i n te) (ho : o + vs.length ≤ n) :
  jbt P μ t (.pointer (some ⟨i, o, none⟩)) (.agg vs.toArray) = some (undef, putL μ i o vs) := by
 obtain ⟨z, ov, fx, sh, hz⟩ := h
 rw [ji1 (vs := vs) hi hsz hv hz ho]
 unfold putL; rw [hz]
theorem jem {μ : Mem} {i n t a b o : Nat} {z : Array Value} {ov : T Value} {fx sh : Bool} {vs : List Value} (h : μ.obs.get i = some (.cells n t z ov a b fx sh)) : (putL μ i o vs).obs.get i = some (.cells n t z (ov.lay o vs) a b fx sh) := by
 unfold putL; rw [h]; show T.get _ _ = _; rw [T.get_set, if_pos rfl]
def Has (μ : Mem) (i o : Nat) (l : List Value) : Prop := ∃ n z ov, jb5 (μ.obs.get i) = some (n, z, ov) ∧ o + l.length ≤ n ∧ ∀ k (h : k < l.length), cellAt z ov (o + k) = l[k]
theorem Has.cell {μ : Mem} {i o : Nat} {l : List Value} (h : Has μ i o l) (k : Nat) (hk : k < l.length) : jal μ i (o + k) = some l[k] := by
 obtain ⟨n, z, ov, h1, h2, h3⟩ := h
 unfold jal
 rw [h1]
 show (if o + k < n then _ else _) = _
 rw [if_pos (by omega), h3 k hk]
theorem Has.keep {μ μ' : Mem} {i o : Nat} {l : List Value} (h : Has μ i o l) (g : μ'.obs.get i = μ.obs.get i) : Has μ' i o l := by
 unfold Has; rw [g]; exact h
theorem Has.load {μ : Mem} {i o : Nat} {l : List Value} {t : TypeId} {fields : Array Field} {inf : TypeInfo} (h : Has μ i o l) (hu : P.underlying t = some (.struct fields)) (hi : P.info? t = some inf) (hl : inf.size = l.length) : jbH P μ t (.pointer (some ⟨i, o, none⟩)) = some (.agg l.toArray) := by
 obtain ⟨n, z, ov, h1, h2, h3⟩ := h
 rw [jhW hu hi h1 (by rw [hl]; exact h2), hl, jbI l.length o l rfl h3]
theorem Has.put {μ : Mem} {i o n t p j : Nat} {l vs : List Value} (h : Has μ i o l) (hb : Blk μ j n t) (hd : i ≠ j ∨ p + vs.length ≤ o ∨ o + l.length ≤ p) : Has (putL μ j p vs) i o l := by
 by_cases e : i = j
 ·subst e
  obtain ⟨z, ov, fx, sh, hz⟩ := hb
  obtain ⟨n', z', ov', h1, h2, h3⟩ := h
  rw [hz] at h1
  cases h1
  refine ⟨n, z, ov.lay p vs, by rw [jem hz]; rfl, h2, fun k hk => ?_⟩
  rw [jbO, dif_neg (by omega)]
  exact h3 k hk
 ·exact h.keep (jbx _ _ _ _ e)
theorem Has.of_put {μ : Mem} {i o n t : Nat} {vs : List Value} (hb : Blk μ i n t) (ho : o + vs.length ≤ n) : Has (putL μ i o vs) i o vs := by
 obtain ⟨z, ov, fx, sh, hz⟩ := hb
 refine ⟨n, z, ov.lay o vs, by rw [jem hz]; rfl, ho, fun k hk => ?_⟩
 rw [jbO, dif_pos ⟨by omega, by omega⟩]
 simp
theorem Has.new {μ : Mem} {i t : Nat} {fx sh : Bool} {l : List Value} (h : μ.obs.get i = some (.cells l.length t l.toArray .e 0 0 fx sh)) : Has μ i 0 l :=
 ⟨_, _, _, by rw [h]; rfl, by omega, fun k hk => by rw [Nat.zero_add]; exact jbB l k hk⟩
theorem Has.part {μ : Mem} {i o : Nat} {l a b c : List Value} (h : Has μ i o l) (e : l = a ++ (b ++ c)) : Has μ i (o + a.length) b := by
 subst e
 obtain ⟨n, z, ov, h1, h2, h3⟩ := h
 refine ⟨n, z, ov, h1, by simp only [List.length_append] at h2; omega, fun k hk => ?_⟩
 have := h3 (a.length + k) (by simp only [List.length_append]; omega)
 rw [← Nat.add_assoc] at this
 rw [this]
 simp [hk]
theorem Has.set {μ : Mem} {i o k n t : Nat} {l : List Value} {v : Value} (h : Has μ i o l) (hb : Blk μ i n t) (hk : k < l.length) : Has (putL μ i (o + k) [v]) i o (l.set k v) := by
 obtain ⟨z, ov, fx, sh, hz⟩ := hb
 obtain ⟨n', z', ov', h1, h2, h3⟩ := h
 rw [hz] at h1
 cases h1
 refine ⟨n, z, ov.lay (o + k) [v], by rw [jem hz]; rfl, by rw [List.length_set]; exact h2, fun j hj => ?_⟩
 rw [List.length_set] at hj
 rw [jbO, List.getElem_set]
 by_cases e : k = j
 ·subst e
  rw [if_pos rfl, dif_pos ⟨Nat.le_refl _, by show o + k < o + k + 1; omega⟩]
  simp
 ·rw [if_neg e, dif_neg (by rintro ⟨g1, g2⟩; simp only [List.length_cons, List.length_nil] at g2; omega)]
  exact h3 j hj
theorem Has.put_in {μ : Mem} {i o n t k : Nat} {l a b c vs : List Value} (h : Has μ i o l) (e : l = a ++ (b ++ c)) (hb : Blk μ i n t) (hv : vs.length = b.length) (hk : k = o + a.length := by rfl) : Has (putL μ i k vs) i o (a ++ (vs ++ c)) := by
 subst e hk
 obtain ⟨z, ov, fx, sh, hz⟩ := hb
 obtain ⟨n', z', ov', h1, h2, h3⟩ := h
 rw [hz] at h1
 cases h1
 simp only [List.length_append] at h2
 refine ⟨n, z, ov.lay (o + a.length) vs, by rw [jem hz]; rfl, by simp only [List.length_append]; omega, fun j hj => ?_⟩
 simp only [List.length_append] at hj
 rw [jbO]
 by_cases e1 : o + a.length ≤ o + j ∧ o + j < o + a.length + vs.length
 ·rw [dif_pos e1, List.getElem_append_right (by omega), List.getElem_append_left (by omega)]
  congr 1
  omega
 ·rw [dif_neg e1, h3 j (by simp only [List.length_append]; omega)]
  by_cases e2 : j < a.length
  ·rw [List.getElem_append_left e2, List.getElem_append_left e2]
  ·rw [List.getElem_append_right (by omega), List.getElem_append_right (by omega), List.getElem_append_right (by omega), List.getElem_append_right (by omega)]
   congr 1
   omega
theorem Grow.put_new {a b : Mem} (h : Grow a b) {i o : Nat} {vs : List Value} (hi : a.next ≤ i) : Grow a (putL b i o vs) := ⟨by rw [jbb]; exact h.1, fun j hj => by rw [jbx _ _ _ _ (by omega)]; exact h.2 j hj⟩
theorem Blk.of_get {μ μ' : Mem} {i n t : Nat} (h : Blk μ i n t) (g : μ'.obs.get i = μ.obs.get i) : Blk μ' i n t := by unfold Blk; rw [g]; exact h
end
end Go.Proofs.YtnafmgiaifbhgaaGreatDoor.Ev
