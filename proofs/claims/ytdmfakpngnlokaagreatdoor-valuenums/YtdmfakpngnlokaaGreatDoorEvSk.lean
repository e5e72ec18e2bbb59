/-
  An evaluator, and what is proved of it. No conditions.
-/
import Derived.Test.YtdmfakpngnlokaaGreatDoorEvZw
set_option linter.unusedSimpArgs false
set_option linter.unusedVariables false
set_option linter.defProp false
namespace Go.Proofs.YtdmfakpngnlokaaGreatDoor.Ev
noncomputable section
variable {P : Program}
def GoodK (μ : Mem) (e : TypeId) (k : Nat) (d : Option Nat) (v : Value) (m : Nat) (xs : List Value) : Prop :=
 xs.length = m * k ∧ ((v = .slice none 0 0 ∧ m = 0) ∨ ∃ i M z ov fx sh c, v = .slice (some ⟨i, 0, none⟩) m c ∧ μ.obs.get i = some (.cells M e z ov 0 0 fx sh) ∧ xs.length ≤ M ∧
  (∀ j (h : j < xs.length), cellAt z ov j = xs[j]) ∧ ((c % 2 = 0 ∧ m ≤ c / 2 ∧ ∃ d', d = some d' ∧ c / 2 ≤ m + d') ∨ (c % 2 = 1 ∧ c / 2 = k)))
theorem GoodK.nil (μ : Mem) (e : TypeId) (k : Nat) (d : Option Nat) : GoodK μ e k d (.slice none 0 0) 0 [] := ⟨by simp, .inl ⟨rfl, rfl⟩⟩
theorem GoodK.keep {μ μ' : Mem} {e : TypeId} {k m : Nat} {d : Option Nat} {v : Value} {xs : List Value} (h : GoodK μ e k d v m xs) (hk : ∀ i, SlAt v i → μ'.obs.get i = μ.obs.get i) : GoodK μ' e k d v m xs := by
 obtain ⟨hl, h | ⟨i, M, z, ov, fx, sh, c, hv, hob, hr⟩⟩ := h
 ·exact ⟨hl, .inl h⟩
 ·exact ⟨hl, .inr ⟨i, M, z, ov, fx, sh, c, hv, (hk i ⟨_, _, hv⟩).trans hob, hr⟩⟩
theorem jgh {st xt e : TypeId} {inf : TypeInfo} {z0 : Value} {k : Nat} (hu : P.underlying st = some (.slice e)) (hi : P.info? e = some inf) (hsz : inf.size = k) (hk0 : 0 < k) (hby : Nat.ble inf.bytes 4096 = true) (hz : jaO P e = some z0) (hzl : (jaS z0).length = k)
  (hx : (match P.underlying xt with | some (.slice _) => true | some .string => true | _ => false) = true) {μ : Mem} {v x : Value} {xs ys : List Value} {d : Option Nat} {m n : Nat} (hg : GoodK μ e k d v m xs) (hl : lenV x = some n) (hsrc : jaU μ k n x = some ys) (hyl : ys.length = n * k) (hn : m + n < 2000000) (hs : scalars ys = true) (h0 : 0 < n) (hd : ∀ d', d = some d' → d' < n) :
  ∃ v' μ', jaM P μ st xt v x = some (v', μ') ∧ GoodK μ' e k none v' (m + n) (xs ++ ys) ∧ μ'.next = μ.next + 1 ∧ SlAt v' μ.next ∧ ∀ i, i ≠ μ.next → ¬ SlAt v i → μ'.obs.get i = μ.obs.get i := by
 obtain ⟨hxl, hg⟩ := hg
 have hA : jaM P μ st xt v x = ja8 P μ e k n ys v := by
  unfold jaM
  have h1 : Nat.ble n 67108864 = true := Nat.ble_eq_true_of_le (by omega)
  have h2 : Nat.beq ys.length (Nat.mul n k) = true := by rw [hyl]; simp
  have h3 : Nat.beq (jaS z0).length k = true := by rw [hzl]; simp
  simp only [hu, hi, hby, hz, hsz, h3, hl, h1, hsrc, h2]
  exact (congrArg (fun b => match b with | false => none | true => ja8 P μ e k n ys v) hx :)
 rw [hA]
 obtain ⟨n', rfl⟩ : ∃ n', n = n' + 1 := ⟨n - 1, by omega⟩
 have hlen : (xs ++ ys).length = (m + (n' + 1)) * k := by rw [List.length_append, hxl, hyl, Nat.add_mul m]
 have grow : GoodK (jcl μ e k (m + (n' + 1)) (xs ++ ys) 0 0 false).2 e k none (jcl μ e k (m + (n' + 1)) (xs ++ ys) 0 0 false).1 (m + (n' + 1)) (xs ++ ys) := by
  refine ⟨hlen, .inr ⟨μ.next, _, _, _, true, false, 2 * k + 1, rfl, by rw [jcl, T.get_set, if_pos rfl], Nat.le_refl _, fun j hj => ja3 _ j hj, .inr ⟨by omega, by omega⟩⟩⟩
 rcases hg with ⟨hv, hm⟩ | ⟨i, M, z, ov, fx, sh, c, hv, hob, hM, hcell, hc⟩
 ·subst hv hm
  have hx0 : xs = [] := List.eq_nil_of_length_eq_zero (by rw [hxl]; simp)
  subst hx0
  refine ⟨_, _, rfl, ?_, rfl, ⟨_, _, rfl⟩, fun j hj _ => ?_⟩
  ·rw [Nat.zero_add] at grow
   rw [Nat.zero_add]
   exact grow
  ·simp only [jcl, T.get_set, if_neg hj]
 ·subst hv
  have hle : Nat.ble (Nat.add m (n' + 1)) 67108864 = true := Nat.ble_eq_true_of_le (by show m + (n' + 1) ≤ _; omega)
  have hfrom : jat z ov 0 (Nat.mul m k) = xs := jbe _ 0 xs hxl (fun j hj => by rw [Nat.zero_add]; exact hcell j hj)
  rcases hc with ⟨hc1, _, d', hc3, hc2⟩ | ⟨hc1, hc2⟩
  ·have hd := hd d' hc3
   have e1 : Nat.beq (Nat.mod c 2) 0 = true := by rw [show Nat.mod c 2 = 0 from hc1]; rfl
   have e2 : Nat.ble (Nat.add m (n' + 1)) (Nat.div c 2) = false := by
    cases hb : Nat.ble (Nat.add m (n' + 1)) (Nat.div c 2) with
    | false => rfl
    | true =>
      have h1 : m + (n' + 1) ≤ c / 2 := rzE hb
      omega
   have e3 : jaU μ k m (.slice (some ⟨i, 0, none⟩) m c) = some xs := by
    unfold jaU
    cases hl2 : Nat.mul m k with
    | zero =>
      have : xs = [] := List.eq_nil_of_length_eq_zero (by rw [hxl]; exact hl2)
      simp only [hl2, this]
    | succ q =>
      simp only [hl2, hob]
      have : Nat.ble (Nat.add 0 (q + 1)) M = true := Nat.ble_eq_true_of_le (by show 0 + (q + 1) ≤ M; rw [hxl] at hM; have : m * k = q + 1 := hl2; omega)
      rw [this]
      simp only
      rw [← hl2, hfrom]
   refine ⟨_, _, ?_, grow, rfl, ⟨_, _, rfl⟩, fun j hj _ => ?_⟩
   ·unfold ja8
    simp only [hle, e1, e2, e3]
    rfl
   ·simp only [jcl, T.get_set, if_neg hj]
  ·have e1 : Nat.beq (Nat.mod c 2) 0 = false := by rw [show Nat.mod c 2 = 1 from hc1]; rfl
   have e2 : Nat.beq (Nat.div c 2) k = true := by rw [show Nat.div c 2 = k from hc2]; simp
   have e3 : Nat.beq e e = true := by simp
   have e4 : Nat.ble (Nat.mul m k) M = true := Nat.ble_eq_true_of_le (by show m * k ≤ M; rw [← hxl]; exact hM)
   have e5 : jdU 0 0 (Nat.mul m k) (Nat.mul (Nat.add m (n' + 1)) k) = true := rfl
   refine ⟨.slice (some ⟨μ.next, 0, none⟩) (m + (n' + 1)) c, ⟨(μ.obs.set i .dead).set μ.next (.cells (xs ++ ys).length e (xs ++ ys).toArray .e 0 0 true sh), μ.next + 1⟩, ?_, ?_, rfl, ⟨_, _, rfl⟩, fun j hj hns => ?_⟩
   ·unfold ja8
    simp only [hle, e1, hob, e2, e3, e4, e5, hs, hfrom]
    rfl
   ·exact ⟨hlen, .inr ⟨μ.next, (xs ++ ys).length, (xs ++ ys).toArray, .e, true, sh, c, rfl, by simp only [T.get_set, if_pos], Nat.le_refl _, fun j hj => ja3 _ j hj, .inr ⟨hc1, hc2⟩⟩⟩
   ·simp only [T.get_set, if_neg hj]
    rw [if_neg]
    intro e8
    subst e8
    exact hns ⟨_, _, rfl⟩
theorem GoodK.len {μ : Mem} {e : TypeId} {k m : Nat} {d : Option Nat} {v : Value} {xs : List Value} (h : GoodK μ e k d v m xs) : lenV v = some m := by
 obtain ⟨hl, ⟨hv, h0⟩ | ⟨i, M, z, ov, fx, sh, c, hv, hr⟩⟩ := h
 ·subst hv h0; rfl
 ·subst hv; rfl
theorem GoodK.at_ {μ : Mem} {e : TypeId} {k m : Nat} {d : Option Nat} {v : Value} {xs : List Value} (h : GoodK μ e k d v m xs) (hm : 0 < m) : ∃ i c, v = .slice (some ⟨i, 0, none⟩) m c ∧ ((c % 2 = 0 ∧ m ≤ c / 2) ∨ c % 2 = 1) := by
 obtain ⟨hl, ⟨hv, h0⟩ | ⟨i, M, z, ov, fx, sh, c, hv, hob, hM, hcell, hc⟩⟩ := h
 ·omega
 ·exact ⟨i, c, hv, hc.imp (fun h => ⟨h.1, h.2.1⟩) fun h => h.1⟩
theorem GoodK.src {μ : Mem} {e : TypeId} {k m : Nat} {d : Option Nat} {v : Value} {xs : List Value} (h : GoodK μ e k d v m xs) (hm : 0 < m) : jaU μ k m v = some xs := by
 obtain ⟨hl, ⟨hv, h0⟩ | ⟨i, M, z, ov, fx, sh, c, hv, hob, hM, hcell, hc⟩⟩ := h
 ·omega
 ·subst hv
  have hfrom : jat z ov 0 (Nat.mul m k) = xs := jbe _ 0 xs hl (fun j hj => by rw [Nat.zero_add]; exact hcell j hj)
  unfold jaU
  cases hl2 : Nat.mul m k with
  | zero =>
    have : xs = [] := List.eq_nil_of_length_eq_zero (by rw [hl]; exact hl2)
    simp only [hl2, this]
  | succ q =>
    simp only [hl2, hob]
    have : Nat.ble (Nat.add 0 (q + 1)) M = true := Nat.ble_eq_true_of_le (by show 0 + (q + 1) ≤ M; rw [hl] at hM; have : m * k = q + 1 := hl2; omega)
    rw [this]
    simp only
    rw [← hl2, hfrom]
theorem GoodK.ob {μ : Mem} {e : TypeId} {k m i c : Nat} {d : Option Nat} {xs : List Value} (h : GoodK μ e k d (.slice (some ⟨i, 0, none⟩) m c) m xs) : ∃ M z ov fx sh, μ.obs.get i = some (.cells M e z ov 0 0 fx sh) ∧ xs.length ≤ M ∧ ∀ j (h : j < xs.length), cellAt z ov j = xs[j] := by
 obtain ⟨hl, ⟨hv, h0⟩ | ⟨i', M, z, ov, fx, sh, c', hv, hob, hM, hcell, hc⟩⟩ := h
 ·cases hv
 ·injection hv with e1
  injection e1 with e2
  injection e2 with e3
  subst e3
  exact ⟨M, z, ov, fx, sh, hob, hM, hcell⟩
theorem GoodK.cap {μ : Mem} {e : TypeId} {k m i c : Nat} {d : Option Nat} {xs : List Value} (h : GoodK μ e k d (.slice (some ⟨i, 0, none⟩) m c) m xs) : (c % 2 = 0 ∧ m ≤ c / 2 ∧ ∃ d', d = some d' ∧ c / 2 ≤ m + d') ∨ (c % 2 = 1 ∧ c / 2 = k) := by
 obtain ⟨hl, ⟨hv, h0⟩ | ⟨i', M, z, ov, fx, sh, c', hv, hob, hM, hcell, hc⟩⟩ := h
 ·cases hv
 ·injection hv with _ _ e1
  subst e1
  exact hc
theorem GoodK.blk {μ : Mem} {e : TypeId} {k m i c : Nat} {d : Option Nat} {xs : List Value} (h : GoodK μ e k d (.slice (some ⟨i, 0, none⟩) m c) m xs) : ∃ M, Blk μ i M e ∧ xs.length ≤ M := by
 obtain ⟨M, z, ov, fx, sh, hob, hM, _⟩ := h.ob
 exact ⟨M, ⟨z, ov, fx, sh, hob⟩, hM⟩
theorem GoodK.take {μ : Mem} {e : TypeId} {k m j i c : Nat} {d : Option Nat} {xs ys : List Value} (h : GoodK μ e k d (.slice (some ⟨i, 0, none⟩) (m + j) c) (m + j) (xs ++ ys)) (hx : xs.length = m * k) : GoodK μ e k (d.map fun t => t + j) (.slice (some ⟨i, 0, none⟩) m c) m xs := by
 obtain ⟨M, z, ov, fx, sh, hob, hM, hcell⟩ := h.ob
 rw [List.length_append] at hM
 refine ⟨hx, .inr ⟨i, M, z, ov, fx, sh, c, rfl, hob, by omega, fun t ht => ?_, ?_⟩⟩
 ·rw [hcell t (by rw [List.length_append]; omega), List.getElem_append_left ht]
 ·rcases h.cap with ⟨h1, h2, d', h3, h4⟩ | h1
  ·exact .inl ⟨h1, by omega, d' + j, by rw [h3]; rfl, by omega⟩
  ·exact .inr h1
theorem GoodK.fresh (μ : Mem) (q n : Nat) {e : TypeId} {k : Nat} {ys : List Value} (hy : ys.length = k) : GoodK ⟨μ.obs.set q (.cells ys.length e ys.toArray .e 0 0 false false), n⟩ e k (some 0) (.slice (some ⟨q, 0, none⟩) 1 2) 1 ys :=
 ⟨by rw [hy, Nat.one_mul], .inr ⟨q, ys.length, ys.toArray, .e, false, false, 2, rfl, by show T.get _ _ = _; rw [T.get_set, if_pos rfl], Nat.le_refl _, fun j hj => ja3 _ j hj, .inl ⟨rfl, by decide, 0, rfl, by decide⟩⟩⟩
theorem grow_at {μ : Mem} {q n : Nat} (h1 : μ.next ≤ q) (h2 : q < n) (ob : Ob) : Grow μ ⟨μ.obs.set q ob, n⟩ := ⟨by show _ ≤ n; omega, fun i hi => by show T.get _ i = _; rw [T.get_set, if_neg (by omega)]⟩
structure OwnK (e : TypeId) (k : Nat) (d : Option Nat) (μ0 μ : Mem) (v : Value) (m : Nat) (xs : List Value) : Prop where
 good : GoodK μ e k d v m xs
 grow : Grow μ0 μ
 above : ∀ i, SlAt v i → μ0.next ≤ i ∧ i < μ.next
theorem OwnK.nil (e : TypeId) (k : Nat) (d : Option Nat) (μ : Mem) : OwnK e k d μ μ (.slice none 0 0) 0 [] := ⟨.nil _ _ _ _, Grow.refl _, fun i h => by obtain ⟨l, c, h⟩ := h; cases h⟩
theorem OwnK.keep {e : TypeId} {k m : Nat} {d : Option Nat} {μ0 μ μ' : Mem} {v : Value} {xs : List Value} (h : OwnK e k d μ0 μ v m xs) (hg : Grow μ μ') : OwnK e k d μ0 μ' v m xs :=
 ⟨h.good.keep fun i hi => hg.2 i (h.above i hi).2, h.grow.trans hg, fun i hi => ⟨(h.above i hi).1, Nat.lt_of_lt_of_le (h.above i hi).2 hg.1⟩⟩
theorem OwnK.from {e : TypeId} {k m : Nat} {d : Option Nat} {μ0 μ1 μ : Mem} {v : Value} {xs : List Value} (h : OwnK e k d μ1 μ v m xs) (hg : Grow μ0 μ1) : OwnK e k d μ0 μ v m xs :=
 ⟨h.good, hg.trans h.grow, fun i hi => ⟨Nat.le_trans hg.1 (h.above i hi).1, (h.above i hi).2⟩⟩
theorem OwnK.app {st xt e : TypeId} {inf : TypeInfo} {z0 : Value} {k : Nat} (hu : P.underlying st = some (.slice e)) (hi : P.info? e = some inf) (hsz : inf.size = k) (hk0 : 0 < k) (hby : Nat.ble inf.bytes 4096 = true) (hz : jaO P e = some z0) (hzl : (jaS z0).length = k)
  (hx : (match P.underlying xt with | some (.slice _) => true | some .string => true | _ => false) = true) {μ0 μ : Mem} {v x : Value} {xs ys : List Value} {d : Option Nat} {m n : Nat} (h : OwnK e k d μ0 μ v m xs) (hl : lenV x = some n) (hsrc : jaU μ k n x = some ys) (hyl : ys.length = n * k) (hn : m + n < 2000000) (hs : scalars ys = true) (h0 : 0 < n) (hd : ∀ d', d = some d' → d' < n) :
  ∃ v' μ', jaM P μ st xt v x = some (v', μ') ∧ OwnK e k none μ0 μ' v' (m + n) (xs ++ ys) ∧ SlAt v' μ.next ∧ μ'.next = μ.next + 1 ∧ ∀ i, i ≠ μ.next → ¬ SlAt v i → μ'.obs.get i = μ.obs.get i := by
 obtain ⟨v', μ', ha, hg, hnx, hat, hk⟩ := jgh hu hi hsz hk0 hby hz hzl hx h.good hl hsrc hyl hn hs h0 hd
 have hg0 := h.grow.1
 refine ⟨v', μ', ha, ⟨hg, ⟨by omega, fun i hi => ?_⟩, fun i hi => ?_⟩, hat, hnx, hk⟩
 ·rw [hk i (by omega) fun hv => by have := (h.above i hv).1; omega]
  exact h.grow.2 i hi
 ·obtain ⟨l, c, hv⟩ := hat
  obtain ⟨l', c', hv'⟩ := hi
  rw [hv] at hv'
  injection hv' with e1
  injection e1 with e2
  injection e2 with e3
  omega
theorem OwnK.push {st e : TypeId} {inf : TypeInfo} {z0 : Value} {k : Nat} (hu : P.underlying st = some (.slice e)) (hi : P.info? e = some inf) (hsz : inf.size = k) (hk0 : 0 < k) (hby : Nat.ble inf.bytes 4096 = true) (hz : jaO P e = some z0) (hzl : (jaS z0).length = k)
  {μ0 μ : Mem} {v : Value} {xs ys : List Value} {m q n : Nat} (h : OwnK e k none μ0 μ v m xs) (hq : μ.next ≤ q) (hqn : q < n) (hyl : ys.length = k) (hn : m < 999999) (hs : scalars ys = true) :
  ∃ v' μ', jaM P ⟨μ.obs.set q (.cells ys.length e ys.toArray .e 0 0 false false), n⟩ st st v (.slice (some ⟨q, 0, none⟩) 1 2) = some (v', μ') ∧ OwnK e k none μ0 μ' v' (m + 1) (xs ++ ys) := by
 obtain ⟨v', μ', ha, ho, _⟩ := (h.keep (grow_at hq hqn (.cells ys.length e ys.toArray .e 0 0 false false))).app (xt := st) (x := .slice (some ⟨q, 0, none⟩) 1 2) (n := 1) (ys := ys) hu hi hsz hk0 hby hz hzl (by rw [hu]) rfl ((GoodK.fresh μ q n hyl).src (by decide)) (by omega) (by omega) hs (by decide) (fun d' h => by cases h)
 exact ⟨v', μ', ha, ho⟩
end
end Go.Proofs.YtdmfakpngnlokaaGreatDoor.Ev
