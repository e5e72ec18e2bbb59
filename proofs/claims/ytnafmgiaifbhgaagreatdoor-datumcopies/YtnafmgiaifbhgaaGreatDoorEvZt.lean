/-
  The evaluator, part Zt: slices of one-cell values that grow by one; numbers; texts. No conditions.
-/
import Derived.Test.YtnafmgiaifbhgaaGreatDoorEvZs
import Derived.IntWalk
set_option linter.unusedSimpArgs false
set_option linter.unusedVariables false
namespace Go.Proofs.YtnafmgiaifbhgaaGreatDoor.Ev
noncomputable section
variable {P : Program}
theorem beq_tf : (true == false) = false := rfl
theorem beq_ft : (false == true) = false := rfl
theorem jae (n : Nat) : (n : Int) = Int.ofNat n := rfl
theorem jat (a b : Nat) : ilt (.ofNat a) (.ofNat b) = decide (a < b) := by
 rw [jfX, Bool.eq_iff_iff]; simp
theorem jbu (a b : Nat) : ieq (.ofNat a) (.ofNat b) = decide (a = b) := by
 rw [jd5, Bool.eq_iff_iff]; simp; omega
theorem jaV (a b : Nat) (h : a + b < 4611686018427387904) : jax .i64 (Int.add (.ofNat a) (.ofNat b)) = .ofNat (a + b) := by
 rw [jbR]
 have : Int.add (.ofNat a) (.ofNat b) = ((a + b : Nat) : Int) := rfl
 rw [this, IntWalk.i64_in _ (by omega)]
 rfl
theorem jgu (a b : ByteArray) : jc5 a.data.toList b.data.toList = decide (a = b) := by
 rw [jet, Bool.eq_iff_iff]
 simp only [beq_iff_eq, decide_eq_true_eq]
 constructor
 ·intro h
  cases a; cases b
  congr 1
  exact Array.ext' h
 ·intro h; rw [h]
def GoodSl (μ : Mem) (e : TypeId) (v : Value) (xs : List Value) : Prop :=
 (v = .slice none 0 0 ∧ xs = []) ∨ ∃ i m z ov fx sh c, v = .slice (some ⟨i, 0, none⟩) xs.length c ∧ μ.obs.get i = some (.cells m e z ov 0 0 fx sh) ∧ xs.length ≤ m ∧
  (∀ k (h : k < xs.length), cellAt z ov k = xs[k]) ∧ ((c % 2 = 0 ∧ c / 2 = xs.length) ∨ (c % 2 = 1 ∧ c / 2 = 1))
theorem jbI {z : Array Value} {ov : T Value} : ∀ (n o : Nat) (xs : List Value), xs.length = n → (∀ k (h : k < xs.length), cellAt z ov (o + k) = xs[k]) → jaE z ov o n = xs := by
 intro n
 induction n with
 | zero => intro o xs h _; cases xs with
   | nil => rfl
   | cons a b => simp at h
 | succ n ih =>
   intro o xs h hk
   cases xs with
   | nil => simp at h
   | cons a xs =>
     simp only [jaE]
     rw [ih (Nat.add o 1) xs (by simpa using h) (fun k hk2 => by
      have := hk (k + 1) (by simp; omega)
      simp only [List.getElem_cons_succ] at this
      rw [← this]
      congr 1
      show o + 1 + k = o + (k + 1); omega)]
     have := hk 0 (by simp)
     simp only [Nat.add_zero, List.getElem_cons_zero] at this
     rw [this]
theorem jbB (xs : List Value) (k : Nat) (h : k < xs.length) : cellAt xs.toArray .e k = xs[k] := by
 have hm : Nat.mod k xs.toArray.size = k := by show k % _ = k; rw [Nat.mod_eq_of_lt]; simpa using h
 simp only [cellAt, T.get_e, hm]
 simp [Array.getD, h]
def SlAt (v : Value) (i : Nat) : Prop := ∃ l c, v = .slice (some ⟨i, 0, none⟩) l c
theorem jjJ {st e : TypeId} {inf : TypeInfo} {z0 : Value} (hu : P.underlying st = some (.slice e)) (hi : P.info? e = some inf) (hsz : inf.size = 1) (hby : Nat.ble inf.bytes 4096 = true) (hz : jbh P e = some z0) (hzl : (ja2 z0).length = 1)
  {μ : Mem} {v x : Value} {xs : List Value} {q : Nat} (hg : GoodSl μ e v xs) (hq : μ.obs.get q = some (.cells 1 e #[x] .e 0 0 false false)) (hn : xs.length < 1000000) (hs : scalar x = true) :
  ∃ v' μ', jbk P μ st st v (.slice (some ⟨q, 0, none⟩) 1 2) = some (v', μ') ∧ GoodSl μ' e v' (xs ++ [x]) ∧ μ'.next = μ.next + 1 ∧ SlAt v' μ.next ∧ ∀ i, i ≠ μ.next → ¬ SlAt v i → μ'.obs.get i = μ.obs.get i := by
 have hsrc : ja7 μ inf.size 1 (.slice (some ⟨q, 0, none⟩) 1 2) = some [x] := by
  unfold ja7
  simp only [hsz, hq]
  rfl
 have hA : jbk P μ st st v (.slice (some ⟨q, 0, none⟩) 1 2) = jbo P μ e 1 1 [x] v := by
  unfold jbk
  simp only [hu, hi, hby, hz, hzl, hsz, lenV, hsz ▸ hsrc]
  rfl
 rw [hA]
 have grow : ∀ ys : List Value, ys.length = xs.length → ys = xs → GoodSl (jcu μ e 1 (xs.length + 1) (ys ++ [x]) 0 0 false).2 e (jcu μ e 1 (xs.length + 1) (ys ++ [x]) 0 0 false).1 (xs ++ [x]) := by
  intro ys _ hy
  subst hy
  refine .inr ⟨μ.next, _, _, _, true, false, 3, ?_, by rw [jcu, T.get_set, if_pos rfl], by simp, fun k hk => jbB _ k hk, .inr ⟨rfl, rfl⟩⟩
  simp [jcu]
 rcases hg with ⟨hv, hx⟩ | ⟨i, m, z, ov, fx, sh, c, hv, hob, hm, hcell, hc⟩
 ·subst hv hx
  refine ⟨_, _, rfl, ?_, rfl, ⟨_, _, rfl⟩, fun i hi _ => ?_⟩
  ·exact grow [] rfl rfl
  ·simp only [jcu, T.get_set, if_neg hi]
 ·subst hv
  have hle : Nat.ble (Nat.add xs.length 1) 67108864 = true := Nat.ble_eq_true_of_le (by show xs.length + 1 ≤ _; omega)
  rcases hc with ⟨hc1, hc2⟩ | ⟨hc1, hc2⟩
  ·have e1 : Nat.beq (Nat.mod c 2) 0 = true := by rw [show Nat.mod c 2 = 0 from hc1]; rfl
   have e2 : Nat.ble (Nat.add xs.length 1) (Nat.div c 2) = false := by
    rw [show Nat.div c 2 = xs.length from hc2]
    cases hb : Nat.ble (Nat.add xs.length 1) xs.length with
    | false => rfl
    | true => have : xs.length + 1 ≤ xs.length := Nat.le_of_ble_eq_true hb; omega
   have e3 : ja7 μ 1 xs.length (.slice (some ⟨i, 0, none⟩) xs.length c) = some xs := by
    unfold ja7
    simp only [Nat.mul_eq, Nat.mul_one]
    cases hl : xs.length with
    | zero => simp only; congr 1; exact (List.eq_nil_of_length_eq_zero hl).symm
    | succ n =>
      simp only [hob]
      have : Nat.ble (Nat.add 0 (n + 1)) m = true := Nat.ble_eq_true_of_le (by show 0 + (n + 1) ≤ m; omega)
      rw [this]
      simp only
      rw [jbI (n + 1) 0 xs hl (fun k hk => by rw [Nat.zero_add]; exact hcell k hk)]
   refine ⟨_, _, ?_, grow xs rfl rfl, rfl, ⟨_, _, rfl⟩, fun j hj _ => ?_⟩
   ·unfold jbo
    simp only [hle, e1, e2, e3]
   ·simp only [jcu, T.get_set, if_neg hj]
  ·have e1 : Nat.beq (Nat.mod c 2) 0 = false := by rw [show Nat.mod c 2 = 1 from hc1]; rfl
   have e2 : Nat.beq (Nat.div c 2) 1 = true := by rw [show Nat.div c 2 = 1 from hc2]; rfl
   have e3 : Nat.beq e e = true := by simp
   have e4 : Nat.ble (Nat.mul xs.length 1) m = true := Nat.ble_eq_true_of_le (by show xs.length * 1 ≤ m; omega)
   have e5 : jdU 0 0 (Nat.mul xs.length 1) (Nat.mul (Nat.add xs.length 1) 1) = true := rfl
   have e6 : scalars [x] = true := by simp only [scalars, hs]
   have e7 : jaE z ov 0 (Nat.mul xs.length 1) = xs := by
    rw [show Nat.mul xs.length 1 = xs.length from Nat.mul_one _]
    exact jbI xs.length 0 xs rfl (fun k hk => by rw [Nat.zero_add]; exact hcell k hk)
   refine ⟨.slice (some ⟨μ.next, 0, none⟩) (xs.length + 1) c, ⟨(μ.obs.set i .dead).set μ.next (.cells (xs ++ [x]).length e (xs ++ [x]).toArray .e 0 0 true sh), μ.next + 1⟩, ?_, ?_, rfl, ⟨_, _, rfl⟩, fun j hj hns => ?_⟩
   ·unfold jbo
    simp only [hle, e1, hob, e2, e3, e4, e5, e6, e7, Nat.add_eq]
   ·exact .inr ⟨μ.next, (xs ++ [x]).length, (xs ++ [x]).toArray, .e, true, sh, c, by simp, by simp only [T.get_set, if_pos], by simp, fun k hk => jbB _ k hk, .inr ⟨hc1, hc2⟩⟩
   ·simp only [T.get_set, if_neg hj]
    rw [if_neg]
    intro e8
    subst e8
    exact hns ⟨_, _, rfl⟩
theorem GoodSl.keep {μ μ' : Mem} {e : TypeId} {v : Value} {xs : List Value} (h : GoodSl μ e v xs) (hk : ∀ i, SlAt v i → μ'.obs.get i = μ.obs.get i) : GoodSl μ' e v xs := by
 rcases h with h | ⟨i, m, z, ov, fx, sh, c, hv, hob, hr⟩
 ·exact .inl h
 ·exact .inr ⟨i, m, z, ov, fx, sh, c, hv, (hk i ⟨_, _, hv⟩).trans hob, hr⟩
end
end Go.Proofs.YtnafmgiaifbhgaaGreatDoor.Ev
