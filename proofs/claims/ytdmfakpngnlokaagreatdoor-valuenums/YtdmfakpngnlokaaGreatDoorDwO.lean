/-
  distafflaw18.ValueNums: numbers and their texts, plain. No conditions.
-/
namespace Go.Proofs.YtdmfakpngnlokaaGreatDoor.NumText
def dig (c : Nat) : Bool := decide (48 ≤ c) && decide (c ≤ 57)
def isE (c : Nat) : Bool := decide (c = 69) || decide (c = 101)
def isS (c : Nat) : Bool := decide (c = 43) || decide (c = 45)
theorem dig_not (c : Nat) (h : dig c = true) : c ≠ 46 ∧ isE c = false ∧ isS c = false := by
 simp only [dig, isE, isS, Bool.and_eq_true, decide_eq_true_eq, Bool.or_eq_false_iff, decide_eq_false_iff_not] at h ⊢
 omega
def ndig : List Nat → Nat
 | [] => 0
 | c :: l => if dig c then ndig l + 1 else 0
def unsg : List Nat → List Nat
 | [] => []
 | c :: l => if isS c then l else c :: l
theorem unsg_t {c : Nat} {l : List Nat} (h : isS c = true) : unsg (c :: l) = l := by simp [unsg, h]
theorem unsg_f {c : Nat} {l : List Nat} (h : isS c = false) : unsg (c :: l) = c :: l := by simp [unsg, h]
def expo (l : List Nat) : Bool := decide (1 ≤ ndig (unsg l)) && decide (ndig (unsg l) ≤ 4) && decide (ndig (unsg l) = (unsg l).length)
def jdW (dot : Bool) (l : List Nat) : Bool := match l with
 | [] => dot
 | c :: r => isE c && expo r
def jgE : List Nat → Bool
 | [] => false
 | c :: _ => decide (c = 46)
def right1 (l0 : List Nat) : Bool :=
 let l := unsg l0
 let f := ndig l
 let l := l.drop f
 let dot := jgE l
 let b := bif dot then ndig l.tail else 0
 let l := bif dot then l.tail.drop b else l
 if f + b = 0 then false else jdW dot l
def form (c : Nat) : Nat := if dig c then 100 else if isS c then 115 else if c = 46 then 112 else if isE c then 101 else 120
def next (state c : Nat) : Nat :=
 if state = 0 ∨ state = 1 then (if c = 100 then 2 else if c = 112 then 4 else if c = 115 ∧ state = 0 then 1 else 9)
 else if state = 2 then (if c = 100 then 2 else if c = 112 then 3 else if c = 101 then 6 else 9)
 else if state = 3 ∨ state = 5 then (if c = 100 then 5 else if c = 101 then 6 else 9)
 else if state = 4 then (if c = 100 then 5 else 9)
 else if state = 6 ∨ state = 7 ∨ state = 8 then (if c = 100 then 8 else if c = 115 ∧ state = 6 then 7 else 9)
 else 9
def more (state c : Nat) : Nat := if (state = 6 ∨ state = 7 ∨ state = 8) ∧ c = 100 then 1 else 0
def run (state power : Nat) : List Nat → Bool
 | [] => decide (state = 3) || decide (state = 5) || (decide (state = 8) && decide (power ≤ 4))
 | c :: l => run (next state (form c)) (power + more state (form c)) l
def right2 (l : List Nat) : Bool := run 0 0 l
theorem jc9 {c : Nat} (h : dig c = true) : form c = 100 := by unfold form; rw [if_pos h]
theorem jfu {c : Nat} (h : isS c = true) : form c = 115 := by
 have : dig c = false := by
  cases hd : dig c with
  | false => rfl
  | true => rw [(dig_not c hd).2.2] at h; cases h
 unfold form; rw [if_neg (by rw [this]; decide), if_pos h]
theorem form_p : form 46 = 112 := by decide
theorem jfv {c : Nat} (h : isE c = true) : form c = 101 := by
 simp only [isE, Bool.or_eq_true, decide_eq_true_eq] at h
 rcases h with rfl | rfl <;> decide
theorem jft {c : Nat} (h1 : dig c = false) (h2 : isS c = false) (h3 : c ≠ 46) (h4 : isE c = false) : form c = 120 := by
 unfold form; rw [if_neg (by rw [h1]; decide), if_neg (by rw [h2]; decide), if_neg h3, if_neg (by rw [h4]; decide)]
theorem run9 : ∀ (l : List Nat) (p : Nat), run 9 p l = false := by
 intro l
 induction l with
 | nil => intro p; rfl
 | cons c l ih => intro p; exact ih _
theorem sorts (c : Nat) : dig c = true ∨ (dig c = false ∧ isS c = true) ∨ c = 46 ∨ (dig c = false ∧ isE c = true) ∨ (dig c = false ∧ isS c = false ∧ c ≠ 46 ∧ isE c = false) := by
 cases h1 : dig c with
 | true => exact .inl rfl
 | false =>
   cases h2 : isS c with
   | true => exact .inr (.inl ⟨rfl, rfl⟩)
   | false =>
     by_cases h3 : c = 46
     ·exact .inr (.inr (.inl h3))
     ·cases h4 : isE c with
      | true => exact .inr (.inr (.inr (.inl ⟨rfl, rfl⟩)))
      | false => exact .inr (.inr (.inr (.inr ⟨rfl, rfl, h3, rfl⟩)))
theorem jiu : ∀ (l : List Nat), ndig l ≤ l.length := by
 intro l
 induction l with
 | nil => exact Nat.le_refl _
 | cons c l ih => unfold ndig; split <;> simp <;> omega
theorem run8 : ∀ (l : List Nat) (p : Nat), run 8 p l = (decide (ndig l = l.length) && decide (p + l.length ≤ 4)) := by
 intro l
 induction l with
 | nil => intro p; simp [run, ndig]
 | cons c l ih =>
   intro p
   rw [run]
   cases h : dig c with
   | true =>
     rw [jc9 h, show next 8 100 = 8 from rfl, show more 8 100 = 1 from rfl, ih, ndig, if_pos h]
     simp only [List.length_cons, Nat.add_right_cancel_iff]
     congr 2
     exact propext ⟨fun _ => by omega, fun _ => by omega⟩
   | false =>
     have hn : next 8 (form c) = 9 := by
      rcases sorts c with h1 | ⟨_, h2⟩ | rfl | ⟨_, h2⟩ | ⟨h1, h2, h3, h4⟩
      ·rw [h1] at h; cases h
      ·rw [jfu h2]; rfl
      ·rfl
      ·rw [jfv h2]; rfl
      ·rw [jft h1 h2 h3 h4]; rfl
     rw [hn, run9, ndig, if_neg (by rw [h]; decide)]
     simp
theorem run7 (l : List Nat) (p : Nat) : run 7 p l = (decide (1 ≤ l.length) && decide (ndig l = l.length) && decide (p + l.length ≤ 4)) := by
 cases l with
 | nil => simp [run]
 | cons c l =>
   rw [run]
   cases h : dig c with
   | true =>
     rw [jc9 h, show next 7 100 = 8 from rfl, show more 7 100 = 1 from rfl, run8, ndig, if_pos h]
     simp only [List.length_cons, Nat.add_right_cancel_iff]
     rw [show decide (1 ≤ l.length + 1) = true from decide_eq_true (by omega), Bool.true_and]
     congr 2
     exact propext ⟨fun _ => by omega, fun _ => by omega⟩
   | false =>
     have hn : next 7 (form c) = 9 := by
      rcases sorts c with h1 | ⟨_, h2⟩ | rfl | ⟨_, h2⟩ | ⟨h1, h2, h3, h4⟩
      ·rw [h1] at h; cases h
      ·rw [jfu h2]; rfl
      ·rfl
      ·rw [jfv h2]; rfl
      ·rw [jft h1 h2 h3 h4]; rfl
     rw [hn, run9, ndig, if_neg (by rw [h]; decide)]
     simp
theorem run6 (l : List Nat) : run 6 0 l = expo l := by
 cases l with
 | nil => rfl
 | cons c l =>
   rw [run]
   unfold expo
   cases h : dig c with
   | true =>
     rw [jc9 h, show next 6 100 = 8 from rfl, show more 6 100 = 1 from rfl, run8, unsg_f (dig_not c h).2.2, ndig, if_pos h]
     have := jiu l
     simp only [List.length_cons, Nat.add_right_cancel_iff]
     rw [Bool.eq_iff_iff]
     simp only [Bool.and_eq_true, decide_eq_true_eq]
     omega
   | false =>
     cases hs : isS c with
     | true =>
       rw [jfu hs, show next 6 115 = 7 from rfl, show more 6 115 = 0 from rfl, run7, unsg_t hs]
       rw [Bool.eq_iff_iff]
       simp only [Bool.and_eq_true, decide_eq_true_eq]
       omega
     | false =>
       have hn : next 6 (form c) = 9 := by
        rcases sorts c with h1 | ⟨_, h2⟩ | rfl | ⟨_, h2⟩ | ⟨h1, h2, h3, h4⟩
        ·rw [h1] at h; cases h
        ·rw [h2] at hs; cases hs
        ·rfl
        ·rw [jfv h2]; rfl
        ·rw [jft h1 h2 h3 h4]; rfl
       rw [hn, run9, unsg_f hs, ndig, if_neg (by rw [h]; decide)]
       rfl
theorem run5 : ∀ (l : List Nat), run 5 0 l = jdW true (l.drop (ndig l)) := by
 intro l
 induction l with
 | nil => rfl
 | cons c l ih =>
   rw [run]
   cases h : dig c with
   | true => rw [jc9 h, show next 5 100 = 5 from rfl, show more 5 100 = 0 from rfl, ih, ndig, if_pos h, List.drop_succ_cons]
   | false =>
     rw [ndig, if_neg (by rw [h]; decide), List.drop_zero, jdW]
     cases he : isE c with
     | true => rw [jfv he, show next 5 101 = 6 from rfl, show more 5 101 = 0 from rfl, run6, Bool.true_and]
     | false =>
       have hn : next 5 (form c) = 9 := by
        rcases sorts c with h1 | ⟨_, h2⟩ | rfl | ⟨_, h2⟩ | ⟨h1, h2, h3, h4⟩
        ·rw [h1] at h; cases h
        ·rw [jfu h2]; rfl
        ·rfl
        ·rw [h2] at he; cases he
        ·rw [jft h1 h2 h3 h4]; rfl
       rw [hn, run9, Bool.false_and]
theorem run3 (l : List Nat) : run 3 0 l = run 5 0 l := by cases l <;> rfl
theorem run4 (l : List Nat) : run 4 0 l = (decide (1 ≤ ndig l) && jdW true (l.drop (ndig l))) := by
 cases l with
 | nil => rfl
 | cons c l =>
   rw [run]
   cases h : dig c with
   | true =>
     rw [jc9 h, show next 4 100 = 5 from rfl, show more 4 100 = 0 from rfl, run5, ndig, if_pos h, List.drop_succ_cons]
     rw [show decide (1 ≤ ndig l + 1) = true from decide_eq_true (by omega), Bool.true_and]
   | false =>
     have hn : next 4 (form c) = 9 := by
      rcases sorts c with h1 | ⟨_, h2⟩ | rfl | ⟨_, h2⟩ | ⟨h1, h2, h3, h4⟩
      ·rw [h1] at h; cases h
      ·rw [jfu h2]; rfl
      ·rfl
      ·rw [jfv h2]; rfl
      ·rw [jft h1 h2 h3 h4]; rfl
     rw [hn, run9, ndig, if_neg (by rw [h]; decide)]
     rfl
def after (f : Nat) (l : List Nat) : Bool :=
 let dot := jgE l
 let b := bif dot then ndig l.tail else 0
 let l := bif dot then l.tail.drop b else l
 if f + b = 0 then false else jdW dot l
theorem run2 : ∀ (l : List Nat) (f : Nat), 0 < f → run 2 0 l = after f (l.drop (ndig l)) := by
 intro l
 induction l with
 | nil => intro f hf; simp [run, after, ndig, jdW, jgE]
 | cons c l ih =>
   intro f hf
   rw [run]
   cases h : dig c with
   | true => rw [jc9 h, show next 2 100 = 2 from rfl, show more 2 100 = 0 from rfl, ih f hf, ndig, if_pos h, List.drop_succ_cons]
   | false =>
     rw [ndig, if_neg (by rw [h]; decide), List.drop_zero]
     unfold after
     by_cases hp : c = 46
     ·subst hp
      simp only [jgE, List.tail_cons]
      rw [form_p, show next 2 112 = 3 from rfl, show more 2 112 = 0 from rfl, run3, run5]
      simp only [decide_true, cond_true]
      rw [if_neg (by omega)]
     ·simp only [jgE, List.tail_cons, decide_eq_false hp, cond_false, Nat.add_zero]
      rw [if_neg (by omega), jdW]
      cases he : isE c with
      | true => rw [jfv he, show next 2 101 = 6 from rfl, show more 2 101 = 0 from rfl, run6, Bool.true_and]
      | false =>
        have hn : next 2 (form c) = 9 := by
         rcases sorts c with h1 | ⟨_, h2⟩ | rfl | ⟨_, h2⟩ | ⟨h1, h2, h3, h4⟩
         ·rw [h1] at h; cases h
         ·rw [jfu h2]; rfl
         ·exact absurd rfl hp
         ·rw [h2] at he; cases he
         ·rw [jft h1 h2 h3 h4]; rfl
        rw [hn, run9, Bool.false_and]
theorem run1 (l : List Nat) (st : Nat) (hst : st = 0 ∨ st = 1) (hs : st = 0 → ∀ c r, l = c :: r → isS c = false) : run st 0 l = after (ndig l) (l.drop (ndig l)) := by
 cases l with
 | nil => rcases hst with rfl | rfl <;> rfl
 | cons c l =>
   rw [run]
   cases h : dig c with
   | true =>
     have e1 : next st 100 = 2 := by rcases hst with rfl | rfl <;> rfl
     have e2 : more st 100 = 0 := by rcases hst with rfl | rfl <;> rfl
     rw [jc9 h, e1, e2, run2 l (ndig (c :: l)) (by rw [ndig, if_pos h]; omega), ndig, if_pos h, List.drop_succ_cons]
   | false =>
     rw [ndig, if_neg (by rw [h]; decide), List.drop_zero]
     unfold after
     by_cases hp : c = 46
     ·subst hp
      simp only [jgE, List.tail_cons, Nat.zero_add]
      have e1 : next st 112 = 4 := by rcases hst with rfl | rfl <;> rfl
      have e2 : more st 112 = 0 := by rcases hst with rfl | rfl <;> rfl
      rw [form_p, e1, e2, run4]
      simp only [decide_true, cond_true]
      by_cases hb : ndig l = 0
      ·rw [if_pos hb, hb]; rfl
      ·rw [if_neg hb, show decide (1 ≤ ndig l) = true from decide_eq_true (by omega), Bool.true_and]
     ·simp only [jgE, List.tail_cons, decide_eq_false hp, cond_false, if_true, Nat.zero_add]
      have hn : next st (form c) = 9 := by
       rcases sorts c with h1 | ⟨_, h2⟩ | rfl | ⟨_, h2⟩ | ⟨h1, h2, h3, h4⟩
       ·rw [h1] at h; cases h
       ·rw [jfu h2]
        rcases hst with rfl | rfl
        ·rw [hs rfl c l rfl] at h2; cases h2
        ·rfl
       ·exact absurd rfl hp
       ·rw [jfv h2]; rcases hst with rfl | rfl <;> rfl
       ·rw [jft h1 h2 h3 h4]; rcases hst with rfl | rfl <;> rfl
      rw [hn, run9]
def numB (c : Nat) : Bool := dig c || decide (c = 46) || isE c || isS c
end Go.Proofs.YtdmfakpngnlokaaGreatDoor.NumText
namespace Go.Proofs.YtdmfakpngnlokaaGreatDoor.DecM
def val (D : Nat → Nat) : Nat → Nat
 | 0 => 0
 | n + 1 => val D n * 10 + (D n - 48)
def Dg (D : Nat → Nat) (n : Nat) : Prop := ∀ k, k < n → 48 ≤ D k ∧ D k ≤ 57
theorem Dg.le {D : Nat → Nat} {n m : Nat} (h : Dg D n) (hm : m ≤ n) : Dg D m := fun k hk => h k (by omega)
theorem jjd {D : Nat → Nat} : ∀ {n : Nat}, Dg D n → val D n < 10 ^ n := by
 intro n
 induction n with
 | zero => intro _; exact Nat.one_pos
 | succ n ih =>
   intro h
   have h1 := ih (h.le (Nat.le_succ n))
   have h2 := h n (Nat.lt_succ_self n)
   show val D n * 10 + (D n - 48) < 10 ^ (n + 1)
   rw [Nat.pow_succ]
   omega
theorem val_ge {D : Nat → Nat} : ∀ {n : Nat}, 0 < n → 49 ≤ D 0 → 10 ^ (n - 1) ≤ val D n := by
 intro n
 induction n with
 | zero => intro h; omega
 | succ n ih =>
   intro _ h0
   show 10 ^ n ≤ val D n * 10 + (D n - 48)
   by_cases hn : n = 0
   ·subst hn; show 1 ≤ 0 * 10 + (D 0 - 48); omega
   ·have := ih (by omega) h0
    obtain ⟨m, rfl⟩ : ∃ m, n = m + 1 := ⟨n - 1, by omega⟩
    simp only [Nat.add_sub_cancel] at this
    rw [Nat.pow_succ]
    omega
theorem val_congr {D E : Nat → Nat} : ∀ {n : Nat}, (∀ k, k < n → D k = E k) → val D n = val E n := by
 intro n
 induction n with
 | zero => intro _; rfl
 | succ n ih =>
   intro h
   show val D n * 10 + (D n - 48) = val E n * 10 + (E n - 48)
   rw [ih (fun k hk => h k (by omega)), h n (Nat.lt_succ_self n)]
def low (D : Nat → Nat) (r j : Nat) : Nat := val (fun t => D (r + t)) j
theorem low_all (D : Nat → Nat) (n : Nat) : low D 0 n = val D n := by unfold low; exact val_congr fun k _ => by rw [Nat.zero_add]
theorem low_succ (D : Nat → Nat) (r j : Nat) : low D r (j + 1) = (D r - 48) * 10 ^ j + low D (r + 1) j := by
 induction j with
 | zero => show 0 * 10 + (D (r + 0) - 48) = (D r - 48) * 10 ^ 0 + 0; simp
 | succ j ih =>
   have e : low D r (j + 1 + 1) = low D r (j + 1) * 10 + (D (r + (j + 1)) - 48) := rfl
   have e2 : low D (r + 1) (j + 1) = low D (r + 1) j * 10 + (D (r + 1 + j) - 48) := rfl
   rw [e, e2, ih, Nat.pow_succ, show r + (j + 1) = r + 1 + j from by omega]
   rw [Nat.add_mul, Nat.mul_assoc]
   omega
theorem je7 (D : Nat → Nat) (i : Nat) : ∀ j, val D (i + j) = val D i * 10 ^ j + low D i j := by
 intro j
 induction j with
 | zero => show val D i = val D i * 10 ^ 0 + 0; simp
 | succ j ih =>
   show val D (i + j) * 10 + (D (i + j) - 48) = val D i * 10 ^ (j + 1) + (low D i j * 10 + (D (i + j) - 48))
   rw [ih, Nat.pow_succ, Nat.add_mul, Nat.mul_assoc]
   omega
theorem low_lt {D : Nat → Nat} {r j : Nat} (h : ∀ t, t < j → 48 ≤ D (r + t) ∧ D (r + t) ≤ 57) : low D r j < 10 ^ j := jjd h
def carry (D : Nat → Nat) (k r j : Nat) : Nat := low D r j * 2 ^ k / 10 ^ j
theorem jgd (D : Nat → Nat) (k r j : Nat) : (carry D k (r + 1) j + (D r - 48) * 2 ^ k) = low D r (j + 1) * 2 ^ k / 10 ^ j := by
 unfold carry
 rw [low_succ, Nat.add_mul, Nat.mul_assoc, Nat.mul_comm (10 ^ j), ← Nat.mul_assoc, Nat.add_comm, Nat.mul_comm ((D r - 48) * 2 ^ k) (10 ^ j), Nat.mul_add_div (Nat.pow_pos (by decide))]
theorem jkV (D : Nat → Nat) (k r j : Nat) : (carry D k (r + 1) j + (D r - 48) * 2 ^ k) / 10 = carry D k r (j + 1) := by
 rw [jgd, Nat.div_div_eq_div_mul, ← Nat.pow_succ]; rfl
theorem jgN {D : Nat → Nat} {k r j : Nat} (h : ∀ t, t < j → 48 ≤ D (r + t) ∧ D (r + t) ≤ 57) : carry D k r j < 2 ^ k := by
 unfold carry
 rw [Nat.div_lt_iff_lt_mul (Nat.pow_pos (by decide)), Nat.mul_comm (2 ^ k)]
 exact Nat.mul_lt_mul_of_pos_right (low_lt h) (Nat.pow_pos (by decide))
def less (b : Nat → Nat) (n : Nat) (s : Nat → Nat) : Nat → Nat → Bool
 | _, 0 => false
 | i, m + 1 => if n ≤ i then true else if b i = s i then less b n s (i + 1) m else decide (b i < s i)
theorem less_spec {b s : Nat → Nat} {n m : Nat} (hb : Dg b n) (hs : Dg s m) (hl : 0 < m → 49 ≤ s (m - 1)) : ∀ (k i : Nat), i + k = m → i ≤ n → val b i = val s i →
  (less b n s i k = true → val b n * 10 ^ m < val s m * 10 ^ n) ∧ (less b n s i k = false → val s m * 10 ^ n ≤ val b n * 10 ^ m) := by
 intro k
 induction k with
 | zero =>
   intro i hi hn he
   have hi : i = m := hi
   subst hi
   refine ⟨fun h => by simp [less] at h, fun _ => ?_⟩
   rw [show n = i + (n - i) from by omega, je7, he, Nat.pow_add, ← Nat.mul_assoc, Nat.add_mul]
   have : val s i * 10 ^ i * 10 ^ (n - i) = val s i * 10 ^ (n - i) * 10 ^ i := by rw [Nat.mul_assoc, Nat.mul_comm (10 ^ i), ← Nat.mul_assoc]
   omega
 | succ k ih =>
   intro i hi hn he
   rw [less]
   by_cases h1 : n ≤ i
   ·rw [if_pos h1]
    obtain rfl : i = n := by omega
    refine ⟨fun _ => ?_, fun h => by cases h⟩
    have e : val s m = val s i * 10 ^ (k + 1) + low s i (k + 1) := by rw [← hi, je7]
    have hpos : 1 ≤ low s i (k + 1) := by
     have : low s i (k + 1) = low s i k * 10 + (s (i + k) - 48) := rfl
     have := hl (by omega)
     rw [show m - 1 = i + k from by omega] at this
     omega
    rw [e, he, show m = i + (k + 1) from hi.symm, Nat.pow_add, Nat.add_mul, ← Nat.mul_assoc]
    have h2 : val s i * 10 ^ i * 10 ^ (k + 1) = val s i * 10 ^ (k + 1) * 10 ^ i := by rw [Nat.mul_assoc, Nat.mul_comm (10 ^ i), ← Nat.mul_assoc]
    have h3 : 0 < low s i (k + 1) * 10 ^ i := Nat.mul_pos hpos (Nat.pow_pos (by decide))
    omega
   ·rw [if_neg h1]
    have hin : i < n := by omega
    have him : i < m := by omega
    by_cases h2 : b i = s i
    ·rw [if_pos h2]
     exact ih (i + 1) (by omega) (by omega) (by show val b i * 10 + (b i - 48) = val s i * 10 + (s i - 48); rw [he, h2])
    ·rw [if_neg h2]
     have eb : val b n = (val b i * 10 + (b i - 48)) * 10 ^ (n - (i + 1)) + low b (i + 1) (n - (i + 1)) := by
      have := je7 b (i + 1) (n - (i + 1))
      rw [show i + 1 + (n - (i + 1)) = n from by omega] at this
      exact this
     have es : val s m = (val s i * 10 + (s i - 48)) * 10 ^ (m - (i + 1)) + low s (i + 1) (m - (i + 1)) := by
      have := je7 s (i + 1) (m - (i + 1))
      rw [show i + 1 + (m - (i + 1)) = m from by omega] at this
      exact this
     have lb : low b (i + 1) (n - (i + 1)) < 10 ^ (n - (i + 1)) := low_lt fun t ht => hb _ (by omega)
     have lsl : low s (i + 1) (m - (i + 1)) < 10 ^ (m - (i + 1)) := low_lt fun t ht => hs _ (by omega)
     have pm : 10 ^ m = 10 ^ (m - (i + 1)) * 10 ^ (i + 1) := by rw [← Nat.pow_add, show m - (i + 1) + (i + 1) = m from by omega]
     have pn : 10 ^ n = 10 ^ (n - (i + 1)) * 10 ^ (i + 1) := by rw [← Nat.pow_add, show n - (i + 1) + (i + 1) = n from by omega]
     obtain ⟨P, hP⟩ : ∃ P, P = 10 ^ (n - (i + 1)) := ⟨_, rfl⟩
     obtain ⟨R, hR⟩ : ∃ R, R = 10 ^ (m - (i + 1)) := ⟨_, rfl⟩
     obtain ⟨C, hC⟩ : ∃ C, C = 10 ^ (i + 1) := ⟨_, rfl⟩
     obtain ⟨u, hu⟩ : ∃ u, u = low b (i + 1) (n - (i + 1)) := ⟨_, rfl⟩
     obtain ⟨v, hv⟩ : ∃ v, v = low s (i + 1) (m - (i + 1)) := ⟨_, rfl⟩
     obtain ⟨x, hx⟩ : ∃ x, x = val b i * 10 + (b i - 48) := ⟨_, rfl⟩
     obtain ⟨y, hy⟩ : ∃ y, y = val s i * 10 + (s i - 48) := ⟨_, rfl⟩
     rw [← hP, ← hu, ← hx] at eb
     rw [← hR, ← hv, ← hy] at es
     rw [← hP, ← hu] at lb
     rw [← hR, ← hv] at lsl
     rw [← hR, ← hC] at pm
     rw [← hP, ← hC] at pn
     rw [eb, es, pm, pn]
     have bi := hb i hin
     have si := hs i him
     have C0 : 0 < C := by rw [hC]; exact Nat.pow_pos (by decide)
     have k1 : (x * P + u) * (R * C) = ((x * P + u) * R) * C := (Nat.mul_assoc _ _ _).symm
     have k2 : (y * R + v) * (P * C) = ((y * R + v) * P) * C := (Nat.mul_assoc _ _ _).symm
     rw [k1, k2]
     by_cases h3 : b i < s i
     ·have hxy : x + 1 ≤ y := by rw [hx, hy, he]; omega
      refine ⟨(fun _ => Nat.mul_lt_mul_of_pos_right ?_ C0), (fun h => by rw [decide_eq_true h3] at h; cases h)⟩
      have R0 : 0 < R := by omega
      calc (x * P + u) * R < (x * P + P) * R := Nat.mul_lt_mul_of_pos_right (by omega) R0
       _ = (x + 1) * P * R := by rw [show (x + 1) * P = x * P + P from Nat.succ_mul x P]
       _ ≤ y * P * R := Nat.mul_le_mul_right _ (Nat.mul_le_mul_right _ hxy)
       _ = y * R * P := by rw [Nat.mul_assoc, Nat.mul_comm P, ← Nat.mul_assoc]
       _ ≤ (y * R + v) * P := Nat.mul_le_mul_right _ (Nat.le_add_right _ _)
     ·have hxy : y + 1 ≤ x := by rw [hx, hy, he]; omega
      refine ⟨(fun h => by rw [decide_eq_false h3] at h; cases h), fun _ => Nat.mul_le_mul_right C ?_⟩
      calc (y * R + v) * P ≤ (y * R + R) * P := Nat.mul_le_mul_right _ (by omega)
       _ = (y + 1) * R * P := by rw [show (y + 1) * R = y * R + R from Nat.succ_mul y R]
       _ ≤ x * R * P := Nat.mul_le_mul_right _ (Nat.mul_le_mul_right _ hxy)
       _ = x * P * R := by rw [Nat.mul_assoc, Nat.mul_comm R, ← Nat.mul_assoc]
       _ ≤ (x * P + u) * R := Nat.mul_le_mul_right _ (Nat.le_add_right _ _)
structure Cheat (k d m : Nat) (c : Nat → Nat) : Prop where
 up : 2 ^ k < 10 ^ d
 lo : 10 ^ (d - 1) ≤ 2 ^ k
 pos : 1 ≤ d
 len : m + d = k + 1
 dg : Dg c m
 five : val c m = 5 ^ k
 last : 49 ≤ c (m - 1)
theorem shifted {D : Nat → Nat} {n k d m : Nat} {c : Nat → Nat} (h : Cheat k d m c) (hD : Dg D n) (hn : 0 < n) (h0 : 49 ≤ D 0) :
  (less D n c 0 m = true → 10 ^ (n + (d - 1) - 1) ≤ val D n * 2 ^ k ∧ val D n * 2 ^ k < 10 ^ (n + (d - 1))) ∧
  (less D n c 0 m = false → 10 ^ (n + d - 1) ≤ val D n * 2 ^ k ∧ val D n * 2 ^ k < 10 ^ (n + d)) := by
 have sp := less_spec hD h.dg (fun _ => h.last) m 0 (Nat.zero_add _) (Nat.zero_le _) rfl
 have v1 := jjd hD
 have v2 := val_ge (n := n) hn h0
 have e10 : (10 : Nat) ^ k = 2 ^ k * 5 ^ k := by rw [← Nat.mul_pow]
 have m10 : 0 < (10 : Nat) ^ m := Nat.pow_pos (by decide)
 have k2 : 0 < 2 ^ k := Nat.pow_pos (by decide)
 have hd := h.pos
 refine ⟨fun hl => ⟨?_, ?_⟩, fun hl => ⟨?_, ?_⟩⟩
 ·rw [show n + (d - 1) - 1 = (n - 1) + (d - 1) from by omega, Nat.pow_add]
  exact Nat.mul_le_mul v2 h.lo
 ·have := sp.1 hl
  rw [h.five] at this
  have h2 : val D n * 10 ^ m * 2 ^ k < 5 ^ k * 10 ^ n * 2 ^ k := Nat.mul_lt_mul_of_pos_right this k2
  have h3 : 5 ^ k * 10 ^ n * 2 ^ k = 10 ^ (n + (d - 1)) * 10 ^ m := by
   rw [← Nat.pow_add, show n + (d - 1) + m = k + n from by have := h.len; omega, Nat.pow_add, e10]
   rw [Nat.mul_assoc, Nat.mul_comm (10 ^ n), ← Nat.mul_assoc, Nat.mul_comm (5 ^ k)]
  rw [h3, Nat.mul_assoc, Nat.mul_comm (10 ^ m), ← Nat.mul_assoc] at h2
  exact Nat.lt_of_mul_lt_mul_right h2
 ·have := sp.2 hl
  rw [h.five] at this
  have h2 : 5 ^ k * 10 ^ n * 2 ^ k ≤ val D n * 10 ^ m * 2 ^ k := Nat.mul_le_mul_right _ this
  have h3 : 5 ^ k * 10 ^ n * 2 ^ k = 10 ^ (n + d - 1) * 10 ^ m := by
   rw [← Nat.pow_add, show n + d - 1 + m = k + n from by have := h.len; omega, Nat.pow_add, e10]
   rw [Nat.mul_assoc, Nat.mul_comm (10 ^ n), ← Nat.mul_assoc, Nat.mul_comm (5 ^ k)]
  rw [h3, Nat.mul_assoc (val D n), Nat.mul_comm (10 ^ m), ← Nat.mul_assoc] at h2
  exact Nat.le_of_mul_le_mul_right h2 m10
 ·rw [Nat.pow_add]
  exact Nat.mul_lt_mul_of_lt_of_le v1 (Nat.le_of_lt h.up) (Nat.pow_pos (by decide))
end Go.Proofs.YtdmfakpngnlokaaGreatDoor.DecM
namespace Go.Proofs.YtdmfakpngnlokaaGreatDoor.DecM
theorem val_first {D : Nat → Nat} {n : Nat} (hn : 0 < n) : (D 0 - 48) * 10 ^ (n - 1) ≤ val D n := by
 obtain ⟨m, rfl⟩ : ∃ m, n = 1 + m := ⟨n - 1, by omega⟩
 rw [je7, show 1 + m - 1 = m from by omega]
 have e : val D 1 = D 0 - 48 := by show 0 * 10 + (D 0 - 48) = D 0 - 48; omega
 rw [e]
 exact Nat.le_add_right _ _
def sumL (D : Nat → Nat) (k n r : Nat) : Nat := carry D k (r + 1) (n - (r + 1)) + (D r - 48) * 2 ^ k
theorem sumL_lt {D : Nat → Nat} {k n r : Nat} (h : Dg D n) (hr : r < n) : sumL D k n r < 10 * 2 ^ k := by
 have h1 : carry D k (r + 1) (n - (r + 1)) < 2 ^ k := jgN fun t ht => h _ (by omega)
 have h2 := (h r hr).2
 have h3 : (D r - 48) * 2 ^ k ≤ 9 * 2 ^ k := Nat.mul_le_mul_right _ (by omega)
 unfold sumL
 omega
theorem jjj {D : Nat → Nat} {k n r : Nat} (hr : r < n) : sumL D k n r / 10 = carry D k r (n - r) := by
 unfold sumL
 rw [jkV, show n - (r + 1) + 1 = n - r from by omega]
theorem jhf {D : Nat → Nat} {k n : Nat} (hn : 0 < n) : sumL D k n 0 = val D n * 2 ^ k / 10 ^ (n - 1) := by
 unfold sumL
 rw [jgd, show n - (0 + 1) + 1 = n from by omega, low_all]
theorem jhU (D : Nat → Nat) (k n : Nat) : carry D k 0 n = val D n * 2 ^ k / 10 ^ n := by unfold carry; rw [low_all]
theorem jjG {D : Nat → Nat} {n k d : Nat} (hn : 0 < n) (hk : 1 ≤ k) (hD : Dg D n) (h0 : 49 ≤ D 0) (h1 : 10 ^ (n + d - 1) ≤ val D n * 2 ^ k) (h2 : val D n * 2 ^ k < 10 ^ (n + d)) :
  carry D k 0 n < 10 ^ d ∧ (1 ≤ d → 10 ^ (d - 1) ≤ carry D k 0 n) ∧ (d = 0 → D 0 < 48 + sumL D k n 0 % 10) := by
 refine ⟨?_, fun hd => ?_, fun hd => ?_⟩
 ·rw [jhU, Nat.div_lt_iff_lt_mul (Nat.pow_pos (by decide)), ← Nat.pow_add, Nat.add_comm d n]
  exact h2
 ·rw [jhU, Nat.le_div_iff_mul_le (Nat.pow_pos (by decide)), ← Nat.pow_add, show d - 1 + n = n + d - 1 from by omega]
  exact h1
 ·subst hd
  have hs : sumL D k n 0 < 10 := by
   rw [jhf hn, Nat.div_lt_iff_lt_mul (Nat.pow_pos (by decide)), ← Nat.pow_succ', show (n - 1).succ = n from by omega]
   exact h2
  rw [Nat.mod_eq_of_lt hs]
  have hv := val_first (D := D) hn
  have k2 : 2 ≤ 2 ^ k := by
   obtain ⟨j, rfl⟩ : ∃ j, k = j + 1 := ⟨k - 1, by omega⟩
   rw [Nat.pow_succ]
   have := Nat.pow_pos (n := j) (show 0 < 2 by decide)
   omega
  have h3 : (2 * (D 0 - 48)) * 10 ^ (n - 1) ≤ val D n * 2 ^ k := by
   rw [Nat.mul_assoc, Nat.mul_comm (val D n)]
   exact Nat.mul_le_mul k2 hv
  have h4 : 2 * (D 0 - 48) ≤ sumL D k n 0 := by
   rw [jhf hn, Nat.le_div_iff_mul_le (Nat.pow_pos (by decide))]
   exact h3
  have := hD 0 hn
  omega
def pad (D : Nat → Nat) (n : Nat) : Nat → Nat := fun t => if t < n then D t else 48
theorem pad_at {D : Nat → Nat} {n t : Nat} (h : t < n) : pad D n t = D t := if_pos h
theorem pad_off {D : Nat → Nat} {n t : Nat} (h : n ≤ t) : pad D n t = 48 := if_neg (by omega)
theorem pad_dg {D : Nat → Nat} {n : Nat} (h : Dg D n) (m : Nat) : Dg (pad D n) m := fun k _ => by
 unfold pad
 by_cases e : k < n
 ·rw [if_pos e]; exact h k e
 ·rw [if_neg e]; omega
theorem least (p : Nat → Prop) [DecidablePred p] : ∀ m, p m → ∃ r, r ≤ m ∧ p r ∧ ∀ t, t < r → ¬ p t := by
 intro m
 induction m with
 | zero => intro h; exact ⟨0, Nat.le_refl _, h, fun t ht => by omega⟩
 | succ m ih =>
   intro h
   by_cases hm : ∃ t, t ≤ m ∧ p t
   ·obtain ⟨t, ht, hp⟩ := hm
    have : ∀ k t, t ≤ k → p t → ∃ r, r ≤ k ∧ p r ∧ ∀ u, u < r → ¬ p u := by
     intro k
     induction k with
     | zero => intro t ht hp; exact ⟨0, Nat.le_refl _, (by rw [show (0 : Nat) = t from by omega]; exact hp), fun u hu => by omega⟩
     | succ k ihk =>
       intro t ht hp
       by_cases hq : ∃ u, u ≤ k ∧ p u
       ·obtain ⟨u, hu, hpu⟩ := hq
        obtain ⟨r, h1, h2, h3⟩ := ihk u hu hpu
        exact ⟨r, by omega, h2, h3⟩
       ·exact ⟨t, ht, hp, fun u hu hpu => hq ⟨u, by omega, hpu⟩⟩
    obtain ⟨r, h1, h2, h3⟩ := this m t ht hp
    exact ⟨r, by omega, h2, h3⟩
   ·exact ⟨m + 1, Nat.le_refl _, h, fun t ht hp => hm ⟨t, by omega, hp⟩⟩
theorem jiq {D : Nat → Nat} {n k : Nat} (hn : 0 < n) (hD : Dg D n) (h0 : 49 ≤ D 0) (hk : k ≤ 60) :
  ∃ r, 1 ≤ r ∧ r ≤ 20 ∧ 2 ^ k ≤ val (pad D n) r ∧ val (pad D n) r < 10 * 2 ^ k ∧ ∀ t, t < r → val (pad D n) t < 2 ^ k := by
 have p0 : 49 ≤ pad D n 0 := by rw [pad_at hn]; exact h0
 have big : 2 ^ k ≤ val (pad D n) 20 := Nat.le_trans (Nat.pow_le_pow_right (by decide) hk) (Nat.le_trans (by decide : 2 ^ 60 ≤ 10 ^ 19) (val_ge (n := 20) (by decide) p0))
 obtain ⟨r, h1, h2, h3⟩ := least (fun r => 2 ^ k ≤ val (pad D n) r) 20 big
 have hr : 1 ≤ r := by
  refine Nat.pos_of_ne_zero fun e => ?_
  subst e
  have : val (pad D n) 0 = 0 := rfl
  rw [this] at h2
  have := Nat.pow_pos (n := k) (show 0 < 2 by decide)
  omega
 refine ⟨r, hr, h1, h2, ?_, fun t ht => Nat.lt_of_not_le (h3 t ht)⟩
 obtain ⟨q, rfl⟩ : ∃ q, r = q + 1 := ⟨r - 1, by omega⟩
 have hq := Nat.lt_of_not_le (h3 q (by omega))
 have hd := pad_dg hD (q + 1) q (by omega)
 show val (pad D n) q * 10 + (pad D n q - 48) < 10 * 2 ^ k
 omega
theorem mask_step {N k c : Nat} (hc : c ≤ 9) : N % 2 ^ k * 10 + c < 10 * 2 ^ k := by
 have := Nat.mod_lt N (Nat.pow_pos (n := k) (show 0 < 2 by decide))
 omega
theorem dig_lt {N k : Nat} (h : N < 10 * 2 ^ k) : N / 2 ^ k < 10 := by
 rw [Nat.div_lt_iff_lt_mul (Nat.pow_pos (by decide))]
 exact h
theorem dig_pos {N k : Nat} (h : 2 ^ k ≤ N) : 1 ≤ N / 2 ^ k := by
 rw [Nat.le_div_iff_mul_le (Nat.pow_pos (by decide)), Nat.one_mul]
 exact h
theorem mask_dvd {N k j : Nat} (h : 2 ^ j ∣ N) (hj : j < k) : 2 ^ (j + 1) ∣ N % 2 ^ k * 10 := by
 obtain ⟨i, rfl⟩ : ∃ i, k = j + i := ⟨k - j, by omega⟩
 have h1 : 2 ^ j ∣ N % 2 ^ (j + i) := (Nat.dvd_mod_iff (Nat.pow_dvd_pow 2 (Nat.le_add_right j i))).2 h
 rw [Nat.pow_succ]
 exact Nat.mul_dvd_mul h1 (by decide : 2 ∣ 10)
theorem mask_end {N k : Nat} (h : 2 ^ k ∣ N) : N % 2 ^ k * 10 = 0 := by rw [Nat.mod_eq_zero_of_dvd h]
theorem pow60 {k : Nat} (h : k ≤ 60) : 2 ^ k ≤ 1152921504606846976 := Nat.le_trans (Nat.pow_le_pow_right (by decide) h) (by decide)
end Go.Proofs.YtdmfakpngnlokaaGreatDoor.DecM
