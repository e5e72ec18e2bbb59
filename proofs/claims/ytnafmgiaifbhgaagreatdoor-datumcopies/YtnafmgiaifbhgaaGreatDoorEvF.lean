/-
  The evaluator, part F: slices, comparisons, assertions, structs. No conditions.
-/
import Derived.Test.YtnafmgiaifbhgaaGreatDoorEvE
set_option linter.unusedSimpArgs false
set_option linter.unusedVariables false
namespace Go.Proofs.YtnafmgiaifbhgaaGreatDoor.Ev
noncomputable section
variable {P : Program} {J : Nat → Loc}
def jc5 : List UInt8 → List UInt8 → Bool
 | [], [] => true
 | a :: x, b :: y => match Nat.beq a.toNat b.toNat with
   | true => jc5 x y
   | false => false
 | _, _ => false
theorem jet : ∀ (x y : List UInt8), jc5 x y = (x == y) := by
 intro x
 induction x with
 | nil => intro y; cases y <;> rfl
 | cons a x ih =>
   intro y
   cases y with
   | nil => rfl
   | cons b y =>
     rw [jc5, List.cons_beq_cons]
     cases h : Nat.beq a.toNat b.toNat with
     | true =>
       have : a = b := UInt8.toNat_inj.1 (Nat.eq_of_beq_eq_true h)
       subst this
       simp [ih]
     | false =>
       have : (a == b) = false := by
        rw [beq_eq_false_iff_ne]
        intro e; subst e
        rw [Nat.beq_refl] at h; cases h
       simp [this]
def aStr (op : BinOp) (a b : ByteArray) : Option Value :=
 match op with
 | .eql => some (.bool (jc5 a.data.toList b.data.toList))
 | .neq => some (.bool (!jc5 a.data.toList b.data.toList))
 | .lss => some (.bool (Op.bytesLess a.data.toList b.data.toList))
 | .geq => some (.bool (!Op.bytesLess a.data.toList b.data.toList))
 | .add => match Nat.blt (Nat.add a.data.toList.length b.data.toList.length) 4294967296 with
   | true => some (.string ⟨(a.data.toList ++ b.data.toList).toArray⟩)
   | false => none
 | _ => none
theorem aStr_run {op : BinOp} {t : TypeId} {x y : Operand} {a b : ByteArray} {v : Value} (h : aStr op a b = some v) (w : World) :
  (do eqGuard op t x y (.string a) (.string b); binOp op t (.string a) (.string b) : Sem Value).run P w = .ok v w := by
 have hg : (eqGuard op t x y (.string a) (.string b)).run P w = .ok () w := by
  unfold eqGuard
  split <;> rfl
 have e1 : (a.toList == b.toList) = jc5 a.data.toList b.data.toList := by rw [jet, toList_data, toList_data]
 have e2 : Op.bytesLess a.toList b.toList = Op.bytesLess a.data.toList b.data.toList := by rw [toList_data, toList_data]
 simp only [Sem.run_bind, hg, Result.andThen_ok]
 unfold aStr at h
 split at h
 ·cases h; simp only [binOp, Op.stringOp, e1]; rfl
 ·cases h; simp only [binOp, Op.stringOp, e1]; rfl
 ·cases h; simp only [binOp, Op.stringOp, e2]; rfl
 ·cases h; simp only [binOp, Op.stringOp, e2]; rfl
 ·split at h
  ·rename_i hl
   cases h
   have hl' : a.size + b.size < 4294967296 := by
    have : a.data.toList.length + b.data.toList.length < 4294967296 := by simpa using hl
    simpa using this
   have hm : ¬ (((a.size + b.size : Nat) : Int) > IntKind.i64.max) := by
    have : IntKind.i64.max = 9223372036854775807 := by decide
    omega
   simp only [binOp, Op.stringOp, if_neg hm]
   have : a ++ b = ⟨(a.data.toList ++ b.data.toList).toArray⟩ := by
    show ByteArray.append a b = _
    rfl
   rw [this]; rfl
  ·cases h
 ·cases h
def aNil (P : Program) (t : TypeId) (a b : Value) : Bool :=
 match a, b with
 | .pointer (some _), .pointer none => match P.underlying t with
   | some (.pointer _) => true
   | _ => false
 | .pointer none, .pointer (some _) => match P.underlying t with
   | some (.pointer _) => true
   | _ => false
 | .slice (some _) _ _, .slice none _ _ => match P.underlying t with
   | some (.slice _) => true
   | _ => false
 | .slice none _ _, .slice (some _) _ _ => match P.underlying t with
   | some (.slice _) => true
   | _ => false
 | .func _ _ _, .nilFunc => match P.underlying t with
   | some (.func _ _ _) => true
   | _ => false
 | .iface _ _, .nilIface => match P.underlying t with
   | some (.interface _) => true
   | _ => false
 | .nilIface, .iface _ _ => match P.underlying t with
   | some (.interface _) => true
   | _ => false
 | .map (some _), .map none => match P.underlying t with
   | some (.map _ _) => true
   | _ => false
 | _, _ => false
theorem nil_in {t : TypeId} {a b a' b' : Value} (ha : VRel J a a') (hb : VRel J b b') (h : aNil P t a b = true) (w : World) (d : Nat) :
  (Op.equalIn (d + 1) t a' b').run P w = .ok false w := by
 unfold aNil at h
 split at h
 ·split at h
  ·rename_i e hu
   obtain ⟨p, rfl, _⟩ := jdh ha
   cases hb
   simp only [Op.equalIn, Sem.run_bind, jaF hu, Result.andThen_ok]; rfl
  ·cases h
 ·split at h
  ·rename_i e hu
   obtain ⟨p, rfl, _⟩ := jdh hb
   cases ha
   simp only [Op.equalIn, Sem.run_bind, jaF hu, Result.andThen_ok]; rfl
  ·cases h
 ·split at h
  ·rename_i e hu
   obtain ⟨p, c, rfl, _⟩ := jbm ha
   cases hb
   simp only [Op.equalIn, Sem.run_bind, jaF hu, Result.andThen_ok]; rfl
  ·cases h
 ·split at h
  ·rename_i e hu
   obtain ⟨p, c, rfl, _⟩ := jbm hb
   cases ha
   simp only [Op.equalIn, Sem.run_bind, jaF hu, Result.andThen_ok]; rfl
  ·cases h
 ·split at h
  ·rename_i e hu
   cases ha
   cases hb
   simp only [Op.equalIn, Sem.run_bind, jaF hu, Result.andThen_ok]; rfl
  ·cases h
 ·split at h
  ·rename_i e hu
   obtain ⟨p, rfl, _⟩ := jcP ha
   cases hb
   simp only [Op.equalIn, Sem.run_bind, jaF hu, Result.andThen_ok]; rfl
  ·cases h
 ·split at h
  ·rename_i e hu
   obtain ⟨p, rfl, _⟩ := jcP hb
   cases ha
   simp only [Op.equalIn, Sem.run_bind, jaF hu, Result.andThen_ok]; rfl
  ·cases h
 ·split at h
  ·rename_i e hu
   cases hb
   cases ha
   all_goals (simp only [Op.equalIn, Sem.run_bind, jaF hu, Result.andThen_ok]; rfl)
  ·cases h
 ·cases h
theorem nil_bin {t : TypeId} {a b a' b' : Value} (ha : VRel J a a') (hb : VRel J b b') (h : aNil P t a b = true) :
  (∀ op x y w, (eqGuard op t x y a' b').run P w = .ok () w) ∧ binOp .eql t a' b' = (do pure (.bool (← Op.equal t a' b'))) ∧
   binOp .neq t a' b' = (do pure (.bool (!(← Op.equal t a' b')))) := by
 have hg : ∀ (u v : Value), (∀ x y, u = .agg x → v = .agg y → False) → (u = .nilIface → v = .nilIface → False) → ∀ op x y w, (eqGuard op t x y u v).run P w = .ok () w := by
  intro u v h1 h2 op x y w
  unfold eqGuard
  split
  all_goals
   first
    | rfl
    | (simp only [Bool.not_true, Bool.false_eq_true, if_false]
       rfl)
 unfold aNil at h
 split at h
 ·obtain ⟨p, rfl, _⟩ := jdh ha; cases hb; exact ⟨hg _ _ (fun _ _ e => by cases e) (fun e => by cases e), rfl, rfl⟩
 ·obtain ⟨p, rfl, _⟩ := jdh hb; cases ha; exact ⟨hg _ _ (fun _ _ e => by cases e) (fun e => by cases e), rfl, rfl⟩
 ·obtain ⟨p, c, rfl, _⟩ := jbm ha; cases hb; exact ⟨hg _ _ (fun _ _ e => by cases e) (fun e => by cases e), rfl, rfl⟩
 ·obtain ⟨p, c, rfl, _⟩ := jbm hb; cases ha; exact ⟨hg _ _ (fun _ _ e => by cases e) (fun e => by cases e), rfl, rfl⟩
 ·cases ha; cases hb; exact ⟨hg _ _ (fun _ _ e => by cases e) (fun e => by cases e), rfl, rfl⟩
 ·obtain ⟨p, rfl, _⟩ := jcP ha; cases hb; exact ⟨hg _ _ (fun _ _ e => by cases e) (fun e => by cases e), rfl, rfl⟩
 ·obtain ⟨p, rfl, _⟩ := jcP hb; cases ha; exact ⟨hg _ _ (fun _ _ e => by cases e) (fun _ e => by cases e), rfl, rfl⟩
 ·cases hb
  cases ha
  ·exact ⟨hg _ _ (fun _ _ e => by cases e) (fun e => by cases e), rfl, rfl⟩
  ·exact ⟨hg _ _ (fun _ _ e => by cases e) (fun e => by cases e), rfl, rfl⟩
 ·cases h
theorem jiT {t : TypeId} {a b a' b' : Value} (ha : VRel J a a') (hb : VRel J b b') (h : aNil P t a b = true) (w : World) :
  (Op.equal t a' b').run P w = .ok false w ∧ (∀ op x y, (eqGuard op t x y a' b').run P w = .ok () w) ∧ binOp .eql t a' b' = (do pure (.bool (← Op.equal t a' b'))) ∧
   binOp .neq t a' b' = (do pure (.bool (!(← Op.equal t a' b')))) :=
 let ⟨r1, r2, r3⟩ := nil_bin ha hb h
 ⟨nil_in ha hb h w 9999, fun op x y => r1 op x y w, r2, r3⟩
def jax (k : IntKind) (n : Int) : Int :=
 match n with
 | .ofNat m => match k with
   | .i64 => match Nat.blt m 9223372036854775808 with
     | true => .ofNat m
     | false => k.wrap (.ofNat m)
   | .u64 => match Nat.blt m 18446744073709551616 with
     | true => .ofNat m
     | false => k.wrap (.ofNat m)
   | _ => k.wrap (.ofNat m)
 | .negSucc m => k.wrap (.negSucc m)
theorem jbR (k : IntKind) (n : Int) : jax k n = k.wrap n := by
 unfold jax
 split
 ·rename_i m
  split
  ·split
   ·rename_i h
    have h' : m < 9223372036854775808 := by simpa using h
    simp [IntKind.wrap, IntKind.bits, IntKind.signed]
    split <;> omega
   ·rfl
  ·split
   ·rename_i h
    have h' : m < 18446744073709551616 := by simpa using h
    simp [IntKind.wrap, IntKind.bits, IntKind.signed]
    omega
   ·rfl
  ·rfl
 ·rfl
def ieq (a b : Int) : Bool :=
 match a, b with
 | .ofNat m, .ofNat n => Nat.beq m n
 | .negSucc m, .negSucc n => Nat.beq m n
 | _, _ => false
theorem jd5 (a b : Int) : ieq a b = (a == b) := by
 unfold ieq
 split
 ·rename_i m n
  apply Bool.eq_iff_iff.2
  simp
  omega
 ·rename_i m n
  apply Bool.eq_iff_iff.2
  simp
 ·rename_i h1 h2
  cases a <;> cases b <;> first
   | exact absurd rfl (h1 _ _ rfl)
   | exact absurd rfl (h2 _ _ rfl)
   | rfl
def ilt (a b : Int) : Bool :=
 match a, b with
 | .ofNat m, .ofNat n => Nat.blt m n
 | .negSucc m, .negSucc n => Nat.blt n m
 | .negSucc _, .ofNat _ => true
 | .ofNat _, .negSucc _ => false
theorem jfX (a b : Int) : ilt a b = decide (a < b) := by
 cases a with
 | ofNat m =>
   cases b with
   | ofNat n => simp only [ilt]; apply Bool.eq_iff_iff.2; simp
   | negSucc n => simp only [ilt]; rw [eq_comm, decide_eq_false_iff_not]; simp only [Int.ofNat_eq_natCast]; omega
 | negSucc m =>
   cases b with
   | ofNat n => simp only [ilt]; rw [eq_comm, decide_eq_true_eq]; simp only [Int.ofNat_eq_natCast]; omega
   | negSucc n => simp only [ilt]; apply Bool.eq_iff_iff.2; simp; omega
def jdH (k : IntKind) : Bool :=
 match k with
 | .i64 => true
 | .u64 => true
 | _ => false
theorem jdL {k : IntKind} (h : jdH k = true) : k.bits = 64 := by
 cases k <;> first | rfl | (cases h)
def jbW (f : Nat → Nat → Nat) (k k' : IntKind) (a b : Int) : Option Value :=
 match decide (k = k') with
 | false => none
 | true => match jdH k with
   | false => none
   | true => match a, b with
     | .ofNat m, .ofNat n => match Nat.blt m 18446744073709551616 with
       | false => none
       | true => match Nat.blt n 18446744073709551616 with
         | false => none
         | true => some (.int k (jax k (.ofNat (f m n))))
     | _, _ => none
theorem jey {f : Nat → Nat → Nat} {k k' : IntKind} {a b : Int} {v : Value} (h : jbW f k k' a b = some v) :
  k = k' ∧ ∃ m n : Nat, a = .ofNat m ∧ b = .ofNat n ∧ (BitVec.ofInt k.bits a).toNat = m ∧ (BitVec.ofInt k.bits b).toNat = n ∧ v = .int k (k.wrap (.ofNat (f m n))) := by
 unfold jbW at h
 split at h
 ·cases h
 ·rename_i hk
  split at h
  ·cases h
  ·rename_i hw
   split at h
   ·rename_i m n
    split at h
    ·cases h
    ·rename_i h1
     split at h
     ·cases h
     ·rename_i h2
      cases h
      have h1' : m < 18446744073709551616 := by simpa using h1
      have h2' : n < 18446744073709551616 := by simpa using h2
      refine ⟨of_decide_eq_true hk, m, n, rfl, rfl, ?_, ?_, by rw [jbR]⟩
      ·rw [jdL hw]
       show (BitVec.ofInt 64 (m : Int)).toNat = m
       rw [BitVec.ofInt_natCast, BitVec.toNat_ofNat]
       exact Nat.mod_eq_of_lt h1'
      ·rw [jdL hw]
       show (BitVec.ofInt 64 (n : Int)).toNat = n
       rw [BitVec.ofInt_natCast, BitVec.toNat_ofNat]
       exact Nat.mod_eq_of_lt h2'
   ·cases h
def ja5 (left : Bool) (k : IntKind) (a b : Int) : Option Value :=
 match jdH k with
 | false => none
 | true => match a, b with
   | .ofNat m, .ofNat y => match Nat.ble y 64 with
     | false => none
     | true => match left with
       | true => some (.int k (jax k (.ofNat (Nat.mul m (Nat.pow 2 y)))))
       | false => some (.int k (.ofNat (Nat.div m (Nat.pow 2 y))))
   | _, _ => none
theorem jfu {left : Bool} {k : IntKind} {a b : Int} {v : Value} (h : ja5 left k a b = some v) : ∃ m y : Nat, a = .ofNat m ∧ b = .ofNat y ∧ y ≤ k.bits ∧
  v = (if left then .int k (k.wrap (.ofNat (m * 2 ^ y))) else .int k (.ofNat (m / 2 ^ y))) := by
 unfold ja5 at h
 split at h
 ·cases h
 ·rename_i hw
  split at h
  ·rename_i m y
   split at h
   ·cases h
   ·rename_i hy
    have hy' : y ≤ 64 := Nat.le_of_ble_eq_true hy
    refine ⟨m, y, rfl, rfl, by rw [jdL hw]; exact hy', ?_⟩
    split at h
    ·cases h; rw [jbR]; rfl
    ·cases h; rfl
  ·cases h
def aDiv (rem : Bool) (k k' : IntKind) (a b : Int) : Option Value :=
 match decide (k = k') with
 | false => none
 | true => match a, b with
   | .ofNat m, .ofNat n => match n with
     | 0 => none
     | n + 1 => match rem with
       | true => some (.int k (.ofNat (Nat.mod m (Nat.succ n))))
       | false => some (.int k (jax k (.ofNat (Nat.div m (Nat.succ n)))))
   | .negSucc m, .ofNat n => match n with
     | 0 => none
     | n + 1 => match rem with
       | true => some (.int k (Int.neg (.ofNat (Nat.mod (Nat.succ m) (Nat.succ n)))))
       | false => none
   | _, _ => none
theorem jhB {rem : Bool} {k k' : IntKind} {a b : Int} {v : Value} (h : aDiv rem k k' a b = some v) : k = k' ∧ ∃ n : Nat, b = .ofNat (n + 1) ∧
  v = (if rem then .int k (a.tmod b) else .int k (k.wrap (a.tdiv b))) := by
 unfold aDiv at h
 split at h
 ·cases h
 ·rename_i hk
  split at h
  ·split at h
   ·cases h
   ·refine ⟨of_decide_eq_true hk, _, rfl, ?_⟩
    split at h
    ·cases h; rfl
    ·cases h; rw [jbR]; rfl
  ·split at h
   ·cases h
   ·refine ⟨of_decide_eq_true hk, _, rfl, ?_⟩
    split at h
    ·cases h; rfl
    ·cases h
  ·cases h
def aInt (op : BinOp) (k k' : IntKind) (a b : Int) : Option Value :=
 match op with
 | .shl => ja5 true k a b
 | .shr => ja5 false k a b
 | .quo => aDiv false k k' a b
 | .rem => aDiv true k k' a b
 | .and => jbW Nat.land k k' a b
 | .or => jbW Nat.lor k k' a b
 | .xor => jbW Nat.xor k k' a b
 | .add => match decide (k = k') with
   | true => some (.int k (jax k (Int.add a b)))
   | false => none
 | .sub => match decide (k = k') with
   | true => some (.int k (jax k (Int.sub a b)))
   | false => none
 | .mul => match decide (k = k') with
   | true => some (.int k (jax k (Int.mul a b)))
   | false => none
 | .eql => match decide (k = k') with
   | true => some (.bool (ieq a b))
   | false => none
 | .neq => match decide (k = k') with
   | true => some (.bool (!(ieq a b)))
   | false => none
 | .lss => match decide (k = k') with
   | true => some (.bool (ilt a b))
   | false => none
 | .geq => match decide (k = k') with
   | true => some (.bool (!(ilt a b)))
   | false => none
 | .gtr => match decide (k = k') with
   | true => some (.bool (ilt b a))
   | false => none
 | .leq => match decide (k = k') with
   | true => some (.bool (!(ilt b a)))
   | false => none
 | _ => none
theorem jiU {op : BinOp} {k k' : IntKind} {a b : Int} {v : Value} (h : aInt op k k' a b = some v) (t : TypeId) (w : World) :
  (binOp op t (.int k a) (.int k' b)).run P w = .ok v w ∧ ((∃ n, v = .int k n) ∨ ∃ c, v = .bool c) := by
 unfold aInt at h
 split at h <;> first | (cases h; done) | skip
 ·obtain ⟨m, y, rfl, rfl, hy, rfl⟩ := jfu h
  refine ⟨?_, .inl ⟨_, rfl⟩⟩
  have hm : min (Int.ofNat y).toNat k.bits = y := Nat.min_eq_left hy
  have hn : ¬ (Int.ofNat y < 0) := by simp
  simp only [binOp, Op.shift, if_neg hn, hm, Sem.run_pure, if_true]
  have : (Int.ofNat m) * 2 ^ y = Int.ofNat (m * 2 ^ y) := by simp
  rw [this]
 ·obtain ⟨m, y, rfl, rfl, hy, rfl⟩ := jfu h
  refine ⟨?_, .inl ⟨_, rfl⟩⟩
  have hm : min (Int.ofNat y).toNat k.bits = y := Nat.min_eq_left hy
  have hn : ¬ (Int.ofNat y < 0) := by simp
  simp only [binOp, Op.shift, if_neg hn, hm, Sem.run_pure, Bool.false_eq_true, if_false]
  have : (Int.ofNat m).fdiv (2 ^ y) = Int.ofNat (m / 2 ^ y) := by
   rw [Int.fdiv_eq_ediv_of_nonneg _ (by exact Int.pow_nonneg (by decide))]
   simp
  rw [this]
 ·obtain ⟨rfl, n, rfl, rfl⟩ := jhB h
  refine ⟨?_, .inl ⟨_, rfl⟩⟩
  have hn : ¬ (Int.ofNat (n + 1) = 0) := by simp; omega
  simp only [binOp, ne_eq, not_true_eq_false, if_false, Op.intDiv, if_neg hn, Sem.run_pure, Bool.false_eq_true]
 ·obtain ⟨rfl, n, rfl, rfl⟩ := jhB h
  refine ⟨?_, .inl ⟨_, rfl⟩⟩
  have hn : ¬ (Int.ofNat (n + 1) = 0) := by simp; omega
  simp only [binOp, ne_eq, not_true_eq_false, if_false, Op.intDiv, if_neg hn, Sem.run_pure, if_true]
 ·obtain ⟨rfl, m, n, rfl, rfl, e1, e2, rfl⟩ := jey h
  refine ⟨?_, .inl ⟨_, rfl⟩⟩
  simp only [binOp, ne_eq, not_true_eq_false, if_false, Op.intBits, Sem.run_pure, BitVec.toNat_and, e1, e2]
  rfl
 ·obtain ⟨rfl, m, n, rfl, rfl, e1, e2, rfl⟩ := jey h
  refine ⟨?_, .inl ⟨_, rfl⟩⟩
  simp only [binOp, ne_eq, not_true_eq_false, if_false, Op.intBits, Sem.run_pure, BitVec.toNat_or, e1, e2]
  rfl
 ·obtain ⟨rfl, m, n, rfl, rfl, e1, e2, rfl⟩ := jey h
  refine ⟨?_, .inl ⟨_, rfl⟩⟩
  simp only [binOp, ne_eq, not_true_eq_false, if_false, Op.intBits, Sem.run_pure, BitVec.toNat_xor, e1, e2]
  rfl
 all_goals
  split at h <;> first | (cases h; done) | skip
  rename_i hk
  have hk' : k = k' := of_decide_eq_true hk
  subst hk'
  cases h
 ·exact ⟨by simp only [binOp, ne_eq, not_true_eq_false, if_false, Op.intArith, Sem.run_pure, jbR]; rfl, .inl ⟨_, rfl⟩⟩
 ·exact ⟨by simp only [binOp, ne_eq, not_true_eq_false, if_false, Op.intArith, Sem.run_pure, jbR]; rfl, .inl ⟨_, rfl⟩⟩
 ·exact ⟨by simp only [binOp, ne_eq, not_true_eq_false, if_false, Op.intArith, Sem.run_pure, jbR]; rfl, .inl ⟨_, rfl⟩⟩
 ·exact ⟨by simp only [binOp, ne_eq, not_true_eq_false, if_false, Op.intCmp, Sem.run_pure, jd5], .inr ⟨_, rfl⟩⟩
 ·exact ⟨by simp only [binOp, ne_eq, not_true_eq_false, if_false, Op.intCmp, Sem.run_pure, jd5]; rfl, .inr ⟨_, rfl⟩⟩
 ·exact ⟨by simp only [binOp, ne_eq, not_true_eq_false, if_false, Op.intCmp, Sem.run_pure, jfX], .inr ⟨_, rfl⟩⟩
 ·refine ⟨?_, .inr ⟨_, rfl⟩⟩
  simp only [binOp, ne_eq, not_true_eq_false, if_false, Op.intCmp, Sem.run_pure, jfX, ge_iff_le]
  rw [show (!decide (a < b)) = decide (b ≤ a) by simp [← decide_not]]
 ·exact ⟨by simp only [binOp, ne_eq, not_true_eq_false, if_false, Op.intCmp, Sem.run_pure, jfX, gt_iff_lt], .inr ⟨_, rfl⟩⟩
 ·refine ⟨?_, .inr ⟨_, rfl⟩⟩
  simp only [binOp, ne_eq, not_true_eq_false, if_false, Op.intCmp, Sem.run_pure, jfX]
  rw [show (!decide (b < a)) = decide (a ≤ b) by simp [← decide_not]]
def aBin (P : Program) (ρ : Operand → Value) (o : Oper) (op : BinOp) (t : TypeId) (x y : Operand) : Option Value :=
 match ρ x, ρ y with
 | .string a, .string b => aStr op a b
 | .int k a, .int k' b => match aInt op k k' a b with
   | some v => some v
   | none => match pv P (binOp op t (.int k a) (.int k' b)) with
     | some (.int k n) => some (.int k n)
     | some (.bool b) => some (.bool b)
     | _ => none
 | a, b => match aNil P t a b with
   | true => match op with
     | .eql => some (.bool false)
     | .neq => some (.bool true)
     | _ => none
   | false => jaT P ρ o
theorem jjS {ρ ρ' : Operand → Value} (hρ : ∀ x, VRel J (ρ x) (ρ' x)) {o : Oper} {op : BinOp} {t yt : TypeId} {x y : Operand} {v : Value} (ho : o.op = .binOp op t x y yt)
  (h : aBin P ρ o op t x y = some v) : Gives P J ρ' o v := by
 unfold aBin at h
 have hx := hρ x
 have hy := hρ y
 split at h
 ·rename_i a b e1 e2
  rw [e1] at hx
  rw [e2] at hy
  refine ⟨v, ?_, fun w => ?_⟩
  ·unfold aStr at h
   split at h
   ·cases h; exact .bool _
   ·cases h; exact .bool _
   ·cases h; exact .bool _
   ·cases h; exact .bool _
   ·split at h
    ·cases h; exact .string _
    ·cases h
   ·cases h
  ·have := aStr_run (P := P) (t := t) (x := x) (y := y) h w
   simp only [execOp, ho, jbq hx, jbq hy, Sem.run_bind (P := P)] at this ⊢
   rw [this]; rfl
 ·rename_i k a k' b e1 e2
  rw [e1] at hx
  rw [e2] at hy
  have hg : ∀ w, (eqGuard op t x y (.int k a) (.int k' b)).run P w = .ok () w := fun w => by unfold eqGuard; split <;> rfl
  split at h
  ·rename_i v1 hi
   cases h
   have fin : ∀ w, (execOp ρ' o).run P w = .ok (.value v) w := fun w => by simp only [execOp, ho, jbc hx, jbc hy, Sem.run_bind, hg w, Result.andThen_ok, (jiU (P := P) hi t w).1, Sem.run_pure]
   rcases (jiU (P := P) hi t default).2 with ⟨m, e⟩ | ⟨c, e⟩
   ·exact ⟨v, by rw [e]; exact .int _ _, fin⟩
   ·exact ⟨v, by rw [e]; exact .bool _, fin⟩
  ·split at h
   ·rename_i k2 n hp
    cases h
    exact ⟨_, .int k2 n, fun w => by simp only [execOp, ho, jbc hx, jbc hy, Sem.run_bind, hg w, Result.andThen_ok, pv_run hp w, Sem.run_pure]⟩
   ·rename_i c hp
    cases h
    exact ⟨_, .bool c, fun w => by simp only [execOp, ho, jbc hx, jbc hy, Sem.run_bind, hg w, Result.andThen_ok, pv_run hp w, Sem.run_pure]⟩
   ·cases h
 ·rename_i _ _ e1 e2
  split at h
  ·rename_i hn
   split at h
   ·cases h
    refine ⟨_, .bool false, fun w => ?_⟩
    obtain ⟨r1, r2, r3, r4⟩ := jiT hx hy hn w
    simp only [execOp, ho, Sem.run_bind, r2, Result.andThen_ok, r3, r1, Sem.run_pure]
   ·cases h
    refine ⟨_, .bool true, fun w => ?_⟩
    obtain ⟨r1, r2, r3, r4⟩ := jiT hx hy hn w
    simp only [execOp, ho, Sem.run_bind, r2, Result.andThen_ok, r4, r1, Sem.run_pure, Bool.not_false]
   ·cases h
  ·exact jcr hρ h
end
end Go.Proofs.YtnafmgiaifbhgaaGreatDoor.Ev
