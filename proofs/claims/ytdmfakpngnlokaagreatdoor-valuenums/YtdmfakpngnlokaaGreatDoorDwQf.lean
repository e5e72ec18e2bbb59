/-
  distafflaw18.ValueNums, part Qf: its walk and its law. No conditions.
-/
import Derived.Test.YtdmfakpngnlokaaGreatDoorDwQd
set_option linter.all false
set_option maxRecDepth 20000
set_option maxHeartbeats 8000000
namespace Go.Proofs.YtdmfakpngnlokaaGreatDoor.nu
open YtdmfakpngnlokaaGreatDoor.Ev
noncomputable section
@[go_sem] def gg223 {X ev} := gC X ev Tryz.func223 rfl rfl
@[go_sem] def gg180 {X ev} := gC X ev Tryz.func180 rfl rfl
@[go_sem] def gg179 {X ev} := gC X ev Tryz.func179 rfl rfl
structure LayP (μ : Mem) : Prop where
 pw : ∀ k, k < 20 → jad μ 4 k = some (u (10 ^ k))
 lt : 20 < μ.next
theorem LayP.grow {μ μ' : Mem} (h : LayP μ) (g : Grow μ μ') : LayP μ' := ⟨fun k hk => (jb8 g (Nat.lt_of_le_of_lt (by decide) h.lt) k).trans (h.pw k hk), rzO h.lt g.1⟩
theorem ix20 {k : Nat} (hk : k < 20) (r : Rg) (b : Operand) (h : aev pZ r b = .int .i64 (.ofNat k)) : jal pZ (aev pZ r) 288 (.global 4) b = some (.pointer (some ⟨4, k, none⟩)) := by
 unfold jal
 simp only [h, glob 4 (by kernel_rfl) r, Tryz.underlying288, aIdx, jiD]
 rw [show Nat.blt k 20 = true from by simpa using hk]
 simp only [Addr.add]
 rw [show Nat.mul k Tryz.t32.size = k from Nat.mul_one k, rzT]
 split
 ·rename_i h; rw [h]
 ·rfl
set_option maxHeartbeats 4000000 in
theorem pw_up : ∀ b, b ≤ 64 → 2 ^ b ≤ 10 ^ (b * 78913 / 262144 + 1) ∧ (1 ≤ b → 10 ^ (b * 78913 / 262144 - 1) ≤ 2 ^ (b - 1)) := by decide +kernel
set_option maxHeartbeats 4000000 in
theorem ndig_ex (w : Nat) : ∃ nd, nd ≤ 20 ∧ (W w < 10 ^ nd ∧ (0 < W w → 1 ≤ nd ∧ 10 ^ (nd - 1) ≤ W w)) ∧ ∀ {X : XT} {g : Nat} {μ : Mem}, LayP μ → 100 ≤ g → aFun pZ (jai pZ X S0 g) 180 [u w] μ = some (.int .i64 (.ofNat nd), μ) := by
 obtain ⟨b, hb, hbw, hlen⟩ := jjF w
 obtain ⟨q, hq⟩ : ∃ q : Nat, ((b : Int) * 78913 / 262144) = (q : Int) := ⟨((b : Int) * 78913 / 262144).toNat, by omega⟩
 have hq20 : q < 20 := by omega
 obtain ⟨t, ht⟩ := eqx ((!ilt (.ofNat (W w)) (.ofNat (W (10 ^ q)))))
 have hbt := b2_le t
 have hq' : q = b * 78913 / 262144 := by omega
 have h10 : W (10 ^ q) = 10 ^ q := W_of (Nat.lt_of_le_of_lt (Nat.pow_le_pow_right (by decide) (show q ≤ 19 by omega)) (by decide))
 have hlt : W w < 10 ^ (q + b2 t) := by
  rw [jap, h10] at ht
  cases t with
  | true =>
    have := (pw_up b hb).1
    rw [← hq'] at this
    exact rzO hbw.1 this
  | false =>
    have : decide (W w < 10 ^ q) = true := by cases h : decide (W w < 10 ^ q) <;> simp [h] at ht ⊢
    exact of_decide_eq_true this
 have hge : 0 < W w → 1 ≤ q + b2 t ∧ 10 ^ (q + b2 t - 1) ≤ W w := fun h0 => by
  rw [jap, h10] at ht
  cases t with
  | true =>
    have : decide (W w < 10 ^ q) = false := by cases h : decide (W w < 10 ^ q) <;> simp [h] at ht ⊢
    have := of_decide_eq_false this
    exact ⟨Nat.le_add_left _ _, by show 10 ^ (q + 1 - 1) ≤ _; rw [Nat.add_sub_cancel]; omega⟩
  | false =>
    have hb1 : 1 ≤ b := by
     refine Nat.one_le_iff_ne_zero.2 fun e => ?_
     have := hbw.1
     rw [e, Nat.pow_zero] at this
     omega
    have h2 := (pw_up b hb).2 hb1
    rw [← hq'] at h2
    have h3 := hbw.2 h0
    have hlt0 : W w < 10 ^ q := hlt
    refine ⟨?_, rzS h2 h3⟩
    show 1 ≤ q
    refine Nat.one_le_iff_ne_zero.2 fun e => ?_
    rw [e, Nat.pow_zero] at hlt0
    omega
 refine ⟨q + b2 t, by omega, ⟨hlt, hge⟩, fun {X g μ} hL hg => ?_⟩
 obtain ⟨k, rfl⟩ := gle hg
 have h1 : ∀ g μ, 40 ≤ g → aFun pZ (jai pZ X S0 g) 177 [u w] μ = some (.int .i64 (.ofNat b), μ) := fun g μ h => hlen h
 have h2 : ∀ g μ, 20 ≤ g → aFun pZ (jai pZ X S0 g) 181 [.int .i64 (.ofNat b)] μ = some (.int .i64 (.ofNat q), μ) := fun g μ h => by
  have := jgC (X := X) (μ := μ) (p := (b : Int)) h (by omega) (by omega)
  rw [hq] at this
  exact this
 have h3 : ∀ g μ, 10 ≤ g → aFun pZ (jai pZ X S0 g) 224 [.bool t] μ = some (.int .i64 (.ofNat (b2 t)), μ) := fun g μ h => bool2i_eq h
 have h4 := hL.pw q hq20
 have h5 := ix20 hq20
 have a1 : jak .i64 (Int.add (.ofNat q) (.ofNat (b2 t))) = .ofNat (q + b2 t) := jeO (q : Int) (b2 t : Int) (by omega) (by omega)
 refine jau ?_
 refine jac Tryz.func180 rfl rfl (nbl rfl) ?_
 simp only [go_sem, Tryz.ntmps180]
 repeat (refine jaz rfl ?_; (try simp only [go_sem, h1, h2, h5, h4, ht, h3, a1, Nat.reduceLeDiff]); fail_if_success refine stk ?_)
 exact jae ⟨rfl, _, by simp only [go_sem, Tryz.results180], rfl, rfl⟩
structure Bu (μ : Mem) (i : Nat) (F : Nat → Nat) : Prop where
 blk : Blk μ i 32 238
 d : ∀ j, j < 32 → jad μ i j = some (.int .u8 (.ofNat (F j)))
theorem Bu.up {μ : Mem} {i : Nat} {F : Nat → Nat} (h : Bu μ i F) (m : Nat) : Bu ⟨μ.obs, m⟩ i F := ⟨h.blk, h.d⟩
theorem Bu.congr {μ : Mem} {i : Nat} {F G : Nat → Nat} (h : Bu μ i F) (e : ∀ j, F j = G j) : Bu μ i G := ⟨h.blk, fun j hj => by rw [← e]; exact h.d j hj⟩
structure Bv (μ : Mem) (i M t o : Nat) (F : Nat → Nat) : Prop where
 blk : Blk μ i (o + M) t
 d : ∀ j, j < M → jad μ i (o + j) = some (.int .u8 (.ofNat (F j)))
theorem Bu.bv {μ : Mem} {i : Nat} {F : Nat → Nat} (h : Bu μ i F) : Bv μ i 32 238 0 F := ⟨h.blk, fun j hj => by rw [rzT]; exact h.d j hj⟩
theorem Bv.bu {μ : Mem} {i : Nat} {F : Nat → Nat} (h : Bv μ i 32 238 0 F) : Bu μ i F := ⟨h.blk, fun j hj => by have := h.d j hj; rwa [rzT] at this⟩
theorem Bv.up {μ : Mem} {i M t o : Nat} {F : Nat → Nat} (h : Bv μ i M t o F) (m : Nat) : Bv ⟨μ.obs, m⟩ i M t o F := ⟨h.blk, h.d⟩
theorem Bv.congr {μ : Mem} {i M t o : Nat} {F G : Nat → Nat} (h : Bv μ i M t o F) (e : ∀ j, F j = G j) : Bv μ i M t o G := ⟨h.blk, fun j hj => by rw [← e]; exact h.d j hj⟩
theorem Bv.set {μ : Mem} {i M t o k b : Nat} {F : Nat → Nat} (h : Bv μ i M t o F) (hk : k < M) : Bv (putL μ i (o + k) [.int .u8 (.ofNat b)]) i M t o (fun j => if j = k then b else F j) :=
 ⟨h.blk.put _ _, fun j hj => by
  rw [jc0 (k := o + j) (v := .int .u8 (.ofNat b)) h.blk (by omega)]
  by_cases e : j = k
  ·rw [if_pos (by omega), if_pos e]
  ·rw [if_neg (by omega), if_neg e]; exact h.d j hj⟩
theorem st_b {μ : Mem} {i M t o k v : Nat} {F : Nat → Nat} (h : Bv μ i M t o F) (hk : k < M) : jbu pZ μ 5 (.pointer (some ⟨i, o + k, none⟩)) (.int .u8 (.ofNat v)) = some (undef, putL μ i (o + k) [.int .u8 (.ofNat v)]) := jaW i_u8 rfl rfl h.blk (by omega)
def rg (a b : Nat) (E F : Nat → Nat) : Nat → Nat := fun j => if a ≤ j ∧ j < b then E j else F j
theorem jcF {a b c : Nat} (h1 : a ≤ b) (h2 : b ≤ c) (E1 E2 : Nat → Nat) : ∃ E, (∀ j, E j = if j < b then E1 j else E2 j) ∧ ∀ F j, rg a b E1 (rg b c E2 F) j = rg a c E F j := ⟨fun j => if j < b then E1 j else E2 j, fun _ => rfl, fun F j => by
 unfold rg
 by_cases g1 : a ≤ j ∧ j < b
 ·rw [if_pos g1, if_pos (⟨g1.1, by omega⟩ : a ≤ j ∧ j < c)]
  exact (if_pos g1.2).symm
 ·rw [if_neg g1]
  by_cases g2 : b ≤ j ∧ j < c
  ·rw [if_pos g2, if_pos (⟨by omega, g2.2⟩ : a ≤ j ∧ j < c)]
   exact (if_neg (by omega)).symm
  ·rw [if_neg g2, if_neg (by omega)]⟩
theorem pair {μ : Mem} {i M t o p b c : Nat} {F : Nat → Nat} (d : Nat) (h : Bv μ i M t o F) (hp : p + 1 < M) : ∃ M2 M3, jbu pZ ⟨μ.obs, μ.next + d⟩ 5 (.pointer (some ⟨i, o + (p + 1), none⟩)) (.int .u8 (.ofNat b)) = some (undef, M2) ∧ jbu pZ M2 5 (.pointer (some ⟨i, o + p, none⟩)) (.int .u8 (.ofNat c)) = some (undef, M3) ∧
  Bv M3 i M t o (rg p (p + 2) (fun j => if j = p then c else b) F) ∧ Only μ M3 i := by
 have h0 := h.up (μ.next + d)
 have h1 := h0.set (k := p + 1) (b := b) hp
 refine ⟨_, _, st_b h0 hp, st_b h1 (by omega), (h1.set (k := p) (b := c) (by omega)).congr fun j => ?_, (Only.up μ i d).trans ((Only.put _ i (o + (p + 1)) _).trans (Only.put _ i (o + p) _))⟩
 unfold rg
 by_cases e1 : j = p
 ·rw [if_pos e1, if_pos ⟨by omega, by omega⟩]
  exact (if_pos e1).symm
 ·rw [if_neg e1]
  by_cases e2 : j = p + 1
  ·rw [if_pos e2, if_pos ⟨by omega, by omega⟩]
   exact (if_neg e1).symm
  ·rw [if_neg e2, if_neg (by omega)]
theorem ixBo {r : Rg} {x y : Operand} {i o n c k : Nat} (hk : k < n) (h1 : aev pZ r x = .slice (some ⟨i, o, none⟩) n c) (h2 : aev pZ r y = .int .i64 (.ofNat k)) : jal pZ (aev pZ r) 54 x y = some (.pointer (some ⟨i, o + k, none⟩)) := by
 rw [jaF (P := pZ) Tryz.underlying54 i_u8 rfl h1 h2 hk]
theorem ixBs {r : Rg} {x y : Operand} {i n c k : Nat} (hk : k < n) (h1 : aev pZ r x = .slice (some ⟨i, 0, none⟩) n c) (h2 : aev pZ r y = .int .i64 (.ofNat k)) : jal pZ (aev pZ r) 54 x y = some (.pointer (some ⟨i, k, none⟩)) := by
 rw [jaF (P := pZ) Tryz.underlying54 i_u8 rfl h1 h2 hk, rzT]
abbrev smalls : ByteArray := ⟨List.toArray (List.append (List.append [48, 48, 48, 49, 48, 50, 48, 51, 48, 52, 48, 53, 48, 54, 48, 55, 48, 56, 48, 57, 49, 48, 49, 49, 49, 50, 49, 51, 49, 52, 49, 53, 49, 54, 49, 55, 49, 56, 49, 57, 50, 48, 50, 49, 50, 50, 50, 51, 50, 52] [50, 53, 50, 54, 50, 55, 50, 56, 50, 57, 51, 48, 51, 49, 51, 50, 51, 51, 51, 52, 51, 53, 51, 54, 51, 55, 51, 56, 51, 57, 52, 48, 52, 49, 52, 50, 52, 51, 52, 52, 52, 53, 52, 54, 52, 55, 52, 56, 52, 57]) (List.append [53, 48, 53, 49, 53, 50, 53, 51, 53, 52, 53, 53, 53, 54, 53, 55, 53, 56, 53, 57, 54, 48, 54, 49, 54, 50, 54, 51, 54, 52, 54, 53, 54, 54, 54, 55, 54, 56, 54, 57, 55, 48, 55, 49, 55, 50, 55, 51, 55, 52] [55, 53, 55, 54, 55, 55, 55, 56, 55, 57, 56, 48, 56, 49, 56, 50, 56, 51, 56, 52, 56, 53, 56, 54, 56, 55, 56, 56, 56, 57, 57, 48, 57, 49, 57, 50, 57, 51, 57, 52, 57, 53, 57, 54, 57, 55, 57, 56, 57, 57]))⟩
theorem jkd : ∀ m, m < 100 → smalls.data.toList[m * 2]? = some (UInt8.ofNat (48 + m / 10)) ∧ smalls.data.toList[m * 2 + 1]? = some (UInt8.ofNat (48 + m % 10)) := by decide +kernel
theorem jfb {m : Nat} (hm : m < 100) : ∃ b c, b = 48 + m % 10 ∧ c = 48 + m / 10 ∧ (∀ r d, aev pZ r d = .int .u32 (.ofNat (m * 2 + 1)) → jb0 pZ (aev pZ r) 9 (.const (.string smalls)) d = some (.int .u8 (.ofNat b))) ∧ (∀ r d, aev pZ r d = .int .u32 (.ofNat (m * 2)) → jb0 pZ (aev pZ r) 9 (.const (.string smalls)) d = some (.int .u8 (.ofNat c))) := by
 obtain ⟨hc, hb⟩ := jkd m hm
 have k1 : (UInt8.ofNat (48 + m % 10)).toNat = 48 + m % 10 := by rw [UInt8.toNat_ofNat']; omega
 have k2 : (UInt8.ofNat (48 + m / 10)).toNat = 48 + m / 10 := by rw [UInt8.toNat_ofNat']; omega
 exact ⟨_, _, rfl, rfl, fun r d h => by rw [← k1]; exact jd4 (s := smalls) rfl h hb, fun r d h => by rw [← k2]; exact jd4 (s := smalls) rfl h hc⟩
def Dr (a n w : Nat) (G : Nat → Nat) : Prop := ∀ j, a ≤ j → j < n → G j = 48 + w / 10 ^ (n - 1 - j) % 10
theorem Dr.le {a n w : Nat} {G : Nat → Nat} (h : Dr a n w G) : ∀ j, a ≤ j → j < n → G j ≤ 57 := fun j h1 h2 => by rw [h j h1 h2]; omega
theorem Dr.join {a m n w w' : Nat} {G E E' : Nat → Nat} (h1 : Dr a m w' G) (hw : w' = w / 10 ^ (n - m)) (hm : m ≤ n) (h2 : Dr m n w E) (hE : ∀ j, E' j = if j < m then G j else E j) : Dr a n w E' := fun j ja jn => by
 rw [hE]
 by_cases h : j < m
 ·rw [if_pos h, h1 j ja h, hw, Nat.div_div_eq_div_mul, ← Nat.pow_add, (by omega : n - m + (m - 1 - j) = n - 1 - j)]
 ·rw [if_neg h, h2 j (by omega) jn]
theorem jgM (n : Int) : jay pZ 32 73 (.int .u64 n) = some (.int .u32 (jak .u32 n)) := by
 simp only [jay, Tryz.underlying32, Tryz.underlying73]
theorem conv_32b (n : Int) : jay pZ 73 5 (.int .u32 n) = some (.int .u8 (jak .u8 n)) := by
 simp only [jay, Tryz.underlying73, Tryz.underlying5]
theorem q32 (n : Nat) : jak .u32 (.ofNat n) = .ofNat (n % 4294967296) := by
 rw [jbq]
 show IntKind.wrap .u32 _ = _
 unfold IntKind.wrap
 simp only [IntKind.bits, IntKind.signed]
 simp
theorem q32s {n : Nat} (h : n < 4294967296) : jak .u32 (.ofNat n) = .ofNat n := by rw [q32, Nat.mod_eq_of_lt h]
theorem d32q {a k : Nat} (h : a < 4294967296) : aDiv false .u32 .u32 (.ofNat a) (.ofNat (k + 1)) = some (.int .u32 (.ofNat (a / (k + 1)))) := by
 show some (Value.int .u32 (jak .u32 (.ofNat (a / (k + 1))))) = _
 rw [q32s (Nat.lt_of_le_of_lt (Nat.div_le_self _ _) h)]
theorem d32r {a k : Nat} : aDiv true .u32 .u32 (.ofNat a) (.ofNat (k + 1)) = some (.int .u32 (.ofNat (a % (k + 1)))) := rfl
theorem d64r (a k : Nat) : aDiv true .u64 .u64 (.ofNat a) (.ofNat (k + 1)) = some (.int .u64 (.ofNat (a % (k + 1)))) := rfl
theorem d64q (w : Nat) : aDiv false .u64 .u64 (.ofNat (W w)) 100000000 = some (.int .u64 (.ofNat (W (W w / 100000000)))) := by
 show some (Value.int .u64 (jak .u64 (.ofNat (W w / 100000000)))) = _
 rw [nw (Nat.lt_of_le_of_lt (Nat.div_le_self _ _) (W_lt w)), W_of (Nat.lt_of_le_of_lt (Nat.div_le_self _ _) (W_lt w))]
theorem two_of {a : Nat} (h : a < 10000) : ∃ x y, x = a / 100 ∧ y = a % 100 ∧ x < 100 ∧ y < 100 ∧ aDiv false .u32 .u32 (.ofNat a) 100 = some (.int .u32 (.ofNat x)) ∧ aDiv true .u32 .u32 (.ofNat a) 100 = some (.int .u32 (.ofNat y)) ∧
  jak .u32 (Int.mul (.ofNat x) 2) = .ofNat (x * 2) ∧ jak .u32 (Int.mul (.ofNat y) 2) = .ofNat (y * 2) ∧ jak .u32 (Int.add (.ofNat (x * 2)) 1) = .ofNat (x * 2 + 1) ∧ jak .u32 (Int.add (.ofNat (y * 2)) 1) = .ofNat (y * 2 + 1) :=
 ⟨a / 100, a % 100, rfl, rfl, by omega, by omega, d32q (k := 99) (by omega), d32r (k := 99), q32s (n := a / 100 * 2) (by omega), q32s (n := a % 100 * 2) (by omega), q32s (n := a / 100 * 2 + 1) (by omega), q32s (n := a % 100 * 2 + 1) (by omega)⟩
theorem fb_loop : ∀ (r w n : Nat), n / 8 = r → n ≤ 31 → W w < 10 ^ n → ∃ (G : Nat → Nat) (w' : Nat), Dr (n % 8) n (W w) G ∧ W w' = W w / 10 ^ (n - n % 8) ∧ ∀ {X : XT} {e i c nd M t o : Nat} {tm : T Value} {μ : Mem} {F : Nat → Nat}, n ≤ nd → n ≤ M → Bv μ i M t o F → jah tm 0 = .slice (some ⟨i, o, none⟩) nd c → jah tm 1 = u w → jah tm 4 = .int .i64 (.ofNat n) →
  LpC X (e + r + 100) Tryz.f223 0 167 tm μ fun x r' μ' => x = .exit 0 ∧ Bv μ' i M t o (rg (n % 8) n G F) ∧ Only μ μ' i ∧ ∃ tm', r' = ⟨167, tm', [], none⟩ ∧ jah tm' 0 = .slice (some ⟨i, o, none⟩) nd c ∧ jah tm' 1 = u w' ∧ jah tm' 4 = .int .i64 (.ofNat (n % 8)) := by
 intro r
 induction r with
 | zero =>
   intro w n hr hn hw
   refine ⟨fun _ => 0, w, fun j h1 h2 => absurd h2 (by omega), by rw [show n - n % 8 = 0 from by omega, Nat.pow_zero, Nat.div_one], fun {X e i c nd M t o tm μ F} hnd hM hB h0 h1 h4 => ?_⟩
   have hn8 : n % 8 = n := Nat.mod_eq_of_lt (by omega)
   have e1 : ilt (.ofNat n) 8 = true := dT (jcV _ 8 8 rfl) (by omega)
   refine jam ?_
   repeat ((first | refine jaa rfl ?_ | refine jaj rfl ?_); (try simp only [go_sem, h4, e1]); fail_if_success refine stk ?_)
   rw [hn8]
   exact ⟨by trivial, hB.congr fun j => (if_neg (by omega)).symm, Only.refl _ _, _, rfl, by simp only [go_sem, h0], by simp only [go_sem, h1], by simp only [go_sem, h4]⟩
 | succ r ih =>
   intro w n hr hn hw
   have hn8 : 8 ≤ n := by omega
   obtain ⟨m, rfl⟩ : ∃ m, n = m + 8 := ⟨n - 8, by omega⟩
   have hW8 : W (W w / 100000000) = W w / 100000000 := W_of (by have := W_lt w; omega)
   obtain ⟨G, w', hD, hw', hih⟩ := ih (W w / 100000000) m (by omega) (by omega) (by rw [hW8]; exact Nat.div_lt_of_lt_mul (by rw [Nat.pow_add] at hw; omega))
   rw [hW8] at hD hw'
   obtain ⟨a, ha⟩ := exq (W w % 100000000)
   have ha8 : a < 100000000 := by rw [ha]; exact Nat.mod_lt _ (by decide)
   have r1 := d64r (W w) 99999999
   rw [← ha] at r1
   have r1' : aDiv true .u64 .u64 (.ofNat (W w)) 100000000 = some (.int .u64 (.ofNat a)) := r1
   have r2 := d64q w
   have c1 := q32s (n := a) (by omega)
   obtain ⟨p, hp⟩ := exq (a / 10000)
   obtain ⟨q, hq⟩ := exq (a % 10000)
   have r3 : aDiv false .u32 .u32 (.ofNat a) 10000 = some (.int .u32 (.ofNat p)) := by rw [hp]; exact d32q (k := 9999) (by omega)
   have r4 : aDiv true .u32 .u32 (.ofNat a) 10000 = some (.int .u32 (.ofNat q)) := by rw [hq]; exact d32r (k := 9999)
   obtain ⟨x1, x0, v1, v0, l1, l0, t1, t2, t3, t4, t5, t6⟩ := two_of (a := q) (by omega)
   obtain ⟨x3, x2, v3, v2, l3, l2, s1, s2, s3, s4, s5, s6⟩ := two_of (a := p) (by omega)
   obtain ⟨b0, c0, hb0, hc0, g0, f0⟩ := jfb l0
   obtain ⟨b1, c1', hb1, hc1, g1, f1⟩ := jfb l1
   obtain ⟨b2, c2, hb2, hc2, g2, f2⟩ := jfb l2
   obtain ⟨b3, c3, hb3, hc3, g3, f3⟩ := jfb l3
   obtain ⟨E1, n1, m1⟩ := jcF (a := m) (b := m + 2) (c := m + 4) (by omega) (by omega) (fun j => if j = m then c3 else b3) (fun j => if j = m + 2 then c2 else b2)
   obtain ⟨E2, n2, m2⟩ := jcF (a := m) (b := m + 4) (c := m + 6) (by omega) (by omega) E1 (fun j => if j = m + 4 then c1' else b1)
   obtain ⟨E3, n3, m3⟩ := jcF (a := m) (b := m + 6) (c := m + 8) (by omega) (by omega) E2 (fun j => if j = m + 6 then c0 else b0)
   obtain ⟨E4, n4, m4⟩ := jcF (a := m % 8) (b := m) (c := m + 8) (Nat.mod_le _ _) (by omega) G E3
   have hD3 : Dr m (m + 8) (W w) E3 := fun j h1 h2 => by
    rw [n3, n2, n1]
    obtain ⟨k, rfl⟩ : ∃ k, j = m + k := ⟨j - m, by omega⟩
    have hk : k = 0 ∨ k = 1 ∨ k = 2 ∨ k = 3 ∨ k = 4 ∨ k = 5 ∨ k = 6 ∨ k = 7 := by omega
    rw [(by omega : m + 8 - 1 - (m + k) = 7 - k)]
    rcases hk with rfl | rfl | rfl | rfl | rfl | rfl | rfl | rfl
    ·rw [if_pos (by omega), if_pos (by omega), if_pos (by omega), if_pos (by omega)]; show c3 = 48 + W w / 10000000 % 10; omega
    ·rw [if_pos (by omega), if_pos (by omega), if_pos (by omega), if_neg (by omega)]; show b3 = 48 + W w / 1000000 % 10; omega
    ·rw [if_pos (by omega), if_pos (by omega), if_neg (by omega), if_pos (by omega)]; show c2 = 48 + W w / 100000 % 10; omega
    ·rw [if_pos (by omega), if_pos (by omega), if_neg (by omega), if_neg (by omega)]; show b2 = 48 + W w / 10000 % 10; omega
    ·rw [if_pos (by omega), if_neg (by omega), if_pos (by omega)]; show c1' = 48 + W w / 1000 % 10; omega
    ·rw [if_pos (by omega), if_neg (by omega), if_neg (by omega)]; show b1 = 48 + W w / 100 % 10; omega
    ·rw [if_neg (by omega), if_pos (by omega)]; show c0 = 48 + W w / 10 % 10; omega
    ·rw [if_neg (by omega), if_neg (by omega)]; show b0 = 48 + W w / 1 % 10; omega
   refine ⟨E4, w', by rw [(by omega : (m + 8) % 8 = m % 8)]; exact hD.join (by rw [(by omega : m + 8 - m = 8)]) (by omega) hD3 n4, by rw [hw', Nat.div_div_eq_div_mul, show (100000000 : Nat) = 10 ^ 8 from rfl, ← Nat.pow_add, (by omega : 8 + (m - m % 8) = m + 8 - (m + 8) % 8)], fun {X e i c nd M t o tm μ F} hnd hM hB h0 h1 h4 => ?_⟩
   have e1 : ilt (.ofNat (m + 8)) 8 = false := dF (jcV _ 8 8 rfl) (by omega)
   rw [(by omega : (m + 8) % 8 = m % 8)]
   obtain ⟨M2, M3, y1, y2, B3, O3⟩ := pair (b := b0) (c := c0) 15 hB (p := m + 6) (by omega)
   obtain ⟨M4, M5, y3, y4, B5, O5⟩ := pair (b := b1) (c := c1') 15 B3 (p := m + 4) (by omega)
   obtain ⟨M6, M7, y5, y6, B7, O7⟩ := pair (b := b2) (c := c2) 15 B5 (p := m + 2) (by omega)
   obtain ⟨M8, M9, y7, y8, B9, O9⟩ := pair (b := b3) (c := c3) 15 B7 (p := m) (by omega)
   have z1 : jak .i64 (Int.sub (.ofNat (m + 8)) 1) = .ofNat (m + 7) := jaZ (m + 8) 1 (by omega) (by omega)
   have z2 : jak .i64 (Int.sub (.ofNat (m + 8)) 2) = .ofNat (m + 6) := jaZ (m + 8) 2 (by omega) (by omega)
   have z3 : jak .i64 (Int.sub (.ofNat (m + 8)) 3) = .ofNat (m + 5) := jaZ (m + 8) 3 (by omega) (by omega)
   have z4 : jak .i64 (Int.sub (.ofNat (m + 8)) 4) = .ofNat (m + 4) := jaZ (m + 8) 4 (by omega) (by omega)
   have z5 : jak .i64 (Int.sub (.ofNat (m + 8)) 5) = .ofNat (m + 3) := jaZ (m + 8) 5 (by omega) (by omega)
   have z6 : jak .i64 (Int.sub (.ofNat (m + 8)) 6) = .ofNat (m + 2) := jaZ (m + 8) 6 (by omega) (by omega)
   have z7 : jak .i64 (Int.sub (.ofNat (m + 8)) 7) = .ofNat (m + 1) := jaZ (m + 8) 7 (by omega) (by omega)
   have z8 : jak .i64 (Int.sub (.ofNat (m + 8)) 8) = .ofNat m := jaZ (m + 8) 8 (by omega) (by omega)
   have i0 : ∀ r x y, aev pZ r x = .slice (some ⟨i, o, none⟩) nd c → aev pZ r y = .int .i64 (.ofNat (m)) → jal pZ (aev pZ r) 54 x y = some (.pointer (some ⟨i, o + (m), none⟩)) := fun r x y g h => ixBo (by omega) g h
   have i1 : ∀ r x y, aev pZ r x = .slice (some ⟨i, o, none⟩) nd c → aev pZ r y = .int .i64 (.ofNat (m + 1)) → jal pZ (aev pZ r) 54 x y = some (.pointer (some ⟨i, o + (m + 1), none⟩)) := fun r x y g h => ixBo (by omega) g h
   have i2 : ∀ r x y, aev pZ r x = .slice (some ⟨i, o, none⟩) nd c → aev pZ r y = .int .i64 (.ofNat (m + 2)) → jal pZ (aev pZ r) 54 x y = some (.pointer (some ⟨i, o + (m + 2), none⟩)) := fun r x y g h => ixBo (by omega) g h
   have i3 : ∀ r x y, aev pZ r x = .slice (some ⟨i, o, none⟩) nd c → aev pZ r y = .int .i64 (.ofNat (m + 3)) → jal pZ (aev pZ r) 54 x y = some (.pointer (some ⟨i, o + (m + 3), none⟩)) := fun r x y g h => ixBo (by omega) g h
   have i4 : ∀ r x y, aev pZ r x = .slice (some ⟨i, o, none⟩) nd c → aev pZ r y = .int .i64 (.ofNat (m + 4)) → jal pZ (aev pZ r) 54 x y = some (.pointer (some ⟨i, o + (m + 4), none⟩)) := fun r x y g h => ixBo (by omega) g h
   have i5 : ∀ r x y, aev pZ r x = .slice (some ⟨i, o, none⟩) nd c → aev pZ r y = .int .i64 (.ofNat (m + 5)) → jal pZ (aev pZ r) 54 x y = some (.pointer (some ⟨i, o + (m + 5), none⟩)) := fun r x y g h => ixBo (by omega) g h
   have i6 : ∀ r x y, aev pZ r x = .slice (some ⟨i, o, none⟩) nd c → aev pZ r y = .int .i64 (.ofNat (m + 6)) → jal pZ (aev pZ r) 54 x y = some (.pointer (some ⟨i, o + (m + 6), none⟩)) := fun r x y g h => ixBo (by omega) g h
   have i7 : ∀ r x y, aev pZ r x = .slice (some ⟨i, o, none⟩) nd c → aev pZ r y = .int .i64 (.ofNat (m + 7)) → jal pZ (aev pZ r) 54 x y = some (.pointer (some ⟨i, o + (m + 7), none⟩)) := fun r x y g h => ixBo (by omega) g h
   have hG : Bv M9 i M t o (rg m (m + 8) E3 F) := (((B9.congr fun j => m1 _ j).congr fun j => m2 _ j).congr fun j => m3 _ j)
   refine jam ?_
   repeat ((first | refine jaa rfl ?_ | refine jaj rfl ?_); (try simp only [go_sem, h0, h1, h4, e1, r1', r2, r3, r4, t1, t2, t3, t4, s1, s2, s3, s4, jgM, c1]); fail_if_success refine stk ?_)
   refine jaY (n := 15) (ms := [0, 0, 2, 0, 0, 16, 0, 64, 192, 0, 512, 455, 2503, 8191, 16383]) (ord := [0, 1, 2, 6, 7, 8, 11, 12, 3, 4, 5, 9, 10, 13, 14]) (ds := ?_) ?_ ?_ ?_ ?_ ?_ ?_
   rotate_left
   ·kernel_rfl
   ·kernel_rfl
   ·kernel_rfl
   ·rfl
   ·rfl
   repeat (first | (refine ja0 ?_ rfl ?_; (solve | simp only [go_sem, h0, h4, z1, z2, i7, i6, g0, f0, t6, y1, y2])) | (refine ja5 (v := ?_) (μ' := ?_) (sn' := ?_) ?_ ?_ rfl ?_; rotate_left 3; (solve | rfl | simp only [go_sem, h0, h4, z1, z2, i7, i6, g0, f0, t6, y1, y2]); (solve | simp only [jaV, heavy, jbg, jaQ, go_sem, h0, h4, z1, z2, i7, i6, g0, f0, t6, y1, y2]; try exact rfl)))
   simp only [dRun, jaK, jag]
   repeat ((first | refine jaa rfl ?_ | refine jaj rfl ?_); (try simp only [go_sem, h4]); fail_if_success refine stk ?_)
   refine jaY (n := 15) (ms := [0, 0, 2, 0, 0, 16, 0, 64, 192, 0, 512, 455, 2503, 8191, 16383]) (ord := [0, 1, 2, 6, 7, 8, 11, 12, 3, 4, 5, 9, 10, 13, 14]) (ds := ?_) ?_ ?_ ?_ ?_ ?_ ?_
   rotate_left
   ·kernel_rfl
   ·kernel_rfl
   ·kernel_rfl
   ·rfl
   ·rfl
   repeat (first | (refine ja0 ?_ rfl ?_; (solve | simp only [go_sem, h0, h4, z3, z4, i5, i4, g1, f1, t5, y3, y4])) | (refine ja5 (v := ?_) (μ' := ?_) (sn' := ?_) ?_ ?_ rfl ?_; rotate_left 3; (solve | rfl | simp only [go_sem, h0, h4, z3, z4, i5, i4, g1, f1, t5, y3, y4]); (solve | simp only [jaV, heavy, jbg, jaQ, go_sem, h0, h4, z3, z4, i5, i4, g1, f1, t5, y3, y4]; try exact rfl)))
   simp only [dRun, jaK, jag]
   repeat ((first | refine jaa rfl ?_ | refine jaj rfl ?_); (try simp only [go_sem, h4]); fail_if_success refine stk ?_)
   refine jaY (n := 15) (ms := [0, 0, 2, 0, 0, 16, 0, 64, 192, 0, 512, 455, 2503, 8191, 16383]) (ord := [0, 1, 2, 6, 7, 8, 11, 12, 3, 4, 5, 9, 10, 13, 14]) (ds := ?_) ?_ ?_ ?_ ?_ ?_ ?_
   rotate_left
   ·kernel_rfl
   ·kernel_rfl
   ·kernel_rfl
   ·rfl
   ·rfl
   repeat (first | (refine ja0 ?_ rfl ?_; (solve | simp only [go_sem, h0, h4, z5, z6, i3, i2, g2, f2, s6, y5, y6])) | (refine ja5 (v := ?_) (μ' := ?_) (sn' := ?_) ?_ ?_ rfl ?_; rotate_left 3; (solve | rfl | simp only [go_sem, h0, h4, z5, z6, i3, i2, g2, f2, s6, y5, y6]); (solve | simp only [jaV, heavy, jbg, jaQ, go_sem, h0, h4, z5, z6, i3, i2, g2, f2, s6, y5, y6]; try exact rfl)))
   simp only [dRun, jaK, jag]
   repeat ((first | refine jaa rfl ?_ | refine jaj rfl ?_); (try simp only [go_sem, h4]); fail_if_success refine stk ?_)
   refine jaY (n := 15) (ms := [0, 0, 2, 0, 0, 16, 0, 64, 192, 0, 512, 455, 2503, 8191, 16383]) (ord := [0, 1, 2, 6, 7, 8, 11, 12, 3, 4, 5, 9, 10, 13, 14]) (ds := ?_) ?_ ?_ ?_ ?_ ?_ ?_
   rotate_left
   ·kernel_rfl
   ·kernel_rfl
   ·kernel_rfl
   ·rfl
   ·rfl
   repeat (first | (refine ja0 ?_ rfl ?_; (solve | simp only [go_sem, h0, h4, z7, z8, i1, i0, g3, f3, s5, y7, y8])) | (refine ja5 (v := ?_) (μ' := ?_) (sn' := ?_) ?_ ?_ rfl ?_; rotate_left 3; (solve | rfl | simp only [go_sem, h0, h4, z7, z8, i1, i0, g3, f3, s5, y7, y8]); (solve | simp only [jaV, heavy, jbg, jaQ, go_sem, h0, h4, z7, z8, i1, i0, g3, f3, s5, y7, y8]; try exact rfl)))
   simp only [dRun, jaK, jag]
   repeat ((first | refine jaa rfl ?_ | refine jaj rfl ?_); (try simp only [go_sem, h4, z8]); fail_if_success refine stk ?_)
   rw [(by omega : e + (r + 1) + 99 = e + r + 100)]
   refine rzM (hih (F := rg m (m + 8) E3 F) (nd := nd) (c := c) (by omega) (by omega) hG (by simp only [go_sem, h0]) (by simp only [go_sem]) (by simp only [go_sem])) ?_
   rintro x r' μ' ⟨hx, k1, k2, k3⟩
   exact ⟨hx, k1.congr fun j => m4 F j, (((O3.trans O5).trans O7).trans O9).trans k2, k3⟩
theorem fbs5 : jcU 5 (jb3 Tryz.f223) = .seq (jiA 5 (jb3 Tryz.f223)) (jcU 6 (jb3 Tryz.f223)) := by kernel_rfl
theorem fbs4 : jcU 4 (jb3 Tryz.f223) = .seq (jiA 4 (jb3 Tryz.f223)) (jcU 5 (jb3 Tryz.f223)) := by kernel_rfl
theorem fbs3 : jcU 3 (jb3 Tryz.f223) = .seq (jiA 3 (jb3 Tryz.f223)) (jcU 4 (jb3 Tryz.f223)) := by kernel_rfl
theorem fbs0 : (jb3 Tryz.f223) = .seq (jiA 0 (jb3 Tryz.f223)) (.seq (jiA 1 (jb3 Tryz.f223)) (.seq (jiA 2 (jb3 Tryz.f223)) (jcU 3 (jb3 Tryz.f223)))) := by kernel_rfl
theorem fb_one (v n : Nat) (hn : n ≤ 1) (hv : v < 10 ^ n) : ∃ G, Dr 0 n v G ∧ ∀ {X : XT} {e i c nd M t o : Nat} {tm : T Value} {μ : Mem} {F : Nat → Nat}, n ≤ nd → n ≤ 31 → n ≤ M → Bv μ i M t o F → jah tm 0 = .slice (some ⟨i, o, none⟩) nd c → jah tm 4 = .int .i64 (.ofNat n) → jah tm 12 = .int .u32 (.ofNat v) →
  EndsC (jai pZ X S0 (e + 20) (jcU 5 (jb3 Tryz.f223)) ⟨167, tm, [], none⟩ μ) fun x r μ' => x = .normal ∧ Bv μ' i M t o (rg 0 n G F) ∧ Only μ μ' i ∧ ∃ tm', r = ⟨167, tm', [], none⟩ := by
 obtain ⟨b, hb0⟩ : ∃ b, b = 48 + v := ⟨_, rfl⟩
 have hv10 : v < 10 := rzO hv (Nat.pow_le_pow_right (by decide) hn)
 have hb : jak .u8 (.ofNat ((48 + v) % 4294967296)) = .ofNat b := by rw [hb0, Nat.mod_eq_of_lt (by omega)]; exact qu8 _ (by omega)
 refine ⟨fun _ => b, fun j h1 h2 => by show b = _; rw [hb0, show n - 1 - j = 0 from by omega, Nat.pow_zero, Nat.div_one]; omega, fun {X e i c nd M t o tm μ F} hnd h31 hM hB h0 h4 h12 => ?_⟩
 rw [fbs5]
 by_cases h : n = 0
 ·subst h
  have e1 : ilt 0 (.ofNat 0) = false := rfl
  repeat ((first | refine jaa rfl ?_ | refine jaj rfl ?_); (try simp only [go_sem, h4, e1]); fail_if_success refine stk ?_)
  exact ⟨by trivial, hB.congr fun j => (if_neg (by omega)).symm, Only.refl _ _, _, rfl⟩
 ·obtain rfl : n = 1 := by omega
  have e1 : ilt 0 (.ofNat 1) = true := rfl
  have a1 : jak .u32 (Int.add 48 (.ofNat v)) = .ofNat ((48 + v) % 4294967296) := q32 (48 + v)
  have i0 : ∀ r x, aev pZ r x = .slice (some ⟨i, o, none⟩) nd c → jal pZ (aev pZ r) 54 x (.const (.int .i64 0)) = some (.pointer (some ⟨i, o + 0, none⟩)) := fun r x g => ixBo (by omega) g rfl
  have s0 := st_b (v := b) (k := 0) hB (by omega)
  repeat ((first | refine jaa rfl ?_ | refine jaj rfl ?_); (try simp only [go_sem, h0, h4, h12, e1, a1, conv_32b, hb, i0, s0]); fail_if_success refine stk ?_)
  exact ⟨by trivial, (hB.set (k := 0) (by omega)).congr fun j => by
   unfold rg
   by_cases e : j = 0
   ·rw [if_pos e, if_pos ⟨by omega, by omega⟩]
   ·rw [if_neg e, if_neg (by omega)], Only.put _ _ _ _, _, rfl⟩
attribute [local irreducible] jcU
theorem fb_two (v n : Nat) (hv : v < 4294967296) (hn : n ≤ 3) (hw : v < 10 ^ n) : ∃ G, Dr 0 n v G ∧ ∀ {X : XT} {e i c nd M t o : Nat} {tm : T Value} {μ : Mem} {F : Nat → Nat}, n ≤ nd → n ≤ 31 → n ≤ M → Bv μ i M t o F → jah tm 0 = .slice (some ⟨i, o, none⟩) nd c → jah tm 4 = .int .i64 (.ofNat n) → jah tm 12 = .int .u32 (.ofNat v) →
  EndsC (jai pZ X S0 (e + 40) (jcU 4 (jb3 Tryz.f223)) ⟨167, tm, [], none⟩ μ) fun x r μ' => x = .normal ∧ Bv μ' i M t o (rg 0 n G F) ∧ Only μ μ' i ∧ ∃ tm', r = ⟨167, tm', [], none⟩ := by
 by_cases h : n ≤ 1
 ·obtain ⟨G, hD, hG⟩ := fb_one v n h hw
  refine ⟨G, hD, fun {X e i c nd M t o tm μ F} hnd h31 hM hB h0 h4 h12 => ?_⟩
  have e1 : ilt (.ofNat n) 2 = true := dT (jcV _ 2 2 rfl) (by omega)
  rw [fbs4]
  repeat ((first | refine jaa rfl ?_ | refine jaj rfl ?_); (try simp only [go_sem, h4, e1]); fail_if_success refine stk ?_)
  refine rzM (hG (nd := nd) (c := c) (e := e + 19) hnd h31 hM hB (by simp only [go_sem, h0]) (by simp only [go_sem, h4]) (by simp only [go_sem, h12])) fun x r μ' h => h
 ·obtain ⟨m, rfl⟩ : ∃ m, n = m + 2 := ⟨n - 2, by omega⟩
  obtain ⟨y, hy⟩ := exq (v % 100)
  have hy1 : y < 100 := by rw [hy]; exact Nat.mod_lt _ (by decide)
  obtain ⟨G, hD, hG⟩ := fb_one (v / 100) m (by omega) (Nat.div_lt_of_lt_mul (by rw [Nat.pow_add] at hw; omega))
  obtain ⟨b0, c0, hb0, hc0, g0, f0⟩ := jfb hy1
  obtain ⟨E1, n1, m1⟩ := jcF (a := 0) (b := m) (c := m + 2) (rzY _) (by omega) G (fun j => if j = m then c0 else b0)
  have hD2 : Dr m (m + 2) v (fun j => if j = m then c0 else b0) := fun j h1 h2 => by
   obtain ⟨k, rfl⟩ : ∃ k, j = m + k := ⟨j - m, by omega⟩
   have hk : k = 0 ∨ k = 1 := by omega
   rw [(by omega : m + 2 - 1 - (m + k) = 1 - k)]
   show (if m + k = m then c0 else b0) = _
   rcases hk with rfl | rfl
   ·rw [if_pos (by omega)]; show c0 = 48 + v / 10 % 10; omega
   ·rw [if_neg (by omega)]; show b0 = 48 + v / 1 % 10; omega
  refine ⟨E1, hD.join (by rw [(by omega : m + 2 - m = 2)]) (by omega) hD2 n1, fun {X e i c nd M t o tm μ F} hnd h31 hM hB h0 h4 h12 => ?_⟩
  have e1 : ilt (.ofNat (m + 2)) 2 = false := dF (jcV _ 2 2 rfl) (by omega)
  have t1 : aDiv true .u32 .u32 (.ofNat v) 100 = some (.int .u32 (.ofNat y)) := by rw [hy]; exact d32r (k := 99)
  have t2 : aDiv false .u32 .u32 (.ofNat v) 100 = some (.int .u32 (.ofNat (v / 100))) := d32q (k := 99) hv
  have t3 : jak .u32 (Int.mul (.ofNat y) 2) = .ofNat (y * 2) := q32s (n := y * 2) (by omega)
  have t4 : jak .u32 (Int.add (.ofNat (y * 2)) 1) = .ofNat (y * 2 + 1) := q32s (n := y * 2 + 1) (by omega)
  have z1 : jak .i64 (Int.sub (.ofNat (m + 2)) 1) = .ofNat (m + 1) := jaZ (m + 2) 1 (by omega) (by omega)
  have z2 : jak .i64 (Int.sub (.ofNat (m + 2)) 2) = .ofNat m := jaZ (m + 2) 2 (by omega) (by omega)
  have i1 : ∀ r x y, aev pZ r x = .slice (some ⟨i, o, none⟩) nd c → aev pZ r y = .int .i64 (.ofNat (m + 1)) → jal pZ (aev pZ r) 54 x y = some (.pointer (some ⟨i, o + (m + 1), none⟩)) := fun r x y g h => ixBo (by omega) g h
  have i0 : ∀ r x y, aev pZ r x = .slice (some ⟨i, o, none⟩) nd c → aev pZ r y = .int .i64 (.ofNat m) → jal pZ (aev pZ r) 54 x y = some (.pointer (some ⟨i, o + m, none⟩)) := fun r x y g h => ixBo (by omega) g h
  obtain ⟨M2, M3, y1, y2, B3, O3⟩ := pair (b := b0) (c := c0) 15 hB (p := m) (by omega)
  rw [fbs4]
  repeat ((first | refine jaa rfl ?_ | refine jaj rfl ?_); (try simp only [go_sem, h0, h4, h12, e1, t1, t2, t3]); fail_if_success refine stk ?_)
  refine jaY (n := 15) (ms := [0, 0, 2, 0, 0, 16, 0, 64, 192, 0, 512, 455, 2503, 8191, 16383]) (ord := [0, 1, 2, 6, 7, 8, 11, 12, 3, 4, 5, 9, 10, 13, 14]) (ds := ?_) ?_ ?_ ?_ ?_ ?_ ?_
  rotate_left
  ·kernel_rfl
  ·kernel_rfl
  ·kernel_rfl
  ·rfl
  ·rfl
  repeat (first | (refine ja0 ?_ rfl ?_; (solve | simp only [go_sem, h0, h4, z1, z2, i1, i0, g0, f0, t4, y1, y2])) | (refine ja5 (v := ?_) (μ' := ?_) (sn' := ?_) ?_ ?_ rfl ?_; rotate_left 3; (solve | rfl | simp only [go_sem, h0, h4, z1, z2, i1, i0, g0, f0, t4, y1, y2]); (solve | simp only [jaV, heavy, jbg, jaQ, go_sem, h0, h4, z1, z2, i1, i0, g0, f0, t4, y1, y2]; try exact rfl)))
  simp only [dRun, jaK, jag]
  repeat ((first | refine jaa rfl ?_ | refine jaj rfl ?_); (try simp only [go_sem, h4, z2]); fail_if_success refine stk ?_)
  refine rzM (hG (nd := nd) (c := c) (e := e + 19) (by omega) (by omega) (by omega) B3 (by simp only [go_sem, h0]) (by simp only [go_sem]) (by simp only [go_sem])) ?_
  rintro x r μ' ⟨k1, k2, k3, k4⟩
  exact ⟨k1, k2.congr fun j => m1 F j, O3.trans k3, k4⟩
theorem fb_four (v n : Nat) (hv : v < 4294967296) (hn : n ≤ 7) (hw : v < 10 ^ n) : ∃ G, Dr 0 n v G ∧ ∀ {X : XT} {e i c nd M t o : Nat} {tm : T Value} {μ : Mem} {F : Nat → Nat}, n ≤ nd → n ≤ 31 → n ≤ M → Bv μ i M t o F → jah tm 0 = .slice (some ⟨i, o, none⟩) nd c → jah tm 4 = .int .i64 (.ofNat n) → jah tm 12 = .int .u32 (.ofNat v) →
  EndsC (jai pZ X S0 (e + 60) (jcU 3 (jb3 Tryz.f223)) ⟨167, tm, [], none⟩ μ) fun x r μ' => x = .normal ∧ Bv μ' i M t o (rg 0 n G F) ∧ Only μ μ' i ∧ ∃ tm', r = ⟨167, tm', [], none⟩ := by
 by_cases h : n ≤ 3
 ·obtain ⟨G, hD, hG⟩ := fb_two v n hv h hw
  refine ⟨G, hD, fun {X e i c nd M t o tm μ F} hnd h31 hM hB h0 h4 h12 => ?_⟩
  have e1 : ilt (.ofNat n) 4 = true := dT (jcV _ 4 4 rfl) (by omega)
  rw [fbs3]
  repeat ((first | refine jaa rfl ?_ | refine jaj rfl ?_); (try simp only [go_sem, h4, e1]); fail_if_success refine stk ?_)
  refine rzM (hG (nd := nd) (c := c) (e := e + 19) hnd h31 hM hB (by simp only [go_sem, h0]) (by simp only [go_sem, h4]) (by simp only [go_sem, h12])) fun x r μ' h => h
 ·obtain ⟨m, rfl⟩ : ∃ m, n = m + 4 := ⟨n - 4, by omega⟩
  obtain ⟨q, hq⟩ := exq (v % 10000)
  have hq1 : q < 10000 := by rw [hq]; exact Nat.mod_lt _ (by decide)
  obtain ⟨G, hD, hG⟩ := fb_two (v / 10000) m (by omega) (by omega) (Nat.div_lt_of_lt_mul (by rw [Nat.pow_add] at hw; omega))
  obtain ⟨x1, x0, v1, v0, l1, l0, t1, t2, t3, t4, t5, t6⟩ := two_of hq1
  obtain ⟨b0, c0, hb0, hc0, g0, f0⟩ := jfb l0
  obtain ⟨b1, c1, hb1, hc1, g1, f1⟩ := jfb l1
  obtain ⟨E1, n1, m1⟩ := jcF (a := m) (b := m + 2) (c := m + 4) (by omega) (by omega) (fun j => if j = m then c1 else b1) (fun j => if j = m + 2 then c0 else b0)
  obtain ⟨E2, n2, m2⟩ := jcF (a := 0) (b := m) (c := m + 4) (rzY _) (by omega) G E1
  have hD4 : Dr m (m + 4) v E1 := fun j h1 h2 => by
   rw [n1]
   obtain ⟨k, rfl⟩ : ∃ k, j = m + k := ⟨j - m, by omega⟩
   have hk : k = 0 ∨ k = 1 ∨ k = 2 ∨ k = 3 := by omega
   rw [(by omega : m + 4 - 1 - (m + k) = 3 - k)]
   rcases hk with rfl | rfl | rfl | rfl
   ·rw [if_pos (by omega), if_pos (by omega)]; show c1 = 48 + v / 1000 % 10; omega
   ·rw [if_pos (by omega), if_neg (by omega)]; show b1 = 48 + v / 100 % 10; omega
   ·rw [if_neg (by omega), if_pos (by omega)]; show c0 = 48 + v / 10 % 10; omega
   ·rw [if_neg (by omega), if_neg (by omega)]; show b0 = 48 + v / 1 % 10; omega
  refine ⟨E2, hD.join (by rw [(by omega : m + 4 - m = 4)]) (by omega) hD4 n2, fun {X e i c nd M t o tm μ F} hnd h31 hM hB h0 h4 h12 => ?_⟩
  have e1 : ilt (.ofNat (m + 4)) 4 = false := dF (jcV _ 4 4 rfl) (by omega)
  have r1 : aDiv true .u32 .u32 (.ofNat v) 10000 = some (.int .u32 (.ofNat q)) := by rw [hq]; exact d32r (k := 9999)
  have r2 : aDiv false .u32 .u32 (.ofNat v) 10000 = some (.int .u32 (.ofNat (v / 10000))) := d32q (k := 9999) hv
  have z1 : jak .i64 (Int.sub (.ofNat (m + 4)) 1) = .ofNat (m + 3) := jaZ (m + 4) 1 (by omega) (by omega)
  have z2 : jak .i64 (Int.sub (.ofNat (m + 4)) 2) = .ofNat (m + 2) := jaZ (m + 4) 2 (by omega) (by omega)
  have z3 : jak .i64 (Int.sub (.ofNat (m + 4)) 3) = .ofNat (m + 1) := jaZ (m + 4) 3 (by omega) (by omega)
  have z4 : jak .i64 (Int.sub (.ofNat (m + 4)) 4) = .ofNat (m) := jaZ (m + 4) 4 (by omega) (by omega)
  have i0 : ∀ r x y, aev pZ r x = .slice (some ⟨i, o, none⟩) nd c → aev pZ r y = .int .i64 (.ofNat (m)) → jal pZ (aev pZ r) 54 x y = some (.pointer (some ⟨i, o + (m), none⟩)) := fun r x y g h => ixBo (by omega) g h
  have i1 : ∀ r x y, aev pZ r x = .slice (some ⟨i, o, none⟩) nd c → aev pZ r y = .int .i64 (.ofNat (m + 1)) → jal pZ (aev pZ r) 54 x y = some (.pointer (some ⟨i, o + (m + 1), none⟩)) := fun r x y g h => ixBo (by omega) g h
  have i2 : ∀ r x y, aev pZ r x = .slice (some ⟨i, o, none⟩) nd c → aev pZ r y = .int .i64 (.ofNat (m + 2)) → jal pZ (aev pZ r) 54 x y = some (.pointer (some ⟨i, o + (m + 2), none⟩)) := fun r x y g h => ixBo (by omega) g h
  have i3 : ∀ r x y, aev pZ r x = .slice (some ⟨i, o, none⟩) nd c → aev pZ r y = .int .i64 (.ofNat (m + 3)) → jal pZ (aev pZ r) 54 x y = some (.pointer (some ⟨i, o + (m + 3), none⟩)) := fun r x y g h => ixBo (by omega) g h
  obtain ⟨M2, M3, y1, y2, B3, O3⟩ := pair (b := b0) (c := c0) 15 hB (p := m + 2) (by omega)
  obtain ⟨M4, M5, y3, y4, B5, O5⟩ := pair (b := b1) (c := c1) 15 B3 (p := m) (by omega)
  rw [fbs3]
  repeat ((first | refine jaa rfl ?_ | refine jaj rfl ?_); (try simp only [go_sem, h0, h4, h12, e1, r1, r2, t1, t2, t3, t4]); fail_if_success refine stk ?_)
  refine jaY (n := 15) (ms := [0, 0, 2, 0, 0, 16, 0, 64, 192, 0, 512, 455, 2503, 8191, 16383]) (ord := [0, 1, 2, 6, 7, 8, 11, 12, 3, 4, 5, 9, 10, 13, 14]) (ds := ?_) ?_ ?_ ?_ ?_ ?_ ?_
  rotate_left
  ·kernel_rfl
  ·kernel_rfl
  ·kernel_rfl
  ·rfl
  ·rfl
  repeat (first | (refine ja0 ?_ rfl ?_; (solve | simp only [go_sem, h0, h4, z1, z2, i3, i2, g0, f0, t6, y1, y2])) | (refine ja5 (v := ?_) (μ' := ?_) (sn' := ?_) ?_ ?_ rfl ?_; rotate_left 3; (solve | rfl | simp only [go_sem, h0, h4, z1, z2, i3, i2, g0, f0, t6, y1, y2]); (solve | simp only [jaV, heavy, jbg, jaQ, go_sem, h0, h4, z1, z2, i3, i2, g0, f0, t6, y1, y2]; try exact rfl)))
  simp only [dRun, jaK, jag]
  refine jaf ?_
  refine jaY (n := 15) (ms := [0, 0, 2, 0, 0, 16, 0, 64, 192, 0, 512, 455, 2503, 8191, 16383]) (ord := [0, 1, 2, 6, 7, 8, 11, 12, 3, 4, 5, 9, 10, 13, 14]) (ds := ?_) ?_ ?_ ?_ ?_ ?_ ?_
  rotate_left
  ·kernel_rfl
  ·kernel_rfl
  ·kernel_rfl
  ·rfl
  ·rfl
  repeat (first | (refine ja0 ?_ rfl ?_; (solve | simp only [go_sem, h0, h4, z3, z4, i1, i0, g1, f1, t5, y3, y4])) | (refine ja5 (v := ?_) (μ' := ?_) (sn' := ?_) ?_ ?_ rfl ?_; rotate_left 3; (solve | rfl | simp only [go_sem, h0, h4, z3, z4, i1, i0, g1, f1, t5, y3, y4]); (solve | simp only [jaV, heavy, jbg, jaQ, go_sem, h0, h4, z3, z4, i1, i0, g1, f1, t5, y3, y4]; try exact rfl)))
  simp only [dRun, jaK, jag]
  repeat ((first | refine jaa rfl ?_ | refine jaj rfl ?_); (try simp only [go_sem, h4, z4]); fail_if_success refine stk ?_)
  refine rzM (hG (nd := nd) (c := c) (e := e + 19) (by omega) (by omega) (by omega) (B5.congr fun j => m1 F j) (by simp only [go_sem, h0]) (by simp only [go_sem]) (by simp only [go_sem])) ?_
  rintro x r μ' ⟨k1, k2, k3, k4⟩
  exact ⟨k1, k2.congr fun j => m2 F j, (O3.trans O5).trans k3, k4⟩
theorem fb10_ex (w n : Nat) (hn : n ≤ 31) (hw : W w < 10 ^ n) : ∃ G, Dr 0 n (W w) G ∧ ∀ {X : XT} {g i c M t o : Nat} {μ : Mem} {F : Nat → Nat}, n ≤ M → Bv μ i M t o F → 200 ≤ g → ∃ μ', aFun pZ (jai pZ X S0 g) 223 [.slice (some ⟨i, o, none⟩) n c, u w] μ = some (.tuple #[], μ') ∧ Bv μ' i M t o (rg 0 n G F) ∧ Only μ μ' i := by
 obtain ⟨G1, w', D1, hw', h1⟩ := fb_loop (n / 8) w n rfl hn hw
 have hlt : W w' < 10 ^ (n % 8) := by
  rw [hw']
  refine Nat.div_lt_of_lt_mul ?_
  rw [← Nat.pow_add, show n - n % 8 + n % 8 = n from by have := Nat.mod_le n 8; omega]
  exact hw
 have hmod : W w' % 4294967296 = W w' := Nat.mod_eq_of_lt (rzO hlt (rzS (Nat.pow_le_pow_right (by decide) (show n % 8 ≤ 7 by omega)) (by decide)))
 obtain ⟨G2, D2, h2⟩ := fb_four (W w' % 4294967296) (n % 8) (Nat.mod_lt _ (by decide)) (by omega) (by rw [hmod]; exact hlt)
 rw [hmod] at D2
 obtain ⟨E, n1, m1⟩ := jcF (a := 0) (b := n % 8) (c := n) (rzY _) (Nat.mod_le _ _) G2 G1
 refine ⟨E, D2.join hw' (Nat.mod_le _ _) D1 n1, fun {X g i c M t o μ F} hM hB hg => ?_⟩
 obtain ⟨k, rfl⟩ := gle hg
 have ln : aLen pZ 54 (.slice (some ⟨i, o, none⟩) n c) = some n := lenBs
 have q1 := q32 (W w')
 have key : EndsF (aFun pZ (jai pZ X S0 (k + 200)) 223 [.slice (some ⟨i, o, none⟩) n c, u w] μ) fun v μ' => v = .tuple #[] ∧ Bv μ' i M t o (rg 0 n E F) ∧ Only μ μ' i := by
  refine jac Tryz.func223 rfl rfl (nbl rfl) ?_
  simp only [go_sem, Tryz.ntmps223]
  change EndsC (jai pZ X S0 _ (jb3 Tryz.f223) _ _) _
  rw [fbs0]
  repeat ((first | refine jaa rfl ?_ | refine jaj rfl ?_); (try simp only [go_sem, ln, jao]); fail_if_success refine stk ?_)
  rw [(by omega : k + 197 = (k + 97 - n / 8) + n / 8 + 100)]
  refine rzM (h1 (nd := n) (c := c) (rzN _) hM hB (by simp only [go_sem]) (by simp only [go_sem]) (by simp only [go_sem])) ?_
  rintro x r μ1 ⟨rfl, B1, O1, tm1, rfl, z0, z1, z4⟩
  simp only [go_sem]
  repeat ((first | refine jaa rfl ?_ | refine jaj rfl ?_); (try simp only [go_sem, z1, jgM, q1]); fail_if_success refine stk ?_)
  refine rzM (h2 (e := k + 137) (nd := n) (c := c) (Nat.mod_le _ _) (by omega) (rzS (Nat.mod_le _ _) hM) B1 (by simp only [go_sem, z0]) (by simp only [go_sem, z4]) (by simp only [go_sem])) ?_
  rintro x r μ2 ⟨rfl, B2, O2, tm2, rfl⟩
  exact ⟨rfl, _, rfl, rfl, B2.congr fun j => m1 F j, O1.trans O2⟩
 obtain ⟨v, μ', h1, rfl, h2, h3⟩ := key
 exact ⟨μ', h1, h2, h3⟩
theorem sd_loop (G : Nat → Nat) : ∀ n, n ≤ 31 → ∃ n', n' ≤ n ∧ ∀ {X : XT} {e i c : Nat} {tm : T Value} {μ : Mem} {F : Nat → Nat}, Bu μ i F → (∀ j, j < n → F j = G j) → jah tm 0 = .slice (some ⟨i, 0, none⟩) 32 c → jah tm 3 = .int .i64 (.ofNat n) →
  LpC X (e + n + 30) Tryz.f179 0 36 tm μ fun x r μ' => x = .exit 0 ∧ μ' = μ ∧ ∃ tm', r = ⟨36, tm', [], none⟩ ∧ jah tm' 8 = jah tm 8 ∧ jah tm' 3 = .int .i64 (.ofNat n') := by
 intro n
 induction n with
 | zero =>
   intro _
   refine ⟨0, rzN _, fun {X e i c tm μ F} hB hF h0 h3 => ?_⟩
   have e1 : ilt 0 (.ofNat 0) = false := rfl
   refine jam ?_
   repeat ((first | refine jaa rfl ?_ | refine jaj rfl ?_); (try simp only [go_sem, h0, h3, e1]); fail_if_success refine stk ?_)
   exact ⟨by trivial, by trivial, _, rfl, by simp only [go_sem], by simp only [go_sem, h3]⟩
 | succ n ih =>
   intro hn
   have e1 : ilt 0 (.ofNat (n + 1)) = true := dT (jap 0 (n + 1)) (rzW n)
   have q1 : jak .i64 (Int.sub (.ofNat (n + 1)) 1) = .ofNat n := jaZ (n + 1) 1 (by omega) (by omega)
   by_cases h48 : G n = 48
   ·obtain ⟨n', b1, hih⟩ := ih (by omega)
    refine ⟨n', by omega, fun {X e i c tm μ F} hB hF h0 h3 => ?_⟩
    have hd := hB.d n (by omega)
    rw [hF n (rzQ n)] at hd
    have e2 : ieq (.ofNat (G n)) 48 = true := dT (jbo _ 48 48 rfl) h48
    have hix : ∀ r x y, aev pZ r x = .slice (some ⟨i, 0, none⟩) 32 c → aev pZ r y = .int .i64 (.ofNat n) → jal pZ (aev pZ r) 54 x y = some (.pointer (some ⟨i, n, none⟩)) := fun r x y g h => ixBs (by omega) g h
    refine jam ?_
    repeat ((first | refine jaa rfl ?_ | refine jaj rfl ?_); (try simp only [go_sem, h0, h3, e1, q1, hix, hd, e2]); fail_if_success refine stk ?_)
    rw [(by omega : e + (n + 1) + 29 = e + n + 30)]
    refine rzM (hih (c := c) hB (fun j hj => hF j (by omega)) (by simp only [go_sem, h0]) (by simp only [go_sem])) ?_
    rintro x r μ' ⟨g1, g2, tm', g3, g4, g5⟩
    exact ⟨g1, g2, tm', g3, by rw [g4]; simp only [go_sem], g5⟩
   ·refine ⟨n + 1, rzN _, fun {X e i c tm μ F} hB hF h0 h3 => ?_⟩
    have hd := hB.d n (by omega)
    rw [hF n (rzQ n)] at hd
    have e2 : ieq (.ofNat (G n)) 48 = false := dF (jbo _ 48 48 rfl) h48
    have hix : ∀ r x y, aev pZ r x = .slice (some ⟨i, 0, none⟩) 32 c → aev pZ r y = .int .i64 (.ofNat n) → jal pZ (aev pZ r) 54 x y = some (.pointer (some ⟨i, n, none⟩)) := fun r x y g h => ixBs (by omega) g h
    refine jam ?_
    repeat ((first | refine jaa rfl ?_ | refine jaj rfl ?_); (try simp only [go_sem, h0, h3, e1, q1, hix, hd, e2]); fail_if_success refine stk ?_)
    exact ⟨by trivial, by trivial, _, rfl, by simp only [go_sem], by simp only [go_sem, h3]⟩
theorem setd_ex (w nd : Nat) (p : Int) (hnd : nd ≤ 20) (hw : W w < 10 ^ nd) (hp1 : -1000 ≤ p) (hp2 : p ≤ 1000) : ∃ (G : Nat → Nat) (nz : Nat), nz ≤ nd ∧ Dr 0 nd (W w) G ∧ ∀ {X : XT} {g i : Nat} {μ : Mem} {F : Nat → Nat}, Bu μ i F → 300 ≤ g →
  ∃ μ', aFun pZ (jai pZ X S0 g) 179 [.slice (some ⟨i, 0, none⟩) 32 64, u w, .int .i64 p, .int .i64 (.ofNat nd)] μ = some (.tuple #[.int .i64 ((nd : Int) + p), .int .i64 (.ofNat nz)], μ') ∧ Bu μ' i (rg 0 nd G F) ∧ Only μ μ' i := by
 obtain ⟨G, hD, hG⟩ := fb10_ex w nd (by omega) hw
 obtain ⟨nz, hz, hlp⟩ := sd_loop G nd (by omega)
 refine ⟨G, nz, hz, hD, fun {X g i μ F} hB hg => ?_⟩
 obtain ⟨k, rfl⟩ := gle hg
 obtain ⟨μ1, r1, B1, O1⟩ := hG (X := X) (g := k + 294) (c := 64) (by omega) hB.bv (by omega)
 have B1 := B1.bu
 have ln : aLen pZ 54 (.slice (some ⟨i, 0, none⟩) 32 64) = some 32 := lenBs
 have e1 : ilt 32 (.ofNat nd) = false := dF (jiC _ 32 32 rfl) (by omega)
 have e2 : ilt (.ofNat 32) (.ofNat nd) = false := e1
 have hsl : ∀ r x y, aev pZ r x = .slice (some ⟨i, 0, none⟩) 32 64 → aev pZ r y = .int .i64 (.ofNat nd) → jaJ pZ (aev pZ r) 54 x none (some y) none = some (.slice (some ⟨i, 0, none⟩) nd 64) := fun r x y g h => jfY (c := 32) (i := nd) Tryz.underlying54 i_u8 g h (by omega)
 have a1 : jak .i64 (Int.add (.ofNat nd) p) = (nd : Int) + p := jeO (nd : Int) p (by omega) (by omega)
 obtain ⟨dp, hdp⟩ := exq ((nd : Int) + p : Int)
 rw [← hdp] at a1 ⊢
 have key : EndsF (aFun pZ (jai pZ X S0 (k + 300)) 179 [.slice (some ⟨i, 0, none⟩) 32 64, u w, .int .i64 p, .int .i64 (.ofNat nd)] μ) fun v μ' => v = .tuple #[.int .i64 dp, .int .i64 (.ofNat nz)] ∧ Bu μ' i (rg 0 nd G F) ∧ Only μ μ' i := by
  refine jac Tryz.func179 rfl rfl (nbl rfl) ?_
  simp only [go_sem, Tryz.ntmps179]
  repeat ((first | refine jaa rfl ?_ | refine jaj rfl ?_); (try simp only [go_sem, ln, jao, e1, e2, hsl, r1, a1]); fail_if_success refine stk ?_)
  rw [(by omega : k + 293 = (k + 263 - nd) + nd + 30)]
  refine rzM (hlp (c := 64) B1 (fun j hj => if_pos ⟨rzY _, hj⟩) (by simp only [go_sem]) (by simp only [go_sem])) ?_
  rintro x r μ' ⟨rfl, rfl, tm', rfl, z8, z3⟩
  have z8 : jah tm' 8 = .int .i64 dp := by rw [z8]; simp only [go_sem]
  simp only [go_sem]
  repeat ((first | refine jaa rfl ?_ | refine jaj rfl ?_); (try simp only [go_sem, z8, z3]); fail_if_success refine stk ?_)
  exact jae ⟨rfl, _, by simp only [go_sem, Tryz.results179], rfl, B1, O1⟩
 obtain ⟨v, μ', h1, rfl, h2, h3⟩ := key
 exact ⟨μ', h1, h2, h3⟩
def vB (l : List Nat) : List Value := l.map fun b => .int .u8 (.ofNat b)
theorem jby (l : List Nat) : (vB l).length = l.length := List.length_map _
def Bf (μ : Mem) (v : Value) (xs : List Nat) : Prop := ∃ i m z ov fx sh c, v = .slice (some ⟨i, 0, none⟩) xs.length c ∧ μ.obs.get i = some (.cells m 5 z ov 0 0 fx sh) ∧ xs.length ≤ m ∧ i < μ.next ∧ (∀ k (h : k < (vB xs).length), cellAt z ov k = (vB xs)[k]) ∧ ((c % 2 = 0 ∧ xs.length ≤ c / 2 ∧ c / 2 ≤ m) ∨ (c % 2 = 1 ∧ c / 2 = 1))
theorem Bf.keep {μ μ' : Mem} {v : Value} {xs : List Nat} (h : Bf μ v xs) (hn : μ.next ≤ μ'.next) (hk : ∀ i, i < μ.next → SlAt v i → μ'.obs.get i = μ.obs.get i) : Bf μ' v xs := by
 obtain ⟨i, m, z, ov, fx, sh, c, h1, h2, h3, h4, h5, h6⟩ := h
 exact ⟨i, m, z, ov, fx, sh, c, h1, (hk i h4 ⟨_, _, h1⟩).trans h2, h3, rzO h4 hn, h5, h6⟩
theorem Bf.grow {μ μ' : Mem} {v : Value} {xs : List Nat} (h : Bf μ v xs) (g : Grow μ μ') : Bf μ' v xs := h.keep g.1 fun i hi _ => g.2 i hi
theorem Bf.len {μ : Mem} {v : Value} {xs : List Nat} (h : Bf μ v xs) : aLen pZ 54 v = some xs.length := by
 obtain ⟨i, m, z, ov, fx, sh, c, rfl, _⟩ := h
 exact lenBs
def Fr (μ μ' : Mem) (v v' : Value) : Prop := μ.next ≤ μ'.next ∧ (∀ j, j < μ.next → ¬ SlAt v j → μ'.obs.get j = μ.obs.get j) ∧ ∀ j, SlAt v' j → SlAt v j ∨ μ.next ≤ j
theorem Fr.refl (μ : Mem) (v : Value) : Fr μ μ v v := ⟨rzN _, fun _ _ _ => rfl, fun _ h => .inl h⟩
theorem Fr.trans {a b c : Mem} {v v1 v2 : Value} (h : Fr a b v v1) (g : Fr b c v1 v2) : Fr a c v v2 :=
 ⟨rzS h.1 g.1, fun j hj hn => (g.2.1 j (rzO hj h.1) (fun h1 => (h.2.2 j h1).elim hn (by omega))).trans (h.2.1 j hj hn), fun j hj => (g.2.2 j hj).elim (h.2.2 j) fun h1 => .inr (rzS h.1 h1)⟩
theorem Fr.of_grow {a b : Mem} (v : Value) (h : Grow a b) : Fr a b v v := ⟨h.1, fun j hj _ => h.2 j hj, fun _ h => .inl h⟩
theorem jdY {i n c j : Nat} (h : SlAt (.slice (some ⟨i, 0, none⟩) n c) j) : j = i := by
 obtain ⟨x, y, h⟩ := h
 injection h with e1
 injection e1 with e2
 injection e2 with e3
 exact e3.symm
theorem Bf.app {μ : Mem} {v x : Value} {xt : TypeId} {xs ys : List Nat} (hx : (match pZ.underlying xt with | some (.slice _) => true | some .string => true | _ => false) = true) (h : Bf μ v xs) (hl : lenV x = some ys.length) (hs : jaU μ 1 ys.length x = some (vB ys)) (hn : xs.length + ys.length < 2000000) :
  ∃ v' μ', jaM pZ μ 54 xt v x = some (v', μ') ∧ Bf μ' v' (xs ++ ys) ∧ Fr μ μ' v v' := by
 have hA : jaM pZ μ 54 xt v x = ja8 pZ μ 5 1 ys.length (vB ys) v := by
  have e1 : Nat.ble Tryz.t5.bytes 4096 = true := by kernel_rfl
  have e2 : Nat.beq (jaS (.int .u8 0)).length 1 = true := rfl
  have e3 : Nat.ble ys.length 67108864 = true := rzP (by omega)
  have e4 : Tryz.t5.size = 1 := rfl
  have e5 : Nat.beq (vB ys).length (Nat.mul ys.length 1) = true := by rw [jby, show Nat.mul ys.length 1 = ys.length from Nat.mul_one _]; exact Nat.beq_refl _
  unfold jaM
  simp only [Tryz.underlying54, i_u8, e1, z_u8, e4, e2, hl, e3, hs, e5]
  exact (congrArg (fun b => match b with | false => none | true => ja8 pZ μ 5 1 ys.length (vB ys) v) hx :)
 by_cases hy : ys = []
 ·subst hy
  obtain ⟨i, m, z, ov, fx, sh, c, rfl, h2, h3, h4, h5, h6⟩ := h
  refine ⟨_, μ, ?_, ⟨i, m, z, ov, fx, sh, c, by rw [List.append_nil], h2, by rw [List.append_nil]; exact h3, h4, by rw [List.append_nil]; exact h5, by rw [List.append_nil]; exact h6⟩, Fr.refl _ _⟩
  rw [hA]
  have hle : Nat.ble (Nat.add xs.length 0) 67108864 = true := rzP (by show xs.length + 0 ≤ _; simp at hn; omega)
  unfold ja8
  rcases h6 with ⟨g1, g2, g3⟩ | ⟨g1, g2⟩
  ·have e1 : Nat.beq (Nat.mod c 2) 0 = true := by rw [show Nat.mod c 2 = 0 from g1]; rfl
   have e2 : Nat.ble (Nat.add xs.length 0) (Nat.div c 2) = true := rzP g2
   simp only [List.length_nil, hle, e1, e2]
   rfl
  ·have e1 : Nat.beq (Nat.mod c 2) 0 = false := by rw [show Nat.mod c 2 = 1 from g1]; rfl
   simp only [List.length_nil, hle, e1]
 ·have hpos : 0 < ys.length := List.length_pos_iff.2 hy
  have hsc : scalars (vB ys) = true := jfc _ (by rw [List.all_eq_true]; intro v hv; obtain ⟨b, _, rfl⟩ := List.mem_map.1 hv; rfl)
  have fresh : ∀ {d : Option Nat}, GoodK μ 5 1 d v xs.length (vB xs) → (∀ d', d = some d' → d' < ys.length) → ∃ v' μ', jaM pZ μ 54 xt v x = some (v', μ') ∧ Bf μ' v' (xs ++ ys) ∧ Fr μ μ' v v' := by
   intro d hg hd
   obtain ⟨v', μ', ha, hg', hnx, hat, hk⟩ := jgh (P := pZ) (st := 54) (xt := xt) (n := ys.length) Tryz.underlying54 i_u8 rfl (by decide) (by kernel_rfl) z_u8 rfl hx hg hl hs (by rw [jby]; exact (Nat.mul_one _).symm) hn hsc hpos hd
   obtain ⟨hl', ⟨h1, h2⟩ | ⟨i, M, z, ov, fx, sh, c, h1, h2, h3, h4, h5⟩⟩ := hg'
   ·omega
   ·have hi : i = μ.next := by
     rw [h1] at hat
     exact (jdY hat).symm
    rw [show vB xs ++ vB ys = vB (xs ++ ys) from (List.map_append ..).symm] at h3 h4
    rw [jby] at h3
    rw [show xs.length + ys.length = (xs ++ ys).length from (rzX ..).symm] at h1
    refine ⟨v', μ', ha, ⟨i, M, z, ov, fx, sh, c, h1, h2, h3, by omega, h4, .inr ?_⟩, by omega, fun j hj hs => hk j (by omega) hs, fun j hj => ?_⟩
    ·rcases h5 with ⟨_, _, d', hd', _⟩ | h5
     ·cases hd'
     ·exact h5
    ·rw [h1] at hj
     exact .inr (by rw [jdY hj, hi]; exact rzN _)
  obtain ⟨i, m, z, ov, fx, sh, c, rfl, h2, h3, h4, h5, h6⟩ := h
  rcases h6 with ⟨g1, g2, g3⟩ | ⟨g1, g2⟩
  ·by_cases hfit : xs.length + ys.length ≤ c / 2
   ·
    have hle : Nat.ble (Nat.add xs.length ys.length) 67108864 = true := rzP (by show xs.length + ys.length ≤ _; omega)
    have e1 : Nat.beq (Nat.mod c 2) 0 = true := by rw [show Nat.mod c 2 = 0 from g1]; rfl
    have e2 : Nat.ble (Nat.add xs.length ys.length) (Nat.div c 2) = true := rzP hfit
    obtain ⟨y0, yr, hyv⟩ : ∃ y0 yr, vB ys = y0 :: yr := by
     cases e : vB ys with
     | nil => have := jby ys; rw [e] at this; simp at this; omega
     | cons a b => exact ⟨a, b, rfl⟩
    have hyl : (y0 :: yr).length = ys.length := by rw [← hyv, jby]
    have e3 : jbL m 0 0 (Nat.add 0 (Nat.mul xs.length 1)) (y0 :: yr).length = true := by
     unfold jbL
     rw [show Nat.ble (Nat.add (Nat.add 0 (Nat.mul xs.length 1)) (y0 :: yr).length) m = true from rzP (by show 0 + xs.length * 1 + (y0 :: yr).length ≤ m; rw [hyl]; omega)]
     rfl
    rw [hyv] at hsc
    have hcell : ∀ k (hk : k < (vB (xs ++ ys)).length), cellAt z (ov.lay xs.length (vB ys)) k = (vB (xs ++ ys))[k] := fun k hk => by
     have hk' : k < xs.length + ys.length := by rw [jby, rzX] at hk; exact hk
     have e : (vB (xs ++ ys))[k] = (vB xs ++ vB ys)[k]'(by rw [rzX, jby, jby]; exact hk') := by simp only [vB, List.map_append]
     rw [e, jb9]
     by_cases hkx : k < xs.length
     ·rw [dif_neg (by omega), List.getElem_append_left (by rw [jby]; exact hkx)]
      exact h5 k (by rw [jby]; exact hkx)
     ·rw [dif_pos ⟨by omega, by rw [jby]; omega⟩, List.getElem_append_right (by rw [jby]; omega)]
      congr 1
      rw [jby]
    refine ⟨.slice (some ⟨i, 0, none⟩) (xs.length + ys.length) c, ⟨μ.obs.set i (.cells m 5 z (ov.lay xs.length (vB ys)) 0 0 fx sh), μ.next⟩, ?_, ⟨i, m, z, ov.lay xs.length (vB ys), fx, sh, c, by rw [rzX], by show T.get _ _ = _; rw [T.get_set, if_pos rfl], by rw [rzX]; omega, h4, hcell, .inl ⟨g1, by rw [rzX]; exact hfit, g3⟩⟩, rzN _, fun j hj hs => ?_, fun j hj => .inl ?_⟩
    ·rw [hA]
     unfold ja8
     rw [hyv]
     simp only [hle, e1, e2, h2, e3, hsc]
     rw [show Nat.add 0 (Nat.mul xs.length 1) = xs.length from by show 0 + xs.length * 1 = _; omega]
     rfl
    ·show T.get _ _ = _
     rw [T.get_set, if_neg]
     intro e
     subst e
     exact hs ⟨_, _, rfl⟩
    ·obtain rfl := jdY hj
     exact ⟨_, _, rfl⟩
   ·exact fresh (d := some (c / 2 - xs.length)) ⟨by rw [jby, Nat.mul_one], .inr ⟨i, m, z, ov, fx, sh, c, rfl, h2, by rw [jby]; exact h3, h5, .inl ⟨g1, g2, _, rfl, by omega⟩⟩⟩ (fun d' h => by cases h; omega)
  ·exact fresh (d := none) ⟨by rw [jby, Nat.mul_one], .inr ⟨i, m, z, ov, fx, sh, c, rfl, h2, by rw [jby]; exact h3, h5, .inr ⟨g1, g2⟩⟩⟩ (fun d' h => by cases h)
@[go_sem] def gg176 {X ev} := gC X ev Tryz.func176 rfl rfl
@[go_sem] def gg186 {X ev} := gC X ev Tryz.func186 rfl rfl
@[go_sem] def gg147 {X ev} := gC X ev Tryz.func147 rfl rfl
theorem bsB {b : Int} (r : Rg) (y : Operand) (h : aev pZ r y = .int .u8 b) : jas pZ (aev pZ r) 54 1 #[(0, y)] = some (.cells 1 5 #[.int .u8 b] .e 0 0 false false, fun id => .slice (some ⟨id, 0, none⟩) 1 2) := jcM Tryz.underlying54 i_u8 rfl z_u8 rfl h rfl
theorem Bf.push {μ : Mem} {v : Value} {xs : List Nat} (b : Nat) (h : Bf μ v xs) (hn : xs.length < 900000) : ∃ v' μ', jaM pZ ⟨μ.obs.set μ.next (.cells 1 5 #[.int .u8 (.ofNat b)] .e 0 0 false false), Nat.add μ.next 1⟩ 54 54 v (.slice (some ⟨μ.next, 0, none⟩) 1 2) = some (v', μ') ∧ Bf μ' v' (xs ++ [b]) ∧ Fr μ μ' v v' := by
 have g := jbc μ (.cells 1 5 #[.int .u8 (.ofNat b)] .e 0 0 false false)
 obtain ⟨v', μ', h1, h2, h3⟩ := (h.grow g).app (xt := 54) (x := .slice (some ⟨μ.next, 0, none⟩) 1 2) (ys := [b]) (by rw [Tryz.underlying54]) rfl ((GoodK.fresh μ μ.next (μ.next + 1) (e := 5) (k := 1) (ys := vB [b]) rfl).src (by decide)) (by simp; omega)
 exact ⟨v', μ', h1, h2, (Fr.of_grow v g).trans h3⟩
theorem Bu.fr {μ m : Mem} {v v' : Value} {b : Nat} {F : Nat → Nat} (h : Bu μ b F) (g : Fr μ m v v') (hb : b < μ.next) (hs : ¬ SlAt v b) : Bu m b F ∧ b < m.next ∧ ¬ SlAt v' b :=
 ⟨⟨h.blk.of_get (g.2.1 b hb hs), fun j hj => by rw [← h.d j hj]; unfold jad; rw [g.2.1 b hb hs]⟩, rzO hb g.1, fun h' => (g.2.2 b h').elim hs (by omega)⟩
def seg (F : Nat → Nat) : Nat → Nat → List Nat
 | _, 0 => []
 | i, j + 1 => F i :: seg F (i + 1) j
theorem jbA (F : Nat → Nat) : ∀ j i, (seg F i j).length = j
 | 0, _ => rfl
 | j + 1, i => by rw [seg, List.length_cons, jbA F j]
theorem ze_loop {N : Nat} (hN : N ≤ 100000) : ∀ (j i : Nat), i + j = N → ∀ {X : XT} {e : Nat} {tm : T Value} {μ : Mem} {v : Value} {xs : List Nat}, Bf μ v xs → xs.length + j < 800000 → jah tm 0 = v → jah tm 113 = .int .i64 (.ofNat N) → jah tm 114 = .int .i64 (.ofNat i) →
  LpC X (e + j + 40) Tryz.f176 0 272 tm μ fun x r m => x = .exit 1 ∧ ∃ v' tm', r = ⟨272, tm', [], none⟩ ∧ jah tm' 0 = v' ∧ (∀ q, 0 < q → q < 30 → q ≠ 25 → jah tm' q = jah tm q) ∧ Bf m v' (xs ++ List.replicate j 48) ∧ Fr μ m v v' := by
 intro j
 induction j with
 | zero =>
   intro i hi X e tm μ v xs hB hx h0 hl hc
   have hi : i = N := hi
   subst hi
   have e1 : ilt (.ofNat i) (.ofNat i) = false := dF (jap _ _) (by omega)
   refine jam ?_
   repeat ((first | refine jaa rfl ?_ | refine jaj rfl ?_); (try simp only [go_sem, hl, hc, e1]); fail_if_success refine stk ?_)
   refine ⟨by trivial, v, _, rfl, by simp only [go_sem, h0], fun q h1 h2 h3 => ?_, by rw [List.replicate_zero, List.append_nil]; exact hB, Fr.refl _ _⟩
   simp only [jaq]
   repeat rw [if_neg (by omega)]
 | succ j ih =>
   intro i hi X e tm μ v xs hB hx h0 hl hc
   have e1 : ilt (.ofNat i) (.ofNat N) = true := dT (jap _ _) (by omega)
   have a1 : jak .i64 (Int.add (.ofNat i) 1) = .ofNat (i + 1) := jaT i 1 (by omega)
   obtain ⟨v1, m1, hap, hB1, hF1⟩ := hB.push 48 (by omega)
   have hap : jaM pZ ⟨μ.obs.set μ.next (.cells 1 5 #[.int .u8 48] .e 0 0 false false), Nat.add μ.next 1⟩ 54 54 v (.slice (some ⟨μ.next, 0, none⟩) 1 2) = some (v1, m1) := hap
   have hbs : ∀ r : Rg, jas pZ (aev pZ r) 54 1 #[(0, .const (.int .u8 48))] = some (.cells 1 5 #[.int .u8 48] .e 0 0 false false, fun id => .slice (some ⟨id, 0, none⟩) 1 2) := fun r => bsB r _ rfl
   refine jam ?_
   repeat ((first | refine jaa rfl ?_ | refine jaj rfl ?_); (try simp only [go_sem, h0, hl, hc, e1, hbs, hap, a1]); fail_if_success refine stk ?_)
   rw [(by omega : e + (j + 1) + 39 = e + j + 40)]
   refine rzM (ih (i + 1) (by omega) hB1 (by rw [rzX]; simp; omega) (by simp only [go_sem]) (by simp only [go_sem, hl]) (by simp only [go_sem])) ?_
   rintro x r m ⟨g1, v', tm', g2, g3, g4, g5, g6⟩
   refine ⟨g1, v', tm', g2, g3, fun q h1 h2 h3 => ?_, by rw [List.append_assoc] at g5; exact g5, hF1.trans g6⟩
   rw [g4 q h1 h2 h3]
   simp only [jaq]
   repeat rw [if_neg (by omega)]
theorem d4_loop {N : Nat} (hN : N ≤ 32) (F : Nat → Nat) : ∀ (j i : Nat), i + j = N → ∀ {X : XT} {e b : Nat} {tm : T Value} {μ : Mem} {v : Value} {xs : List Nat}, Bf μ v xs → xs.length + j < 800000 → Bu μ b F → b < μ.next → ¬ SlAt v b → jah tm 0 = v → jah tm 190 = .int .i64 (.ofNat N) → jah tm 191 = .int .i64 (.ofNat i) → jah tm 189 = .slice (some ⟨b, 0, none⟩) N 64 →
  LpC X (e + j + 40) Tryz.f176 1 272 tm μ fun x r m => x = .exit 4 ∧ ∃ v' tm', r = ⟨272, tm', [], none⟩ ∧ jah tm' 0 = v' ∧ (∀ q, 0 < q → q < 30 → q ≠ 25 → jah tm' q = jah tm q) ∧ Bf m v' (xs ++ seg F (i) j) ∧ Fr μ m v v' := by
 intro j
 induction j with
 | zero =>
   intro i hi X e b tm μ v xs hB hx hU hb hns h0 hl hc hs
   have hi : i = N := hi
   subst hi
   have e1 : ilt (.ofNat i) (.ofNat i) = false := dF (jap _ _) (by omega)
   refine jam ?_
   repeat ((first | refine jaa rfl ?_ | refine jaj rfl ?_); (try simp only [go_sem, hl, hc, e1]); fail_if_success refine stk ?_)
   refine ⟨by trivial, v, _, rfl, by simp only [go_sem, h0], fun q h1 h2 h3 => ?_, by rw [seg, List.append_nil]; exact hB, Fr.refl _ _⟩
   simp only [jaq]
   repeat rw [if_neg (by omega)]
 | succ j ih =>
   intro i hi X e b tm μ v xs hB hx hU hb hns h0 hl hc hs
   have e1 : ilt (.ofNat i) (.ofNat N) = true := dT (jap _ _) (by omega)
   have a1 : jak .i64 (Int.add (.ofNat i) 1) = .ofNat (i + 1) := jaT i 1 (by omega)
   have hd := hU.d (i) (by omega)
   have hix : ∀ r x y, aev pZ r x = .slice (some ⟨b, 0, none⟩) N 64 → aev pZ r y = .int .i64 (.ofNat i) → jal pZ (aev pZ r) 54 x y = some (.pointer (some ⟨b, i, none⟩)) := fun r x y g h => ixBs (by omega) g h
   obtain ⟨v1, m1, hap, hB1, hF1⟩ := hB.push (F (i)) (by omega)
   obtain ⟨hU1, hb1, hns1⟩ := hU.fr hF1 hb hns
   have hbs : ∀ r y, aev pZ r y = .int .u8 (.ofNat (F (i))) → jas pZ (aev pZ r) 54 1 #[(0, y)] = some (.cells 1 5 #[.int .u8 (.ofNat (F (i)))] .e 0 0 false false, fun id => .slice (some ⟨id, 0, none⟩) 1 2) := fun r y h => bsB r y h
   refine jam ?_
   repeat ((first | refine jaa rfl ?_ | refine jaj rfl ?_); (try simp only [go_sem, h0, hl, hc, hs, e1, hix, hd, hbs, hap, a1]); fail_if_success refine stk ?_)
   rw [(by omega : e + (j + 1) + 39 = e + j + 40)]
   refine rzM (ih (i + 1) (by omega) hB1 (by rw [rzX]; simp; omega) hU1 hb1 hns1 (by simp only [go_sem]) (by simp only [go_sem, hl]) (by simp only [go_sem]) (by simp only [go_sem, hs])) ?_
   rintro x r m ⟨g1, v', tm', g2, g3, g4, g5, g6⟩
   refine ⟨g1, v', tm', g2, g3, fun q h1 h2 h3 => ?_, by rw [List.append_assoc] at g5; exact g5, hF1.trans g6⟩
   rw [g4 q h1 h2 h3]
   simp only [jaq]
   repeat rw [if_neg (by omega)]
theorem z6_loop {N : Nat} (hN : N ≤ 100000) : ∀ (j i : Nat), i + j = N → ∀ {X : XT} {e : Nat} {tm : T Value} {μ : Mem} {v : Value} {xs : List Nat}, Bf μ v xs → xs.length + j < 800000 → jah tm 0 = v → jah tm 202 = .int .i64 (.ofNat N) → jah tm 203 = .int .i64 (.ofNat i) →
  LpC X (e + j + 40) Tryz.f176 2 272 tm μ fun x r m => x = .exit 6 ∧ ∃ v' tm', r = ⟨272, tm', [], none⟩ ∧ jah tm' 0 = v' ∧ (∀ q, 0 < q → q < 30 → q ≠ 25 → jah tm' q = jah tm q) ∧ Bf m v' (xs ++ List.replicate j 48) ∧ Fr μ m v v' := by
 intro j
 induction j with
 | zero =>
   intro i hi X e tm μ v xs hB hx h0 hl hc
   have hi : i = N := hi
   subst hi
   have e1 : ilt (.ofNat i) (.ofNat i) = false := dF (jap _ _) (by omega)
   refine jam ?_
   repeat ((first | refine jaa rfl ?_ | refine jaj rfl ?_); (try simp only [go_sem, hl, hc, e1]); fail_if_success refine stk ?_)
   refine ⟨by trivial, v, _, rfl, by simp only [go_sem, h0], fun q h1 h2 h3 => ?_, by rw [List.replicate_zero, List.append_nil]; exact hB, Fr.refl _ _⟩
   simp only [jaq]
   repeat rw [if_neg (by omega)]
 | succ j ih =>
   intro i hi X e tm μ v xs hB hx h0 hl hc
   have e1 : ilt (.ofNat i) (.ofNat N) = true := dT (jap _ _) (by omega)
   have a1 : jak .i64 (Int.add (.ofNat i) 1) = .ofNat (i + 1) := jaT i 1 (by omega)
   obtain ⟨v1, m1, hap, hB1, hF1⟩ := hB.push 48 (by omega)
   have hap : jaM pZ ⟨μ.obs.set μ.next (.cells 1 5 #[.int .u8 48] .e 0 0 false false), Nat.add μ.next 1⟩ 54 54 v (.slice (some ⟨μ.next, 0, none⟩) 1 2) = some (v1, m1) := hap
   have hbs : ∀ r : Rg, jas pZ (aev pZ r) 54 1 #[(0, .const (.int .u8 48))] = some (.cells 1 5 #[.int .u8 48] .e 0 0 false false, fun id => .slice (some ⟨id, 0, none⟩) 1 2) := fun r => bsB r _ rfl
   refine jam ?_
   repeat ((first | refine jaa rfl ?_ | refine jaj rfl ?_); (try simp only [go_sem, h0, hl, hc, e1, hbs, hap, a1]); fail_if_success refine stk ?_)
   rw [(by omega : e + (j + 1) + 39 = e + j + 40)]
   refine rzM (ih (i + 1) (by omega) hB1 (by rw [rzX]; simp; omega) (by simp only [go_sem]) (by simp only [go_sem, hl]) (by simp only [go_sem])) ?_
   rintro x r m ⟨g1, v', tm', g2, g3, g4, g5, g6⟩
   refine ⟨g1, v', tm', g2, g3, fun q h1 h2 h3 => ?_, by rw [List.append_assoc] at g5; exact g5, hF1.trans g6⟩
   rw [g4 q h1 h2 h3]
   simp only [jaq]
   repeat rw [if_neg (by omega)]
theorem z8_loop {N : Nat} (hN : N ≤ 100000) : ∀ (j i : Nat), i + j = N → ∀ {X : XT} {e : Nat} {tm : T Value} {μ : Mem} {v : Value} {xs : List Nat}, Bf μ v xs → xs.length + j < 800000 → jah tm 0 = v → jah tm 239 = .int .i64 (.ofNat N) → jah tm 240 = .int .i64 (.ofNat i) →
  LpC X (e + j + 40) Tryz.f176 3 272 tm μ fun x r m => x = .exit 8 ∧ ∃ v' tm', r = ⟨272, tm', [], none⟩ ∧ jah tm' 0 = v' ∧ (∀ q, 0 < q → q < 30 → q ≠ 25 → jah tm' q = jah tm q) ∧ Bf m v' (xs ++ List.replicate j 48) ∧ Fr μ m v v' := by
 intro j
 induction j with
 | zero =>
   intro i hi X e tm μ v xs hB hx h0 hl hc
   have hi : i = N := hi
   subst hi
   have e1 : ilt (.ofNat i) (.ofNat i) = false := dF (jap _ _) (by omega)
   refine jam ?_
   repeat ((first | refine jaa rfl ?_ | refine jaj rfl ?_); (try simp only [go_sem, hl, hc, e1]); fail_if_success refine stk ?_)
   refine ⟨by trivial, v, _, rfl, by simp only [go_sem, h0], fun q h1 h2 h3 => ?_, by rw [List.replicate_zero, List.append_nil]; exact hB, Fr.refl _ _⟩
   simp only [jaq]
   repeat rw [if_neg (by omega)]
 | succ j ih =>
   intro i hi X e tm μ v xs hB hx h0 hl hc
   have e1 : ilt (.ofNat i) (.ofNat N) = true := dT (jap _ _) (by omega)
   have a1 : jak .i64 (Int.add (.ofNat i) 1) = .ofNat (i + 1) := jaT i 1 (by omega)
   obtain ⟨v1, m1, hap, hB1, hF1⟩ := hB.push 48 (by omega)
   have hap : jaM pZ ⟨μ.obs.set μ.next (.cells 1 5 #[.int .u8 48] .e 0 0 false false), Nat.add μ.next 1⟩ 54 54 v (.slice (some ⟨μ.next, 0, none⟩) 1 2) = some (v1, m1) := hap
   have hbs : ∀ r : Rg, jas pZ (aev pZ r) 54 1 #[(0, .const (.int .u8 48))] = some (.cells 1 5 #[.int .u8 48] .e 0 0 false false, fun id => .slice (some ⟨id, 0, none⟩) 1 2) := fun r => bsB r _ rfl
   refine jam ?_
   repeat ((first | refine jaa rfl ?_ | refine jaj rfl ?_); (try simp only [go_sem, h0, hl, hc, e1, hbs, hap, a1]); fail_if_success refine stk ?_)
   rw [(by omega : e + (j + 1) + 39 = e + j + 40)]
   refine rzM (ih (i + 1) (by omega) hB1 (by rw [rzX]; simp; omega) (by simp only [go_sem]) (by simp only [go_sem, hl]) (by simp only [go_sem])) ?_
   rintro x r m ⟨g1, v', tm', g2, g3, g4, g5, g6⟩
   refine ⟨g1, v', tm', g2, g3, fun q h1 h2 h3 => ?_, by rw [List.append_assoc] at g5; exact g5, hF1.trans g6⟩
   rw [g4 q h1 h2 h3]
   simp only [jaq]
   repeat rw [if_neg (by omega)]
theorem d10_loop {p N b : Nat} {sv : Value} (hN : N ≤ 32) (F : Nat → Nat) (hsv : 0 < N → sv = .slice (some ⟨b, 0, none⟩) 32 64 ∧ p + N ≤ 32) : ∀ (j i : Nat), i + j = N → ∀ {X : XT} {e : Nat} {tm : T Value} {μ : Mem} {v : Value} {xs : List Nat}, Bf μ v xs → xs.length + j < 800000 → (0 < N → Bu μ b F ∧ b < μ.next ∧ ¬ SlAt v b) → jah tm 0 = v → jah tm 246 = .int .i64 (.ofNat N) → jah tm 247 = .int .i64 (.ofNat i) → jah tm 2 = sv → (0 < N → jah tm 27 = .int .i64 (.ofNat p)) →
  LpC X (e + j + 40) Tryz.f176 4 272 tm μ fun x r m => x = .exit 10 ∧ ∃ v' tm', r = ⟨272, tm', [], none⟩ ∧ jah tm' 0 = v' ∧ (∀ q, 0 < q → q < 30 → q ≠ 25 → jah tm' q = jah tm q) ∧ Bf m v' (xs ++ seg F (p + i) j) ∧ Fr μ m v v' := by
 intro j
 induction j with
 | zero =>
   intro i hi X e tm μ v xs hB hx hU h0 hl hc hs hp
   have hi : i = N := hi
   subst hi
   have e1 : ilt (.ofNat i) (.ofNat i) = false := dF (jap _ _) (by omega)
   refine jam ?_
   repeat ((first | refine jaa rfl ?_ | refine jaj rfl ?_); (try simp only [go_sem, hl, hc, e1]); fail_if_success refine stk ?_)
   refine ⟨by trivial, v, _, rfl, by simp only [go_sem, h0], fun q h1 h2 h3 => ?_, by rw [seg, List.append_nil]; exact hB, Fr.refl _ _⟩
   simp only [jaq]
   repeat rw [if_neg (by omega)]
 | succ j ih =>
   intro i hi X e tm μ v xs hB hx hU h0 hl hc hs hp
   have hN0 : 0 < N := by omega
   obtain ⟨hsv1, hpN⟩ := hsv hN0
   obtain ⟨hU0, hb, hns⟩ := hU hN0
   have hp := hp hN0
   have hs' : jah tm 2 = .slice (some ⟨b, 0, none⟩) 32 64 := hs.trans hsv1
   have e1 : ilt (.ofNat i) (.ofNat N) = true := dT (jap _ _) (by omega)
   have a1 : jak .i64 (Int.add (.ofNat i) 1) = .ofNat (i + 1) := jaT i 1 (by omega)
   have hd := hU0.d (p + i) (by omega)
   have a2 : jak .i64 (Int.add (.ofNat p) (.ofNat i)) = .ofNat (p + i) := jeO (p : Int) (i : Int) (by omega) (by omega)
   have hix : ∀ r x y, aev pZ r x = .slice (some ⟨b, 0, none⟩) 32 64 → aev pZ r y = .int .i64 (.ofNat (p + i)) → jal pZ (aev pZ r) 54 x y = some (.pointer (some ⟨b, p + i, none⟩)) := fun r x y g h => ixBs (by omega) g h
   obtain ⟨v1, m1, hap, hB1, hF1⟩ := hB.push (F (p + i)) (by omega)
   have hbs : ∀ r y, aev pZ r y = .int .u8 (.ofNat (F (p + i))) → jas pZ (aev pZ r) 54 1 #[(0, y)] = some (.cells 1 5 #[.int .u8 (.ofNat (F (p + i)))] .e 0 0 false false, fun id => .slice (some ⟨id, 0, none⟩) 1 2) := fun r y h => bsB r y h
   refine jam ?_
   repeat ((first | refine jaa rfl ?_ | refine jaj rfl ?_); (try simp only [go_sem, h0, hl, hc, hs', hp, e1, a2, hix, hd, hbs, hap, a1]); fail_if_success refine stk ?_)
   rw [(by omega : e + (j + 1) + 39 = e + j + 40)]
   refine rzM (ih (i + 1) (by omega) hB1 (by rw [rzX]; simp; omega) (fun _ => hU0.fr hF1 hb hns) (by simp only [go_sem]) (by simp only [go_sem, hl]) (by simp only [go_sem]) (by simp only [go_sem]; exact hs) (fun _ => by simp only [go_sem, hp])) ?_
   rintro x r m ⟨g1, v', tm', g2, g3, g4, g5, g6⟩
   refine ⟨g1, v', tm', g2, g3, fun q h1 h2 h3 => ?_, by rw [List.append_assoc] at g5; exact g5, hF1.trans g6⟩
   rw [g4 q h1 h2 h3]
   simp only [jaq]
   repeat rw [if_neg (by omega)]
theorem z12_loop {N : Nat} (hN : N ≤ 100000) : ∀ (j i : Nat), i + j = N → ∀ {X : XT} {e : Nat} {tm : T Value} {μ : Mem} {v : Value} {xs : List Nat}, Bf μ v xs → xs.length + j < 800000 → jah tm 0 = v → jah tm 260 = .int .i64 (.ofNat N) → jah tm 261 = .int .i64 (.ofNat i) →
  LpC X (e + j + 40) Tryz.f176 5 272 tm μ fun x r m => x = .exit 12 ∧ ∃ v' tm', r = ⟨272, tm', [], none⟩ ∧ jah tm' 0 = v' ∧ (∀ q, 0 < q → q < 30 → q ≠ 25 → jah tm' q = jah tm q) ∧ Bf m v' (xs ++ List.replicate j 48) ∧ Fr μ m v v' := by
 intro j
 induction j with
 | zero =>
   intro i hi X e tm μ v xs hB hx h0 hl hc
   have hi : i = N := hi
   subst hi
   have e1 : ilt (.ofNat i) (.ofNat i) = false := dF (jap _ _) (by omega)
   refine jam ?_
   repeat ((first | refine jaa rfl ?_ | refine jaj rfl ?_); (try simp only [go_sem, hl, hc, e1]); fail_if_success refine stk ?_)
   refine ⟨by trivial, v, _, rfl, by simp only [go_sem, h0], fun q h1 h2 h3 => ?_, by rw [List.replicate_zero, List.append_nil]; exact hB, Fr.refl _ _⟩
   simp only [jaq]
   repeat rw [if_neg (by omega)]
 | succ j ih =>
   intro i hi X e tm μ v xs hB hx h0 hl hc
   have e1 : ilt (.ofNat i) (.ofNat N) = true := dT (jap _ _) (by omega)
   have a1 : jak .i64 (Int.add (.ofNat i) 1) = .ofNat (i + 1) := jaT i 1 (by omega)
   obtain ⟨v1, m1, hap, hB1, hF1⟩ := hB.push 48 (by omega)
   have hap : jaM pZ ⟨μ.obs.set μ.next (.cells 1 5 #[.int .u8 48] .e 0 0 false false), Nat.add μ.next 1⟩ 54 54 v (.slice (some ⟨μ.next, 0, none⟩) 1 2) = some (v1, m1) := hap
   have hbs : ∀ r : Rg, jas pZ (aev pZ r) 54 1 #[(0, .const (.int .u8 48))] = some (.cells 1 5 #[.int .u8 48] .e 0 0 false false, fun id => .slice (some ⟨id, 0, none⟩) 1 2) := fun r => bsB r _ rfl
   refine jam ?_
   repeat ((first | refine jaa rfl ?_ | refine jaj rfl ?_); (try simp only [go_sem, h0, hl, hc, e1, hbs, hap, a1]); fail_if_success refine stk ?_)
   rw [(by omega : e + (j + 1) + 39 = e + j + 40)]
   refine rzM (ih (i + 1) (by omega) hB1 (by rw [rzX]; simp; omega) (by simp only [go_sem]) (by simp only [go_sem, hl]) (by simp only [go_sem])) ?_
   rintro x r m ⟨g1, v', tm', g2, g3, g4, g5, g6⟩
   refine ⟨g1, v', tm', g2, g3, fun q h1 h2 h3 => ?_, by rw [List.append_assoc] at g5; exact g5, hF1.trans g6⟩
   rw [g4 q h1 h2 h3]
   simp only [jaq]
   repeat rw [if_neg (by omega)]
def StF (sv : Value) (dp prec : Int) (nd : Nat) (μ : Mem) (v : Value) (ys : List Nat) (x : Ax) (r : Rg) (m : Mem) : Prop := x = .normal ∧ ∃ v' tm', r = ⟨272, tm', [], none⟩ ∧ jah tm' 0 = v' ∧ jah tm' 2 = sv ∧ jah tm' 3 = .int .i64 dp ∧ jah tm' 4 = .int .i64 (.ofNat nd) ∧ jah tm' 5 = .int .i64 prec ∧ Bf m v' ys ∧ Fr μ m v v'
theorem frac (dp prec : Int) (nd : Nat) (hnd : nd ≤ 20) (h1 : -1000 ≤ dp) (h2 : dp ≤ 1000) (h3 : 0 < prec) (h4 : prec ≤ 2000) : ∃ (z d e p' : Nat) (mz p pz ndp mx pzd : Int), (if -dp > 0 then -dp else 0) = mz ∧ (if mz < prec then mz else prec) = .ofNat z ∧ jak .i64 (Int.add dp (.ofNat z)) = p ∧ jak .i64 (Int.sub prec (.ofNat z)) = pz ∧ jak .i64 (Int.sub (.ofNat nd) p) = ndp ∧ (if ndp > 0 then ndp else 0) = mx ∧ (if mx < pz then mx else pz) = .ofNat d ∧ jak .i64 (Int.sub pz (.ofNat d)) = pzd ∧ (if pzd > 0 then pzd else 0) = .ofNat e ∧
  (0 < d → p = .ofNat p' ∧ p' + d ≤ nd) ∧ z ≤ 2000 ∧ d ≤ 2000 ∧ e ≤ 2000 := by
 obtain ⟨mz, hmz⟩ := eqx ((if -dp > 0 then -dp else 0) : Int)
 have b1 : 0 ≤ mz ∧ mz ≤ 1000 ∧ (mz = -dp ∨ (mz = 0 ∧ 0 ≤ dp)) := by split at hmz <;> omega
 obtain ⟨zi, hzi⟩ := eqx ((if mz < prec then mz else prec) : Int)
 have b2 : 0 ≤ zi ∧ zi ≤ prec ∧ zi ≤ mz ∧ (zi = mz ∨ zi = prec) := by split at hzi <;> omega
 obtain ⟨z, rfl⟩ := Int.eq_ofNat_of_zero_le b2.1
 have c1 : jak .i64 (Int.add dp (.ofNat z)) = dp + (z : Int) := jeO dp (z : Int) (by omega) (by omega)
 have c2 : jak .i64 (Int.sub prec (.ofNat z)) = prec - (z : Int) := jdO prec (z : Int) (by omega) (by omega)
 obtain ⟨p, hp⟩ := exq (dp + (z : Int))
 obtain ⟨pz, hpz⟩ := exq (prec - (z : Int))
 have c3 : jak .i64 (Int.sub (.ofNat nd) p) = (nd : Int) - p := jdO (nd : Int) p (by omega) (by omega)
 obtain ⟨ndp, hndp⟩ := exq ((nd : Int) - p)
 obtain ⟨mx, hmx⟩ := eqx ((if ndp > 0 then ndp else 0) : Int)
 have b3 : 0 ≤ mx ∧ (mx = ndp ∨ mx = 0) := by split at hmx <;> omega
 obtain ⟨di, hdi⟩ := eqx ((if mx < pz then mx else pz) : Int)
 have b4 : 0 ≤ di ∧ di ≤ mx ∧ di ≤ pz := by split at hdi <;> omega
 obtain ⟨d, rfl⟩ := Int.eq_ofNat_of_zero_le b4.1
 have c4 : jak .i64 (Int.sub pz (.ofNat d)) = pz - (d : Int) := jdO pz (d : Int) (by omega) (by omega)
 obtain ⟨pzd, hpzd⟩ := exq (pz - (d : Int))
 obtain ⟨ei, hei⟩ := eqx ((if pzd > 0 then pzd else 0) : Int)
 have b5 : 0 ≤ ei ∧ ei ≤ 2000 := by split at hei <;> omega
 obtain ⟨e, rfl⟩ := Int.eq_ofNat_of_zero_le b5.1
 have hpn : 0 < d → 0 ≤ p ∧ p + d ≤ nd := fun hd => by omega
 refine ⟨z, d, e, p.toNat, mz, p, pz, ndp, mx, pzd, hmz, hzi, by rw [c1, hp], by rw [c2, hpz], by rw [c3, hndp], hmx, hdi, by rw [c4, hpzd], hei, fun hd => ⟨?_, ?_⟩, by omega, by omega, by omega⟩
 ·have := (hpn hd).1
  show p = ((p.toNat : Nat) : Int)
  omega
 ·have := hpn hd
  omega
theorem efgF_ex (neg : Bool) (F : Nat → Nat) (nd : Nat) (dp prec : Int) (hnd : nd ≤ 20) (h1 : -1000 ≤ dp) (h2 : dp ≤ 1000) (h3 : -1000 ≤ prec) (h4 : prec ≤ 2000) : ∃ s : List Nat, s.length ≤ 9000 ∧ ∀ {X : XT} {g b : Nat} {μ : Mem} {v sv : Value} {xs : List Nat}, (0 < nd ∨ 0 < dp → sv = .slice (some ⟨b, 0, none⟩) 32 64 ∧ Bu μ b F ∧ b < μ.next ∧ ¬ SlAt v b) → Bf μ v xs → xs.length ≤ 1000 → 9000 ≤ g →
  ∃ v' μ', aFun pZ (jai pZ X S0 g) 176 [v, .bool neg, sv, .int .i64 dp, .int .i64 (.ofNat nd), .int .i64 prec, .int .u8 102, .bool true] μ = some (v', μ') ∧ Bf μ' v' (xs ++ s) ∧ Fr μ μ' v v' := by
 obtain ⟨sg, hsg⟩ := exq (if neg = true then [45] else [] : List Nat)
 have lsg : sg.length ≤ 1 := by rw [hsg]; split <;> simp
 obtain ⟨m, hm1, hm2, hm3⟩ : ∃ m : Nat, (0 < dp → (if dp < Int.ofNat nd then dp else Int.ofNat nd) = .ofNat m) ∧ m ≤ nd ∧ (0 < dp → (m : Int) ≤ dp) := by
  by_cases h : 0 < dp
  ·by_cases h' : dp < Int.ofNat nd
   ·refine ⟨dp.toNat, fun _ => ?_, ?_, fun _ => by omega⟩
    ·rw [if_pos h']; show dp = ((dp.toNat : Nat) : Int); omega
    ·have : dp < (nd : Int) := h'
     omega
   ·have h'' : ¬ dp < (nd : Int) := h'
    exact ⟨nd, fun _ => by rw [if_neg h'], rzN _, fun _ => by omega⟩
  ·exact ⟨0, fun h' => absurd h' h, rzY _, fun h' => absurd h' h⟩
 obtain ⟨ip, hip⟩ := exq (if 0 < dp then seg F 0 m ++ List.replicate (dp.toNat - m) 48 else [48] : List Nat)
 have lip : ip.length ≤ 1100 := by rw [hip]; split <;> simp [jbA] <;> omega
 have hfr : ∃ (fp : List Nat) (z d e p' : Nat) (mz p pz ndp mx pzd : Int), fp.length ≤ 6100 ∧ (¬ 0 < prec → fp = []) ∧ (0 < prec → fp = [46] ++ List.replicate z 48 ++ seg F p' d ++ List.replicate e 48 ∧ (if -dp > 0 then -dp else 0) = mz ∧ (if mz < prec then mz else prec) = .ofNat z ∧ jak .i64 (Int.add dp (.ofNat z)) = p ∧ jak .i64 (Int.sub prec (.ofNat z)) = pz ∧ jak .i64 (Int.sub (.ofNat nd) p) = ndp ∧ (if ndp > 0 then ndp else 0) = mx ∧ (if mx < pz then mx else pz) = .ofNat d ∧ jak .i64 (Int.sub pz (.ofNat d)) = pzd ∧ (if pzd > 0 then pzd else 0) = .ofNat e ∧
  (0 < d → p = .ofNat p' ∧ p' + d ≤ nd) ∧ z ≤ 2000 ∧ d ≤ 2000 ∧ e ≤ 2000) := by
  by_cases h : 0 < prec
  ·obtain ⟨z, d, e, p', mz, p, pz, ndp, mx, pzd, q1, q2, q3, q4, q5, q6, q7, q8, q9, q10, q11, q12, q13⟩ := frac dp prec nd hnd h1 h2 h h4
   exact ⟨_, z, d, e, p', mz, p, pz, ndp, mx, pzd, by simp [jbA]; omega, fun h' => absurd h h', fun _ => ⟨rfl, q1, q2, q3, q4, q5, q6, q7, q8, q9, q10, q11, q12, q13⟩⟩
  ·exact ⟨[], 0, 0, 0, 0, 0, 0, 0, 0, 0, 0, rzY _, fun _ => rfl, fun h' => absurd h' h⟩
 obtain ⟨fp, z, d, e, p', mz, p, pz, ndp, mx, pzd, lfp, hf0, hf1⟩ := hfr
 refine ⟨sg ++ ip ++ fp, by simp only [rzX]; omega, fun {X g b μ v sv xs} hU hB hx hg => ?_⟩
 obtain ⟨k, rfl⟩ := gle hg
 have e1 : ieq 102 103 = false := rfl
 have e2 : ieq 102 71 = false := rfl
 have e3 : ieq 102 101 = false := rfl
 have e4 : ieq 102 69 = false := rfl
 have e5 : ieq 102 102 = true := rfl
 have key : EndsF (aFun pZ (jai pZ X S0 (k + 9000)) 176 [v, .bool neg, sv, .int .i64 dp, .int .i64 (.ofNat nd), .int .i64 prec, .int .u8 102, .bool true] μ) fun v' μ' => Bf μ' v' (xs ++ (sg ++ ip ++ fp)) ∧ Fr μ μ' v v' := by
  refine jac Tryz.func176 rfl rfl (nbl rfl) ?_
  simp only [go_sem, Tryz.ntmps176]
  repeat ((first | refine jaa rfl ?_ | refine jaj rfl ?_); (try simp only [go_sem, e1, e2, e3, e4, e5]); fail_if_success refine stk ?_)
  refine rzM (?_ : EndsC _ (StF sv dp prec nd μ v (xs ++ sg))) ?_
  ·obtain ⟨v1, m1, hap, hB1, hF1⟩ := hB.push 45 (by omega)
   have hap : jaM pZ ⟨μ.obs.set μ.next (.cells 1 5 #[.int .u8 45] .e 0 0 false false), Nat.add μ.next 1⟩ 54 54 v (.slice (some ⟨μ.next, 0, none⟩) 1 2) = some (v1, m1) := hap
   have hbs : ∀ r : Rg, jas pZ (aev pZ r) 54 1 #[(0, .const (.int .u8 45))] = some (.cells 1 5 #[.int .u8 45] .e 0 0 false false, fun id => .slice (some ⟨id, 0, none⟩) 1 2) := fun r => bsB r _ rfl
   cases neg with
   | true =>
     rw [if_pos rfl] at hsg
     rw [hsg]
     repeat ((first | refine jaa rfl ?_ | refine jaj rfl ?_); (try simp only [go_sem, hbs, hap]); fail_if_success refine stk ?_)
     exact ⟨by trivial, v1, _, rfl, by simp only [go_sem], by simp only [go_sem], by simp only [go_sem], by simp only [go_sem], by simp only [go_sem], hB1, hF1⟩
   | false =>
     rw [if_neg (by decide)] at hsg
     rw [hsg]
     repeat ((first | refine jaa rfl ?_ | refine jaj rfl ?_); (try simp only [go_sem]); fail_if_success refine stk ?_)
     exact ⟨by trivial, v, _, rfl, by simp only [go_sem], by simp only [go_sem], by simp only [go_sem], by simp only [go_sem], by simp only [go_sem], by simpa using hB, Fr.refl _ _⟩
  rintro x r μ1 ⟨rfl, v1, tm1, rfl, z0, z2, z3, z4, z5, B1, F1⟩
  have hU1 : 0 < nd ∨ 0 < dp → Bu μ1 b F ∧ b < μ1.next ∧ ¬ SlAt v1 b := fun h => (hU h).2.1.fr F1 (hU h).2.2.1 (hU h).2.2.2
  have hx1 : (xs ++ sg).length ≤ 1100 := by rw [rzX]; omega
  simp only [jag]
  have e6 : ilt 0 dp = decide (0 < dp) := jfo _ _
  repeat ((first | refine jaa rfl ?_ | refine jaj rfl ?_); (try simp only [go_sem, z3, e6]); fail_if_success refine stk ?_)
  refine rzM (?_ : EndsC _ (StF sv dp prec nd μ1 v1 (xs ++ sg ++ ip))) ?_
  ·by_cases hdp : 0 < dp
   ·have e7 : decide (0 < dp) = true := rzU hdp
    rw [if_pos hdp] at hip
    have hnd0 : 0 < nd ∨ 0 < dp := .inr hdp
    obtain ⟨hU2, hb2, hs2⟩ := hU1 hnd0
    have hsv := (hU hnd0).1
    have z2' : jah tm1 2 = .slice (some ⟨b, 0, none⟩) 32 64 := z2.trans hsv
    have hm := hm1 hdp
    have hmd := hm3 hdp
    have hsl : ∀ r x y, aev pZ r x = .slice (some ⟨b, 0, none⟩) 32 64 → aev pZ r y = .int .i64 (.ofNat m) → jaJ pZ (aev pZ r) 54 x none (some y) none = some (.slice (some ⟨b, 0, none⟩) m 64) := fun r x y g h => jfY (c := 32) (i := m) Tryz.underlying54 i_u8 g h (by omega)
    have lm : aLen pZ 54 (.slice (some ⟨b, 0, none⟩) m 64) = some m := lenBs
    have q1 : jak .i64 (Int.sub dp (.ofNat m)) = .ofNat (dp.toNat - m) := by
     have h := jdO dp (m : Int) (by omega) (by omega)
     rw [(by omega : dp - (m : Int) = ((dp.toNat - m : Nat) : Int))] at h
     exact h
    repeat ((first | refine jaa rfl ?_ | refine jaj rfl ?_); (try simp only [go_sem, z2', z3, z4, e7, hm, hsl, lm, jao]); fail_if_success refine stk ?_)
    rw [(by omega : k + 8983 = (k + 8943 - m) + m + 40)]
    refine rzM (d4_loop (N := m) (by omega) F m 0 (rzT _) B1 (by omega) hU2 hb2 hs2 (by simp only [go_sem, z0]) (by simp only [go_sem]) (by simp only [go_sem]; try rfl) (by simp only [go_sem])) ?_
    rintro x r μ2 ⟨rfl, v2, tm2, rfl, y0, yk, B2, F2⟩
    have y3 : jah tm2 3 = .int .i64 dp := by rw [yk 3 (by decide) (by decide) (by decide)]; simp only [go_sem, z3]
    have y23 : jah tm2 23 = .int .i64 (.ofNat m) := by rw [yk 23 (by decide) (by decide) (by decide)]; simp only [go_sem]
    have y2 : jah tm2 2 = sv := by rw [yk 2 (by decide) (by decide) (by decide)]; simp only [go_sem, z2]
    have y4 : jah tm2 4 = .int .i64 (.ofNat nd) := by rw [yk 4 (by decide) (by decide) (by decide)]; simp only [go_sem, z4]
    have y5 : jah tm2 5 = .int .i64 prec := by rw [yk 5 (by decide) (by decide) (by decide)]; simp only [go_sem, z5]
    simp only [go_sem]
    repeat ((first | refine jaa rfl ?_ | refine jaj rfl ?_); (try simp only [go_sem, y3, y23, q1]); fail_if_success refine stk ?_)
    rw [(by omega : k + 8983 = (k + 8943 - (dp.toNat - m)) + (dp.toNat - m) + 40)]
    refine rzM (z6_loop (N := dp.toNat - m) (by omega) (dp.toNat - m) 0 (rzT _) B2 (by rw [rzX, jbA]; omega) (by simp only [go_sem, y0]) (by simp only [go_sem]) (by simp only [go_sem]; try rfl)) ?_
    rintro x r μ3 ⟨rfl, v3, tm3, rfl, w0, wk, B3, F3⟩
    have w2 : jah tm3 2 = sv := by rw [wk 2 (by decide) (by decide) (by decide)]; simp only [go_sem, y2]
    have w3 : jah tm3 3 = .int .i64 dp := by rw [wk 3 (by decide) (by decide) (by decide)]; simp only [go_sem, y3]
    have w4 : jah tm3 4 = .int .i64 (.ofNat nd) := by rw [wk 4 (by decide) (by decide) (by decide)]; simp only [go_sem, y4]
    have w5 : jah tm3 5 = .int .i64 prec := by rw [wk 5 (by decide) (by decide) (by decide)]; simp only [go_sem, y5]
    simp only [jbI, reduceIte]
    exact ⟨by trivial, v3, tm3, rfl, w0, w2, w3, w4, w5, by rw [hip, ← List.append_assoc]; exact B3, F2.trans F3⟩
   ·have e7 : decide (0 < dp) = false := rzV hdp
    rw [if_neg hdp] at hip
    obtain ⟨v2, m2, hap, hB2, hF2⟩ := B1.push 48 (by omega)
    have hap : jaM pZ ⟨μ1.obs.set μ1.next (.cells 1 5 #[.int .u8 48] .e 0 0 false false), Nat.add μ1.next 1⟩ 54 54 v1 (.slice (some ⟨μ1.next, 0, none⟩) 1 2) = some (v2, m2) := hap
    have hbs : ∀ r : Rg, jas pZ (aev pZ r) 54 1 #[(0, .const (.int .u8 48))] = some (.cells 1 5 #[.int .u8 48] .e 0 0 false false, fun id => .slice (some ⟨id, 0, none⟩) 1 2) := fun r => bsB r _ rfl
    repeat ((first | refine jaa rfl ?_ | refine jaj rfl ?_); (try simp only [go_sem, z0, e7, hbs, hap]); fail_if_success refine stk ?_)
    exact ⟨by trivial, v2, _, rfl, by simp only [go_sem], by simp only [go_sem, z2], by simp only [go_sem, z3], by simp only [go_sem, z4], by simp only [go_sem, z5], by rw [hip]; exact hB2, hF2⟩
  rintro x r μ4 ⟨rfl, v4, tm4, rfl, t0, t2, t3, t4, t5, B4, F4⟩
  have hU4 : 0 < nd ∨ 0 < dp → Bu μ4 b F ∧ b < μ4.next ∧ ¬ SlAt v4 b := fun h => (hU1 h).1.fr F4 (hU1 h).2.1 (hU1 h).2.2
  have hx4 : (xs ++ sg ++ ip).length ≤ 2200 := by rw [rzX]; omega
  have F04 := F1.trans F4
  simp only [jag]
  have e8 : ilt 0 prec = decide (0 < prec) := jfo _ _
  by_cases hpr : 0 < prec
  ·have e9 : decide (0 < prec) = true := rzU hpr
   obtain ⟨hfp, q1, q2, q3, q4, q5, q6, q7, q8, q9, q10, lz, ld, le⟩ := hf1 hpr
   have np : ∀ (ρ : Operand → Value) (d : Option Tmp) (t ty : TypeId) (a : Operand) (ps : String) (af : Array Edge) (gd : Option (Nat × Bool)), ρ a = .int .i64 dp → jaC pZ ρ ⟨d, .unOp .neg t a, ty, ps, af, gd⟩ = some (.int .i64 (-dp)) := fun ρ d t ty a ps af gd h => jce h (by omega) (by omega)
   obtain ⟨v5, m5, hap, hB5, hF5⟩ := B4.push 46 (by omega)
   have hap : jaM pZ ⟨μ4.obs.set μ4.next (.cells 1 5 #[.int .u8 46] .e 0 0 false false), Nat.add μ4.next 1⟩ 54 54 v4 (.slice (some ⟨μ4.next, 0, none⟩) 1 2) = some (v5, m5) := hap
   have hbs : ∀ r : Rg, jas pZ (aev pZ r) 54 1 #[(0, .const (.int .u8 46))] = some (.cells 1 5 #[.int .u8 46] .e 0 0 false false, fun id => .slice (some ⟨id, 0, none⟩) 1 2) := fun r => bsB r _ rfl
   repeat ((first | refine jaa rfl ?_ | refine jaj rfl ?_); (try simp only [go_sem, t0, t3, t4, t5, e8, e9, hbs, hap, np, q1, q2, q3, q4, q5, q6, q7, q8, q9]); fail_if_success refine stk ?_)
   rw [(by omega : k + 8978 = (k + 8938 - z) + z + 40)]
   refine rzM (z8_loop (N := z) (by omega) z 0 (rzT _) hB5 (by rw [rzX]; simp; omega) (by simp only [go_sem]) (by simp only [go_sem]) (by simp only [go_sem]; try rfl)) ?_
   rintro x r μ6 ⟨rfl, v6, tm6, rfl, y0, yk, B6, F6⟩
   have y2 : jah tm6 2 = sv := by rw [yk 2 (by decide) (by decide) (by decide)]; simp only [go_sem, t2]
   have y27 : jah tm6 27 = .int .i64 p := by rw [yk 27 (by decide) (by decide) (by decide)]; simp only [go_sem]
   have y28 : jah tm6 28 = .int .i64 (.ofNat d) := by rw [yk 28 (by decide) (by decide) (by decide)]; simp only [go_sem]
   have y29 : jah tm6 29 = .int .i64 (.ofNat e) := by rw [yk 29 (by decide) (by decide) (by decide)]; simp only [go_sem]
   simp only [go_sem]
   have hU6 : 0 < d → Bu μ6 b F ∧ b < μ6.next ∧ ¬ SlAt v6 b := fun h => by
    have hnd0 : 0 < nd ∨ 0 < dp := .inl (by have := (q10 h).2; omega)
    exact (hU4 hnd0).1.fr (hF5.trans F6) (hU4 hnd0).2.1 (hU4 hnd0).2.2
   have hsv6 : 0 < d → sv = .slice (some ⟨b, 0, none⟩) 32 64 ∧ p' + d ≤ 32 := fun h => by
    have h10 := (q10 h).2
    exact ⟨(hU (by omega)).1, by omega⟩
   have hd32 : d ≤ 32 := by
    rcases Nat.eq_zero_or_pos d with h | h
    ·omega
    ·have := (q10 h).2; omega
   repeat ((first | refine jaa rfl ?_ | refine jaj rfl ?_); (try simp only [go_sem, y28]); fail_if_success refine stk ?_)
   rw [(by omega : k + 8977 = (k + 8937 - d) + d + 40)]
   refine rzM (d10_loop (p := p') (N := d) (sv := sv) hd32 F hsv6 d 0 (rzT _) B6 (by simp only [rzX, List.length_replicate, List.length_cons, List.length_nil] at hx4 ⊢; omega) hU6 (by simp only [go_sem, y0]) (by simp only [go_sem]) (by simp only [go_sem]; try rfl) (by simp only [go_sem, y2]) (fun h => by simp only [go_sem, y27]; rw [(q10 h).1])) ?_
   rintro x r μ7 ⟨rfl, v7, tm7, rfl, w0, wk, B7, F7⟩
   have w29 : jah tm7 29 = .int .i64 (.ofNat e) := by rw [wk 29 (by decide) (by decide) (by decide)]; simp only [go_sem, y29]
   simp only [go_sem]
   repeat ((first | refine jaa rfl ?_ | refine jaj rfl ?_); (try simp only [go_sem, w29]); fail_if_success refine stk ?_)
   rw [(by omega : k + 8977 = (k + 8937 - e) + e + 40)]
   refine rzM (z12_loop (N := e) (by omega) e 0 (rzT _) B7 (by simp only [rzX, List.length_replicate, List.length_cons, List.length_nil, jbA] at hx4 ⊢; omega) (by simp only [go_sem, w0]) (by simp only [go_sem]) (by simp only [go_sem]; try rfl)) ?_
   rintro x r μ8 ⟨rfl, v8, tm8, rfl, u0, uk, B8, F8⟩
   simp only [go_sem]
   repeat ((first | refine jaa rfl ?_ | refine jaj rfl ?_); (try simp only [go_sem, u0]); fail_if_success refine stk ?_)
   refine jae ?_
   refine ⟨rfl, v8, ?_, ?_, F04.trans (((hF5.trans F6).trans F7).trans F8)⟩
   ·skip
    simp only [go_sem, Tryz.results176]
   ·rw [hfp]
    simpa only [List.append_assoc, Nat.add_zero] using B8
  ·have e9 : decide (0 < prec) = false := rzV hpr
   have hfp := hf0 hpr
   repeat ((first | refine jaa rfl ?_ | refine jaj rfl ?_); (try simp only [go_sem, t0, t5, e8, e9]); fail_if_success refine stk ?_)
   refine jae ?_
   refine ⟨rfl, v4, ?_, by rw [hfp, List.append_nil, ← List.append_assoc]; exact B4, F04⟩
   simp only [go_sem, Tryz.results176]
 obtain ⟨v', μ', h1, h2, h3⟩ := key
 exact ⟨v', μ', h1, h2, h3⟩
theorem src_new {μ : Mem} {q n c : Nat} {ys : List Value} {t : TypeId} (h : μ.obs.get q = some (.cells ys.length t ys.toArray .e 0 0 false false)) (hn : n = ys.length) (h0 : 0 < n) : jaU μ 1 n (.slice (some ⟨q, 0, none⟩) n c) = some ys := by
 unfold jaU
 obtain ⟨k, hk⟩ : ∃ k, n = k + 1 := ⟨n - 1, by omega⟩
 have e0 : Nat.mul n 1 = k + 1 := by rw [hk]; exact Nat.mul_one _
 have hb : Nat.ble (Nat.add 0 (k + 1)) ys.length = true := rzP (by show 0 + (k + 1) ≤ _; omega)
 have hc : jat ys.toArray .e 0 (k + 1) = ys := jbe _ _ _ (by omega) (fun j hj => by rw [rzT]; exact ja3 ys j hj)
 simp only [e0, h, hb, hc]
theorem Bf.pushL {μ : Mem} {v : Value} {xs ys : List Nat} {n c : Nat} (h : Bf μ v xs) (hy : n = ys.length) (h0 : 0 < n) (hn : xs.length + n < 900000) : ∃ v' μ', jaM pZ ⟨μ.obs.set μ.next (.cells (vB ys).length 5 (vB ys).toArray .e 0 0 false false), Nat.add μ.next 1⟩ 54 54 v (.slice (some ⟨μ.next, 0, none⟩) n c) = some (v', μ') ∧ Bf μ' v' (xs ++ ys) ∧ Fr μ μ' v v' := by
 have g := jbc μ (.cells (vB ys).length 5 (vB ys).toArray .e 0 0 false false)
 obtain ⟨v', μ', h1, h2, h3⟩ := (h.grow g).app (xt := 54) (x := .slice (some ⟨μ.next, 0, none⟩) n c) (ys := ys) (by rw [Tryz.underlying54]) (by rw [hy]; rfl) (by rw [← hy]; exact src_new (t := 5) (by show T.get _ _ = _; rw [T.get_set, if_pos rfl]) (by rw [jby]; exact hy) h0) (by omega)
 exact ⟨v', μ', h1, h2, (Fr.of_grow v g).trans h3⟩
theorem bsB2 (ρ : Operand → Value) (a b : Operand) (x y : Int) (ha : ρ a = .int .u8 x) (hb : ρ b = .int .u8 y) : jas pZ ρ 54 2 #[(0, a), (1, b)] = some (.cells 2 5 #[.int .u8 x, .int .u8 y] .e 0 0 false false, fun id => .slice (some ⟨id, 0, none⟩) 2 4) := by
 unfold jas
 simp only [Tryz.underlying54, i_u8, z_u8]
 show (match jcC _ _ [(0, ρ a), (1, ρ b)] with | some cs => _ | none => _) = _
 rw [ha, hb]
 rfl
theorem bsB3 (ρ : Operand → Value) (a b c : Operand) (x y z : Int) (ha : ρ a = .int .u8 x) (hb : ρ b = .int .u8 y) (hc : ρ c = .int .u8 z) : jas pZ ρ 54 3 #[(0, a), (1, b), (2, c)] = some (.cells 3 5 #[.int .u8 x, .int .u8 y, .int .u8 z] .e 0 0 false false, fun id => .slice (some ⟨id, 0, none⟩) 3 6) := by
 unfold jas
 simp only [Tryz.underlying54, i_u8, z_u8]
 show (match jcC _ _ [(0, ρ a), (1, ρ b), (2, ρ c)] with | some cs => _ | none => _) = _
 rw [ha, hb, hc]
 rfl
theorem Bu.src {μ : Mem} {b o n c : Nat} {F : Nat → Nat} (h : Bu μ b F) (hn : o + n ≤ 32) (h0 : 0 < n) : jaU μ 1 n (.slice (some ⟨b, o, none⟩) n c) = some (vB (seg F o n)) := by
 obtain ⟨z, ov, fx, sh, hz⟩ := h.blk
 unfold jaU
 obtain ⟨k, hk⟩ : ∃ k, n = k + 1 := ⟨n - 1, by omega⟩
 have e0 : Nat.mul n 1 = k + 1 := by rw [hk]; exact Nat.mul_one _
 have hb : Nat.ble (Nat.add o (k + 1)) 32 = true := rzP (by show o + (k + 1) ≤ 32; omega)
 have at_ : ∀ j, j < 32 → cellAt z ov j = .int .u8 (.ofNat (F j)) := fun j hj => by
  have := h.d j hj
  unfold jad at this
  rw [hz] at this
  simp only [jbk] at this
  rw [if_pos hj] at this
  simpa using this
 have seg_at : ∀ (m o j : Nat) (hj : j < (vB (seg F o m)).length), (vB (seg F o m))[j] = .int .u8 (.ofNat (F (o + j))) := by
  intro m
  induction m with
  | zero => intro o j hj; simp [vB, seg] at hj
  | succ m ih =>
    intro o j hj
    cases j with
    | zero => rfl
    | succ j =>
      have := ih (o + 1) j (by simpa [vB, seg] using hj)
      rw [show o + (j + 1) = o + 1 + j from by omega, ← this]
      rfl
 have hc : jat z ov o (k + 1) = vB (seg F o n) := jbe _ _ _ (by rw [jby, jbA]; omega) (fun j hj => by
  rw [seg_at n o j hj]
  exact at_ _ (by rw [jby, jbA] at hj; omega))
 simp only [e0, hz, hb, hc]
theorem jiS (n : Int) : jay pZ 3 5 (.int .i64 n) = some (.int .u8 (jak .u8 n)) := by
 simp only [jay, Tryz.underlying3, Tryz.underlying5]
theorem add8 {a : Nat} (h : a + 48 < 256) : jak .u8 (Int.add (.ofNat a) 48) = .ofNat (a + 48) := qu8 (a + 48) h
theorem d64i {a k : Nat} (h : a < 9223372036854775808) : aDiv false .i64 .i64 (.ofNat a) (.ofNat (k + 1)) = some (.int .i64 (.ofNat (a / (k + 1)))) := by
 show some (Value.int .i64 (jak .i64 (.ofNat (a / (k + 1))))) = _
 rw [q64 _ (Nat.lt_of_le_of_lt (Nat.div_le_self _ _) h)]
theorem r64i {a k : Nat} : aDiv true .i64 .i64 (.ofNat a) (.ofNat (k + 1)) = some (.int .i64 (.ofNat (a % (k + 1)))) := rfl
theorem r8i {a k : Nat} : aDiv true .u8 .u8 (.ofNat a) (.ofNat (k + 1)) = some (.int .u8 (.ofNat (a % (k + 1)))) := rfl
def StE (sv : Value) (dp prec : Int) (nd : Nat) (μ : Mem) (v : Value) (ys : List Nat) (x : Ax) (r : Rg) (m : Mem) : Prop := x = .normal ∧ ∃ v' tm', r = ⟨272, tm', [], none⟩ ∧ jah tm' 0 = v' ∧ jah tm' 2 = sv ∧ jah tm' 3 = .int .i64 dp ∧ jah tm' 4 = .int .i64 (.ofNat nd) ∧ jah tm' 5 = .int .i64 prec ∧ jah tm' 6 = .int .u8 101 ∧ Bf m v' ys ∧ Fr μ m v v'
def edig (en : Nat) : List Nat := if en < 10 then [48, en + 48] else if en < 100 then [en / 10 + 48, en % 10 + 48] else [en / 100 + 48, en / 10 % 10 + 48, en % 10 + 48]
theorem edig_p (en : Nat) (h : en ≤ 901) : 2 ≤ (edig en).length ∧ (edig en).length ≤ 3 ∧ ∀ x ∈ edig en, 48 ≤ x ∧ x ≤ 57 := by
 unfold edig
 split
 ·refine ⟨by simp, by simp, fun x hx => ?_⟩
  simp at hx; omega
 ·split
  ·refine ⟨by simp, by simp, fun x hx => ?_⟩
   simp at hx; omega
  ·refine ⟨by simp, by simp, fun x hx => ?_⟩
   simp at hx; omega
theorem seg_mem {F : Nat → Nat} : ∀ {n o x : Nat}, x ∈ seg F o n → ∃ i, x = F i
 | 0, o, x, h => by rw [seg] at h; simp at h
 | n + 1, o, x, h => by
   rw [seg] at h
   rcases List.mem_cons.1 h with h | h
   ·exact ⟨_, h⟩
   ·exact seg_mem h
theorem efgE_ex (neg : Bool) (F : Nat → Nat) (nd : Nat) (dp prec : Int) (hnd : nd ≤ 20) (hF : ∀ j, F j ≤ 57) (h1 : -900 ≤ dp) (h2 : dp ≤ 900) (hp : (prec ≤ 0 ∧ -5 ≤ prec) ∨ (prec = (nd : Int) - 1 ∧ 2 ≤ nd)) : ∃ (front ds : List Nat) (sgn en : Nat), (sgn = 43 ∨ (sgn = 45 ∧ 1 ≤ en)) ∧ en ≤ 901 ∧ ds = edig en ∧ (∀ x ∈ front, x ≤ 57) ∧ front.length ≤ 100 ∧ ∀ {X : XT} {g b : Nat} {μ : Mem} {v sv : Value} {xs : List Nat}, (0 < nd → sv = .slice (some ⟨b, 0, none⟩) 32 64 ∧ Bu μ b F ∧ b < μ.next ∧ ¬ SlAt v b) → Bf μ v xs → xs.length ≤ 1000 → 9000 ≤ g →
  ∃ v' μ', aFun pZ (jai pZ X S0 g) 176 [v, .bool neg, sv, .int .i64 dp, .int .i64 (.ofNat nd), .int .i64 prec, .int .u8 101, .bool true] μ = some (v', μ') ∧ Bf μ' v' (xs ++ (front ++ [101, sgn] ++ ds)) ∧ Fr μ μ' v v' := by
 obtain ⟨sg, hsg⟩ := exq (if neg = true then [45] else [] : List Nat)
 have lsg : sg.length ≤ 1 := by rw [hsg]; split <;> simp
 obtain ⟨c0, hc0⟩ := exq (if nd = 0 then 48 else F 0 : Nat)
 obtain ⟨md, hmd⟩ := exq (if 0 < prec then [46] ++ seg F 1 (nd - 1) else [] : List Nat)
 have lmd : md.length ≤ 30 := by rw [hmd]; split <;> simp [jbA] <;> omega
 obtain ⟨ex, hex⟩ := exq (if nd = 0 then 0 else dp - 1 : Int)
 have hex1 : -901 ≤ ex ∧ ex ≤ 899 := by split at hex <;> omega
 obtain ⟨sgn, hsgn⟩ := exq (if ex < 0 then 45 else 43 : Nat)
 obtain ⟨en, hen⟩ : ∃ en : Nat, (en : Int) = if ex < 0 then -ex else ex := ⟨(if ex < 0 then -ex else ex).toNat, by split <;> omega⟩
 have hen1 : en ≤ 901 := by split at hen <;> omega
 obtain ⟨ds, hdE⟩ := exq (edig en : List Nat)
 have hds : ds = if en < 10 then [48, en + 48] else if en < 100 then [en / 10 + 48, en % 10 + 48] else [en / 100 + 48, en / 10 % 10 + 48, en % 10 + 48] := hdE
 refine ⟨sg ++ [c0] ++ md, ds, sgn, en, by rw [hsgn]; split at hen <;> rename_i h <;> simp [h] <;> omega, hen1, hdE, ?_, by simp only [rzX, List.length_cons, List.length_nil]; omega, fun {X g b μ v sv xs} hU hB hx hg => ?_⟩
 ·intro x hx
  simp only [List.mem_append, List.mem_singleton] at hx
  rcases hx with (hx | rfl) | hx
  ·rw [hsg] at hx
   split at hx
   ·simp at hx; omega
   ·simp at hx
  ·rw [hc0]; split
   ·decide
   ·exact hF 0
  ·rw [hmd] at hx
   split at hx
   ·simp only [List.mem_append, List.mem_singleton] at hx
    rcases hx with rfl | hx
    ·decide
    ·obtain ⟨i, rfl⟩ := seg_mem hx
     exact hF _
   ·simp at hx
 obtain ⟨k, rfl⟩ := gle hg
 have e1 : ieq 101 103 = false := rfl
 have e2 : ieq 101 71 = false := rfl
 have e3 : ieq 101 101 = true := rfl
 have key : EndsF (aFun pZ (jai pZ X S0 (k + 9000)) 176 [v, .bool neg, sv, .int .i64 dp, .int .i64 (.ofNat nd), .int .i64 prec, .int .u8 101, .bool true] μ) fun v' μ' => Bf μ' v' (xs ++ (sg ++ [c0] ++ md ++ [101, sgn] ++ ds)) ∧ Fr μ μ' v v' := by
  refine jac Tryz.func176 rfl rfl (nbl rfl) ?_
  simp only [go_sem, Tryz.ntmps176]
  repeat ((first | refine jaa rfl ?_ | refine jaj rfl ?_); (try simp only [go_sem, e1, e2, e3]); fail_if_success refine stk ?_)
  refine rzM (?_ : EndsC _ (StE sv dp prec nd μ v (xs ++ sg))) ?_
  ·obtain ⟨v1, m1, hap, hB1, hF1⟩ := hB.push 45 (by omega)
   have hap : jaM pZ ⟨μ.obs.set μ.next (.cells 1 5 #[.int .u8 45] .e 0 0 false false), Nat.add μ.next 1⟩ 54 54 v (.slice (some ⟨μ.next, 0, none⟩) 1 2) = some (v1, m1) := hap
   have hbs : ∀ r : Rg, jas pZ (aev pZ r) 54 1 #[(0, .const (.int .u8 45))] = some (.cells 1 5 #[.int .u8 45] .e 0 0 false false, fun id => .slice (some ⟨id, 0, none⟩) 1 2) := fun r => bsB r _ rfl
   cases neg with
   | true =>
     rw [if_pos rfl] at hsg
     rw [hsg]
     repeat ((first | refine jaa rfl ?_ | refine jaj rfl ?_); (try simp only [go_sem, hbs, hap]); fail_if_success refine stk ?_)
     exact ⟨by trivial, v1, _, rfl, by simp only [go_sem], by simp only [go_sem], by simp only [go_sem], by simp only [go_sem], by simp only [go_sem], by simp only [go_sem], hB1, hF1⟩
   | false =>
     rw [if_neg (by decide)] at hsg
     rw [hsg]
     repeat ((first | refine jaa rfl ?_ | refine jaj rfl ?_); (try simp only [go_sem]); fail_if_success refine stk ?_)
     exact ⟨by trivial, v, _, rfl, by simp only [go_sem], by simp only [go_sem], by simp only [go_sem], by simp only [go_sem], by simp only [go_sem], by simp only [go_sem], by simpa using hB, Fr.refl _ _⟩
  rintro x r μ1 ⟨rfl, v1, tm1, rfl, z0, z2, z3, z4, z5, z6, B1, F1⟩
  have hU1 : 0 < nd → Bu μ1 b F ∧ b < μ1.next ∧ ¬ SlAt v1 b := fun h => (hU h).2.1.fr F1 (hU h).2.2.1 (hU h).2.2.2
  have hx1 : (xs ++ sg).length ≤ 1100 := by rw [rzX]; omega
  simp only [jag]
  obtain ⟨tz, hz⟩ := eqx (ieq (.ofNat nd) 0)
  have hz' : tz = decide (nd = 0) := hz.symm.trans (jbo _ 0 0 rfl)
  repeat ((first | refine jaa rfl ?_ | refine jaj rfl ?_); (try simp only [go_sem, z4, hz]); fail_if_success refine stk ?_)
  refine rzM (?_ : EndsC _ (fun x r m => x = .normal ∧ m = μ1 ∧ ∃ tm', r = ⟨272, tm', [], none⟩ ∧ jah tm' 0 = v1 ∧ jah tm' 2 = sv ∧ jah tm' 3 = .int .i64 dp ∧ jah tm' 4 = .int .i64 (.ofNat nd) ∧ jah tm' 5 = .int .i64 prec ∧ jah tm' 6 = .int .u8 101 ∧ jah tm' 19 = .int .u8 (.ofNat c0))) ?_
  ·by_cases h0 : nd = 0
   ·rw [rzU h0] at hz'
    subst hz'
    rw [if_pos h0] at hc0
    repeat ((first | refine jaa rfl ?_ | refine jaj rfl ?_); (try simp only [go_sem]); fail_if_success refine stk ?_)
    exact ⟨by trivial, by trivial, _, rfl, by simp only [go_sem, z0], by simp only [go_sem, z2], by simp only [go_sem, z3], by simp only [go_sem, z4], by simp only [go_sem, z5], by simp only [go_sem, z6], by rw [hc0]; simp only [go_sem]; rfl⟩
   ·rw [rzV h0] at hz'
    subst hz'
    rw [if_neg h0] at hc0
    obtain ⟨hsv, hB0, hb0, hs0⟩ := hU (by omega)
    obtain ⟨hU2, hb2, hs2⟩ := hU1 (by omega)
    have z2' : jah tm1 2 = .slice (some ⟨b, 0, none⟩) 32 64 := z2.trans hsv
    have hd := hU2.d 0 (by decide)
    rw [← hc0] at hd
    have hix : ∀ r x, aev pZ r x = .slice (some ⟨b, 0, none⟩) 32 64 → jal pZ (aev pZ r) 54 x (.const (.int .i64 0)) = some (.pointer (some ⟨b, 0, none⟩)) := fun r x g => ixBs (by omega) g rfl
    repeat ((first | refine jaa rfl ?_ | refine jaj rfl ?_); (try simp only [go_sem, z2', hix, hd]); fail_if_success refine stk ?_)
    exact ⟨by trivial, by trivial, _, rfl, by simp only [go_sem, z0], by simp only [go_sem, z2], by simp only [go_sem, z3], by simp only [go_sem, z4], by simp only [go_sem, z5], by simp only [go_sem, z6], by simp only [go_sem]⟩
  rintro x r m ⟨rfl, rfl, tm2, rfl, y0, y2, y3, y4, y5, y6, y19⟩
  simp only [jag]
  obtain ⟨v3, μ3, hap3, hB3, hF3⟩ := B1.push c0 (by omega)
  have hbs3 : ∀ r y, aev pZ r y = .int .u8 (.ofNat c0) → jas pZ (aev pZ r) 54 1 #[(0, y)] = some (.cells 1 5 #[.int .u8 (.ofNat c0)] .e 0 0 false false, fun id => .slice (some ⟨id, 0, none⟩) 1 2) := fun r y h => bsB r y h
  have e4 : ilt 0 prec = decide (0 < prec) := jfo _ _
  repeat ((first | refine jaa rfl ?_ | refine jaj rfl ?_); (try simp only [go_sem, y0, y5, y19, hbs3, hap3, e4]); fail_if_success refine stk ?_)
  refine rzM (?_ : EndsC _ (fun x r m => x = .normal ∧ ∃ v' tm', r = ⟨272, tm', [], none⟩ ∧ jah tm' 0 = v' ∧ jah tm' 3 = .int .i64 dp ∧ jah tm' 4 = .int .i64 (.ofNat nd) ∧ jah tm' 6 = .int .u8 101 ∧ Bf m v' (xs ++ sg ++ [c0] ++ md) ∧ Fr μ3 m v3 v')) ?_
  ·by_cases hpr : 0 < prec
   ·have e5 : decide (0 < prec) = true := rzU hpr
    rw [if_pos hpr] at hmd
    obtain ⟨hpe, hn2⟩ : prec = (nd : Int) - 1 ∧ 2 ≤ nd := by
     rcases hp with h | h
     ·omega
     ·exact h
    obtain ⟨hU2, hb2, hs2⟩ := hU1 (by omega)
    obtain ⟨hU3, hb3, hs3⟩ := hU2.fr hF3 hb2 hs2
    obtain ⟨v4, μ4, hap4, hB4, hF4⟩ := hB3.push 46 (by rw [rzX]; simp; omega)
    have hap4 : jaM pZ ⟨μ3.obs.set μ3.next (.cells 1 5 #[.int .u8 46] .e 0 0 false false), Nat.add μ3.next 1⟩ 54 54 v3 (.slice (some ⟨μ3.next, 0, none⟩) 1 2) = some (v4, μ4) := hap4
    have hbs4 : ∀ r : Rg, jas pZ (aev pZ r) 54 1 #[(0, .const (.int .u8 46))] = some (.cells 1 5 #[.int .u8 46] .e 0 0 false false, fun id => .slice (some ⟨id, 0, none⟩) 1 2) := fun r => bsB r _ rfl
    obtain ⟨hU4, hb4, hs4⟩ := hU3.fr hF4 hb3 hs3
    have hsv := (hU (by omega)).1
    have y2' : jah tm2 2 = .slice (some ⟨b, 0, none⟩) 32 64 := y2.trans hsv
    have q1 : jak .i64 (Int.add prec 1) = .ofNat nd := by
     have h := jeO prec 1 (by omega) (by omega)
     rw [(by omega : prec + 1 = (nd : Int))] at h
     exact h
    have q2 : (if Int.ofNat nd < Int.ofNat nd then Int.ofNat nd else Int.ofNat nd) = Int.ofNat nd := ite_self _
    have q3 : ilt 1 (.ofNat nd) = true := dT (jiC _ 1 1 rfl) (by omega)
    have q4 : jak .i64 (Int.sub (.ofNat nd) (.ofNat nd)) = .ofNat 0 := by
     have h := jdO (nd : Int) (nd : Int) (by omega) (by omega)
     rw [Int.sub_self] at h
     exact h
    have hsl : ∀ r x y w, aev pZ r x = .slice (some ⟨b, 0, none⟩) 32 64 → aev pZ r y = .int .i64 1 → aev pZ r w = .int .i64 (.ofNat nd) → jaJ pZ (aev pZ r) 54 x (some y) (some w) none = some (.slice (some ⟨b, 1, none⟩) (nd - 1) 62) := fun r x y w g1 g2 g3 => by
     have g2 : aev pZ r y = .int .i64 (.ofNat 1) := g2
     unfold jaJ
     have t1 : Nat.beq (Nat.mod 64 2) 0 = true := rfl
     have t2 : Nat.div 64 2 = 32 := rfl
     have t3 : Nat.ble nd 32 = true := rzP (by omega)
     have t4 : Nat.ble 1 nd = true := rzP (by omega)
     simp only [g1, Tryz.underlying54, i_u8, t1, t2, ja2, jbl, g2, g3, t3, t4]
     rfl
    obtain ⟨v5, μ5, hap5, hB5, hF5⟩ := hB4.app (xt := 54) (x := .slice (some ⟨b, 1, none⟩) (nd - 1) 62) (ys := seg F 1 (nd - 1)) (by rw [Tryz.underlying54]) (by rw [jbA]; rfl) (by rw [jbA]; exact hU4.src (by omega) (by omega)) (by simp only [rzX, List.length_cons, List.length_nil, jbA] at hx1 ⊢; omega)
    repeat ((first | refine jaa rfl ?_ | refine jaj rfl ?_); (try simp only [go_sem, y0, y2', y4, y5, e5, hbs4, hap4, q1, q2, q3, hsl, hap5, q4]); fail_if_success refine stk ?_)
    rw [(by omega : k + 8980 = (k + 8940) + 0 + 40)]
    refine rzM (ze_loop (N := 0) (by omega) 0 0 rfl hB5 (by simp only [rzX, List.length_cons, List.length_nil, jbA] at hx1 ⊢; omega) (by simp only [go_sem]) (by simp only [go_sem]) (by simp only [go_sem]; try rfl)) ?_
    rintro x r μ6 ⟨rfl, v6, tm6, rfl, w0, wk, B6, F6⟩
    have w3 : jah tm6 3 = .int .i64 dp := by rw [wk 3 (by decide) (by decide) (by decide)]; simp only [go_sem, y3]
    have w4 : jah tm6 4 = .int .i64 (.ofNat nd) := by rw [wk 4 (by decide) (by decide) (by decide)]; simp only [go_sem, y4]
    have w6 : jah tm6 6 = .int .u8 101 := by rw [wk 6 (by decide) (by decide) (by decide)]; simp only [go_sem, y6]
    simp only [jbI, reduceIte]
    exact ⟨by trivial, v6, tm6, rfl, w0, w3, w4, w6, by rw [hmd]; simpa using B6, (hF4.trans hF5).trans F6⟩
   ·have e5 : decide (0 < prec) = false := rzV hpr
    rw [if_neg hpr] at hmd
    repeat ((first | refine jaa rfl ?_ | refine jaj rfl ?_); (try simp only [go_sem, e5]); fail_if_success refine stk ?_)
    exact ⟨by trivial, v3, _, rfl, by simp only [go_sem], by simp only [go_sem, y3], by simp only [go_sem, y4], by simp only [go_sem, y6], by rw [hmd]; simpa using hB3, Fr.refl _ _⟩
  rintro x r μ7 ⟨rfl, v7, tm7, rfl, t0, t3, t4, t6, B7, F7⟩
  simp only [jag]
  have hx7 : (xs ++ sg ++ [c0] ++ md).length ≤ 1200 := by simp only [rzX, List.length_cons, List.length_nil] at hx1 ⊢; omega
  obtain ⟨v8, μ8, hap8, hB8, hF8⟩ := B7.push 101 (by omega)
  have hap8 : jaM pZ ⟨μ7.obs.set μ7.next (.cells 1 5 #[.int .u8 101] .e 0 0 false false), Nat.add μ7.next 1⟩ 54 54 v7 (.slice (some ⟨μ7.next, 0, none⟩) 1 2) = some (v8, μ8) := hap8
  have hbs8 : ∀ r y, aev pZ r y = .int .u8 101 → jas pZ (aev pZ r) 54 1 #[(0, y)] = some (.cells 1 5 #[.int .u8 101] .e 0 0 false false, fun id => .slice (some ⟨id, 0, none⟩) 1 2) := fun r y h => bsB r y h
  have q8 : jak .i64 (Int.sub dp 1) = dp - 1 := jdO dp 1 (by omega) (by omega)
  repeat ((first | refine jaa rfl ?_ | refine jaj rfl ?_); (try simp only [go_sem, t0, t3, t4, t6, hbs8, hap8, q8, hz]); fail_if_success refine stk ?_)
  refine rzM (?_ : EndsC _ (fun x r m => x = .normal ∧ m = μ8 ∧ ∃ tm', r = ⟨272, tm', [], none⟩ ∧ jah tm' 0 = v8 ∧ jah tm' 22 = .int .i64 ex)) ?_
  ·by_cases h0 : nd = 0
   ·rw [rzU h0] at hz'
    subst hz'
    rw [if_pos h0] at hex
    repeat ((first | refine jaa rfl ?_ | refine jaj rfl ?_); (try simp only [go_sem]); fail_if_success refine stk ?_)
    exact ⟨by trivial, by trivial, _, rfl, by simp only [go_sem], by rw [hex]; simp only [go_sem]⟩
   ·rw [rzV h0] at hz'
    subst hz'
    rw [if_neg h0] at hex
    repeat ((first | refine jaa rfl ?_ | refine jaj rfl ?_); (try simp only [go_sem]); fail_if_success refine stk ?_)
    exact ⟨by trivial, by trivial, _, rfl, by simp only [go_sem], by rw [hex]; simp only [go_sem]⟩
  rintro x r m ⟨rfl, rfl, tm8, rfl, o0, o22⟩
  simp only [jag]
  have e9 : ilt ex 0 = decide (ex < 0) := jfo _ _
  repeat ((first | refine jaa rfl ?_ | refine jaj rfl ?_); (try simp only [go_sem, o22, e9]); fail_if_success refine stk ?_)
  refine rzM (?_ : EndsC _ (fun x r m' => x = .normal ∧ m' = m ∧ ∃ tm', r = ⟨272, tm', [], none⟩ ∧ jah tm' 0 = v8 ∧ jah tm' 22 = .int .i64 (.ofNat en) ∧ jah tm' 19 = .int .u8 (.ofNat sgn))) ?_
  ·by_cases h0 : ex < 0
   ·have e10 : decide (ex < 0) = true := rzU h0
    rw [if_pos h0] at hen hsgn
    have np : ∀ (ρ : Operand → Value) (d : Option Tmp) (t ty : TypeId) (a : Operand) (ps : String) (af : Array Edge) (gd : Option (Nat × Bool)), ρ a = .int .i64 ex → jaC pZ ρ ⟨d, .unOp .neg t a, ty, ps, af, gd⟩ = some (.int .i64 (.ofNat en)) := fun ρ d t ty a ps af gd h => by rw [jce h (by omega) (by omega), ← hen]; rfl
    repeat ((first | refine jaa rfl ?_ | refine jaj rfl ?_); (try simp only [go_sem, o22, e10, np]); fail_if_success refine stk ?_)
    exact ⟨by trivial, by trivial, _, rfl, by simp only [go_sem, o0], by simp only [go_sem], by rw [hsgn]; simp only [go_sem]; rfl⟩
   ·have e10 : decide (ex < 0) = false := rzV h0
    rw [if_neg h0] at hen hsgn
    repeat ((first | refine jaa rfl ?_ | refine jaj rfl ?_); (try simp only [go_sem, o22, e10]); fail_if_success refine stk ?_)
    exact ⟨by trivial, by trivial, _, rfl, by simp only [go_sem, o0], by simp only [go_sem, o22]; rw [← hen]; rfl, by rw [hsgn]; simp only [go_sem]; rfl⟩
  rintro x r m' ⟨rfl, rfl, tm9, rfl, s0, s22, s19⟩
  simp only [jag]
  obtain ⟨v9, μ9, hap9, hB9, hF9⟩ := hB8.push sgn (by rw [rzX]; simp; omega)
  have hbs9 : ∀ r y, aev pZ r y = .int .u8 (.ofNat sgn) → jas pZ (aev pZ r) 54 1 #[(0, y)] = some (.cells 1 5 #[.int .u8 (.ofNat sgn)] .e 0 0 false false, fun id => .slice (some ⟨id, 0, none⟩) 1 2) := fun r y h => bsB r y h
  obtain ⟨v10, μ10, hap10, hB10, hF10⟩ := hB9.pushL (ys := ds) (n := ds.length) (c := 2 * ds.length) rfl (by rw [hds]; split <;> (try split) <;> simp) (by simp only [rzX, List.length_cons, List.length_nil] at hx7 ⊢; rw [hds]; split <;> (try split) <;> simp <;> omega)
  have FF : Fr μ μ10 v v10 := (((((F1.trans hF3).trans F7).trans hF8).trans hF9).trans hF10)
  have e11 : ilt (.ofNat en) 10 = decide (en < 10) := jcV _ 10 10 rfl
  have e12 : ilt (.ofNat en) 100 = decide (en < 100) := jcV _ 100 100 rfl
  by_cases g10 : en < 10
  ·rw [rzU g10] at e11
   rw [if_pos g10] at hds
   subst hds
   have a1 : jak .u8 (.ofNat en) = .ofNat en := qu8 en (by omega)
   have a2 := add8 (a := en) (by omega)
   have hap10 : jaM pZ ⟨μ9.obs.set μ9.next (.cells 2 5 #[.int .u8 48, .int .u8 (.ofNat (en + 48))] .e 0 0 false false), Nat.add μ9.next 1⟩ 54 54 v9 (.slice (some ⟨μ9.next, 0, none⟩) 2 4) = some (v10, μ10) := hap10
   have hbs10 : ∀ r y, aev pZ r y = .int .u8 (.ofNat (en + 48)) → jas pZ (aev pZ r) 54 2 #[(0, .const (.int .u8 48)), (1, y)] = some (.cells 2 5 #[.int .u8 48, .int .u8 (.ofNat (en + 48))] .e 0 0 false false, fun id => .slice (some ⟨id, 0, none⟩) 2 4) := fun r y h => bsB2 _ _ _ _ _ rfl h
   repeat ((first | refine jaa rfl ?_ | refine jaj rfl ?_); (try simp only [go_sem, s0, s22, s19, hbs9, hap9, e11, jiS, a1, a2, hbs10, hap10]); fail_if_success refine stk ?_)
   refine jae ?_
   refine ⟨rfl, v10, ?_, by simpa using hB10, FF⟩
   simp only [go_sem, Tryz.results176]
  ·rw [rzV g10] at e11
   rw [if_neg g10] at hds
   by_cases g100 : en < 100
   ·rw [rzU g100] at e12
    rw [if_pos g100] at hds
    subst hds
    have d1 : aDiv false .i64 .i64 (.ofNat en) 10 = some (.int .i64 (.ofNat (en / 10))) := d64i (k := 9) (by omega)
    have d2 : aDiv true .i64 .i64 (.ofNat en) 10 = some (.int .i64 (.ofNat (en % 10))) := r64i (k := 9)
    have a1 : jak .u8 (.ofNat (en / 10)) = .ofNat (en / 10) := qu8 _ (by omega)
    have a2 := add8 (a := en / 10) (by omega)
    have a3 : jak .u8 (.ofNat (en % 10)) = .ofNat (en % 10) := qu8 _ (by omega)
    have a4 := add8 (a := en % 10) (by omega)
    have hap10 : jaM pZ ⟨μ9.obs.set μ9.next (.cells 2 5 #[.int .u8 (.ofNat (en / 10 + 48)), .int .u8 (.ofNat (en % 10 + 48))] .e 0 0 false false), Nat.add μ9.next 1⟩ 54 54 v9 (.slice (some ⟨μ9.next, 0, none⟩) 2 4) = some (v10, μ10) := hap10
    have hbs10 : ∀ r x y, aev pZ r x = .int .u8 (.ofNat (en / 10 + 48)) → aev pZ r y = .int .u8 (.ofNat (en % 10 + 48)) → jas pZ (aev pZ r) 54 2 #[(0, x), (1, y)] = some (.cells 2 5 #[.int .u8 (.ofNat (en / 10 + 48)), .int .u8 (.ofNat (en % 10 + 48))] .e 0 0 false false, fun id => .slice (some ⟨id, 0, none⟩) 2 4) := fun r x y g h => bsB2 _ _ _ _ _ g h
    repeat ((first | refine jaa rfl ?_ | refine jaj rfl ?_); (try simp only [go_sem, s0, s22, s19, hbs9, hap9, e11, e12, d1, d2, jiS, a1, a2, a3, a4, hbs10, hap10]); fail_if_success refine stk ?_)
    refine jae ?_
    refine ⟨rfl, v10, ?_, by simpa using hB10, FF⟩
    simp only [go_sem, Tryz.results176]
   ·rw [rzV g100] at e12
    rw [if_neg g100] at hds
    subst hds
    have d0 : aDiv false .i64 .i64 (.ofNat en) 100 = some (.int .i64 (.ofNat (en / 100))) := d64i (k := 99) (by omega)
    have d1 : aDiv false .i64 .i64 (.ofNat en) 10 = some (.int .i64 (.ofNat (en / 10))) := d64i (k := 9) (by omega)
    have d2 : aDiv true .i64 .i64 (.ofNat en) 10 = some (.int .i64 (.ofNat (en % 10))) := r64i (k := 9)
    have d3 : aDiv true .u8 .u8 (.ofNat (en / 10)) 10 = some (.int .u8 (.ofNat (en / 10 % 10))) := r8i (k := 9)
    have a0 : jak .u8 (.ofNat (en / 100)) = .ofNat (en / 100) := qu8 _ (by omega)
    have a00 := add8 (a := en / 100) (by omega)
    have a1 : jak .u8 (.ofNat (en / 10)) = .ofNat (en / 10) := qu8 _ (by omega)
    have a2 := add8 (a := en / 10 % 10) (by omega)
    have a3 : jak .u8 (.ofNat (en % 10)) = .ofNat (en % 10) := qu8 _ (by omega)
    have a4 := add8 (a := en % 10) (by omega)
    have hap10 : jaM pZ ⟨μ9.obs.set μ9.next (.cells 3 5 #[.int .u8 (.ofNat (en / 100 + 48)), .int .u8 (.ofNat (en / 10 % 10 + 48)), .int .u8 (.ofNat (en % 10 + 48))] .e 0 0 false false), Nat.add μ9.next 1⟩ 54 54 v9 (.slice (some ⟨μ9.next, 0, none⟩) 3 6) = some (v10, μ10) := hap10
    have hbs10 : ∀ r x y w, aev pZ r x = .int .u8 (.ofNat (en / 100 + 48)) → aev pZ r y = .int .u8 (.ofNat (en / 10 % 10 + 48)) → aev pZ r w = .int .u8 (.ofNat (en % 10 + 48)) → jas pZ (aev pZ r) 54 3 #[(0, x), (1, y), (2, w)] = some (.cells 3 5 #[.int .u8 (.ofNat (en / 100 + 48)), .int .u8 (.ofNat (en / 10 % 10 + 48)), .int .u8 (.ofNat (en % 10 + 48))] .e 0 0 false false, fun id => .slice (some ⟨id, 0, none⟩) 3 6) := fun r x y w g h f => bsB3 _ _ _ _ _ _ _ g h f
    repeat ((first | refine jaa rfl ?_ | refine jaj rfl ?_); (try simp only [go_sem, s0, s22, s19, hbs9, hap9, e11, e12, d0, d1, d2, d3, jiS, a0, a00, a1, a2, a3, a4, hbs10, hap10]); fail_if_success refine stk ?_)
    refine jae ?_
    refine ⟨rfl, v10, ?_, by simpa using hB10, FF⟩
    simp only [go_sem, Tryz.results176]
 obtain ⟨v', μ', h1, h2, h3⟩ := key
 exact ⟨v', μ', h1, by simpa only [List.append_assoc] using h2, h3⟩
end
end Go.Proofs.YtdmfakpngnlokaaGreatDoor.nu
