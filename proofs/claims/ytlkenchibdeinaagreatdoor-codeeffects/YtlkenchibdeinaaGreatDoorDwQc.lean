/-
  distafflaw10.CodeEffects, part Qc: its walk and its law. No conditions.
-/
import Derived.Test.YtlkenchibdeinaaGreatDoorDwQa
import Derived.Test.YtlkenchibdeinaaGreatDoorDwQb
set_option linter.all false
set_option maxRecDepth 20000
set_option maxHeartbeats 8000000
namespace Go.Proofs.YtlkenchibdeinaaGreatDoor.ce
open YtlkenchibdeinaaGreatDoor.Ev
noncomputable section
open Go.Proofs.YtlkenchibdeinaaGreatDoor.NumText (dig isE isS form next run jd0 jeM)
@[go_sem] def gg151 {X ev} := gC X ev Tryz.func151 rfl rfl
@[go_sem] def gg117 {X ev} := gC X ev Tryz.func117 rfl rfl
theorem next_x (st : Nat) : next st 120 = 9 := by
 unfold NumText.next
 repeat (first | rfl | split)
 all_goals (first | rfl | omega)
theorem run_forms : ∀ (l : List Nat) (st p : Nat), run st p l = true → ∀ c ∈ l, form c ≠ 120 := by
 intro l
 induction l with
 | nil => intro st p _ c hc; cases hc
 | cons d l ih =>
   intro st p h c hc
   rw [NumText.run] at h
   by_cases hd : form d = 120
   ·rw [hd, next_x, NumText.run9] at h; cases h
   ·rcases List.mem_cons.1 hc with rfl | hc
    ·exact hd
    ·exact ih _ _ h c hc
theorem form_nums {c : Nat} (h : form c ≠ 120) : c ∈ nums := by
 have hc : c = 43 ∨ c = 45 ∨ c = 46 ∨ (48 ≤ c ∧ c ≤ 57) ∨ c = 69 ∨ c = 101 := by
  refine Decidable.by_contra fun hn => h ?_
  refine NumText.form_x ?_ ?_ ?_ ?_
  ·simp only [dig, Bool.and_eq_false_iff, decide_eq_false_iff_not]; omega
  ·simp only [isS, Bool.or_eq_false_iff, decide_eq_false_iff_not]; omega
  ·omega
  ·simp only [isE, Bool.or_eq_false_iff, decide_eq_false_iff_not]; omega
 have h2 : ∀ c, c < 128 → c = 43 ∨ c = 45 ∨ c = 46 ∨ (48 ≤ c ∧ c ≤ 57) ∨ c = 69 ∨ c = 101 → c ∈ nums := by decide
 exact h2 c (by omega) hc
theorem jjR {s : ByteArray} (h : jd0 (bys s) = true) : (∀ c ∈ bys s, c ∈ nums) ∧ 0 < (bys s).length := by
 have h2 : jeM (bys s) = true := by rw [← NumText.right_eq]; exact h
 refine ⟨fun c hc => form_nums (run_forms _ _ _ h2 c hc), ?_⟩
 cases hb : bys s with
 | nil => rw [hb] at h2; cases h2
 | cons c l => exact rzW _
def ja7 (X : XT) : Prop := ∀ (n : Nat) μ, n < 18446744073709551616 → X 87 [.int .u64 (.ofNat n)] μ = some (.float .f64 n, μ)
theorem jiy {X : XT} {ev : ET} (args : List Value) (μ : Mem) : aGo pZ X (jbj pZ ev S0) 87 args μ = X 87 args μ := by
 unfold aGo
 simp only [Tryz.func87]
 rfl
def nanS : ByteArray := ⟨List.toArray [43, 110, 97, 110, 46, 48]⟩
def infS : ByteArray := ⟨List.toArray [43, 105, 110, 102, 46, 48]⟩
def ninS : ByteArray := ⟨List.toArray [45, 105, 110, 102, 46, 48]⟩
def named (s : ByteArray) : Bool := decide (s = nanS) || decide (s = infS) || decide (s = ninS)
def jgw (s : ByteArray) : Bool := named s || jd0 (bys s)
theorem jgk (a b : ByteArray) : aStr .eql a b = some (.bool (decide (a = b))) := by
 unfold aStr
 simp only [jgG]
theorem refFlo_ex {s : ByteArray} (hl : (bys s).length ≤ 700) {X : XT} {g : Nat} {μ : Mem} (hX : jbc X) (hX2 : ja7 X) (hL : Lay μ) (hg : 14100 ≤ g) : ∃ f μ', aFun pZ (jaj pZ X S0 g) 117 [.string s] μ = some (.tuple #[.float .f64 f, .int .i64 (if jgw s then 0 else 31)], μ') ∧ Grow μ μ' := by
 obtain ⟨k, rfl⟩ := gle hg
 have ls := jaU s
 have s1 : aStr .eql s ⟨List.toArray [43, 110, 97, 110, 46, 48]⟩ = some (.bool (decide (s = nanS))) := jgk s nanS
 have s2 : aStr .eql s ⟨List.toArray [43, 105, 110, 102, 46, 48]⟩ = some (.bool (decide (s = infS))) := jgk s infS
 have s3 : aStr .eql s ⟨List.toArray [45, 105, 110, 102, 46, 48]⟩ = some (.bool (decide (s = ninS))) := jgk s ninS
 have x0 : ∀ μ, X 87 [.int .u64 9221120237041090561] μ = some (.float .f64 9221120237041090561, μ) := fun μ => hX2 9221120237041090561 μ (by decide)
 have x1 : ∀ μ, X 87 [.int .u64 9218868437227405312] μ = some (.float .f64 9218868437227405312, μ) := fun μ => hX2 9218868437227405312 μ (by decide)
 have x2 : ∀ μ, X 87 [.int .u64 18442240474082181120] μ = some (.float .f64 18442240474082181120, μ) := fun μ => hX2 18442240474082181120 μ (by decide)
 have e7 : ilt 700 (.ofNat (bys s).length) = false := dF (jao 700 _) (by omega)
 have key : EndsF (aFun pZ (jaj pZ X S0 (k + 14100)) 117 [.string s] μ) fun v μ' => ∃ f, v = .tuple #[.float .f64 f, .int .i64 (if jgw s then 0 else 31)] ∧ Grow μ μ' := by
  unfold jgw named
  by_cases h1 : s = nanS
  ·rw [rzU h1] at s1 ⊢
   refine jaf Tryz.func117 rfl rfl (nbl rfl) ?_
   simp only [go_sem, Tryz.ntmps117]
   repeat (refine jaa rfl ?_; (try simp only [go_sem, s1, jiy, x0]); fail_if_success refine stk ?_)
   exact jad ⟨rfl, .tuple #[.float .f64 9221120237041090561, .int .i64 0], by simp only [go_sem, Tryz.results117], 9221120237041090561, rfl, Grow.refl _⟩
  rw [rzV h1] at s1 ⊢
  by_cases h2 : s = infS
  ·rw [rzU h2] at s2 ⊢
   refine jaf Tryz.func117 rfl rfl (nbl rfl) ?_
   simp only [go_sem, Tryz.ntmps117]
   repeat (refine jaa rfl ?_; (try simp only [go_sem, s1, s2, jiy, x1]); fail_if_success refine stk ?_)
   exact jad ⟨rfl, .tuple #[.float .f64 9218868437227405312, .int .i64 0], by simp only [go_sem, Tryz.results117], 9218868437227405312, rfl, Grow.refl _⟩
  rw [rzV h2] at s2 ⊢
  by_cases h3 : s = ninS
  ·rw [rzU h3] at s3 ⊢
   refine jaf Tryz.func117 rfl rfl (nbl rfl) ?_
   simp only [go_sem, Tryz.ntmps117]
   repeat (refine jaa rfl ?_; (try simp only [go_sem, s1, s2, s3, jiy, x2]); fail_if_success refine stk ?_)
   exact jad ⟨rfl, .tuple #[.float .f64 18442240474082181120, .int .i64 0], by simp only [go_sem, Tryz.results117], 18442240474082181120, rfl, Grow.refl _⟩
  rw [rzV h3] at s3 ⊢
  have hr : ∀ g (μ : Mem), 1200 ≤ g → aFun pZ (jaj pZ X S0 g) 151 [.string s] μ = some (.bool (jd0 (bys s)), μ) := fun g μ h => by rw [NumText.right_eq]; exact jif (by omega) h
  cases hb : jd0 (bys s) with
  | false =>
    rw [hb] at hr
    refine jaf Tryz.func117 rfl rfl (nbl rfl) ?_
    simp only [go_sem, Tryz.ntmps117]
    repeat (refine jaa rfl ?_; (try simp only [go_sem, s1, s2, s3, ls, jae, e7, hr, Nat.reduceLeDiff]); fail_if_success refine stk ?_)
    exact jad ⟨rfl, .tuple #[.float .f64 0, .int .i64 31], by simp only [go_sem, Tryz.results117], 0, rfl, Grow.refl _⟩
  | true =>
    rw [hb] at hr
    obtain ⟨n1, n2⟩ := jjR hb
    obtain ⟨f, hpf⟩ := parseF_ex n1 (by omega) n2
    obtain ⟨w, μ2, hr2, hw, hG⟩ := hpf (X := X) (g := k + 14093) (μ := μ) hX hL (by omega)
    refine jaf Tryz.func117 rfl rfl (nbl rfl) ?_
    simp only [go_sem, Tryz.ntmps117]
    repeat (refine jaa rfl ?_; (try simp only [go_sem, s1, s2, s3, ls, jae, e7, hr, Nat.reduceLeDiff, hr2]); fail_if_success refine stk ?_)
    exact jad ⟨rfl, .tuple #[.float .f64 f, .int .i64 0], by simp only [go_sem, Tryz.results117], f, rfl, hG⟩
 obtain ⟨v, μ', h1, f, rfl, h2⟩ := key
 exact ⟨f, μ', h1, h2⟩
end
noncomputable section
structure Own (e : TypeId) (μ0 μ : Mem) (v : Value) (xs : List Value) : Prop where
 good : GoodSl μ e v xs
 grow : Grow μ0 μ
 above : ∀ i, SlAt v i → μ0.next ≤ i ∧ i < μ.next
theorem Own.nil (e : TypeId) (μ : Mem) : Own e μ μ (.slice none 0 0) [] := ⟨.inl ⟨rfl, rfl⟩, Grow.refl _, fun i h => by obtain ⟨l, c, h⟩ := h; cases h⟩
theorem Own.keep {e : TypeId} {μ0 μ μ' : Mem} {v : Value} {xs : List Value} (h : Own e μ0 μ v xs) (hg : Grow μ μ') : Own e μ0 μ' v xs :=
 ⟨h.good.keep fun i hi => hg.2 i (h.above i hi).2, h.grow.trans hg, fun i hi => ⟨(h.above i hi).1, rzO (h.above i hi).2 hg.1⟩⟩
theorem Own.push {st e : TypeId} {inf : TypeInfo} {z0 : Value} (hu : pZ.underlying st = some (.slice e)) (hi : pZ.info? e = some inf) (hsz : inf.size = 1) (hby : Nat.ble inf.bytes 4096 = true) (hz : ja6 pZ e = some z0) (hzl : (jaR z0).length = 1)
  {μ0 μ : Mem} {v x : Value} {xs : List Value} (h : Own e μ0 μ v xs) (hn : xs.length < 2000000) (hs : scalar x = true) :
  ∃ v' μ', jaN pZ ⟨μ.obs.set μ.next (.cells 1 e #[x] .e 0 0 false false), Nat.add μ.next 1⟩ st st v (.slice (some ⟨μ.next, 0, none⟩) 1 2) = some (v', μ') ∧ Own e μ0 μ' v' (xs ++ [x]) := by
 have hg1 : Grow μ ⟨μ.obs.set μ.next (.cells 1 e #[x] .e 0 0 false false), Nat.add μ.next 1⟩ := ja5 μ _
 have h1 := h.keep hg1
 obtain ⟨v', μ', ha, hg, hnx, hat, hk⟩ := jf8 (P := pZ) (st := st) (x := x) (q := μ.next) hu hi hsz hby hz hzl h1.good (by show T.get _ _ = _; rw [T.get_set, if_pos rfl]) hn hs
 have hnx' : μ'.next = μ.next + 1 + 1 := hnx
 refine ⟨v', μ', ha, hg, ⟨?_, fun i hi => ?_⟩, fun i hi => ?_⟩
 ·have := h.grow.1; omega
 ·have h0 := h.grow.1
  rw [hk i (by show i ≠ μ.next + 1; omega) (fun hv => by have := (h1.above i hv).1; omega)]
  exact h1.grow.2 i hi
 ·obtain ⟨l, c, hv⟩ := hat
  obtain ⟨l', c', hv'⟩ := hi
  rw [hv] at hv'
  injection hv' with e1
  injection e1 with e2
  injection e2 with e3
  have e4 : i = μ.next + 1 := e3.symm
  have h0 := h.grow.1
  omega
def U32 (x : Value) : Prop := ∃ a, a < 4294967296 ∧ x = .int .u32 (.ofNat a)
theorem U32.one {x : Value} (h : U32 x) : one x = true := by obtain ⟨a, _, rfl⟩ := h; rfl
theorem jh1 : ja6 pZ 141 = some (.int .u32 0) := by unfold ja6; rw [jcI]; rfl
theorem conv_4u (n : Int) : jaG pZ 141 110 (.int .u32 n) = some (.int .u64 (jak .u64 n)) := by
 simp only [jaG, Tryz.underlying110, Tryz.underlying141]
theorem conv_u4 (n : Int) : jaG pZ 110 141 (.int .u64 n) = some (.int .u32 (jak .u32 n)) := by
 simp only [jaG, Tryz.underlying110, Tryz.underlying141]
theorem q4 (m : Nat) : jak .u32 (.ofNat m) = .ofNat (m % 4294967296) := by
 rw [jbu]
 show IntKind.wrap .u32 _ = _
 unfold IntKind.wrap
 simp only [IntKind.bits, IntKind.signed]
 simp
def Cap (n c : Nat) : Prop := (c % 2 = 0 ∧ n ≤ c / 2) ∨ (c % 2 = 1 ∧ c / 2 = 1)
def Rd (μ : Mem) (v : Value) (n : Nat) : Prop :=
 (v = .slice none 0 0 ∧ n = 0) ∨ ∃ i c m z ov fx sh, v = .slice (some ⟨i, 0, none⟩) n c ∧ μ.obs.get i = some (.cells m 141 z ov 0 0 fx sh) ∧ n ≤ m ∧ i < μ.next ∧ (∀ k, k < n → U32 (cellAt z ov k)) ∧ Cap n c
theorem Rd.nil (μ : Mem) : Rd μ (.slice none 0 0) 0 := .inl ⟨rfl, rfl⟩
theorem Rd.grow {μ μ' : Mem} {v : Value} {n : Nat} (h : Rd μ v n) (g : Grow μ μ') : Rd μ' v n := by
 rcases h with h | ⟨i, c, m, z, ov, fx, sh, h1, h2, h3, h4, h5, h6⟩
 ·exact .inl h
 ·exact .inr ⟨i, c, m, z, ov, fx, sh, h1, (g.2 i h4).trans h2, h3, rzO h4 g.1, h5, h6⟩
theorem Rd.len {μ : Mem} {v : Value} {n : Nat} (h : Rd μ v n) : aLen pZ 38 v = some n := by
 unfold aLen
 rcases h with ⟨rfl, rfl⟩ | ⟨i, c, m, z, ov, fx, sh, rfl, _⟩ <;> simp only [Tryz.underlying38]
theorem Rd.one {μ : Mem} {v : Value} {n : Nat} (h : Rd μ v n) : one v = true := by
 rcases h with ⟨rfl, rfl⟩ | ⟨i, c, m, z, ov, fx, sh, rfl, _⟩ <;> rfl
theorem Rd.at {μ : Mem} {v : Value} {n k : Nat} (h : Rd μ v n) (hk : k < n) : ∃ i c a, v = .slice (some ⟨i, 0, none⟩) n c ∧ a < 4294967296 ∧ jal μ i k = some (.int .u32 (.ofNat a)) := by
 rcases h with ⟨_, rfl⟩ | ⟨i, c, m, z, ov, fx, sh, h1, h2, h3, h4, h5, h6⟩
 ·omega
 ·obtain ⟨a, ha, hc⟩ := h5 k hk
  refine ⟨i, c, a, h1, ha, ?_⟩
  unfold jal
  rw [h2]
  show (if k < m then some (cellAt z ov k) else none) = _
  rw [if_pos (by omega), hc]
theorem Rd.take {μ : Mem} {v : Value} {n k : Nat} (h : Rd μ v n) (hk : k ≤ n) : ∃ v', (∀ (ρ : Operand → Value) (x y : Operand), ρ x = v → ρ y = .int .i64 (.ofNat k) → ja0 pZ ρ 38 x none (some y) none = some v') ∧ Rd μ v' k ∧ ∀ i, SlAt v' i → SlAt v i := by
 rcases h with ⟨rfl, rfl⟩ | ⟨i, c, m, z, ov, fx, sh, rfl, h2, h3, h4, h5, h6⟩
 ·obtain rfl : k = 0 := by omega
  refine ⟨.slice none 0 0, fun ρ x y hx hy => ?_, Rd.nil μ, fun i hi => hi⟩
  unfold ja0
  simp only [hx, Tryz.underlying38, jcI, jbb, jbD, hy]
  try rfl
 ·refine ⟨.slice (some ⟨i, 0, none⟩) k c, fun ρ x y hx hy => ?_, .inr ⟨i, c, m, z, ov, fx, sh, rfl, h2, by omega, h4, fun j hj => h5 j (by omega), by unfold Cap at h6 ⊢; omega⟩, fun j hj => by
   obtain ⟨l', c', hv⟩ := hj
   injection hv with e1 e2 e3
   rw [e1]
   exact ⟨n, c, rfl⟩⟩
  unfold ja0
  rcases h6 with ⟨g1, g2⟩ | ⟨g1, g2⟩
  ·have e1 : Nat.beq (Nat.mod c 2) 0 = true := by rw [show Nat.mod c 2 = 0 from g1]; rfl
   have e3 : Nat.ble k (Nat.div c 2) = true := rzP (by show k ≤ c / 2; omega)
   simp only [hx, Tryz.underlying38, jcI, e1, jbb, jbD, hy, e3]
   have e4 : Addr.add ⟨i, 0, none⟩ (Nat.mul 0 Tryz.t141.size) = ⟨i, 0, none⟩ := by rw [show Nat.mul 0 Tryz.t141.size = 0 from Nat.zero_mul _]; rfl
   have e5 : Nat.mul 2 (Nat.sub (Nat.div c 2) 0) = c := by show 2 * (c / 2 - 0) = c; omega
   have e6 : Nat.sub k 0 = k := rfl
   cases Nat.beq (Nat.div c 2) 0 <;> simp only [e4, e5, e6]
  ·have e1 : Nat.beq (Nat.mod c 2) 0 = false := by rw [show Nat.mod c 2 = 1 from g1]; rfl
   have e3 : Nat.ble k n = true := rzP hk
   simp only [hx, Tryz.underlying38, jcI, e1, jbb, jbD, hy, e3]
   try rfl
def Lim (μ0 μ : Mem) (v : Value) (n : Nat) : Prop := ∃ xs, Own 141 μ0 μ v xs ∧ xs.length = n ∧ ∀ x ∈ xs, U32 x
theorem Lim.rd {μ0 μ : Mem} {v : Value} {n : Nat} (h : Lim μ0 μ v n) : Rd μ v n := by
 obtain ⟨xs, ho, rfl, hx⟩ := h
 rcases ho.good with ⟨h1, h2⟩ | ⟨i, m, z, ov, fx, sh, c, h1, h2, h3, h4, h5⟩
 ·exact .inl ⟨h1, by rw [h2]; rfl⟩
 ·exact .inr ⟨i, c, m, z, ov, fx, sh, h1, h2, h3, (ho.above i ⟨_, _, h1⟩).2, fun k hk => by rw [h4 k hk]; exact hx _ (List.getElem_mem hk), by unfold Cap; omega⟩
theorem Lim.grow {μ0 μ : Mem} {v : Value} {n : Nat} (h : Lim μ0 μ v n) : Grow μ0 μ := by obtain ⟨xs, ho, _⟩ := h; exact ho.grow
theorem Lim.nil (μ : Mem) : Lim μ μ (.slice none 0 0) 0 := ⟨[], Own.nil _ _, rfl, fun x h => by cases h⟩
theorem Lim.keep {μ0 μ μ' : Mem} {v : Value} {n : Nat} (h : Lim μ0 μ v n) (g : Grow μ μ') : Lim μ0 μ' v n := by
 obtain ⟨xs, ho, h1, h2⟩ := h
 exact ⟨xs, ho.keep g, h1, h2⟩
theorem Lim.push {μ0 μ : Mem} {v x : Value} {n : Nat} (h : Lim μ0 μ v n) (hn : n < 2000000) (hx : U32 x) : ∃ v' μ', jaN pZ ⟨μ.obs.set μ.next (.cells 1 141 #[x] .e 0 0 false false), Nat.add μ.next 1⟩ 38 38 v (.slice (some ⟨μ.next, 0, none⟩) 1 2) = some (v', μ') ∧ Lim μ0 μ' v' (n + 1) := by
 obtain ⟨xs, ho, h1, h2⟩ := h
 obtain ⟨v', μ', ha, ho'⟩ := ho.push (st := 38) (x := x) Tryz.underlying38 jcI rfl (by kernel_rfl) jh1 rfl (by omega) (jeu hx.one)
 refine ⟨v', μ', ha, xs ++ [x], ho', by simp [h1], fun y hy => ?_⟩
 rcases List.mem_append.1 hy with hy | hy
 ·exact h2 y hy
 ·rw [List.mem_singleton.1 hy]; exact hx
theorem Lim.set {μ0 μ : Mem} {n k b i c : Nat} (h : Lim μ0 μ (.slice (some ⟨i, 0, none⟩) n c) n) (hk : k < n) (hb : b < 4294967296) :
  jbx pZ μ 141 (.pointer (some ⟨i, k, none⟩)) (.int .u32 (.ofNat b)) = some (undef, putL μ i k [.int .u32 (.ofNat b)]) ∧ Lim μ0 (putL μ i k [.int .u32 (.ofNat b)]) (.slice (some ⟨i, 0, none⟩) n c) n := by
 obtain ⟨xs, ho, h1, h2⟩ := h
 have hab := ho.above i ⟨_, _, rfl⟩
 rcases ho.good with ⟨h3, _⟩ | ⟨i', m, z, ov, fx, sh, c', h3, h4, h5, h6, h7⟩
 ·cases h3
 injection h3 with e1 e2 e3
 injection e1 with e1
 injection e1 with e1
 subst e1
 have hblk : Blk μ i m 141 := ⟨_, _, _, _, h4⟩
 refine ⟨jbQ jcI rfl rfl hblk (by omega), xs.set k (.int .u32 (.ofNat b)), ⟨.inr ⟨i, m, z, ov.lay k [.int .u32 (.ofNat b)], fx, sh, c, by rw [List.length_set, h1], jgm h4, by rw [List.length_set]; exact h5, fun j hj => ?_, ?_⟩, ?_, fun j hj => ?_⟩, by rw [List.length_set, h1], fun x hx => ?_⟩
 ·rw [jbV]
  have hj' : j < xs.length := by rw [List.length_set] at hj; exact hj
  by_cases e : j = k
  ·subst e
   rw [dif_pos ⟨rzN _, by simp⟩]
   simp
  ·rw [dif_neg (by simp; omega), h6 j hj', List.getElem_set_ne (by omega)]
 ·rw [List.length_set, e3]; exact h7
 ·exact ho.grow.put_new hab.1
 ·rw [jcd]; exact ho.above j hj
 ·rcases List.mem_or_eq_of_mem_set hx with hx | rfl
  ·exact h2 x hx
  ·exact ⟨b, hb, rfl⟩
end
noncomputable section
open Go.Proofs.YtlkenchibdeinaaGreatDoor.NumText (dig)
structure RegL (tm : T Value) (s : ByteArray) (v : Value) (i : Nat) : Prop where
 r0 : jac tm 0 = .string s
 r2 : jac tm 2 = .slice none 0 0
 r3 : jac tm 3 = .int .i64 0
 r4 : jac tm 4 = v
 r18 : jac tm 18 = .int .i64 (.ofNat (bys s).length)
 r19 : jac tm 19 = .int .i64 (.ofNat i)
theorem RegL.z {tm : T Value} {s : ByteArray} {v : Value} {i : Nat} (h : RegL tm s v i) : jac tm 0 = .string s ∧ jac tm 2 = .slice none 0 0 ∧ jac tm 3 = .int .i64 0 ∧ jac tm 4 = v ∧ jac tm 18 = .int .i64 (.ofNat (bys s).length) ∧ jac tm 19 = .int .i64 (.ofNat i) := ⟨h.r0, h.r2, h.r3, h.r4, h.r18, h.r19⟩
def jdr (l : List Nat) : Prop := ∀ c ∈ l, dig c = true
theorem src_rd {μ : Mem} {v : Value} {n : Nat} (h : Rd μ v n) : ∃ xs, jaP μ 1 n v = some xs ∧ xs.length = n ∧ ∀ x ∈ xs, U32 x := by
 rcases h with ⟨rfl, rfl⟩ | ⟨i, c, m, z, ov, fx, sh, rfl, h2, h3, h4, h5, h6⟩
 ·exact ⟨[], rfl, rfl, fun x h => by cases h⟩
 ·cases n with
  | zero => exact ⟨[], rfl, rfl, fun x h => by cases h⟩
  | succ n =>
    refine ⟨jas z ov 0 (n + 1), ?_, ja9 _ _, fun x hx => ?_⟩
    ·unfold jaP
     rw [show Nat.mul (n + 1) 1 = n + 1 from Nat.mul_one _]
     simp only [h2]
     rw [show Nat.ble (Nat.add 0 (n + 1)) m = true from rzP (by show 0 + (n + 1) ≤ m; omega)]
    ·obtain ⟨k, hk, rfl⟩ := List.getElem_of_mem hx
     have hk' : k < n + 1 := by rw [ja9] at hk; exact hk
     have := jcY (zero := z) (over := ov) (n + 1) 0 k hk'
     rw [rzK hk, rzT] at this
     rw [Option.some.inj this]
     exact h5 k hk'
def ob0 : Ob := .cells 0 141 #[] .e 0 0 false false
theorem bs0 (ρ : Operand → Value) : jap pZ ρ 38 0 #[] = some (ob0, fun id => .slice (some ⟨id, 0, none⟩) 0 0) := by
 unfold jap
 simp only [Tryz.underlying38, jcI]
 rfl
def New (μ : Mem) (v : Value) : Prop := ∀ i, SlAt v i → μ.next ≤ i
theorem New.nil (μ : Mem) : New μ (.slice none 0 0) := fun i hi => by obtain ⟨l, c, hv⟩ := hi; cases hv
theorem New.mk {μ : Mem} {j n c : Nat} (h : μ.next ≤ j) : New μ (.slice (some ⟨j, 0, none⟩) n c) := fun i hi => by
 obtain ⟨l, c', hv⟩ := hi
 injection hv with e1
 injection e1 with e1
 injection e1 with e1
 subst e1
 exact h
theorem jiL {μ : Mem} {v : Value} {n : Nat} (h : Rd μ v n) (hn : n ≤ 2000000) : ∃ v' μ', jaN pZ ⟨μ.obs.set μ.next ob0, Nat.add μ.next 1⟩ 38 38 (.slice (some ⟨μ.next, 0, none⟩) 0 0) v = some (v', μ') ∧ Rd μ' v' n ∧ Grow μ μ' ∧ New μ v' := by
 have hg1 : Grow μ ⟨μ.obs.set μ.next ob0, Nat.add μ.next 1⟩ := ja5 μ _
 have h1 := h.grow hg1
 obtain ⟨xs, hs, hl, hx⟩ := src_rd h1
 have hlen : lenV v = some n := by
  rcases h with ⟨rfl, rfl⟩ | ⟨i, c, m, z, ov, fx, sh, rfl, _⟩ <;> rfl
 have e1 : Nat.ble Tryz.t141.bytes 4096 = true := by kernel_rfl
 have e2 : Nat.beq (jaR (.int .u32 0)).length 1 = true := by kernel_rfl
 have e3 : Nat.ble n 67108864 = true := rzP (by omega)
 have e4 : Tryz.t141.size = 1 := by kernel_rfl
 have e5 : Nat.beq xs.length (Nat.mul n 1) = true := by rw [hl, show Nat.mul n 1 = n from Nat.mul_one n]; exact Nat.beq_refl n
 have hap : jaN pZ ⟨μ.obs.set μ.next ob0, Nat.add μ.next 1⟩ 38 38 (.slice (some ⟨μ.next, 0, none⟩) 0 0) v = ja1 pZ ⟨μ.obs.set μ.next ob0, Nat.add μ.next 1⟩ 141 1 n xs (.slice (some ⟨μ.next, 0, none⟩) 0 0) := by
  unfold jaN
  simp only [Tryz.underlying38, jcI, e1, jh1, e4, e2, hlen, e3, hs, e5]
 rw [hap]
 unfold ja1
 have e6 : Nat.ble (Nat.add 0 n) 67108864 = true := rzP (by show 0 + n ≤ _; omega)
 simp only [e6]
 cases n with
 | zero =>
   have hx0 : xs = [] := List.eq_nil_of_length_eq_zero hl
   subst hx0
   refine ⟨_, _, rfl, .inr ⟨μ.next, 0, 0, #[], .e, false, false, rfl, by show T.get _ _ = _; rw [T.get_set, if_pos rfl]; rfl, rzN _, rzQ _, fun k hk => by omega, .inl ⟨rfl, rzN _⟩⟩, hg1, New.mk (rzN _)⟩
 | succ n =>
   have e7 : Nat.ble (Nat.add 0 (n + 1)) (Nat.div 0 2) = false := by
    cases hb : Nat.ble (Nat.add 0 (n + 1)) (Nat.div 0 2) with
    | false => rfl
    | true => have := rzE hb; have h0 : Nat.div 0 2 = 0 := rfl; rw [h0] at this; have : 0 + (n + 1) ≤ 0 := this; omega
   simp only [show Nat.beq (Nat.mod 0 2) 0 = true from rfl, e7]
   refine ⟨_, _, rfl, .inr ⟨μ.next + 1, 3, xs.length, xs.toArray, .e, true, false, ?_, ?_, by omega, ?_, fun k hk => ?_, .inr ⟨rfl, rfl⟩⟩, ?_, New.mk (Nat.le_succ _)⟩
   ·show Value.slice (some ⟨Nat.add μ.next 1, 0, none⟩) (Nat.add 0 (n + 1)) _ = _
    rw [show Nat.add 0 (n + 1) = n + 1 from rzT _]
   ·show T.get (T.set _ (Nat.add μ.next 1) _) _ = _
    rw [T.get_set, if_pos rfl]
    rfl
   ·show μ.next + 1 < μ.next + 1 + 1; omega
   ·rw [jbg xs k (by omega)]
    exact hx _ (List.getElem_mem _)
   ·refine ⟨?_, fun i hi => ?_⟩
    ·show μ.next ≤ μ.next + 1 + 1; omega
    ·show T.get (T.set (T.set _ _ _) (Nat.add μ.next 1) _) i = _
     rw [T.get_set, if_neg (by show i ≠ μ.next + 1; omega), T.get_set, if_neg (by omega)]
end
noncomputable section
open Go.Proofs.YtlkenchibdeinaaGreatDoor.NumText (dig unsg isS)
def obI : Ob := .cells 2 40 #[.bool false, .slice none 0 0] .e 0 0 false false
theorem z_I : ja6 pZ 40 = some (.agg #[.bool false, .slice none 0 0]) := by kernel_rfl
@[go_sem] theorem al_I : jcS pZ 40 = some (obI, fun id => .pointer (some ⟨id, 0, none⟩)) := by kernel_rfl
def obN : Ob := .cells 4 42 #[.bool false, .float .f64 0, .bool false, .slice none 0 0] .e 0 0 false false
theorem z_N : ja6 pZ 42 = some (.agg #[.bool false, .float .f64 0, .bool false, .slice none 0 0]) := by kernel_rfl
@[go_sem] theorem al_N : jcS pZ 42 = some (obN, fun id => .pointer (some ⟨id, 0, none⟩)) := by kernel_rfl
theorem build_I {ρ : Operand → Value} {a b : Operand} {p x : Value} (ha : ρ a = p) (hb : ρ b = x) (hp : one p = true) (hx : one x = true) : jb0 pZ ρ 40 #[(0, a), (1, b)] = some (.agg #[p, x]) := by
 have hpl : ∃ f, pZ.underlying 40 = some (.struct f) ∧ jcA pZ f.toList = some [(0, 1), (1, 1)] := ⟨_, Tryz.underlying40, by kernel_rfl⟩
 obtain ⟨f, h1, h2⟩ := hpl
 refine jbY (cs := [p, x]) z_I h1 h2 ?_
 simp only [List.map_cons, List.map_nil, ha, hb]
 show jcR _ [.bool false, .slice none 0 0] [(0, p), (1, x)] = _
 rw [jdq (off := 0) rfl hp (by decide)]
 show jcR _ [p, .slice none 0 0] [(1, x)] = _
 rw [jdq (off := 1) rfl hx (by simp)]
 rfl
theorem jgK (ρ : Operand → Value) : jb0 pZ ρ 40 #[] = some (.agg #[.bool false, .slice none 0 0]) := by
 have hpl : ∃ f, pZ.underlying 40 = some (.struct f) ∧ jcA pZ f.toList = some [(0, 1), (1, 1)] := ⟨_, Tryz.underlying40, by kernel_rfl⟩
 obtain ⟨f, h1, h2⟩ := hpl
 exact jbY (cs := [.bool false, .slice none 0 0]) z_I h1 h2 rfl
theorem blkI {μ : Mem} : Blk ⟨μ.obs.set μ.next obI, μ.next + 1⟩ μ.next 2 40 := ⟨_, _, _, _, by show T.get _ _ = _; rw [T.get_set, if_pos rfl]; rfl⟩
theorem blkN {μ : Mem} : Blk ⟨μ.obs.set μ.next obN, μ.next + 1⟩ μ.next 4 42 := ⟨_, _, _, _, by show T.get _ _ = _; rw [T.get_set, if_pos rfl]; rfl⟩
theorem st_I {μ : Mem} {i : Nat} {x y : Value} (h : Blk μ i 2 40) (hx : one x = true) (hy : one y = true) : jbx pZ μ 40 (.pointer (some ⟨i, 0, none⟩)) (.agg #[x, y]) = some (undef, putL μ i 0 [x, y]) := jcr (vs := [x, y]) i_Int rfl (by simp [hx, hy]) h (by simp)
@[go_sem] theorem ld_I {μ : Mem} {i : Nat} {x y : Value} (h : Blk μ i 2 40) : jcq pZ (putL μ i 0 [x, y]) 40 (.pointer (some ⟨i, 0, none⟩)) = some (.agg #[x, y]) := (Has.of_put (vs := [x, y]) h (by simp)).load Tryz.underlying40 i_Int rfl
def isInt (s : ByteArray) : Prop := 0 < (unsg (bys s)).length ∧ jdr (unsg (bys s))
attribute [local irreducible] jaS
def FinE (s : ByteArray) (μ0 : Mem) (i : Nat) : Ax → Rg → Mem → Prop := fun x r μ' => x = .ret ∧ Grow μ0 μ' ∧ ∃ tm b v e, r = ⟨37, tm, [], none⟩ ∧ jac tm 2 = .pointer (some ⟨i, 0, none⟩) ∧ jac tm 3 = .int .i64 e ∧ jcq pZ μ' 40 (.pointer (some ⟨i, 0, none⟩)) = some (.agg #[.bool b, v]) ∧ (isInt s → e = 0 ∨ e = 11) ∧ (¬ isInt s → e = 13) ∧ one v = true
end
noncomputable section
@[go_sem] def gg118 {X ev} := gC X ev Tryz.func118 rfl rfl
theorem pl_N : ∃ f, pZ.underlying 42 = some (.struct f) ∧ jcA pZ f.toList = some [(0, 1), (1, 1), (2, 2)] := ⟨_, Tryz.underlying42, by kernel_rfl⟩
theorem jgJ (ρ : Operand → Value) : jb0 pZ ρ 42 #[] = some (.agg #[.bool false, .float .f64 0, .bool false, .slice none 0 0]) := by
 obtain ⟨f, h1, h2⟩ := pl_N
 exact jbY (cs := [.bool false, .float .f64 0, .bool false, .slice none 0 0]) z_N h1 h2 rfl
theorem build_N2 {ρ : Operand → Value} {a : Operand} {p x : Value} (ha : ρ a = .agg #[p, x]) : jb0 pZ ρ 42 #[(2, a)] = some (.agg #[.bool false, .float .f64 0, p, x]) := by
 obtain ⟨f, h1, h2⟩ := pl_N
 refine jbY (cs := [.bool false, .float .f64 0, p, x]) z_N h1 h2 ?_
 simp only [List.map_cons, List.map_nil, ha]
 rfl
theorem build_NF {ρ : Operand → Value} {a b : Operand} {f : Nat} (ha : ρ a = .bool true) (hb : ρ b = .float .f64 f) : jb0 pZ ρ 42 #[(0, a), (1, b)] = some (.agg #[.bool true, .float .f64 f, .bool false, .slice none 0 0]) := by
 obtain ⟨fl, h1, h2⟩ := pl_N
 refine jbY (cs := [.bool true, .float .f64 f, .bool false, .slice none 0 0]) z_N h1 h2 ?_
 simp only [List.map_cons, List.map_nil, ha, hb]
 rfl
theorem st_N {μ : Mem} {i : Nat} {a b x y : Value} (h : Blk μ i 4 42) (h1 : one a = true) (h2 : one b = true) (hx : one x = true) (hy : one y = true) : jbx pZ μ 42 (.pointer (some ⟨i, 0, none⟩)) (.agg #[a, b, x, y]) = some (undef, putL μ i 0 [a, b, x, y]) := jcr (vs := [a, b, x, y]) i_Num rfl (by simp [h1, h2, hx, hy]) h (by simp)
@[go_sem] theorem ld_N {μ : Mem} {i : Nat} {a b x y : Value} (h : Blk μ i 4 42) : jcq pZ (putL μ i 0 [a, b, x, y]) 42 (.pointer (some ⟨i, 0, none⟩)) = some (.agg #[a, b, x, y]) := (Has.of_put (vs := [a, b, x, y]) h (by simp)).load Tryz.underlying42 i_Num rfl
theorem flo_numR {X : XT} {g f : Nat} {μ : Mem} (hg : 20 ≤ g) : ∃ μ', aFun pZ (jaj pZ X S0 g) 118 [.float .f64 f] μ = some (.agg #[.bool true, .float .f64 f, .bool false, .slice none 0 0], μ') ∧ Grow μ μ' := by
 obtain ⟨k, rfl⟩ := gle hg
 have hst : jbx pZ ⟨μ.obs.set μ.next obN, μ.next + 1⟩ 42 (.pointer (some ⟨μ.next, 0, none⟩)) (.agg #[.bool true, .float .f64 f, .bool false, .slice none 0 0]) = some (undef, putL ⟨μ.obs.set μ.next obN, μ.next + 1⟩ μ.next 0 [.bool true, .float .f64 f, .bool false, .slice none 0 0]) := st_N blkN rfl rfl rfl rfl
 have hb : ∀ r y, aev pZ r y = .float .f64 f → jb0 pZ (aev pZ r) 42 #[(0, .const (.bool true)), (1, y)] = some (.agg #[.bool true, .float .f64 f, .bool false, .slice none 0 0]) := fun r y g => build_NF rfl g
 refine ⟨_, jaF ?_, (ja5 μ obN).put_new (o := 0) (vs := [.bool true, .float .f64 f, .bool false, .slice none 0 0]) (rzN _)⟩
 refine jaf Tryz.func118 rfl rfl (nbl rfl) ?_
 simp only [go_sem, Tryz.ntmps118]
 repeat (refine jaa rfl ?_; (try simp only [go_sem, hb, hst]); fail_if_success refine stk ?_)
 refine jad ?_
 refine ⟨rfl, _, ?_, rfl, rfl⟩
 simp only [go_sem, Tryz.results118]
 rw [ld_N blkN]
def obIv (p x : Value) : Ob := .cells 2 40 #[p, x] .e 0 0 false false
theorem box_I (p x : Value) : aBox 40 (.agg #[p, x]) = some (obIv p x, fun id => .pointer (some ⟨id, 0, none⟩)) := rfl
end
end Go.Proofs.YtlkenchibdeinaaGreatDoor.ce
