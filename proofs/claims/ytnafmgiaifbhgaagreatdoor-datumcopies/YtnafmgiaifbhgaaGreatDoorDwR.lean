/-
  distafflaw05.DatumCopies, part R: its walk and its law. No conditions.
-/
import Derived.Test.YtnafmgiaifbhgaaGreatDoorDwQ
set_option maxRecDepth 20000
set_option maxHeartbeats 8000000
set_option linter.unusedSimpArgs false
set_option linter.unusedVariables false
set_option linter.unusedSectionVars false
namespace Go.Proofs.YtnafmgiaifbhgaaGreatDoor.dc
open Go Go.Proofs Go.Proofs.YtnafmgiaifbhgaaGreatDoor Go.Proofs.YtnafmgiaifbhgaaGreatDoor.Ev
noncomputable section
structure Own (e : TypeId) (μ0 μ : Mem) (v : Value) (xs : List Value) : Prop where
 good : GoodSl μ e v xs
 grow : Grow μ0 μ
 above : ∀ i, SlAt v i → μ0.next ≤ i ∧ i < μ.next
theorem Own.nil (e : TypeId) (μ : Mem) : Own e μ μ (.slice none 0 0) [] := ⟨.inl ⟨rfl, rfl⟩, Grow.refl _, fun i h => by obtain ⟨l, c, h⟩ := h; cases h⟩
theorem Own.keep {e : TypeId} {μ0 μ μ' : Mem} {v : Value} {xs : List Value} (h : Own e μ0 μ v xs) (hg : Grow μ μ') : Own e μ0 μ' v xs :=
 ⟨h.good.keep fun i hi => hg.2 i (h.above i hi).2, h.grow.trans hg, fun i hi => ⟨(h.above i hi).1, Nat.lt_of_lt_of_le (h.above i hi).2 hg.1⟩⟩
theorem Own.push {st e : TypeId} {inf : TypeInfo} {z0 : Value} (hu : pZ.underlying st = some (.slice e)) (hi : pZ.info? e = some inf) (hsz : inf.size = 1) (hby : Nat.ble inf.bytes 4096 = true) (hz : jbh pZ e = some z0) (hzl : (ja2 z0).length = 1)
  {μ0 μ : Mem} {v x : Value} {xs : List Value} (h : Own e μ0 μ v xs) (hn : xs.length < 1000000) (hs : scalar x = true) :
  ∃ v' μ', jbk pZ ⟨μ.obs.set μ.next (.cells 1 e #[x] .e 0 0 false false), Nat.add μ.next 1⟩ st st v (.slice (some ⟨μ.next, 0, none⟩) 1 2) = some (v', μ') ∧ Own e μ0 μ' v' (xs ++ [x]) := by
 have hg1 : Grow μ ⟨μ.obs.set μ.next (.cells 1 e #[x] .e 0 0 false false), Nat.add μ.next 1⟩ := jbn μ _
 have h1 := h.keep hg1
 obtain ⟨v', μ', ha, hg, hnx, hat, hk⟩ := jjJ (P := pZ) (st := st) (x := x) (q := μ.next) hu hi hsz hby hz hzl h1.good (by show T.get _ _ = _; rw [T.get_set, if_pos rfl]) hn hs
 have hnx' : μ'.next = μ.next + 1 + 1 := hnx
 refine ⟨v', μ', ha, hg, ⟨?_, fun i hi => ?_⟩, fun i hi => ?_⟩
 ·have := h.grow.1; omega
 ·have h0 := h.grow.1
  rw [hk i (by show i ≠ μ.next + 1; omega) (fun hv => by have := (h1.above i hv).1; omega)]
  exact h1.grow.2 i hi
 ·obtain ⟨l, c, hv⟩ := hat
  obtain ⟨l', c', hv'⟩ := hi
  rw [hv] at hv'
  injection hv' with e1
  injection e1 with e2
  injection e2 with e3
  have e4 : i = μ.next + 1 := e3.symm
  have h0 := h.grow.1
  omega
def U32 (x : Value) : Prop := ∃ a, a < 4294967296 ∧ x = .int .u32 (.ofNat a)
theorem U32.one {x : Value} (h : U32 x) : one x = true := by obtain ⟨a, _, rfl⟩ := h; rfl
theorem z_u32 : jbh pZ 48 = some (.int .u32 0) := by unfold jbh; rw [jdl]; rfl
theorem conv_4u (n : Int) : ja9 pZ 48 66 (.int .u32 n) = some (.int .u64 (jax .u64 n)) := by
 simp only [ja9, Tryz.underlying66, Tryz.underlying48]
theorem conv_u4 (n : Int) : ja9 pZ 66 48 (.int .u64 n) = some (.int .u32 (jax .u32 n)) := by
 simp only [ja9, Tryz.underlying66, Tryz.underlying48]
theorem q4 (m : Nat) : jax .u32 (.ofNat m) = .ofNat (m % 4294967296) := by
 rw [jbR]
 show IntKind.wrap .u32 _ = _
 unfold IntKind.wrap
 simp only [IntKind.bits, IntKind.signed]
 simp
def Cap (n c : Nat) : Prop := (c % 2 = 0 ∧ n ≤ c / 2) ∨ (c % 2 = 1 ∧ c / 2 = 1)
def Rd (μ : Mem) (v : Value) (n : Nat) : Prop :=
 (v = .slice none 0 0 ∧ n = 0) ∨ ∃ i c m z ov fx sh, v = .slice (some ⟨i, 0, none⟩) n c ∧ μ.obs.get i = some (.cells m 48 z ov 0 0 fx sh) ∧ n ≤ m ∧ i < μ.next ∧ (∀ k, k < n → U32 (cellAt z ov k)) ∧ Cap n c
theorem Rd.nil (μ : Mem) : Rd μ (.slice none 0 0) 0 := .inl ⟨rfl, rfl⟩
theorem Rd.grow {μ μ' : Mem} {v : Value} {n : Nat} (h : Rd μ v n) (g : Grow μ μ') : Rd μ' v n := by
 rcases h with h | ⟨i, c, m, z, ov, fx, sh, h1, h2, h3, h4, h5, h6⟩
 ·exact .inl h
 ·exact .inr ⟨i, c, m, z, ov, fx, sh, h1, (g.2 i h4).trans h2, h3, Nat.lt_of_lt_of_le h4 g.1, h5, h6⟩
theorem Rd.len {μ : Mem} {v : Value} {n : Nat} (h : Rd μ v n) : aLen pZ 23 v = some n := by
 unfold aLen
 rcases h with ⟨rfl, rfl⟩ | ⟨i, c, m, z, ov, fx, sh, rfl, _⟩ <;> simp only [Tryz.underlying23]
theorem Rd.one {μ : Mem} {v : Value} {n : Nat} (h : Rd μ v n) : one v = true := by
 rcases h with ⟨rfl, rfl⟩ | ⟨i, c, m, z, ov, fx, sh, rfl, _⟩ <;> rfl
theorem Rd.at {μ : Mem} {v : Value} {n k : Nat} (h : Rd μ v n) (hk : k < n) : ∃ i c a, v = .slice (some ⟨i, 0, none⟩) n c ∧ a < 4294967296 ∧ jal μ i k = some (.int .u32 (.ofNat a)) := by
 rcases h with ⟨_, rfl⟩ | ⟨i, c, m, z, ov, fx, sh, h1, h2, h3, h4, h5, h6⟩
 ·omega
 ·obtain ⟨a, ha, hc⟩ := h5 k hk
  refine ⟨i, c, a, h1, ha, ?_⟩
  unfold jal
  rw [h2]
  show (if k < m then some (cellAt z ov k) else none) = _
  rw [if_pos (by omega), hc]
theorem Rd.take {μ : Mem} {v : Value} {n k : Nat} (h : Rd μ v n) (hk : k ≤ n) : ∃ v', (∀ (ρ : Operand → Value) (x y : Operand), ρ x = v → ρ y = .int .i64 (.ofNat k) → jbg pZ ρ 23 x none (some y) none = some v') ∧ Rd μ v' k ∧ ∀ i, SlAt v' i → SlAt v i := by
 rcases h with ⟨rfl, rfl⟩ | ⟨i, c, m, z, ov, fx, sh, rfl, h2, h3, h4, h5, h6⟩
 ·obtain rfl : k = 0 := by omega
  refine ⟨.slice none 0 0, fun ρ x y hx hy => ?_, Rd.nil μ, fun i hi => hi⟩
  unfold jbg
  simp only [hx, Tryz.underlying23, jdl, jbp, jb0, hy]
  try rfl
 ·refine ⟨.slice (some ⟨i, 0, none⟩) k c, fun ρ x y hx hy => ?_, .inr ⟨i, c, m, z, ov, fx, sh, rfl, h2, by omega, h4, fun j hj => h5 j (by omega), by unfold Cap at h6 ⊢; omega⟩, fun j hj => by
   obtain ⟨l', c', hv⟩ := hj
   injection hv with e1 e2 e3
   rw [e1]
   exact ⟨n, c, rfl⟩⟩
  unfold jbg
  rcases h6 with ⟨g1, g2⟩ | ⟨g1, g2⟩
  ·have e1 : Nat.beq (Nat.mod c 2) 0 = true := by rw [show Nat.mod c 2 = 0 from g1]; rfl
   have e3 : Nat.ble k (Nat.div c 2) = true := Nat.ble_eq_true_of_le (by show k ≤ c / 2; omega)
   simp only [hx, Tryz.underlying23, jdl, e1, jbp, jb0, hy, e3]
   have e4 : Addr.add ⟨i, 0, none⟩ (Nat.mul 0 Tryz.t48.size) = ⟨i, 0, none⟩ := by rw [show Nat.mul 0 Tryz.t48.size = 0 from Nat.zero_mul _]; rfl
   have e5 : Nat.mul 2 (Nat.sub (Nat.div c 2) 0) = c := by show 2 * (c / 2 - 0) = c; omega
   have e6 : Nat.sub k 0 = k := rfl
   cases Nat.beq (Nat.div c 2) 0 <;> simp only [e4, e5, e6]
  ·have e1 : Nat.beq (Nat.mod c 2) 0 = false := by rw [show Nat.mod c 2 = 1 from g1]; rfl
   have e3 : Nat.ble k n = true := Nat.ble_eq_true_of_le hk
   simp only [hx, Tryz.underlying23, jdl, e1, jbp, jb0, hy, e3]
   try rfl
def Lim (μ0 μ : Mem) (v : Value) (n : Nat) : Prop := ∃ xs, Own 48 μ0 μ v xs ∧ xs.length = n ∧ ∀ x ∈ xs, U32 x
theorem Lim.rd {μ0 μ : Mem} {v : Value} {n : Nat} (h : Lim μ0 μ v n) : Rd μ v n := by
 obtain ⟨xs, ho, rfl, hx⟩ := h
 rcases ho.good with ⟨h1, h2⟩ | ⟨i, m, z, ov, fx, sh, c, h1, h2, h3, h4, h5⟩
 ·exact .inl ⟨h1, by rw [h2]; rfl⟩
 ·exact .inr ⟨i, c, m, z, ov, fx, sh, h1, h2, h3, (ho.above i ⟨_, _, h1⟩).2, fun k hk => by rw [h4 k hk]; exact hx _ (List.getElem_mem hk), by unfold Cap; omega⟩
theorem Lim.grow {μ0 μ : Mem} {v : Value} {n : Nat} (h : Lim μ0 μ v n) : Grow μ0 μ := by obtain ⟨xs, ho, _⟩ := h; exact ho.grow
theorem Lim.nil (μ : Mem) : Lim μ μ (.slice none 0 0) 0 := ⟨[], Own.nil _ _, rfl, fun x h => by cases h⟩
theorem Lim.keep {μ0 μ μ' : Mem} {v : Value} {n : Nat} (h : Lim μ0 μ v n) (g : Grow μ μ') : Lim μ0 μ' v n := by
 obtain ⟨xs, ho, h1, h2⟩ := h
 exact ⟨xs, ho.keep g, h1, h2⟩
theorem Lim.push {μ0 μ : Mem} {v x : Value} {n : Nat} (h : Lim μ0 μ v n) (hn : n < 1000000) (hx : U32 x) : ∃ v' μ', jbk pZ ⟨μ.obs.set μ.next (.cells 1 48 #[x] .e 0 0 false false), Nat.add μ.next 1⟩ 23 23 v (.slice (some ⟨μ.next, 0, none⟩) 1 2) = some (v', μ') ∧ Lim μ0 μ' v' (n + 1) := by
 obtain ⟨xs, ho, h1, h2⟩ := h
 obtain ⟨v', μ', ha, ho'⟩ := ho.push (st := 23) (x := x) Tryz.underlying23 jdl rfl (by kernel_rfl) z_u32 rfl (by omega) (jeo hx.one)
 refine ⟨v', μ', ha, xs ++ [x], ho', by simp [h1], fun y hy => ?_⟩
 rcases List.mem_append.1 hy with hy | hy
 ·exact h2 y hy
 ·rw [List.mem_singleton.1 hy]; exact hx
theorem Lim.set {μ0 μ : Mem} {n k b i c : Nat} (h : Lim μ0 μ (.slice (some ⟨i, 0, none⟩) n c) n) (hk : k < n) (hb : b < 4294967296) :
  jbt pZ μ 48 (.pointer (some ⟨i, k, none⟩)) (.int .u32 (.ofNat b)) = some (undef, putL μ i k [.int .u32 (.ofNat b)]) ∧ Lim μ0 (putL μ i k [.int .u32 (.ofNat b)]) (.slice (some ⟨i, 0, none⟩) n c) n := by
 obtain ⟨xs, ho, h1, h2⟩ := h
 have hab := ho.above i ⟨_, _, rfl⟩
 rcases ho.good with ⟨h3, _⟩ | ⟨i', m, z, ov, fx, sh, c', h3, h4, h5, h6, h7⟩
 ·cases h3
 injection h3 with e1 e2 e3
 injection e1 with e1
 injection e1 with e1
 subst e1
 have hblk : Blk μ i m 48 := ⟨_, _, _, _, h4⟩
 refine ⟨jbl jdl rfl rfl hblk (by omega), xs.set k (.int .u32 (.ofNat b)), ⟨.inr ⟨i, m, z, ov.lay k [.int .u32 (.ofNat b)], fx, sh, c, by rw [List.length_set, h1], jem h4, by rw [List.length_set]; exact h5, fun j hj => ?_, ?_⟩, ?_, fun j hj => ?_⟩, by rw [List.length_set, h1], fun x hx => ?_⟩
 ·rw [jbO]
  have hj' : j < xs.length := by rw [List.length_set] at hj; exact hj
  by_cases e : j = k
  ·subst e
   rw [dif_pos ⟨Nat.le_refl _, by simp⟩]
   simp
  ·rw [dif_neg (by simp; omega), h6 j hj', List.getElem_set_ne (by omega)]
 ·rw [List.length_set, e3]; exact h7
 ·exact ho.grow.put_new hab.1
 ·rw [jbb]; exact ho.above j hj
 ·rcases List.mem_or_eq_of_mem_set hx with hx | rfl
  ·exact h2 x hx
  ·exact ⟨b, hb, rfl⟩
end
noncomputable section
open Go.Proofs.YtnafmgiaifbhgaaGreatDoor.NumText (dig)
section
set_option linter.defProp false
variable {X : XT} {ev : Code → Rg → Mem → Option (Ax × Rg × Mem)}
def gg101 := go_call (P := pZ) (X := X) (ev := ev) (S := S0) Tryz.func101 rfl rfl
def gg123 := go_call (P := pZ) (X := X) (ev := ev) (S := S0) Tryz.func123 rfl rfl
def gg67 := go_call (P := pZ) (X := X) (ev := ev) (S := S0) Tryz.func67 rfl rfl
def gg92 := go_call (P := pZ) (X := X) (ev := ev) (S := S0) Tryz.func92 rfl rfl
def gg17 := go_call (P := pZ) (X := X) (ev := ev) (S := S0) Tryz.func17 rfl rfl
end
structure RegL (tm : T Value) (s : ByteArray) (v : Value) (i : Nat) : Prop where
 r0 : jam tm 0 = .string s
 r2 : jam tm 2 = .slice none 0 0
 r3 : jam tm 3 = .int .i64 0
 r4 : jam tm 4 = v
 r18 : jam tm 18 = .int .i64 (.ofNat (bys s).length)
 r19 : jam tm 19 = .int .i64 (.ofNat i)
theorem wShr32' (a : Nat) : ja5 false .u64 (.ofNat (W a)) 32 = some (.int .u64 (.ofNat (W (W a / 2 ^ 32)))) := wShr a 32 (by decide)
theorem lp_in {s : ByteArray} {i n : Nat} (hn : n ≤ 1000000) : ∀ (m k : Nat), k + m = n → ∀ {X : XT} {e d : Nat} {tm : T Value} {v : Value} {μ0 μ : Mem}, Lim μ0 μ v n → RegL tm s v i → jam tm 6 = u d → jam tm 38 = .int .i64 (.ofNat n) → jam tm 39 = .int .i64 (.ofNat k) →
  EndsC (jao pZ X S0 (e + m + 40) (.loop (jaR Tryz.f101 1)) ⟨70, tm, [], none⟩ μ) fun x r μ' => x = .exit 2 ∧ Lim μ0 μ' v n ∧ ∃ tm' d', r = ⟨70, tm', [], none⟩ ∧ RegL tm' s v i ∧ jam tm' 6 = u d' := by
 intro m
 induction m with
 | zero =>
   intro k hk X e d tm v μ0 μ hL h h6 h38 h39
   have hk : k = n := hk
   have e1 : ilt (.ofNat k) (.ofNat n) = false := (jat _ _).trans (decide_eq_false (by omega))
   refine jan ?_
   repeat (first | refine jab rfl ?_ | (refine jac rfl ?_; (try simp only [go_sem, h38, h39, e1]); fail_if_success refine ifC ?_))
   exact ⟨by trivial, hL, _, d, rfl, (by constructor <;> simp only [go_sem, h.r0, h.r2, h.r3, h.r4, h.r18, h.r19]), (by simp only [go_sem, h6])⟩
 | succ m ih =>
   intro k hk X e d tm v μ0 μ hL h h6 h38 h39
   have hkn : k < n := by omega
   obtain ⟨bi, c, a, rfl, ha, hc⟩ := hL.rd.at hkn
   obtain ⟨x, hx⟩ : ∃ x, x = W (W a * 10) + W d := ⟨_, rfl⟩
   obtain ⟨hst, hL2⟩ := hL.set (b := W x % 4294967296) hkn (Nat.mod_lt _ (by decide))
   have e1 : ilt (.ofNat k) (.ofNat n) = true := (jat _ _).trans (decide_eq_true hkn)
   have q1 : jax .u64 (.ofNat a) = .ofNat (W a) := jbP a
   have q2 : jax .u64 (Int.add (.ofNat (W (W a * 10))) (.ofNat (W d))) = .ofNat (W x) := by rw [hx]; exact wAdd _ _
   have q3 : jax .u32 (.ofNat (W x)) = .ofNat (W x % 4294967296) := q4 _
   have q5 : jax .i64 (Int.add (.ofNat k) 1) = .ofNat (k + 1) := jaV k 1 (by omega)
   have hix : ∀ (rg : Rg) (a b : Operand), aev pZ rg a = .slice (some ⟨bi, 0, none⟩) n c → aev pZ rg b = .int .i64 (.ofNat k) → jas pZ (aev pZ rg) 23 a b = some (.pointer (some ⟨bi, k, none⟩)) := fun rg a b g1 g2 => by
    rw [ja1 (P := pZ) Tryz.underlying23 jdl rfl g1 g2 hkn, Nat.zero_add]
   clear hx
   obtain ⟨b, hb⟩ : ∃ b, b = W x % 4294967296 := ⟨_, rfl⟩
   rw [← hb] at hst q3 hL2
   refine jan ?_
   repeat (first | refine jab rfl ?_ | (refine jac rfl ?_; (try simp only [go_sem, h.r0, h.r2, h.r3, h.r4, h.r18, h.r19, h6, h38, h39, e1, hix, jcd, hc, conv_4u, conv_u4, q1, jgL, q2, q3, q5, hst, wShr32']); fail_if_success refine ifC ?_))
   rw [show e + (m + 1) + 39 = e + m + 40 from by omega]
   exact ih (k + 1) (by omega) (d := W x / 2 ^ 32) hL2 (by constructor <;> simp only [go_sem, h.r0, h.r2, h.r3, h.r4, h.r18, h.r19]) (by simp only [go_sem]) (by simp only [go_sem, h38]) (by simp only [go_sem])
def jeh (l : List Nat) : Prop := ∀ c ∈ l, dig c = true
theorem lp_out {s : ByteArray} (hl : (bys s).length ≤ 1000) : ∀ (m i : Nat), i + m = (bys s).length → ∀ {X : XT} {e n : Nat} {tm : T Value} {v : Value} {μ0 μ : Mem}, n ≤ i → Lim μ0 μ v n → RegL tm s v i →
  EndsC (jao pZ X S0 (e + m + 1200) (.loop (jaR Tryz.f101 0)) ⟨70, tm, [], none⟩ μ) fun x r μ' => Grow μ0 μ' ∧ ∃ tm', r = ⟨70, tm', [], none⟩ ∧ ((jeh ((bys s).drop i) ∧ x = .exit 0 ∧ ∃ v' n', n' ≤ 1000 ∧ Lim μ0 μ' v' n' ∧ jam tm' 4 = v') ∨ (¬ jeh ((bys s).drop i) ∧ x = .ret ∧ jam tm' 2 = .slice none 0 0 ∧ jam tm' 3 = .int .i64 13)) := by
 intro m
 induction m with
 | zero =>
   intro i hi X e n tm v μ0 μ hni hL h
   have hi : i = (bys s).length := hi
   have e1 : ilt (.ofNat i) (.ofNat (bys s).length) = false := (jat _ _).trans (decide_eq_false (by omega))
   refine jan ?_
   repeat (first | refine jab rfl ?_ | (refine jac rfl ?_; (try simp only [go_sem, h.r0, h.r2, h.r3, h.r4, h.r18, h.r19, e1]); fail_if_success refine ifC ?_))
   exact ⟨hL.grow, _, rfl, .inl ⟨(by rw [hi, List.drop_length]; intro c hc; cases hc), by trivial, v, n, by omega, hL, by simp only [go_sem, h.r4]⟩⟩
 | succ m ih =>
   intro i hi X e n tm v μ0 μ hni hL h
   have hlt : i < (bys s).length := by omega
   have hdr : (bys s).drop i = (bys s)[i]'hlt :: (bys s).drop (i + 1) := List.drop_eq_getElem_cons hlt
   obtain ⟨c, hc⟩ : ∃ c, c = (bys s)[i]'hlt := ⟨_, rfl⟩
   have hc256 : c < 256 := by rw [hc]; exact byte_lt (List.getElem_mem hlt)
   rw [← hc] at hdr
   have hx : ∀ (r : Rg) (x y : Operand), aev pZ r x = .string s → aev pZ r y = .int .i64 (.ofNat i) → ja3 pZ (aev pZ r) 9 x y = some (.int .u8 (.ofNat c)) := fun r x y h1 h2 => by rw [hc]; exact jbU hlt h1 h2
   have e1 : ilt (.ofNat i) (.ofNat (bys s).length) = true := (jat _ _).trans (decide_eq_true hlt)
   have a1 : jax .i64 (Int.add (.ofNat i) 1) = .ofNat (i + 1) := jaV i 1 (by omega)
   clear hc
   rw [hdr]
   by_cases h48 : c < 48
   ·have d1 : ilt (.ofNat c) 48 = true := (jbM c 48 48 rfl).trans (decide_eq_true h48)
    refine jan ?_
    repeat (first | refine jab rfl ?_ | (refine jac rfl ?_; (try simp only [go_sem, h.r0, h.r2, h.r3, h.r4, h.r18, h.r19, e1, hx, d1, undef]); fail_if_success refine ifC ?_))
    refine jah ?_
    exact ⟨hL.grow, _, rfl, .inr ⟨fun ha => (by have := ha c List.mem_cons_self; simp [dig] at this; omega), by trivial, (by simp only [go_sem]), (by simp only [go_sem])⟩⟩
   have d1 : ilt (.ofNat c) 48 = false := (jbM c 48 48 rfl).trans (decide_eq_false h48)
   by_cases h57 : 57 < c
   ·have d2 : ilt 57 (.ofNat c) = true := (jcn c 57 57 rfl).trans (decide_eq_true h57)
    refine jan ?_
    repeat (first | refine jab rfl ?_ | (refine jac rfl ?_; (try simp only [go_sem, h.r0, h.r2, h.r3, h.r4, h.r18, h.r19, e1, hx, d1, d2, undef]); fail_if_success refine ifC ?_))
    refine jah ?_
    exact ⟨hL.grow, _, rfl, .inr ⟨fun ha => (by have := ha c List.mem_cons_self; simp [dig] at this; omega), by trivial, (by simp only [go_sem]), (by simp only [go_sem])⟩⟩
   have d2 : ilt 57 (.ofNat c) = false := (jcn c 57 57 rfl).trans (decide_eq_false h57)
   have hdc : dig c = true := by simp [dig]; omega
   have hall : ∀ l, jeh (c :: l) ↔ jeh l := fun l => ⟨fun h d hd => h d (List.mem_cons_of_mem _ hd), fun h d hd => by
    rcases List.mem_cons.1 hd with rfl | hd
    ·exact hdc
    ·exact h d hd⟩
   have q1 : jax .u8 (Int.sub (.ofNat c) 48) = .ofNat (c - 48) := n8_sub (b := 48) (by omega) (by omega)
   have q2 : jax .u64 (.ofNat (c - 48)) = .ofNat (W (c - 48)) := jbP _
   have lv := hL.rd.len
   refine jan ?_
   repeat (first | refine jab rfl ?_ | (refine jac rfl ?_; (try simp only [go_sem, h.r0, h.r2, h.r3, h.r4, h.r18, h.r19, e1, hx, d1, d2, undef, q1, jfo, q2, jaa, lv, jae]); fail_if_success refine ifC ?_))
   rw [show e + (m + 1) + 1189 = (e + (m + 1) + 1149 - n) + n + 40 from by omega]
   refine EndsC.mono (lp_in (s := s) (i := i) (by omega) n 0 (Nat.zero_add _) hL (d := c - 48) (by constructor <;> simp only [go_sem, h.r0, h.r2, h.r3, h.r4, h.r18, h.r19]) (by simp only [go_sem]) (by simp only [go_sem]) (by simp only [go_sem]; try rfl)) ?_
   rintro x r μ1 ⟨rfl, hL1, tm1, d', rfl, h, h6⟩
   simp only [jaX, reduceIte, jak]
   by_cases hz : W d' = 0
   ·have z1 : ilt 0 (.ofNat (W d')) = false := (jat 0 _).trans (decide_eq_false (by omega))
    repeat (first | refine jab rfl ?_ | (refine jac rfl ?_; (try simp only [go_sem, h.r0, h.r2, h.r3, h.r4, h.r18, h.r19, h6, z1, a1]); fail_if_success refine ifC ?_))
    rw [show e + (m + 1) + 1199 = e + m + 1200 from by omega]
    refine EndsC.mono (ih (i + 1) (by omega) (n := n) (by omega) hL1 (by constructor <;> simp only [go_sem, h.r0, h.r2, h.r3, h.r4, h.r18, h.r19])) ?_
    rintro x r μ' ⟨g1, tm', g2, g3⟩
    refine ⟨g1, tm', g2, ?_⟩
    rcases g3 with ⟨g3, g4⟩ | ⟨g3, g4⟩
    ·exact .inl ⟨(hall _).2 g3, g4⟩
    ·exact .inr ⟨fun h => g3 ((hall _).1 h), g4⟩
   ·have z1 : ilt 0 (.ofNat (W d')) = true := (jat 0 _).trans (decide_eq_true (by omega))
    have q3 : jax .u32 (.ofNat (W d')) = .ofNat (W d' % 4294967296) := q4 _
    obtain ⟨b, hb⟩ : ∃ b, b = W d' % 4294967296 := ⟨_, rfl⟩
    have hbl : b < 4294967296 := by rw [hb]; exact Nat.mod_lt _ (by decide)
    rw [← hb] at q3
    obtain ⟨v', μ2, hap, hL2⟩ := hL1.push (x := .int .u32 (.ofNat b)) (by omega) ⟨b, hbl, rfl⟩
    have bs : ∀ (r : Rg) (x : Operand), aev pZ r x = .int .u32 (.ofNat b) → jbd pZ (aev pZ r) 23 1 #[(0, x)] = some (.cells 1 48 #[.int .u32 (.ofNat b)] .e 0 0 false false, fun id => .slice (some ⟨id, 0, none⟩) 1 2) := fun r x g => jfJ Tryz.underlying23 jdl rfl z_u32 rfl g rfl
    repeat (first | refine jab rfl ?_ | (refine jac rfl ?_; (try simp only [go_sem, h.r0, h.r2, h.r3, h.r4, h.r18, h.r19, h6, z1, a1, conv_u4, q3, bs, jaa, hap]); fail_if_success refine ifC ?_))
    rw [show e + (m + 1) + 1199 = e + m + 1200 from by omega]
    refine EndsC.mono (ih (i + 1) (by omega) (n := n + 1) (v := v') (by omega) hL2 (by constructor <;> simp only [go_sem, h.r0, h.r2, h.r3, h.r4, h.r18, h.r19])) ?_
    rintro x r μ' ⟨g1, tm', g2, g3⟩
    refine ⟨g1, tm', g2, ?_⟩
    rcases g3 with ⟨g3, g4⟩ | ⟨g3, g4⟩
    ·exact .inl ⟨(hall _).2 g3, g4⟩
    ·exact .inr ⟨fun h => g3 ((hall _).1 h), g4⟩
theorem src_rd {μ : Mem} {v : Value} {n : Nat} (h : Rd μ v n) : ∃ xs, ja7 μ 1 n v = some xs ∧ xs.length = n ∧ ∀ x ∈ xs, U32 x := by
 rcases h with ⟨rfl, rfl⟩ | ⟨i, c, m, z, ov, fx, sh, rfl, h2, h3, h4, h5, h6⟩
 ·exact ⟨[], rfl, rfl, fun x h => by cases h⟩
 ·cases n with
  | zero => exact ⟨[], rfl, rfl, fun x h => by cases h⟩
  | succ n =>
    refine ⟨jaE z ov 0 (n + 1), ?_, jbe _ _, fun x hx => ?_⟩
    ·unfold ja7
     rw [show Nat.mul (n + 1) 1 = n + 1 from Nat.mul_one _]
     simp only [h2]
     rw [show Nat.ble (Nat.add 0 (n + 1)) m = true from Nat.ble_eq_true_of_le (by show 0 + (n + 1) ≤ m; omega)]
    ·obtain ⟨k, hk, rfl⟩ := List.getElem_of_mem hx
     have hk' : k < n + 1 := by rw [jbe] at hk; exact hk
     have := jc3 (zero := z) (over := ov) (n + 1) 0 k hk'
     rw [List.getElem?_eq_getElem hk, Nat.zero_add] at this
     rw [Option.some.inj this]
     exact h5 k hk'
def ob0 : Ob := .cells 0 48 #[] .e 0 0 false false
theorem bs0 (ρ : Operand → Value) : jbd pZ ρ 23 0 #[] = some (ob0, fun id => .slice (some ⟨id, 0, none⟩) 0 0) := by
 unfold jbd
 simp only [Tryz.underlying23, jdl]
 rfl
def New (μ : Mem) (v : Value) : Prop := ∀ i, SlAt v i → μ.next ≤ i
theorem New.nil (μ : Mem) : New μ (.slice none 0 0) := fun i hi => by obtain ⟨l, c, hv⟩ := hi; cases hv
theorem New.mk {μ : Mem} {j n c : Nat} (h : μ.next ≤ j) : New μ (.slice (some ⟨j, 0, none⟩) n c) := fun i hi => by
 obtain ⟨l, c', hv⟩ := hi
 injection hv with e1
 injection e1 with e1
 injection e1 with e1
 subst e1
 exact h
theorem jic {μ : Mem} {v : Value} {n : Nat} (h : Rd μ v n) (hn : n ≤ 1000000) : ∃ v' μ', jbk pZ ⟨μ.obs.set μ.next ob0, Nat.add μ.next 1⟩ 23 23 (.slice (some ⟨μ.next, 0, none⟩) 0 0) v = some (v', μ') ∧ Rd μ' v' n ∧ Grow μ μ' ∧ New μ v' := by
 have hg1 : Grow μ ⟨μ.obs.set μ.next ob0, Nat.add μ.next 1⟩ := jbn μ _
 have h1 := h.grow hg1
 obtain ⟨xs, hs, hl, hx⟩ := src_rd h1
 have hlen : lenV v = some n := by
  rcases h with ⟨rfl, rfl⟩ | ⟨i, c, m, z, ov, fx, sh, rfl, _⟩ <;> rfl
 have e1 : Nat.ble Tryz.t48.bytes 4096 = true := by kernel_rfl
 have e2 : Nat.beq (ja2 (.int .u32 0)).length 1 = true := by kernel_rfl
 have e3 : Nat.ble n 67108864 = true := Nat.ble_eq_true_of_le (by omega)
 have e4 : Tryz.t48.size = 1 := by kernel_rfl
 have e5 : Nat.beq xs.length (Nat.mul n 1) = true := by rw [hl, show Nat.mul n 1 = n from Nat.mul_one n]; exact Nat.beq_refl n
 have hap : jbk pZ ⟨μ.obs.set μ.next ob0, Nat.add μ.next 1⟩ 23 23 (.slice (some ⟨μ.next, 0, none⟩) 0 0) v = jbo pZ ⟨μ.obs.set μ.next ob0, Nat.add μ.next 1⟩ 48 1 n xs (.slice (some ⟨μ.next, 0, none⟩) 0 0) := by
  unfold jbk
  simp only [Tryz.underlying23, jdl, e1, z_u32, e4, e2, hlen, e3, hs, e5]
 rw [hap]
 unfold jbo
 have e6 : Nat.ble (Nat.add 0 n) 67108864 = true := Nat.ble_eq_true_of_le (by show 0 + n ≤ _; omega)
 simp only [e6]
 cases n with
 | zero =>
   have hx0 : xs = [] := List.eq_nil_of_length_eq_zero hl
   subst hx0
   refine ⟨_, _, rfl, .inr ⟨μ.next, 0, 0, #[], .e, false, false, rfl, by show T.get _ _ = _; rw [T.get_set, if_pos rfl]; rfl, Nat.le_refl _, Nat.lt_succ_self _, fun k hk => by omega, .inl ⟨rfl, Nat.le_refl _⟩⟩, hg1, New.mk (Nat.le_refl _)⟩
 | succ n =>
   have e7 : Nat.ble (Nat.add 0 (n + 1)) (Nat.div 0 2) = false := by
    cases hb : Nat.ble (Nat.add 0 (n + 1)) (Nat.div 0 2) with
    | false => rfl
    | true => have := Nat.le_of_ble_eq_true hb; have h0 : Nat.div 0 2 = 0 := rfl; rw [h0] at this; have : 0 + (n + 1) ≤ 0 := this; omega
   simp only [show Nat.beq (Nat.mod 0 2) 0 = true from rfl, e7]
   refine ⟨_, _, rfl, .inr ⟨μ.next + 1, 3, xs.length, xs.toArray, .e, true, false, ?_, ?_, by omega, ?_, fun k hk => ?_, .inr ⟨rfl, rfl⟩⟩, ?_, New.mk (Nat.le_succ _)⟩
   ·show Value.slice (some ⟨Nat.add μ.next 1, 0, none⟩) (Nat.add 0 (n + 1)) _ = _
    rw [show Nat.add 0 (n + 1) = n + 1 from Nat.zero_add _]
   ·show T.get (T.set _ (Nat.add μ.next 1) _) _ = _
    rw [T.get_set, if_pos rfl]
    rfl
   ·show μ.next + 1 < μ.next + 1 + 1; omega
   ·rw [jbB xs k (by omega)]
    exact hx _ (List.getElem_mem _)
   ·refine ⟨?_, fun i hi => ?_⟩
    ·show μ.next ≤ μ.next + 1 + 1; omega
    ·show T.get (T.set (T.set _ _ _) (Nat.add μ.next 1) _) i = _
     rw [T.get_set, if_neg (by show i ≠ μ.next + 1; omega), T.get_set, if_neg (by omega)]
theorem jjL {μ : Mem} {v : Value} {n : Nat} (h : Rd μ v n) (hn : n ≤ 1000000) : ∃ v' μ', jbk pZ ⟨μ.obs.set μ.next ob0, Nat.add μ.next 1⟩ 23 23 (.slice (some ⟨μ.next, 0, none⟩) 0 0) v = some (v', μ') ∧ Rd μ' v' n ∧ Grow μ μ' := by
 obtain ⟨v', μ', h1, h2, h3, _⟩ := jic h hn
 exact ⟨v', μ', h1, h2, h3⟩
end
noncomputable section
open Go.Proofs.YtnafmgiaifbhgaaGreatDoor.NumText (dig unsg isS)
theorem an4 (a : Addr) (n c : Nat) : aNil pZ 23 (.slice (some a) n c) (.slice none 0 0) = true := by
 unfold aNil
 simp only [Tryz.underlying23]
theorem an5 : aNil pZ 23 (.slice none 0 0) (.slice none 0 0) = false := rfl
theorem p_sl (r : Rg) {d : Option Tmp} {yt ty : TypeId} {x : Operand} {ps : String} {af : Array Edge} {gd : Option (Nat × Bool)} (hx : aev pZ r x = .slice none 0 0) : jaT pZ (aev pZ r) ⟨d, .binOp .eql 23 x (.const (.slice none 0 0)) yt, ty, ps, af, gd⟩ = some (.bool true) := by
 have hy : aev pZ r (.const (.slice none 0 0)) = .slice none 0 0 := rfl
 unfold jaT
 have e : pv pZ (execOp (aev pZ r) ⟨d, .binOp .eql 23 x (.const (.slice none 0 0)) yt, ty, ps, af, gd⟩) = some (.value (.bool true)) := by
  simp only [execOp, hx, hy]
  kernel_rfl
 simp only [opsOf, jbV, hx, hy, jaS, e]
theorem cloneL_ex {X : XT} {g n : Nat} {v : Value} {μ : Mem} (h : Rd μ v n) (hn : n ≤ 1000000) (hg : 20 ≤ g) : ∃ v' μ', aFun pZ (jao pZ X S0 g) 17 [v] μ = some (v', μ') ∧ Rd μ' v' n ∧ Grow μ μ' := by
 obtain ⟨k, rfl⟩ := gle hg
 obtain ⟨v', μ1, hap, hR, hG⟩ := jjL h hn
 have key : EndsF (aFun pZ (jao pZ X S0 (k + 20)) 17 [v] μ) fun w μ' => Rd μ' w n ∧ Grow μ μ' := by
  rcases h with ⟨rfl, rfl⟩ | ⟨i, c, m, z, ov, fx, sh, rfl, h2, h3, h4, h5, h6⟩
  ·skip
   refine jaj Tryz.func17 rfl rfl (nbl rfl) ?_
   simp only [go_sem, Tryz.ntmps17]
   repeat (first | refine jab rfl ?_ | (refine jac rfl ?_; (try simp only [go_sem, an5, p_sl]); fail_if_success refine ifC ?_))
   refine jah ?_
   refine ⟨rfl, .slice none 0 0, ?_, Rd.nil _, Grow.refl _⟩
   simp only [go_sem, Tryz.results17]
  ·skip
   refine jaj Tryz.func17 rfl rfl (nbl rfl) ?_
   simp only [go_sem, Tryz.ntmps17]
   repeat (first | refine jab rfl ?_ | (refine jac rfl ?_; (try simp only [go_sem, an4, bs0, jaa, hap]); fail_if_success refine ifC ?_))
   refine jah ?_
   refine ⟨rfl, v', ?_, hR, hG⟩
   simp only [go_sem, Tryz.results17]
 obtain ⟨w, μ', h1, h2, h3⟩ := key
 exact ⟨w, μ', h1, h2, h3⟩
theorem ji0 {n : Nat} (hn : n ≤ 1000000) : ∀ k, k ≤ n → ∀ {X : XT} {e : Nat} {tm : T Value} {v : Value} {μ : Mem}, Rd μ v n → jam tm 0 = v → jam tm 3 = .int .i64 (.ofNat k) →
  EndsC (jao pZ X S0 (e + k + 20) (.loop (jaR Tryz.f67 0)) ⟨22, tm, [], none⟩ μ) fun x r μ' => x = .exit 0 ∧ μ' = μ ∧ ∃ tm' k', r = ⟨22, tm', [], none⟩ ∧ k' ≤ n ∧ jam tm' 0 = v ∧ jam tm' 3 = .int .i64 (.ofNat k') := by
 intro k
 induction k with
 | zero =>
   intro hk X e tm v μ h h0 h3
   have e1 : ilt 0 (.ofNat 0) = false := rfl
   refine jan ?_
   refine jag ?_
   refine jag ?_
   refine jad rfl ?_
   (repeat (first | (refine jai ?_ rfl ?_; (solve | simp only [go_sem, undef, h0, h3, e1])) | (refine jaf (v := ?_) (μ' := ?_) ?_ ?_ rfl ?_; rotate_left 2; (solve | rfl | simp only [go_sem, undef, h0, h3, e1]); (solve | simp only [go_sem, undef, h0, h3, e1]; try exact rfl))))
   simp only [go_sem]
   refine jaC ?_ ?_
   ·simp only [go_sem]
   refine jbA ?_
   simp only [jbC]
   exact ⟨by trivial, by trivial, _, 0, rfl, Nat.zero_le _, by simp only [go_sem, h0], by simp only [go_sem, h3]⟩
 | succ k ih =>
   intro hk X e tm v μ h h0 h3
   obtain ⟨bi, c, a, rfl, ha, hc⟩ := h.at (show k < n by omega)
   have e1 : ilt 0 (.ofNat (k + 1)) = true := (jat 0 (k + 1)).trans (decide_eq_true (Nat.succ_pos k))
   have q1 : jax .i64 (Int.sub (.ofNat (k + 1)) 1) = .ofNat k := jck (k + 1) 1 (by omega) (by omega)
   have hix : ∀ (rg : Rg) (a b : Operand), aev pZ rg a = .slice (some ⟨bi, 0, none⟩) n c → aev pZ rg b = .int .i64 (.ofNat k) → jas pZ (aev pZ rg) 23 a b = some (.pointer (some ⟨bi, k, none⟩)) := fun rg a b g1 g2 => by
    rw [ja1 (P := pZ) Tryz.underlying23 jdl rfl g1 g2 (by omega), Nat.zero_add]
   by_cases hz : a = 0
   ·have e2 : ieq (.ofNat a) 0 = true := (jaQ _ 0 0 rfl).trans (decide_eq_true hz)
    refine jan ?_
    refine jag ?_
    refine jag ?_
    refine jad rfl ?_
    iterate 10 (refine jaf (by first | rfl | (simp only [go_sem, undef, h0, h3, e1, q1, hix, jcd, hc, e2])) (by simp only [go_sem, undef, h0, h3, e1, q1, hix, jcd, hc, e2]; try exact rfl) rfl ?_)
    simp only [go_sem]
    repeat (first | refine jab rfl ?_ | (refine jac rfl ?_; (try simp only [go_sem, h0, h3, q1]); fail_if_success refine ifC ?_))
    rw [show e + (k + 1) + 19 = e + k + 20 from by omega]
    exact ih (by omega) h (by simp only [go_sem, h0]) (by simp only [go_sem])
   ·have e2 : ieq (.ofNat a) 0 = false := (jaQ _ 0 0 rfl).trans (decide_eq_false hz)
    refine jan ?_
    refine jag ?_
    refine jag ?_
    refine jad rfl ?_
    iterate 10 (refine jaf (by first | rfl | (simp only [go_sem, undef, h0, h3, e1, q1, hix, jcd, hc, e2])) (by simp only [go_sem, undef, h0, h3, e1, q1, hix, jcd, hc, e2]; try exact rfl) rfl ?_)
    simp only [go_sem]
    refine jaC ?_ ?_
    ·simp only [go_sem]
    refine jbA ?_
    simp only [jbC]
    exact ⟨by trivial, by trivial, _, k + 1, rfl, hk, by simp only [go_sem, h0], by simp only [go_sem, h3]⟩
theorem trimL_ex {X : XT} {g n : Nat} {v : Value} {μ : Mem} (h : Rd μ v n) (hn : n ≤ 10000) (hg : 10100 ≤ g) : ∃ v' n' μ', aFun pZ (jao pZ X S0 g) 67 [v] μ = some (v', μ') ∧ n' ≤ n ∧ Rd μ' v' n' ∧ Grow μ μ' := by
 obtain ⟨k, rfl⟩ := gle hg
 have lv := h.len
 have key : EndsF (aFun pZ (jao pZ X S0 (k + 10100)) 67 [v] μ) fun w μ' => ∃ n', n' ≤ n ∧ Rd μ' w n' ∧ Grow μ μ' := by
  refine jaj Tryz.func67 rfl rfl (nbl rfl) ?_
  simp only [go_sem, Tryz.ntmps67]
  repeat (first | refine jab rfl ?_ | (refine jac rfl ?_; (try simp only [go_sem, jaa, lv, jae]); fail_if_success refine ifC ?_))
  rw [show k + 10096 = (k + 10076 - n) + n + 20 from by omega]
  refine EndsC.mono (ji0 (by omega) n (Nat.le_refl _) h (by simp only [go_sem]) (by simp only [go_sem])) ?_
  rintro x r μ' ⟨rfl, rfl, tm', n', rfl, hn', h0, h3⟩
  simp only [jaX, reduceIte, jak]
  obtain ⟨v1, hsl, hR1, _⟩ := h.take hn'
  have hsl : ∀ (rg : Rg) (x y : Operand), aev pZ rg x = v → aev pZ rg y = .int .i64 (.ofNat n') → jbg pZ (aev pZ rg) 23 x none (some y) none = some v1 := fun rg x y g1 g2 => hsl _ x y g1 g2
  obtain ⟨v2, μ2, hr, hR2, hG⟩ := cloneL_ex (X := X) (g := k + 10095) hR1 (by omega) (by omega)
  repeat (first | refine jab rfl ?_ | (refine jac rfl ?_; (try simp only [go_sem, h0, h3, hsl, gg17, hr]); fail_if_success refine ifC ?_))
  refine jah ?_
  refine ⟨rfl, v2, ?_, n', hn', hR2, hG⟩
  simp only [go_sem, Tryz.results67]
 obtain ⟨w, μ', h1, n', h2, h3, h4⟩ := key
 exact ⟨w, n', μ', h1, h2, h3, h4⟩
theorem capped_ex {X : XT} {g n : Nat} {v : Value} {μ : Mem} (h : Rd μ v n) (hn : n ≤ 10000) (hg : 10200 ≤ g) : ∃ v' n' e μ', aFun pZ (jao pZ X S0 g) 123 [v] μ = some (.tuple #[v', .int .i64 e], μ') ∧ (e = 0 ∨ e = 11) ∧ n' ≤ n ∧ Rd μ' v' n' ∧ Grow μ μ' := by
 obtain ⟨k, rfl⟩ := gle hg
 obtain ⟨v1, n1, μ1, hr, hn1, hR, hG⟩ := trimL_ex (X := X) (g := k + 10197) h hn (by omega)
 have lv := hR.len
 have big : ∀ g, 10 ≤ g → aFun pZ (jao pZ X S0 g) 92 [v1] μ1 = some (.bool (decide (64 < n1)), μ1) := fun g hg => by
  obtain ⟨k, rfl⟩ := gle hg
  have e1 : ilt 64 (.ofNat n1) = decide (64 < n1) := jat 64 n1
  refine jaN ?_
  refine jaj Tryz.func92 rfl rfl (nbl rfl) ?_
  simp only [go_sem, Tryz.ntmps92]
  repeat (first | refine jab rfl ?_ | (refine jac rfl ?_; (try simp only [go_sem, jaa, lv, jae, e1]); fail_if_success refine ifC ?_))
  refine jah ?_
  refine ⟨rfl, _, ?_, rfl, rfl⟩
  simp only [go_sem, Tryz.results92]
 have key : EndsF (aFun pZ (jao pZ X S0 (k + 10200)) 123 [v] μ) fun w μ' => ∃ v' n' e, w = .tuple #[v', .int .i64 e] ∧ (e = 0 ∨ e = 11) ∧ n' ≤ n ∧ Rd μ' v' n' ∧ Grow μ μ' := by
  by_cases hb : 64 < n1
  ·rw [decide_eq_true hb] at big
   refine jaj Tryz.func123 rfl rfl (nbl rfl) ?_
   simp only [go_sem, Tryz.ntmps123]
   repeat (first | refine jab rfl ?_ | (refine jac rfl ?_; (try simp only [go_sem, gg67, hr, gg92, big, Nat.reduceLeDiff]); fail_if_success refine ifC ?_))
   refine jah ?_
   refine ⟨rfl, .tuple #[.slice none 0 0, .int .i64 11], ?_, _, 0, 11, rfl, .inr rfl, Nat.zero_le _, Rd.nil _, hG⟩
   simp only [go_sem, Tryz.results123]
  ·rw [decide_eq_false hb] at big
   refine jaj Tryz.func123 rfl rfl (nbl rfl) ?_
   simp only [go_sem, Tryz.ntmps123]
   repeat (first | refine jab rfl ?_ | (refine jac rfl ?_; (try simp only [go_sem, gg67, hr, gg92, big, Nat.reduceLeDiff]); fail_if_success refine ifC ?_))
   refine jah ?_
   refine ⟨rfl, .tuple #[v1, .int .i64 0], ?_, v1, n1, 0, rfl, .inl rfl, hn1, hR, hG⟩
   simp only [go_sem, Tryz.results123]
 obtain ⟨w, μ', h1, v', n', e, rfl, h2, h3, h4, h5⟩ := key
 exact ⟨v', n', e, μ', h1, h2, h3, h4, h5⟩
theorem jg6 {s : ByteArray} (hl : (bys s).length ≤ 700) {X : XT} {g : Nat} {μ : Mem} (hg : 12000 ≤ g) : ∃ v n e μ', aFun pZ (jao pZ X S0 g) 101 [.string s] μ = some (.tuple #[v, .int .i64 e], μ') ∧ ((0 < (bys s).length ∧ jeh (bys s)) → e = 0 ∨ e = 11) ∧ (¬ (0 < (bys s).length ∧ jeh (bys s)) → e = 13) ∧ Rd μ' v n ∧ Grow μ μ' := by
 obtain ⟨k, rfl⟩ := gle hg
 have ls := ja6 s
 have key : EndsF (aFun pZ (jao pZ X S0 (k + 12000)) 101 [.string s] μ) fun w μ' => ∃ v n e, w = .tuple #[v, .int .i64 e] ∧ ((0 < (bys s).length ∧ jeh (bys s)) → e = 0 ∨ e = 11) ∧ (¬ (0 < (bys s).length ∧ jeh (bys s)) → e = 13) ∧ Rd μ' v n ∧ Grow μ μ' := by
  by_cases h0 : (bys s).length = 0
  ·have e1 : ieq (.ofNat (bys s).length) 0 = true := (jaQ _ 0 0 rfl).trans (decide_eq_true h0)
   refine jaj Tryz.func101 rfl rfl (nbl rfl) ?_
   simp only [go_sem, Tryz.ntmps101]
   repeat (first | refine jab rfl ?_ | (refine jac rfl ?_; (try simp only [go_sem, undef, jaa, ls, jae, e1]); fail_if_success refine ifC ?_))
   refine jah ?_
   refine ⟨rfl, .tuple #[.slice none 0 0, .int .i64 13], ?_, .slice none 0 0, 0, 13, rfl, fun h => by omega, fun _ => rfl, Rd.nil _, Grow.refl _⟩
   simp only [go_sem, Tryz.results101]
  have e1 : ieq (.ofNat (bys s).length) 0 = false := (jaQ _ 0 0 rfl).trans (decide_eq_false h0)
  have e7 : ilt 700 (.ofNat (bys s).length) = false := (jat 700 _).trans (decide_eq_false (by omega))
  refine jaj Tryz.func101 rfl rfl (nbl rfl) ?_
  simp only [go_sem, Tryz.ntmps101]
  repeat (first | refine jab rfl ?_ | (refine jac rfl ?_; (try simp only [go_sem, undef, jaa, ls, jae, e1, e7]); fail_if_success refine ifC ?_))
  rw [show k + 11994 = (k + 10794 - (bys s).length) + (bys s).length + 1200 from by omega]
  refine EndsC.mono (lp_out (by omega) (bys s).length 0 (Nat.zero_add _) (n := 0) (v := .slice none 0 0) (Nat.le_refl _) (Lim.nil μ) (by constructor <;> (simp only [go_sem]; try rfl))) ?_
  rintro x r μ' ⟨hG, tm', rfl, ⟨ha, rfl, v', n', hn', hL, h4⟩ | ⟨ha, rfl, h2, h3⟩⟩
  ·rw [List.drop_zero] at ha
   simp only [jaX, reduceIte, jak]
   obtain ⟨v2, n2, e, μ2, hr, he, hn2, hR2, hG2⟩ := capped_ex (X := X) (g := k + 11994) hL.rd (by omega) (by omega)
   repeat (first | refine jab rfl ?_ | (refine jac rfl ?_; (try simp only [go_sem, h4, gg123, hr]); fail_if_success refine ifC ?_))
   refine jah ?_
   refine ⟨rfl, .tuple #[v2, .int .i64 e], ?_, v2, n2, e, rfl, fun _ => he, fun h => absurd ⟨by omega, ha⟩ h, hR2, hG.trans hG2⟩
   simp only [go_sem, Tryz.results101]
  ·rw [List.drop_zero] at ha
   simp only [jaX]
   refine ⟨rfl, .tuple #[.slice none 0 0, .int .i64 13], ?_, .slice none 0 0, 0, 13, rfl, fun h => absurd h.2 ha, fun _ => rfl, Rd.nil _, hG⟩
   simp only [go_sem, Tryz.results101]
   rw [h2, h3]
 obtain ⟨w, μ', h1, v, n, e, rfl, h2, h3, h4, h5⟩ := key
 exact ⟨v, n, e, μ', h1, h2, h3, h4, h5⟩
end
noncomputable section
open Go.Proofs.YtnafmgiaifbhgaaGreatDoor.NumText (dig unsg isS)
section
set_option linter.defProp false
variable {X : XT} {ev : Code → Rg → Mem → Option (Ax × Rg × Mem)}
def gg81 := go_call (P := pZ) (X := X) (ev := ev) (S := S0) Tryz.func81 rfl rfl
def gg52 := go_call (P := pZ) (X := X) (ev := ev) (S := S0) Tryz.func52 rfl rfl
def gg34 := go_call (P := pZ) (X := X) (ev := ev) (S := S0) Tryz.func34 rfl rfl
def gg83 := go_call (P := pZ) (X := X) (ev := ev) (S := S0) Tryz.func83 rfl rfl
end
def obI : Ob := .cells 2 25 #[.bool false, .slice none 0 0] .e 0 0 false false
theorem z_I : jbh pZ 25 = some (.agg #[.bool false, .slice none 0 0]) := by kernel_rfl
theorem al_I : jdJ pZ 25 = some (obI, fun id => .pointer (some ⟨id, 0, none⟩)) := by kernel_rfl
def obN : Ob := .cells 4 27 #[.bool false, .float .f64 0, .bool false, .slice none 0 0] .e 0 0 false false
theorem z_N : jbh pZ 27 = some (.agg #[.bool false, .float .f64 0, .bool false, .slice none 0 0]) := by kernel_rfl
theorem al_N : jdJ pZ 27 = some (obN, fun id => .pointer (some ⟨id, 0, none⟩)) := by kernel_rfl
theorem build_I {ρ : Operand → Value} {a b : Operand} {p x : Value} (ha : ρ a = p) (hb : ρ b = x) (hp : one p = true) (hx : one x = true) : jcc pZ ρ 25 #[(0, a), (1, b)] = some (.agg #[p, x]) := by
 have hpl : ∃ f, pZ.underlying 25 = some (.struct f) ∧ jct pZ f.toList = some [(0, 1), (1, 1)] := ⟨_, Tryz.underlying25, by kernel_rfl⟩
 obtain ⟨f, h1, h2⟩ := hpl
 refine jbJ (cs := [p, x]) z_I h1 h2 ?_
 simp only [List.map_cons, List.map_nil, ha, hb]
 show jc7 _ [.bool false, .slice none 0 0] [(0, p), (1, x)] = _
 rw [jdv (off := 0) rfl hp (by decide)]
 show jc7 _ [p, .slice none 0 0] [(1, x)] = _
 rw [jdv (off := 1) rfl hx (by simp)]
 rfl
theorem jiN (ρ : Operand → Value) : jcc pZ ρ 25 #[] = some (.agg #[.bool false, .slice none 0 0]) := by
 have hpl : ∃ f, pZ.underlying 25 = some (.struct f) ∧ jct pZ f.toList = some [(0, 1), (1, 1)] := ⟨_, Tryz.underlying25, by kernel_rfl⟩
 obtain ⟨f, h1, h2⟩ := hpl
 exact jbJ (cs := [.bool false, .slice none 0 0]) z_I h1 h2 rfl
theorem blkI {μ : Mem} : Blk ⟨μ.obs.set μ.next obI, μ.next + 1⟩ μ.next 2 25 := ⟨_, _, _, _, by show T.get _ _ = _; rw [T.get_set, if_pos rfl]; rfl⟩
theorem blkN {μ : Mem} : Blk ⟨μ.obs.set μ.next obN, μ.next + 1⟩ μ.next 4 27 := ⟨_, _, _, _, by show T.get _ _ = _; rw [T.get_set, if_pos rfl]; rfl⟩
theorem st_I {μ : Mem} {i : Nat} {x y : Value} (h : Blk μ i 2 25) (hx : one x = true) (hy : one y = true) : jbt pZ μ 25 (.pointer (some ⟨i, 0, none⟩)) (.agg #[x, y]) = some (undef, putL μ i 0 [x, y]) := jcL (vs := [x, y]) i_Int rfl (by simp [hx, hy]) h (by simp)
theorem ld_I {μ : Mem} {i : Nat} {x y : Value} (h : Blk μ i 2 25) : jbH pZ (putL μ i 0 [x, y]) 25 (.pointer (some ⟨i, 0, none⟩)) = some (.agg #[x, y]) := (Has.of_put (vs := [x, y]) h (by simp)).load Tryz.underlying25 i_Int rfl
theorem signed_ex {X : XT} {g n : Nat} {v : Value} {b : Bool} {μ : Mem} (h : Rd μ v n) (hg : 20 ≤ g) : ∃ b' μ', aFun pZ (jao pZ X S0 g) 52 [.bool b, v] μ = some (.agg #[.bool b', v], μ') ∧ Grow μ μ' := by
 obtain ⟨k, rfl⟩ := gle hg
 have lv := (h.grow (jbn μ obI)).len
 have e1 : ilt 0 (.ofNat n) = decide (0 < n) := jat 0 n
 have key : EndsF (aFun pZ (jao pZ X S0 (k + 20)) 52 [.bool b, v] μ) fun w μ' => ∃ b', w = .agg #[.bool b', v] ∧ Grow μ μ' := by
  have hb : ∀ (c : Bool) (r : Rg) (x y : Operand), aev pZ r x = .bool c → aev pZ r y = v → jcc pZ (aev pZ r) 25 #[(0, x), (1, y)] = some (.agg #[.bool c, v]) := fun c r x y g1 g2 => build_I g1 g2 rfl h.one
  have hs : ∀ c : Bool, jbt pZ ⟨μ.obs.set μ.next obI, μ.next + 1⟩ 25 (.pointer (some ⟨μ.next, 0, none⟩)) (.agg #[.bool c, v]) = some (undef, putL ⟨μ.obs.set μ.next obI, μ.next + 1⟩ μ.next 0 [.bool c, v]) := fun c => st_I blkI rfl h.one
  cases b with
  | false =>
    have hb := hb false
    refine jaj Tryz.func52 rfl rfl (nbl rfl) ?_
    simp only [go_sem, Tryz.ntmps52]
    refine jag ?_
    refine jaw ?_ ?_
    ·rfl
    simp only [go_sem, al_I, Nat.add_eq]
    refine jag ?_
    refine jad rfl ?_
    (repeat (first | (refine jai ?_ rfl ?_; (solve | simp only [go_sem, undef, jaa, lv, jae, e1, hb, hs])) | (refine jaf (v := ?_) (μ' := ?_) ?_ ?_ rfl ?_; rotate_left 2; (solve | rfl | simp only [go_sem, undef, jaa, lv, jae, e1, hb, hs]); (solve | simp only [go_sem, undef, jaa, lv, jae, e1, hb, hs]; try exact rfl))))
    simp only [go_sem]
    refine jah ?_
    refine ⟨rfl, .agg #[.bool false, v], ?_, false, rfl, (jbn μ obI).put_new (Nat.le_refl _)⟩
    simp only [go_sem, Tryz.results52]
    rw [ld_I blkI]
  | true =>
    have hb := hb (decide (0 < n))
    refine jaj Tryz.func52 rfl rfl (nbl rfl) ?_
    simp only [go_sem, Tryz.ntmps52]
    refine jag ?_
    refine jaw ?_ ?_
    ·rfl
    simp only [go_sem, al_I, Nat.add_eq]
    refine jag ?_
    refine jad rfl ?_
    iterate 9 (refine jaf (by first | rfl | (simp only [go_sem, undef, jaa, lv, jae, e1, hb, hs])) (by simp only [go_sem, undef, jaa, lv, jae, e1, hb, hs]; try exact rfl) rfl ?_)
    simp only [go_sem]
    refine jah ?_
    refine ⟨rfl, .agg #[.bool (decide (0 < n)), v], ?_, _, rfl, (jbn μ obI).put_new (Nat.le_refl _)⟩
    simp only [go_sem, Tryz.results52]
    rw [ld_I blkI]
 obtain ⟨w, μ', h1, b', rfl, h2⟩ := key
 exact ⟨b', μ', h1, h2⟩
def isInt (s : ByteArray) : Prop := 0 < (unsg (bys s)).length ∧ jeh (unsg (bys s))
theorem se0 : (jaB Tryz.f81) = .seq (jaY 0 (jaB Tryz.f81)) (.seq (jaY 1 (jaB Tryz.f81)) (.seq (jaY 2 (jaB Tryz.f81)) (ja0 3 (jaB Tryz.f81)))) := by kernel_rfl
theorem se3 : ja0 3 (jaB Tryz.f81) = .seq (jaY 3 (jaB Tryz.f81)) (.seq (jaY 4 (jaB Tryz.f81)) (.seq (jaY 5 (jaB Tryz.f81)) (ja0 6 (jaB Tryz.f81)))) := by kernel_rfl
theorem se6 : ja0 6 (jaB Tryz.f81) = .ret := by kernel_rfl
attribute [local irreducible] ja0
def FinE (s : ByteArray) (μ0 : Mem) (i : Nat) : Ax → Rg → Mem → Prop := fun x r μ' => x = .ret ∧ Grow μ0 μ' ∧ ∃ tm b v e, r = ⟨37, tm, [], none⟩ ∧ jam tm 2 = .pointer (some ⟨i, 0, none⟩) ∧ jam tm 3 = .int .i64 e ∧ jbH pZ μ' 25 (.pointer (some ⟨i, 0, none⟩)) = some (.agg #[.bool b, v]) ∧ (isInt s → e = 0 ∨ e = 11) ∧ (¬ isInt s → e = 13) ∧ one v = true
theorem ep3 {s : ByteArray} (hl : (bys s).length ≤ 700) {X : XT} {k i : Nat} {b : Bool} {tm : T Value} {μ0 μ : Mem} (hG0 : Grow μ0 μ) (hi : μ0.next ≤ i) (hi2 : i < μ.next) (hb : Blk μ i 2 25) (h0 : jam tm 0 = .string (jcv s)) (h2 : jam tm 2 = .pointer (some ⟨i, 0, none⟩)) (h4 : jam tm 4 = .bool b) :
  EndsC (jao pZ X S0 (k + 12500) (ja0 3 (jaB Tryz.f81)) ⟨37, tm, [], none⟩ μ) (FinE s μ0 i) := by
 have hb1 : bys (jcv s) = unsg (bys s) := jeW s
 have hl1 : (bys (jcv s)).length ≤ 700 := by rw [hb1]; have := jf9 (bys s); omega
 obtain ⟨v, n, e, μ1, hr, he1, he2, hR, hG⟩ := jg6 hl1 (X := X) (g := k + 12498) (μ := μ) (by omega)
 rw [hb1] at he1 he2
 have hB1 : Blk μ1 i 2 25 := hb.of_get (hG.2 i hi2)
 by_cases hI : isInt s
 ·rcases he1 hI with rfl | rfl
  ·have z1 : ieq 0 0 = true := rfl
   obtain ⟨b', μ2, hr2, hG2⟩ := signed_ex (b := b) (X := X) (g := k + 12496) hR (by omega)
   have hR2 := hR.grow hG2
   have hi1 : i < μ1.next := Nat.lt_of_lt_of_le hi2 hG.1
   have hB2 : Blk μ2 i 2 25 := hB1.of_get (hG2.2 i hi1)
   have hst := st_I (x := .bool b') (y := v) hB2 rfl hR.one
   rw [se3]
   repeat (first | refine jab rfl ?_ | (refine jac rfl ?_; (try simp only [go_sem, h0, h2, h4, gg101, hr, z1, gg52, hr2, hst]); fail_if_success refine ifC ?_))
   rw [se6]
   refine jah ?_
   exact ⟨by trivial, ((hG0.trans hG).trans hG2).put_new hi, _, b', v, 0, rfl, (by simp only [go_sem, h2]), (by simp only [go_sem]), ld_I hB2, fun _ => .inl rfl, fun h => absurd hI h, hR.one⟩
  ·have z1 : ieq 11 0 = false := rfl
   have hst := st_I (x := .bool false) (y := .slice none 0 0) hB1 rfl rfl
   rw [se3]
   repeat (first | refine jab rfl ?_ | (refine jac rfl ?_; (try simp only [go_sem, h0, h2, h4, gg101, hr, z1, jiN, hst]); fail_if_success refine ifC ?_))
   refine jah ?_
   exact ⟨by trivial, (hG0.trans hG).put_new hi, _, false, .slice none 0 0, 11, rfl, (by simp only [go_sem, h2]), (by simp only [go_sem]), ld_I hB1, fun _ => .inr rfl, fun h => absurd hI h, rfl⟩
 ·obtain rfl := he2 hI
  have z1 : ieq 13 0 = false := rfl
  have hst := st_I (x := .bool false) (y := .slice none 0 0) hB1 rfl rfl
  rw [se3]
  repeat (first | refine jab rfl ?_ | (refine jac rfl ?_; (try simp only [go_sem, h0, h2, h4, gg101, hr, z1, jiN, hst]); fail_if_success refine ifC ?_))
  refine jah ?_
  exact ⟨by trivial, (hG0.trans hG).put_new hi, _, false, .slice none 0 0, 13, rfl, (by simp only [go_sem, h2]), (by simp only [go_sem]), ld_I hB1, fun h => absurd h hI, fun _ => rfl, rfl⟩
theorem jgs {s : ByteArray} (hl : (bys s).length ≤ 700) {X : XT} {g : Nat} {μ : Mem} (hg : 13000 ≤ g) : ∃ b v e μ', aFun pZ (jao pZ X S0 g) 81 [.string s] μ = some (.tuple #[.agg #[.bool b, v], .int .i64 e], μ') ∧ (isInt s → e = 0 ∨ e = 11) ∧ (¬ isInt s → e = 13) ∧ one v = true ∧ Grow μ μ' := by
 obtain ⟨k, rfl⟩ := gle hg
 have ls := ja6 s
 have hG1 : Grow μ ⟨μ.obs.set μ.next obI, μ.next + 1⟩ := jbn μ obI
 have key : EndsF (aFun pZ (jao pZ X S0 (k + 13000)) 81 [.string s] μ) fun w μ' => ∃ b v e, w = .tuple #[.agg #[.bool b, v], .int .i64 e] ∧ (isInt s → e = 0 ∨ e = 11) ∧ (¬ isInt s → e = 13) ∧ one v = true ∧ Grow μ μ' := by
  have fin : ∀ x r μ', FinE s μ μ.next x r μ' → retQ pZ Tryz.f81 (fun w μ' => ∃ b v e, w = .tuple #[.agg #[.bool b, v], .int .i64 e] ∧ (isInt s → e = 0 ∨ e = 11) ∧ (¬ isInt s → e = 13) ∧ one v = true ∧ Grow μ μ') x r μ' := by
   rintro x r μ' ⟨rfl, g1, tm, b, v, e, rfl, g2, g3, g4, g5, g6, g7⟩
   refine ⟨rfl, .tuple #[.agg #[.bool b, v], .int .i64 e], ?_, b, v, e, rfl, g5, g6, g7, g1⟩
   simp only [go_sem, Tryz.results81]
   simp only [g2, g3, g4]
  refine jaj Tryz.func81 rfl rfl (nbl rfl) ?_
  simp only [go_sem, Tryz.ntmps81]
  change EndsC (jao pZ X S0 _ (jaB Tryz.f81) _ _) _
  rw [se0]
  refine jag ?_
  refine jaw ?_ ?_
  ·rfl
  simp only [go_sem, al_I, Nat.add_eq]
  refine jag ?_
  refine jaw ?_ ?_
  ·rfl
  simp only [go_sem]
  cases h : bys s with
  | nil =>
    have hu : jcv s = s := by unfold jcv; rw [h]
    have e1 : ilt 0 (.ofNat (bys s).length) = false := (jat 0 _).trans (decide_eq_false (by rw [h]; decide))
    refine jag ?_
    refine jag ?_
    refine jad rfl ?_
    (repeat (first | (refine jai ?_ rfl ?_; (solve | simp only [go_sem, undef, jaa, ls, jae, e1])) | (refine jaf (v := ?_) (μ' := ?_) ?_ ?_ rfl ?_; rotate_left 2; (solve | rfl | simp only [go_sem, undef, jaa, ls, jae, e1]); (solve | simp only [go_sem, undef, jaa, ls, jae, e1]; try exact rfl))))
    simp only [go_sem]
    refine jaC ?_ ?_
    ·simp only [go_sem]
    refine jbz ?_
    simp only [jak]
    refine EndsC.mono (ep3 hl (k := k + 497) (b := false) hG1 (Nat.le_refl _) (Nat.lt_succ_self _) blkI (by rw [hu]; simp only [go_sem]) (by simp only [go_sem]) (by simp only [go_sem])) fin
  | cons c l =>
    have e1 : ilt 0 (.ofNat (bys s).length) = true := (jat 0 _).trans (decide_eq_true (by rw [h]; exact Nat.succ_pos _))
    have hx : ∀ (r : Rg) (x : Operand), aev pZ r x = .string s → ja3 pZ (aev pZ r) 9 x (.const (.int .i64 0)) = some (.int .u8 (.ofNat c)) := fun r x h1 => at0 (kd := .i64) h h1 rfl
    have hsl : ∀ (r : Rg) (x : Operand), aev pZ r x = .string s → jbg pZ (aev pZ r) 9 x (some (.const (.int .i64 1))) none none = some (.string (jbw s 1)) := fun r x h1 => jb9 (k := 1) (kd := .i64) h1 rfl (by rw [h]; exact Nat.succ_le_succ (Nat.zero_le _))
    by_cases h43 : c = 43
    ·have s1 : ieq (.ofNat c) 43 = true := (jaQ _ 43 43 rfl).trans (decide_eq_true h43)
     have hu : jcv s = jbw s 1 := by unfold jcv; rw [h]; simp only; rw [if_pos (by rw [h43]; decide)]
     have e45 : ieq (.ofNat c) 45 = false := (jaQ _ 45 45 rfl).trans (by rw [h43]; rfl)
     refine jag ?_
     refine jag ?_
     refine jad rfl ?_
     (repeat (first | (refine jai ?_ rfl ?_; (solve | simp only [go_sem, undef, jaa, ls, jae, e1, hx, s1])) | (refine jaf (v := ?_) (μ' := ?_) ?_ ?_ rfl ?_; rotate_left 2; (solve | rfl | simp only [go_sem, undef, jaa, ls, jae, e1, hx, s1]); (solve | simp only [go_sem, undef, jaa, ls, jae, e1, hx, s1]; try exact rfl))))
     simp only [go_sem]
     refine jbZ ?_ ?_
     ·simp only [go_sem]
     refine jaG (n := 7) (ms := [0, 1, 3, 0, 8, 7, 63]) (ord := [0, 1, 2, 3, 4, 5, 6]) (ds := ?_) ?_ ?_ ?_ ?_ ?_ ?_
     rotate_left
     ·kernel_rfl
     ·kernel_rfl
     ·kernel_rfl
     ·rfl
     ·rfl
     iterate 7 (refine jar (by first | rfl | (simp only [go_sem, hx, e45, hsl])) (by simp only [jav, heavy, jaI, jaq, go_sem, hx, e45, hsl]; try exact rfl) rfl ?_)
     simp only [dRun, jay, jak]
     repeat (first | refine jab rfl ?_ | (refine jac rfl ?_; (try simp only [go_sem]); fail_if_success refine ifC ?_))
     refine EndsC.mono (ep3 hl (k := k + 497) (b := false) (hG1.trans (jb7 _ _)) (Nat.le_refl _) (Nat.lt_of_lt_of_le (Nat.lt_succ_self _) (Nat.le_add_right _ _)) (blk_up blkI) (by rw [hu]; simp only [go_sem]) (by simp only [go_sem]) (by simp only [go_sem])) fin
    have s1 : ieq (.ofNat c) 43 = false := (jaQ _ 43 43 rfl).trans (decide_eq_false h43)
    by_cases h45 : c = 45
    ·have s2 : ieq (.ofNat c) 45 = true := (jaQ _ 45 45 rfl).trans (decide_eq_true h45)
     have hu : jcv s = jbw s 1 := by unfold jcv; rw [h]; simp only; rw [if_pos (by rw [h45]; decide)]
     have e45 : ieq (.ofNat c) 45 = true := (jaQ _ 45 45 rfl).trans (by rw [h45]; rfl)
     refine jag ?_
     refine jag ?_
     refine jad rfl ?_
     iterate 13 (refine jaf (by first | rfl | (simp only [go_sem, undef, jaa, ls, jae, e1, hx, s1, s2])) (by simp only [go_sem, undef, jaa, ls, jae, e1, hx, s1, s2]; try exact rfl) rfl ?_)
     simp only [go_sem]
     refine jbZ ?_ ?_
     ·simp only [go_sem]
     refine jaG (n := 7) (ms := [0, 1, 3, 0, 8, 7, 63]) (ord := [0, 1, 2, 3, 4, 5, 6]) (ds := ?_) ?_ ?_ ?_ ?_ ?_ ?_
     rotate_left
     ·kernel_rfl
     ·kernel_rfl
     ·kernel_rfl
     ·rfl
     ·rfl
     iterate 7 (refine jar (by first | rfl | (simp only [go_sem, hx, e45, hsl])) (by simp only [jav, heavy, jaI, jaq, go_sem, hx, e45, hsl]; try exact rfl) rfl ?_)
     simp only [dRun, jay, jak]
     repeat (first | refine jab rfl ?_ | (refine jac rfl ?_; (try simp only [go_sem]); fail_if_success refine ifC ?_))
     refine EndsC.mono (ep3 hl (k := k + 497) (b := true) (hG1.trans (jb7 _ _)) (Nat.le_refl _) (Nat.lt_of_lt_of_le (Nat.lt_succ_self _) (Nat.le_add_right _ _)) (blk_up blkI) (by rw [hu]; simp only [go_sem]) (by simp only [go_sem]) (by simp only [go_sem])) fin
    have s2 : ieq (.ofNat c) 45 = false := (jaQ _ 45 45 rfl).trans (decide_eq_false h45)
    have hu : jcv s = s := by unfold jcv; rw [h]; simp only; rw [if_neg (by simp [isS, h43, h45])]
    refine jag ?_
    refine jag ?_
    refine jad rfl ?_
    iterate 13 (refine jaf (by first | rfl | (simp only [go_sem, undef, jaa, ls, jae, e1, hx, s1, s2])) (by simp only [go_sem, undef, jaa, ls, jae, e1, hx, s1, s2]; try exact rfl) rfl ?_)
    simp only [go_sem]
    refine jaC ?_ ?_
    ·simp only [go_sem]
    refine jbz ?_
    simp only [jak]
    refine EndsC.mono (ep3 hl (k := k + 497) (b := false) hG1 (Nat.le_refl _) (Nat.lt_succ_self _) blkI (by rw [hu]; simp only [go_sem]) (by simp only [go_sem]) (by simp only [go_sem])) fin
 obtain ⟨w, μ', h1, b, v, e, rfl, h2, h3, h4, h5⟩ := key
 exact ⟨b, v, e, μ', h1, h2, h3, h4, h5⟩
end
noncomputable section
section
set_option linter.defProp false
variable {X : XT} {ev : Code → Rg → Mem → Option (Ax × Rg × Mem)}
end
theorem pl_N : ∃ f, pZ.underlying 27 = some (.struct f) ∧ jct pZ f.toList = some [(0, 1), (1, 1), (2, 2)] := ⟨_, Tryz.underlying27, by kernel_rfl⟩
theorem jiM (ρ : Operand → Value) : jcc pZ ρ 27 #[] = some (.agg #[.bool false, .float .f64 0, .bool false, .slice none 0 0]) := by
 obtain ⟨f, h1, h2⟩ := pl_N
 exact jbJ (cs := [.bool false, .float .f64 0, .bool false, .slice none 0 0]) z_N h1 h2 rfl
theorem build_N2 {ρ : Operand → Value} {a : Operand} {p x : Value} (ha : ρ a = .agg #[p, x]) : jcc pZ ρ 27 #[(2, a)] = some (.agg #[.bool false, .float .f64 0, p, x]) := by
 obtain ⟨f, h1, h2⟩ := pl_N
 refine jbJ (cs := [.bool false, .float .f64 0, p, x]) z_N h1 h2 ?_
 simp only [List.map_cons, List.map_nil, ha]
 rfl
theorem build_NF {ρ : Operand → Value} {a b : Operand} {f : Nat} (ha : ρ a = .bool true) (hb : ρ b = .float .f64 f) : jcc pZ ρ 27 #[(0, a), (1, b)] = some (.agg #[.bool true, .float .f64 f, .bool false, .slice none 0 0]) := by
 obtain ⟨fl, h1, h2⟩ := pl_N
 refine jbJ (cs := [.bool true, .float .f64 f, .bool false, .slice none 0 0]) z_N h1 h2 ?_
 simp only [List.map_cons, List.map_nil, ha, hb]
 rfl
theorem st_N {μ : Mem} {i : Nat} {a b x y : Value} (h : Blk μ i 4 27) (h1 : one a = true) (h2 : one b = true) (hx : one x = true) (hy : one y = true) : jbt pZ μ 27 (.pointer (some ⟨i, 0, none⟩)) (.agg #[a, b, x, y]) = some (undef, putL μ i 0 [a, b, x, y]) := jcL (vs := [a, b, x, y]) i_Num rfl (by simp [h1, h2, hx, hy]) h (by simp)
theorem ld_N {μ : Mem} {i : Nat} {a b x y : Value} (h : Blk μ i 4 27) : jbH pZ (putL μ i 0 [a, b, x, y]) 27 (.pointer (some ⟨i, 0, none⟩)) = some (.agg #[a, b, x, y]) := (Has.of_put (vs := [a, b, x, y]) h (by simp)).load Tryz.underlying27 i_Num rfl
theorem flo_numP {X : XT} {g f : Nat} {μ : Mem} (hg : 20 ≤ g) : ∃ μ', aFun pZ (jao pZ X S0 g) 83 [.float .f64 f] μ = some (.agg #[.bool true, .float .f64 f, .bool false, .slice none 0 0], μ') ∧ Grow μ μ' := by
 obtain ⟨k, rfl⟩ := gle hg
 have hst : jbt pZ ⟨μ.obs.set μ.next obN, μ.next + 1⟩ 27 (.pointer (some ⟨μ.next, 0, none⟩)) (.agg #[.bool true, .float .f64 f, .bool false, .slice none 0 0]) = some (undef, putL ⟨μ.obs.set μ.next obN, μ.next + 1⟩ μ.next 0 [.bool true, .float .f64 f, .bool false, .slice none 0 0]) := st_N blkN rfl rfl rfl rfl
 have hb : ∀ (r : Rg) (y : Operand), aev pZ r y = .float .f64 f → jcc pZ (aev pZ r) 27 #[(0, .const (.bool true)), (1, y)] = some (.agg #[.bool true, .float .f64 f, .bool false, .slice none 0 0]) := fun r y g => build_NF rfl g
 refine ⟨_, jaN ?_, (jbn μ obN).put_new (o := 0) (vs := [.bool true, .float .f64 f, .bool false, .slice none 0 0]) (Nat.le_refl _)⟩
 refine jaj Tryz.func83 rfl rfl (nbl rfl) ?_
 simp only [go_sem, Tryz.ntmps83]
 repeat (first | refine jab rfl ?_ | (refine jac rfl ?_; (try simp only [go_sem, al_N, Nat.add_eq, hb, hst]); fail_if_success refine ifC ?_))
 refine jah ?_
 refine ⟨rfl, _, ?_, rfl, rfl⟩
 simp only [go_sem, Tryz.results83]
 rw [ld_N blkN]
def obIv (p x : Value) : Ob := .cells 2 25 #[p, x] .e 0 0 false false
theorem box_I (p x : Value) : aBox 25 (.agg #[p, x]) = some (obIv p x, fun id => .pointer (some ⟨id, 0, none⟩)) := rfl
theorem whole_ex {X : XT} {g : Nat} {p x : Value} {μ : Mem} (hp : one p = true) (hx : one x = true) (hg : 20 ≤ g) : ∃ μ', aFun pZ (jao pZ X S0 g) 34 [.agg #[p, x]] μ = some (.agg #[.bool false, .float .f64 0, p, x], μ') ∧ Grow μ μ' := by
 obtain ⟨k, rfl⟩ := gle hg
 obtain ⟨μ1, hμ1⟩ : ∃ μ1 : Mem, μ1 = ⟨μ.obs.set μ.next (obIv p x), μ.next + 1⟩ := ⟨_, rfl⟩
 have hN : Blk ⟨μ1.obs.set μ1.next obN, μ1.next + 1⟩ μ1.next 4 27 := blkN
 have hst := st_N (a := .bool false) (b := .float .f64 0) hN rfl rfl hp hx
 have hld := ld_N (a := .bool false) (b := .float .f64 0) (x := p) (y := x) hN
 have hi : jbH pZ ⟨μ1.obs.set μ1.next obN, μ1.next + 1⟩ 25 (.pointer (some ⟨μ.next, 0, none⟩)) = some (.agg #[p, x]) := by
  have h0 : μ1.obs.get μ.next = some (obIv p x) := by rw [hμ1]; show T.get _ _ = _; rw [T.get_set, if_pos rfl]
  have h1 : (⟨μ1.obs.set μ1.next obN, μ1.next + 1⟩ : Mem).obs.get μ.next = some (obIv p x) := by
   show T.get (T.set _ _ _) _ = _
   rw [T.get_set, if_neg (by rw [hμ1]; show μ.next ≠ μ.next + 1; omega), h0]
  exact (Has.new (l := [p, x]) h1).load Tryz.underlying25 i_Int rfl
 have hG : Grow μ μ1 := by rw [hμ1]; exact jbn _ _
 have hb : ∀ (r : Rg) (y : Operand), aev pZ r y = .agg #[p, x] → jcc pZ (aev pZ r) 27 #[(2, y)] = some (.agg #[.bool false, .float .f64 0, p, x]) := fun r y g => build_N2 g
 refine ⟨_, jaN ?_, (hG.trans (jbn μ1 obN)).put_new (o := 0) (vs := [.bool false, .float .f64 0, p, x]) hG.1⟩
 rw [hμ1] at hst hld hi ⊢
 refine jaj Tryz.func34 rfl rfl (nbl rfl) ?_
 simp only [go_sem, Tryz.ntmps34]
 repeat (first | refine jab rfl ?_ | (refine jac rfl ?_; (try simp only [go_sem, box_I, al_N, Nat.add_eq, hi, hb, hst]); fail_if_success refine ifC ?_))
 refine jah ?_
 refine ⟨rfl, _, ?_, rfl, rfl⟩
 simp only [go_sem, Tryz.results34]
 rw [hld]
end
noncomputable section
theorem jga {s : ByteArray} (hl : (bys s).length ≤ 700) {X : XT} {g : Nat} {μ : Mem} (hX : jbs X) (hX2 : jb1 X) (hL : Lay μ) (hg : 15000 ≤ g) :
  ∃ a b c d e μ', aFun pZ (jao pZ X S0 g) 66 [.string s] μ = some (.tuple #[.agg #[a, b, c, d], .int .i64 e], μ') ∧ (one a = true ∧ one b = true ∧ one c = true ∧ one d = true) ∧ (isInt s → e = 0 ∨ e = 11) ∧ (¬ isInt s → e = if jgl s then 0 else 13) ∧ Grow μ μ' := by
 obtain ⟨k, rfl⟩ := gle hg
 have hG1 : Grow μ ⟨μ.obs.set μ.next obN, μ.next + 1⟩ := jbn μ obN
 obtain ⟨b, v, e, μ2, hr, he1, he2, hv, hG2⟩ := jgs hl (X := X) (g := k + 14997) (μ := ⟨μ.obs.set μ.next obN, μ.next + 1⟩) (by omega)
 have hB2 : Blk μ2 μ.next 4 27 := blkN.of_get (hG2.2 μ.next (Nat.lt_succ_self _))
 have hst1 := st_I (x := .bool b) (y := v) (blkI (μ := μ2)) rfl hv
 have hld1 := ld_I (x := .bool b) (y := v) (blkI (μ := μ2))
 obtain ⟨μ4, hμ4⟩ : ∃ μ4, μ4 = putL ⟨μ2.obs.set μ2.next obI, μ2.next + 1⟩ μ2.next 0 [.bool b, v] := ⟨_, rfl⟩
 have hG4 : Grow μ2 μ4 := by rw [hμ4]; exact (jbn μ2 obI).put_new (Nat.le_refl _)
 have hlt2 : μ.next < μ2.next := Nat.lt_of_lt_of_le (Nat.lt_succ_self _) hG2.1
 have hB4 : Blk μ4 μ.next 4 27 := hB2.of_get (hG4.2 μ.next hlt2)
 have hlt4 : μ.next < μ4.next := Nat.lt_of_lt_of_le hlt2 hG4.1
 rw [← hμ4] at hst1 hld1
 have hGa : Grow μ μ4 := (hG1.trans hG2).trans hG4
 have key : EndsF (aFun pZ (jao pZ X S0 (k + 15000)) 66 [.string s] μ) fun w μ' => ∃ a b c d e, w = .tuple #[.agg #[a, b, c, d], .int .i64 e] ∧ (one a = true ∧ one b = true ∧ one c = true ∧ one d = true) ∧ (isInt s → e = 0 ∨ e = 11) ∧ (¬ isInt s → e = if jgl s then 0 else 13) ∧ Grow μ μ' := by
  by_cases hI : isInt s
  ·rcases he1 hI with rfl | rfl
   ·have z1 : ieq 0 0 = true := rfl
    obtain ⟨μ5, hr5, hG5⟩ := whole_ex (p := .bool b) (x := v) (X := X) (g := k + 14991) (μ := μ4) rfl hv (by omega)
    have hB5 : Blk μ5 μ.next 4 27 := hB4.of_get (hG5.2 μ.next hlt4)
    have hst := st_N (a := .bool false) (b := .float .f64 0) (x := .bool b) (y := v) hB5 rfl rfl rfl hv
    refine jaj Tryz.func66 rfl rfl (nbl rfl) ?_
    simp only [go_sem, Tryz.ntmps66]
    repeat (first | refine jab rfl ?_ | (refine jac rfl ?_; (try simp only [go_sem, al_N, Nat.add_eq, gg81, hr, al_I, hst1, z1, hld1, gg34, hr5, hst]); fail_if_success refine ifC ?_))
    refine jah ?_
    refine ⟨rfl, .tuple #[.agg #[.bool false, .float .f64 0, .bool b, v], .int .i64 0], ?_, _, _, _, _, _, rfl, ⟨rfl, rfl, rfl, hv⟩, fun _ => .inl rfl, fun h => absurd hI h, (hGa.trans hG5).put_new (Nat.le_refl _)⟩
    simp only [go_sem, Tryz.results66]
    rw [ld_N hB5]
   ·have z1 : ieq 11 0 = false := rfl
    have z2 : ieq 11 11 = true := rfl
    have hst := st_N (a := .bool false) (b := .float .f64 0) (x := .bool false) (y := .slice none 0 0) hB4 rfl rfl rfl rfl
    refine jaj Tryz.func66 rfl rfl (nbl rfl) ?_
    simp only [go_sem, Tryz.ntmps66]
    repeat (first | refine jab rfl ?_ | (refine jac rfl ?_; (try simp only [go_sem, al_N, Nat.add_eq, gg81, hr, al_I, hst1, z1, z2, jiM, hst]); fail_if_success refine ifC ?_))
    refine jah ?_
    refine ⟨rfl, .tuple #[.agg #[.bool false, .float .f64 0, .bool false, .slice none 0 0], .int .i64 11], ?_, _, _, _, _, _, rfl, ⟨rfl, rfl, rfl, rfl⟩, fun _ => .inr rfl, fun h => absurd hI h, hGa.put_new (Nat.le_refl _)⟩
    simp only [go_sem, Tryz.results66]
    rw [ld_N hB4]
  ·obtain rfl := he2 hI
   have z1 : ieq 13 0 = false := rfl
   have z2 : ieq 13 11 = false := rfl
   obtain ⟨f, μ5, hr5, hG5⟩ := flo_ex hl (X := X) (g := k + 14995) (μ := μ4) hX hX2 (hL.grow hGa) (by omega)
   cases hf : jgl s with
   | true =>
     rw [hf, if_pos rfl] at hr5
     have z3 : ieq 0 0 = true := rfl
     obtain ⟨μ6, hr6, hG6⟩ := flo_numP (f := f) (X := X) (g := k + 14993) (μ := μ5) (by omega)
     have hB6 : Blk μ6 μ.next 4 27 := hB4.of_get ((hG5.trans hG6).2 μ.next hlt4)
     have hst := st_N (a := .bool true) (b := .float .f64 f) (x := .bool false) (y := .slice none 0 0) hB6 rfl rfl rfl rfl
     refine jaj Tryz.func66 rfl rfl (nbl rfl) ?_
     simp only [go_sem, Tryz.ntmps66]
     repeat (first | refine jab rfl ?_ | (refine jac rfl ?_; (try simp only [go_sem, al_N, Nat.add_eq, gg81, hr, al_I, hst1, z1, z2, gg82, hr5, z3, gg83, hr6, hst]); fail_if_success refine ifC ?_))
     refine jah ?_
     refine ⟨rfl, .tuple #[.agg #[.bool true, .float .f64 f, .bool false, .slice none 0 0], .int .i64 0], ?_, _, _, _, _, _, rfl, ⟨rfl, rfl, rfl, rfl⟩, fun h => absurd h hI, fun _ => rfl, ((hGa.trans hG5).trans hG6).put_new (Nat.le_refl _)⟩
     simp only [go_sem, Tryz.results66]
     rw [ld_N hB6]
   | false =>
     rw [hf, if_neg (by decide)] at hr5
     have z3 : ieq 31 0 = false := rfl
     have hB5 : Blk μ5 μ.next 4 27 := hB4.of_get (hG5.2 μ.next hlt4)
     have hst := st_N (a := .bool false) (b := .float .f64 0) (x := .bool false) (y := .slice none 0 0) hB5 rfl rfl rfl rfl
     refine jaj Tryz.func66 rfl rfl (nbl rfl) ?_
     simp only [go_sem, Tryz.ntmps66]
     repeat (first | refine jab rfl ?_ | (refine jac rfl ?_; (try simp only [go_sem, al_N, Nat.add_eq, gg81, hr, al_I, hst1, z1, z2, gg82, hr5, z3, jiM, hst]); fail_if_success refine ifC ?_))
     refine jah ?_
     refine ⟨rfl, .tuple #[.agg #[.bool false, .float .f64 0, .bool false, .slice none 0 0], .int .i64 13], ?_, _, _, _, _, _, rfl, ⟨rfl, rfl, rfl, rfl⟩, fun h => absurd h hI, fun _ => rfl, (hGa.trans hG5).put_new (Nat.le_refl _)⟩
     simp only [go_sem, Tryz.results66]
     rw [ld_N hB5]
 obtain ⟨w, μ', h1, a, b, c, d, e, rfl, h2, h3, h4, h5⟩ := key
 exact ⟨a, b, c, d, e, μ', h1, h2, h3, h4, h5⟩
end
noncomputable section
section
set_option linter.defProp false
variable {X : XT} {ev : Code → Rg → Mem → Option (Ax × Rg × Mem)}
end
theorem Lim.empty (μ : Mem) : Lim μ ⟨μ.obs.set μ.next ob0, Nat.add μ.next 1⟩ (.slice (some ⟨μ.next, 0, none⟩) 0 0) 0 :=
 ⟨[], ⟨.inr ⟨μ.next, 0, #[], .e, false, false, 0, rfl, by show T.get _ _ = _; rw [T.get_set, if_pos rfl]; rfl, Nat.le_refl _, (fun k h => absurd h (Nat.not_lt_zero _)), .inl ⟨rfl, rfl⟩⟩, jbn μ _, fun i hi => by
  obtain ⟨l, c, hv⟩ := hi
  injection hv with e1
  injection e1 with e1
  injection e1 with e1
  subst e1
  exact ⟨Nat.le_refl _, Nat.lt_succ_self _⟩⟩, rfl, (fun x h => by cases h)⟩
end
noncomputable section
end
noncomputable section
open Go.Proofs.YtnafmgiaifbhgaaGreatDoor.NumText (dig)
theorem Rd.off {μ μ' : Mem} {v : Value} {n j : Nat} {o : Ob} (h : Rd μ v n) (hn : ∀ i, SlAt v i → i ≠ j) (hm : μ' = ⟨μ.obs.set j o, μ.next⟩) : Rd μ' v n := by
 subst hm
 rcases h with h | ⟨i, c, m, z, ov, fx, sh, h1, h2, h3, h4, h5⟩
 ·exact .inl h
 ·refine .inr ⟨i, c, m, z, ov, fx, sh, h1, ?_, h3, h4, h5⟩
  show T.get (T.set _ _ _) _ = _
  rw [T.get_set, if_neg (hn i ⟨_, _, h1⟩)]
  exact h2
end
noncomputable section
open Go.Proofs.YtnafmgiaifbhgaaGreatDoor.NumText (dig unsg isS)
section
set_option linter.defProp false
variable {X : XT} {ev : Code → Rg → Mem → Option (Ax × Rg × Mem)}
end
end
noncomputable section
open Go.Proofs.YtnafmgiaifbhgaaGreatDoor.NumText (dig unsg isS)
attribute [local irreducible] ja0
end
noncomputable section
end
noncomputable section
def nameB (s : ByteArray) : Bool := by
 classical exact if isInt s then false else !jgl s
theorem jjw {s : ByteArray} {e : Int} (h1 : isInt s → e = 0 ∨ e = 11) (h2 : ¬ isInt s → e = if jgl s then 0 else 13) : ieq e 13 = nameB s := by
 unfold nameB
 by_cases hI : isInt s
 ·rw [if_pos hI]
  rcases h1 hI with rfl | rfl <;> rfl
 ·rw [if_neg hI]
  have h2 := h2 hI
  cases hf : jgl s with
  | true => rw [hf, if_pos rfl] at h2; subst h2; rfl
  | false => rw [hf, if_neg (by decide)] at h2; subst h2; rfl
theorem pn_yes {s : ByteArray} (h : Head s ∧ jeS s) {X : XT} {g : Nat} {μ : Mem} (hX : jbs X) (hX2 : jb1 X) (hL : Lay μ) (hg : 100000 ≤ g) : ∃ μ', aFun pZ (jao pZ X S0 g) 45 [.string s] μ = some (.bool (nameB s), μ') ∧ Grow μ μ' := by
 obtain ⟨k, rfl⟩ := gle hg
 obtain ⟨⟨z1, z2, z3⟩, hp⟩ := h
 have ls := ja6 s
 have e1 : ieq (.ofNat (bys s).length) 0 = false := (jaQ _ 0 0 rfl).trans (decide_eq_false (by omega))
 have e2 : ilt 40 (.ofNat (bys s).length) = false := (jat 40 _).trans (decide_eq_false (by omega))
 have e3 : aStr .eql s ⟨List.toArray [46]⟩ = some (.bool false) := (str_eq s dotS).trans (by rw [decide_eq_false z3])
 obtain ⟨a, b, c, d, e, μ1, hr, ⟨o1, o2, o3, o4⟩, he1, he2, hG⟩ := jga (s := s) (by omega) (X := X) (g := k + 99995) (μ := μ) hX hX2 hL (by omega)
 have hst := st_N (blkN (μ := μ1)) o1 o2 o3 o4
 have hq := jjw he1 he2
 have key : EndsF (aFun pZ (jao pZ X S0 (k + 100000)) 45 [.string s] μ) fun w μ' => w = .bool (nameB s) ∧ Grow μ μ' := by
  refine jaj Tryz.func45 rfl rfl (nbl rfl) ?_
  simp only [go_sem, Tryz.ntmps45]
  refine jag ?_
  refine jaw ?_ ?_
  ·rfl
  simp only [go_sem]
  refine jag ?_
  refine jag ?_
  refine jad rfl ?_
  iterate 12 (refine jaf (by first | rfl | (simp only [go_sem, undef, jaa, ls, jae, e1, e2, e3])) (by simp only [go_sem, undef, jaa, ls, jae, e1, e2, e3]; try exact rfl) rfl ?_)
  simp only [go_sem]
  repeat (first | refine jab rfl ?_ | (refine jac rfl ?_; (try simp only [go_sem, jaa, ls, jae]); fail_if_success refine ifC ?_))
  rw [show k + 99995 = (k + 99965 - (bys s).length) + (bys s).length + 30 from by omega]
  refine EndsC.mono (pn_loop (by omega) (bys s).length 0 (Nat.zero_add _) (by simp only [go_sem]) (by simp only [go_sem]) (by simp only [go_sem]; try rfl) (by simp only [go_sem])) ?_
  rintro x r μ' ⟨rfl, tm', rfl, h0, h2, ⟨h5, rfl⟩ | ⟨⟨c', hc1, hc2⟩, -⟩⟩
  ·simp only [jaX, reduceIte, jak]
   repeat (first | refine jab rfl ?_ | (refine jac rfl ?_; (try simp only [go_sem, h0, gg66, hr, al_N, Nat.add_eq, hst, hq]); fail_if_success refine ifC ?_))
   refine jah ?_
   refine ⟨rfl, .bool (nameB s), ?_, rfl, (hG.trans (jbn μ1 obN)).put_new hG.1⟩
   simp only [go_sem, Tryz.results45]
  ·rw [List.drop_zero] at hc1
   rw [hp c' hc1] at hc2
   cases hc2
 obtain ⟨w, μ', h1, rfl, h2⟩ := key
 exact ⟨μ', h1, h2⟩
end
noncomputable section
structure Pins (J : Nat → Ev.Loc) (W : World) (b : Nat) (o : Ob) : Prop where
 live : o ≠ .dead
 bnd : b < W.heap.size
 ob : ObRel J W b 0 o
 back : ∀ (J' : Nat → Ev.Loc) (w' : World), ObRel J' w' b 0 o → w'.heap[b]? = W.heap[b]?
theorem pins_pin {J : Nat → Ev.Loc} {W : World} {b : Nat} {l : List Value} {c : Array Value} {ty : TypeId} {fz : Nat × Nat} (h : W.heap[b]? = some (.cells c ty fz)) (hv : ARel J l.toArray c) : Pins J W b (.pin l c ty fz) :=
 ⟨by simp, (Array.getElem?_eq_some_iff.1 h).1, ⟨h, hv⟩, fun J' w' (h' : _ ∧ _) => h'.1.trans h.symm⟩
structure HandsP (P : Program) (W : World) (nx : Nat) (J : Nat → Ev.Loc) (t : T Ob) : Prop where
 loc : ∀ i, J i = jby nx i ∨ ∃ b o, J i = .at b 0 ∧ i ≠ P.globals.size ∧ i < nx ∧ (i < P.globals.size → b = i) ∧ t.get i = some o ∧ Pins J W b o
 inj : ∀ i j b, J i = .at b 0 → J j = .at b 0 → i = j
 only : ∀ i o, t.get i = some o → ∃ b, J i = .at b 0
theorem jix (nx i b s : Nat) : jby nx i ≠ .at b s := fun e => by unfold jby at e; split at e <;> cases e
theorem jg9 {P : Program} {X : XT} (hN : jdc P) (hX : XOk P X) (hm : P.follows .mixedOrders = true) {S : List (FuncId × LK)} (hS : SumsOk P S) {k : Nat} {g : FuncId} {nx : Nat} (hnx : P.globals.size < nx) {W : World} {J : Nat → Ev.Loc} {t : T Ob} (h : HandsP P W nx J t)
  {args : List Value} {args' : Array Value} (ha : ARel J args.toArray args') {v : Value} {μ' : Mem} (hrun : aFun P (jao P X S k) g args ⟨t, nx⟩ = some (v, μ')) (hk : ∀ i, i < nx → μ'.obs.get i = t.get i) (hpv : jaS 5 v = true) :
  Calls P g args' W fun e W' => e = .returned v ∧ Same W W' := by
 have at0 : ∀ {i b s}, J i = .at b s → s = 0 ∧ i ≠ P.globals.size ∧ i < nx ∧ (i < P.globals.size → b = i) ∧ ∃ o, t.get i = some o ∧ Pins J W b o := fun {i b s} e => by
  rcases h.loc i with e1 | ⟨b1, o1, e1, h1, h2, h3, h4, h5⟩
  ·rw [e1] at e; exact absurd e (jix _ _ _ _)
  ·rw [e1] at e; cases e; exact ⟨rfl, h1, h2, h3, o1, h4, h5⟩
 have nk : ∀ i, (i = P.globals.size ∨ nx ≤ i) → J i = jby nx i := fun i hi => by
  rcases h.loc i with e1 | ⟨b1, o1, e1, h1, h2, _⟩
  ·exact e1
  ·omega
 have hr : Rel J ⟨t, nx⟩ W := by
  refine ⟨fun i j b s t2 e1 e2 => ?_, fun i b s e => ?_, fun i hi => ?_, fun i o ho _ => ?_⟩
  ·obtain ⟨rfl, _⟩ := at0 e1
   obtain ⟨rfl, _⟩ := at0 e2
   exact h.inj i j b e1 e2
  ·obtain ⟨_, _, _, _, o, _, h4⟩ := at0 e
   exact h4.bnd
  ·rw [nk i (.inr hi)]; exact if_neg (Nat.not_lt.2 hi)
  ·obtain ⟨b, e⟩ := h.only i o ho
   have ho' : t.get i = some o := ho
   obtain ⟨_, _, _, _, o2, h3, h4⟩ := at0 e
   rw [h3] at ho'
   cases ho'
   exact ⟨b, 0, e, h4.ob⟩
 have hB : Base P J := by
  refine ⟨fun g hg => ?_, ?_⟩
  ·rcases h.loc g with e1 | ⟨b1, o1, e1, h1, h2, h3, _⟩
   ·exact .inr (by rw [e1]; exact if_pos (Nat.lt_trans hg hnx))
   ·obtain rfl := h3 hg
    exact .inl ⟨0, e1⟩
  ·rw [nk _ (.inl rfl)]; exact if_pos hnx
 refine callsIn_wide.1 (jha (jia hN hX hm hS k).1 g args _ _ μ' hrun _ W args' hr hB ha 0 _ fun J' v' w' h1 h2 h3 => ?_)
 refine ⟨by rw [jeK 5 hpv h1], h3.os, h3.output, h3.size, fun b2 hb2 => ?_, h3.tape⟩
 by_cases hex : ∃ i, J i = .at b2 0
 ·obtain ⟨i, e⟩ := hex
  obtain ⟨_, _, hi, _, o, h5, h6⟩ := at0 e
  obtain ⟨b3, s3, hJ, hob⟩ := h2.obj i _ ((hk i hi).trans h5) h6.live
  rcases h3.at_ _ _ _ e with e3 | ⟨e3, _⟩
  ·rw [e3] at hJ; cases hJ; exact h6.back J' w' hob
  ·rw [e3] at hJ; cases hJ
 ·refine h3.frame b2 hb2 fun i s e => ?_
  obtain ⟨rfl, _⟩ := at0 e
  exact absurd ⟨i, e⟩ hex
abbrev Ent := Nat × Nat × Ob
def jE (nx : Nat) : List Ent → Nat → Ev.Loc
 | [], i => jby nx i
 | x :: r, i => if i = x.1 then .at x.2.1 0 else jE nx r i
def tE : List Ent → T Ob
 | [] => .e
 | x :: r => (tE r).set x.1 x.2.2
theorem jE_at {nx : Nat} : ∀ {E : List Ent} {i b s : Nat}, jE nx E i = .at b s → s = 0 ∧ ∃ o, (i, b, o) ∈ E
 | [], i, b, s, h => absurd h (jix _ _ _ _)
 | x :: r, i, b, s, h => by
   unfold jE at h
   by_cases g : i = x.1
   ·rw [if_pos g] at h; cases h; subst g; exact ⟨rfl, x.2.2, List.mem_cons_self ..⟩
   ·rw [if_neg g] at h
    obtain ⟨h1, o, h2⟩ := jE_at h
    exact ⟨h1, o, List.mem_cons_of_mem _ h2⟩
theorem jhX {nx : Nat} : ∀ {E : List Ent} {i : Nat}, (∀ b, jE nx E i ≠ .at b 0) → jE nx E i = jby nx i
 | [], i, _ => rfl
 | x :: r, i, h => by
   unfold jE at h ⊢
   by_cases g : i = x.1
   ·exact absurd (if_pos g) (h x.2.1)
   ·rw [if_neg g]; exact jhX fun b e => h b ((if_neg g).trans e)
theorem jE_mem {nx : Nat} : ∀ {E : List Ent}, (E.map (·.1)).Nodup → ∀ x ∈ E, jE nx E x.1 = .at x.2.1 0
 | [], _, x, h => by cases h
 | y :: r, hn, x, h => by
   rw [List.map_cons, List.nodup_cons] at hn
   unfold jE
   rcases List.mem_cons.1 h with rfl | h
   ·exact if_pos rfl
   ·rw [if_neg (show x.1 ≠ y.1 from fun e => hn.1 (e ▸ List.mem_map_of_mem (f := fun z : Ent => z.1) h))]
    exact jE_mem hn.2 x h
theorem jis : ∀ {E : List Ent}, (E.map (·.1)).Nodup → ∀ x ∈ E, (tE E).get x.1 = some x.2.2
 | [], _, x, h => by cases h
 | y :: r, hn, x, h => by
   rw [List.map_cons, List.nodup_cons] at hn
   unfold tE
   rcases List.mem_cons.1 h with rfl | h
   ·rw [T.get_set, if_pos rfl]
   ·rw [T.get_set, if_neg (show x.1 ≠ y.1 from fun e => hn.1 (e ▸ List.mem_map_of_mem (f := fun z : Ent => z.1) h))]
    exact jis hn.2 x h
theorem tE_some : ∀ {E : List Ent} {i : Nat} {o : Ob}, (tE E).get i = some o → ∃ x ∈ E, x.1 = i
 | [], i, o, h => by unfold tE at h; rw [T.get_e] at h; cases h
 | y :: r, i, o, h => by
   unfold tE at h
   rw [T.get_set] at h
   by_cases g : i = y.1
   ·exact ⟨y, List.mem_cons_self .., g.symm⟩
   ·rw [if_neg g] at h
    obtain ⟨x, h1, h2⟩ := tE_some h
    exact ⟨x, List.mem_cons_of_mem _ h1, h2⟩
theorem jfS : ∀ {E : List Ent}, (E.map (·.2.1)).Nodup → ∀ {x y : Ent}, x ∈ E → y ∈ E → x.2.1 = y.2.1 → x = y
 | [], _, x, y, h, _, _ => by cases h
 | z :: r, hn, x, y, hx, hy, e => by
   rw [List.map_cons, List.nodup_cons] at hn
   rcases List.mem_cons.1 hx with h1 | h1
   ·rcases List.mem_cons.1 hy with h2 | h2
    ·rw [h1, h2]
    ·rw [h1] at e
     exact absurd (e ▸ List.mem_map_of_mem (f := fun z : Ent => z.2.1) h2) hn.1
   ·rcases List.mem_cons.1 hy with h2 | h2
    ·rw [h2] at e
     exact absurd (e ▸ List.mem_map_of_mem (f := fun z : Ent => z.2.1) h1) hn.1
    ·exact jfS hn.2 h1 h2 e
theorem jjt {P : Program} {W : World} {nx : Nat} {E : List Ent} (h1 : (E.map (·.1)).Nodup) (h2 : (E.map (·.2.1)).Nodup) (h3 : ∀ x ∈ E, x.1 ≠ P.globals.size ∧ x.1 < nx ∧ (x.1 < P.globals.size → x.2.1 = x.1) ∧ Pins (jE nx E) W x.2.1 x.2.2) : HandsP P W nx (jE nx E) (tE E) := by
 refine ⟨fun i => ?_, fun i j b e1 e2 => ?_, fun i o ho => ?_⟩
 ·by_cases hex : ∃ b, jE nx E i = .at b 0
  ·obtain ⟨b, e⟩ := hex
   obtain ⟨_, o, hm⟩ := jE_at e
   obtain ⟨g1, g2, g3, g4⟩ := h3 _ hm
   exact .inr ⟨b, o, e, g1, g2, g3, jis h1 _ hm, g4⟩
  ·exact .inl (jhX fun b e => hex ⟨b, e⟩)
 ·obtain ⟨_, o1, m1⟩ := jE_at e1
  obtain ⟨_, o2, m2⟩ := jE_at e2
  exact congrArg (·.1) (jfS h2 m1 m2 rfl)
 ·obtain ⟨x, hx, rfl⟩ := tE_some ho
  exact ⟨_, jE_mem h1 x hx⟩
abbrev Arr := Nat × Array Value × TypeId
end
noncomputable section
structure SlotAt (W : World) (g n : Nat) (y : Arr) (o cap : Nat) (t : TypeId) : Prop where
 head : W.heap[g]? = some (.cells #[.slice (some ⟨y.1, o, none⟩) n cap] t (0, 0))
 blk : W.heap[y.1]? = some (.cells y.2.1 y.2.2 (0, 0))
structure Laid (W : World) : Prop where
 opt : ∃ t, W.heap[(4 : Nat)]? = some (.cells [Value.bool true].toArray t (0, 0))
 fi : ∃ t, W.heap[(13 : Nat)]? = some (.cells [Value.int .u64 52, .int .u64 11, .int .i64 (-1023)].toArray t (0, 0))
 pt : ∃ t, W.heap[(8 : Nat)]? = some (.cells ptab.toArray t (0, 0))
 fp : ∃ y o cap t, SlotAt W 16 23 y o cap t ∧ ∀ k, k < 23 → y.2.1[o + k]? = some (.float .f64 (fpows.getD k 0))
 pw : ∃ y o cap t, SlotAt W 15 9 y o cap t ∧ ∀ k, k < 9 → y.2.1[o + k]? = some (.int .i64 (.ofNat (powts.getD k 0)))
 lc : ∃ y o cap t, SlotAt W 9 61 y o cap t ∧ ∀ k, k < 61 → y.2.1[o + 2 * k]? = some (.int .i64 (.ofNat (dlt k))) ∧ y.2.1[o + 2 * k + 1]? = some (.string (cut k))
 er : ∃ t u v, W.heap[(6 : Nat)]? = some (.cells #[.iface u v] t (0, 0))
 es : ∃ t u v, W.heap[(5 : Nat)]? = some (.cells #[.iface u v] t (0, 0))
def okU : Value → Bool
 | .int .u64 (.ofNat n) => Nat.blt n 18446744073709551616
 | _ => false
theorem okU_u {v : Value} (h : okU v = true) : v = u (natOf v) := by
 unfold okU at h
 split at h
 ·rename_i n
  show Value.int .u64 (.ofNat n) = .int .u64 (.ofNat (W n))
  rw [W_of (by simpa using h)]
 ·cases h
set_option maxRecDepth 1000000 in
theorem ptab_ok : ptab.all okU = true := by kernel_rfl
set_option maxRecDepth 1000000 in
theorem jiv : ptab.length = 1392 := by kernel_rfl
theorem ptab_at {k : Nat} (h : k < 1392) : ptab[k]? = some (u (natOf (ptab.getD k undef))) := by
 have h' : k < ptab.length := by rw [jiv]; exact h
 have e : ptab.getD k undef = ptab[k] := by simp [List.getD, h']
 rw [e, List.getElem?_eq_getElem h', ← okU_u (List.all_eq_true.1 ptab_ok _ (List.getElem_mem h'))]
theorem pin_cell {t : T Ob} {nx i k : Nat} {l : List Value} {c : Array Value} {ty : TypeId} {fz : Nat × Nat} {v : Value} (h : t.get i = some (.pin l c ty fz)) (hk : l[k]? = some v) : jal ⟨t, nx⟩ i k = some v := by
 unfold jal
 rw [show (Mem.obs ⟨t, nx⟩).get i = _ from h]
 obtain ⟨hl, rfl⟩ := List.getElem?_eq_some_iff.1 hk
 show (if k < l.length then some (cellAt l.toArray .e k) else none) = _
 rw [if_pos hl, jbB l k hl]
theorem jbi {J : Nat → Ev.Loc} {v v' : Value} (h : VRel J v v') : ARel J [v].toArray #[v'] := ⟨rfl, fun i a b ha hb => by
 match i with
 | 0 => simp at ha hb; subst ha hb; exact h
 | i + 1 => simp at ha⟩
theorem gsz : 17 ≤ pZ.globals.size ∧ pZ.globals.size < 870 := by decide +kernel
end
noncomputable section
theorem jfd {P : Program} {w : World} : ∀ {l : List (String × DataW Unit)} {ps : List MemPlace}, DataW.LaidVars P w l ps → ∀ n d, (n, d) ∈ l →
  ∃ g t cs fuel p, P.globalNamed n = some g ∧ (P.globals[g]?).map (·.type) = some t ∧ w.var? P n = some cs ∧ DataW.trod (fun _ => ()) P w 0 (fun _ => true) false fuel t cs.toList = some (d, p) ∧ ∀ x ∈ MemPlace.row ⟨g, 0, none⟩ cs.size ++ p, x ∈ ps
 | [], _, _, _, _, hm => by cases hm
 | (n', d') :: r, ps, h, n, d, hm => by
   obtain ⟨g, t, cs, fuel, p, q, h1, h2, h3, h4, h5, rfl⟩ := h
   rcases List.mem_cons.1 hm with e | e
   ·cases e
    exact ⟨g, t, cs, fuel, p, h1, h2, h3, h4, fun x hx => List.mem_append_left q hx⟩
   ·obtain ⟨g', t', cs', f', p', k1, k2, k3, k4, k5⟩ := jfd h5 n d e
    exact ⟨g', t', cs', f', p', k1, k2, k3, k4, fun x hx => List.mem_append_right _ (k5 x hx)⟩
theorem row_mem {a : Addr} {n i : Nat} (h : i < n) : MemPlace.cell a.block (a.off + i) ∈ MemPlace.row a n := List.mem_map.2 ⟨i, List.mem_range.2 h, rfl⟩
variable {P : Program} {W : World} {laid : List (String × DataW Unit)} {n : String} {d : DataW Unit} {g : Nat} {t : TypeId}
theorem listed (hL : laidMetH P laid W) (hp : (laid.all fun x => x.2.handleName?.isNone) = true) (hm : (n, d) ∈ laid) (hg : P.globalNamed n = some g) (hty : (P.globals[g]?).map (·.type) = some t) :
  ∃ cs fuel p, (0 < cs.size → ∃ t', W.heap[g]? = some (.cells cs t' (0, 0))) ∧ DataW.trod (fun _ => ()) P W 0 (fun _ => true) false fuel t cs.toList = some (d, p) ∧ ∀ b off, MemPlace.cell b off ∈ p → ∃ c t', W.heap[b]? = some (.cells c t' (0, 0)) := by
 rw [MakeChecks.laidMetH_plain P laid W hp] at hL
 obtain ⟨ps, hv, _, hps⟩ := hL
 obtain ⟨g2, t2, cs, fuel, p, e1, e2, e3, e4, e5⟩ := jfd hv n d hm
 rw [hg] at e1; cases e1
 rw [hty] at e2; cases e2
 refine ⟨cs, fuel, p, fun h0 => ?_, e4, fun b off hb => (hps b off (e5 _ (List.mem_append_right _ hb))).1⟩
 obtain ⟨⟨c, t', hc⟩, _⟩ := hps g (0 + 0) (e5 _ (List.mem_append_left _ (row_mem (a := ⟨g, 0, none⟩) h0)))
 have e6 : World.var? P W n = some c := by
  unfold World.var?
  rw [hg]
  show (match W.heap[g]? with
   | some (.cells cs _ _) => some cs
   | _ => none) = some c
  rw [hc]
 rw [e3] at e6; cases e6
 exact ⟨t', hc⟩
theorem jek {c : Array Value} {l : List Value} (h : c.toList = l) : c = l.toArray := by subst h; simp
theorem jfj (hL : laidMetH P laid W) (hp : (laid.all fun x => x.2.handleName?.isNone) = true) (hm : (n, d) ∈ laid) (hg : P.globalNamed n = some g) (hty : (P.globals[g]?).map (·.type) = some t) {k m : Nat} {l : List Value} (hk : jh5 P k t = true) (hd : flatL m d = some l) (hne : 0 < l.length) :
  ∃ t', W.heap[g]? = some (.cells l.toArray t' (0, 0)) := by
 obtain ⟨cs, fuel, p, h1, h2, _⟩ := listed hL hp hm hg hty
 have e := jhd k t fuel m _ l d p hk h2 hd
 obtain rfl := jek e
 exact h1 (by simpa using hne)
theorem jiE {name : String} {d' : DataW Unit} {ms : Array (String × TypeId)} (hL : laidMetH P laid W) (hp : (laid.all fun x => x.2.handleName?.isNone) = true) (hm : (n, .iface name d') ∈ laid) (hg : P.globalNamed n = some g) (hty : (P.globals[g]?).map (·.type) = some t) (hi : P.underlying t = some (.interface ms)) :
  ∃ t' u v, W.heap[g]? = some (.cells #[.iface u v] t' (0, 0)) := by
 obtain ⟨cs, fuel, p, h1, h2, _⟩ := listed hL hp hm hg hty
 obtain ⟨_, u, v, hcs, _⟩ := iface_of_trod hi h2
 obtain rfl := jek hcs
 obtain ⟨t', h⟩ := h1 (by simp)
 exact ⟨t', u, v, h⟩
theorem jgd {e : TypeId} {ds : List (DataW Unit)} {ls : List (List Value)} {k m w : Nat} (hL : laidMetH P laid W) (hp : (laid.all fun x => x.2.handleName?.isNone) = true) (hm : (n, .slice ds []) ∈ laid) (hg : P.globalNamed n = some g) (hty : (P.globals[g]?).map (·.type) = some t)
  (ht : P.underlying t = some (.slice e)) (hc : P.cellsOf e = w) (hw : 0 < w) (hk : jh5 P k e = true) (hfl : ds.map (flatL m) = ls.map some) (hne : 0 < ls.length) :
  ∃ (y : Arr) (o cap : Nat) (tb : TypeId), SlotAt W g ls.length y o cap tb ∧ ∀ i l j v, ls[i]? = some l → l[j]? = some v → y.2.1[o + i * w + j]? = some v := by
 obtain ⟨cs, fuel, p, h1, h2, h3⟩ := listed hL hp hm hg hty
 have hlen : ds.length = ls.length := by simpa using congrArg List.length hfl
 rcases DataW.trod_slice ht h2 with ⟨_, ex⟩ | ⟨a, len, cap, elems, rest, f, rfl, ecs, ex, _, _, _, hel, hat, _, _⟩
 ·cases ex
 injection ex with ex1 ex2
 injection ex1 with ed er
 subst ex2
 have hdl : ls.length = len := by rw [← hlen, ed, List.length_map, hel]
 have each : ∀ i l, ls[i]? = some l → W.cells? 0 (a.add (i * w)) w = some l := fun i l hi => by
  have hil : i < ls.length := (List.getElem?_eq_some_iff.1 hi).1
  have h4 := hat i (by omega)
  have hie : i < elems.length := by omega
  rw [List.getElem?_eq_getElem hie, Option.bind_eq_some_iff] at h4
  obtain ⟨csi, h5, h6⟩ := h4
  have h7 : (ds.map (flatL m))[i]? = some (some l) := by rw [hfl, List.getElem?_map, hi]; rfl
  rw [ed] at h7
  have h8 : flatL m (elems[i]).1 = some l := by simpa [hie] using h7
  obtain rfl := jhd k e f m csi l (elems[i]).1 (elems[i]).2 hk h6 h8
  rw [hc] at h5
  exact h5
 obtain ⟨l0, hl0⟩ : ∃ l0, ls[0]? = some l0 := ⟨_, List.getElem?_eq_getElem hne⟩
 obtain ⟨_, hl0w, hl0c⟩ := World.cells?_some (each 0 l0 hl0)
 obtain ⟨b, o, sp⟩ := a
 have a0 : ∀ (x : Addr), x.add 0 = x := fun x => rfl
 have hc0 := hl0c 0 hw
 rw [Nat.zero_mul, a0, a0, List.getElem?_eq_getElem (by omega : 0 < l0.length)] at hc0
 have hsp : sp = none := by
  unfold World.cell? at hc0
  simp only at hc0
  split at hc0
  ·cases sp with
   | none => rfl
   | some x => simp at hc0
  ·cases hc0
 subst hsp
 have hpos : 0 < (elems.length + rest.length) * P.cellsOf e := by
  rw [hc]
  exact Nat.mul_pos (by omega) hw
 obtain ⟨c, te, hb⟩ := h3 b (o + 0) (List.mem_append_left _ (row_mem (a := ⟨b, o, none⟩) hpos))
 obtain rfl := jek ecs
 obtain ⟨tb, hh⟩ := h1 (by simp)
 refine ⟨(b, c, te), o, cap, tb, ⟨?_, hb⟩, fun i l j v hi hj => ?_⟩
 ·rw [hdl]; exact hh
 ·obtain ⟨_, h4, h5⟩ := World.cells?_some (each i l hi)
  have hjl : j < l.length := (List.getElem?_eq_some_iff.1 hj).1
  have h6 := h5 j (by omega)
  rw [hj] at h6
  have ea : (Addr.add (Addr.add ⟨b, o, none⟩ (i * w)) j) = ⟨b, o + i * w + j, none⟩ := by
   unfold Addr.add
   by_cases g1 : i * w = 0
   ·rw [if_pos g1, g1]
    by_cases g2 : j = 0
    ·rw [if_pos g2, g2]; rfl
    ·rw [if_neg g2]; rfl
   ·rw [if_neg g1]
    by_cases g2 : j = 0
    ·rw [if_pos g2, g2]; rfl
    ·rw [if_neg g2]
  rw [ea] at h6
  unfold World.cell? at h6
  simp only [hb] at h6
  simpa using h6
end
noncomputable section
def idB (gs b : Nat) : Nat := if b < gs then b else 900 + b
def isC (W : World) (b : Nat) : Bool := match W.heap[b]? with
 | some (.cells _ _ _) => true
 | _ => false
def absV (W : World) (gs : Nat) : Value → Value
 | .slice (some ⟨b, o, none⟩) l c => if isC W b = true then .slice (some ⟨idB gs b, o, none⟩) l (2 * c) else .slice (some ⟨gs, 0, none⟩) l (2 * c)
 | .slice (some ⟨_, _, some _⟩) l c => .slice (some ⟨gs, 0, none⟩) l (2 * c)
 | .iface t _ => .iface t (.chan none)
 | v => strip v
theorem absV_rel {W : World} {gs : Nat} {J : Nat → Ev.Loc} (hJ : ∀ b, isC W b = true → J (idB gs b) = .at b 0) (hd : J gs = .dead) (v : Value) : VRel J (absV W gs v) v := by
 unfold absV
 split
 ·split
  ·exact .slice (hJ _ (by assumption)) (.inl ⟨by omega, by omega⟩)
  ·exact .sliceDead _ _ hd (.inl ⟨by omega, by omega⟩)
 ·exact .sliceDead _ _ hd (.inl ⟨by omega, by omega⟩)
 ·exact .iface (.any none _)
 ·exact jgP J _
def entW (W : World) (gs : Nat) (b : Nat) : Option Ent := match W.heap[b]? with
 | some (.cells c t fz) => some (idB gs b, b, .pin (c.toList.map (absV W gs)) c t fz)
 | _ => none
def jhg (W : World) (gs : Nat) : List Ent := (List.range W.heap.size).filterMap (entW W gs)
theorem jdo {W : World} {gs b : Nat} {x : Ent} (h : entW W gs b = some x) : ∃ c t fz, W.heap[b]? = some (.cells c t fz) ∧ x = (idB gs b, b, .pin (c.toList.map (absV W gs)) c t fz) := by
 unfold entW at h
 split at h
 ·rename_i c t fz hc
  cases h
  exact ⟨c, t, fz, hc, rfl⟩
 ·cases h
theorem jiI {W : World} {gs : Nat} {x : Ent} (h : x ∈ jhg W gs) : ∃ b c t fz, b < W.heap.size ∧ W.heap[b]? = some (.cells c t fz) ∧ x = (idB gs b, b, .pin (c.toList.map (absV W gs)) c t fz) := by
 obtain ⟨b, hb, hx⟩ := List.mem_filterMap.1 h
 obtain ⟨c, t, fz, h1, h2⟩ := jdo hx
 exact ⟨b, c, t, fz, List.mem_range.1 hb, h1, h2⟩
theorem jgg {W : World} {gs b : Nat} {c : Array Value} {t : TypeId} {fz : Nat × Nat} (h : W.heap[b]? = some (.cells c t fz)) : (idB gs b, b, Ob.pin (c.toList.map (absV W gs)) c t fz) ∈ jhg W gs :=
 List.mem_filterMap.2 ⟨b, List.mem_range.2 (Array.getElem?_eq_some_iff.1 h).1, by unfold entW; rw [h]⟩
theorem jeL {α : Type} {f : Nat → Option α} {k : α → Nat} (inj : ∀ a a' x x', f a = some x → f a' = some x' → k x = k x' → a = a') : ∀ {l : List Nat}, l.Nodup → ((l.filterMap f).map k).Nodup
 | [], _ => List.nodup_nil
 | a :: r, hl => by
   rw [List.nodup_cons] at hl
   cases e : f a with
   | none => rw [List.filterMap_cons_none e]; exact jeL inj hl.2
   | some x =>
     rw [List.filterMap_cons_some e, List.map_cons, List.nodup_cons]
     refine ⟨fun h => ?_, jeL inj hl.2⟩
     obtain ⟨y, hy, hk⟩ := List.mem_map.1 h
     obtain ⟨a', ha', hf⟩ := List.mem_filterMap.1 hy
     obtain rfl := inj _ _ _ _ e hf hk.symm
     exact hl.1 ha'
theorem idB_inj {gs a b : Nat} (hlt : gs < 870) (h : idB gs a = idB gs b) : a = b := by
 unfold idB at h
 split at h <;> split at h <;> omega
theorem jeP {W : World} {gs : Nat} (hlt : gs < 870) : ((jhg W gs).map (·.1)).Nodup := jeL (fun a a' x x' h1 h2 h3 => by
 obtain ⟨_, _, _, _, rfl⟩ := jdo h1
 obtain ⟨_, _, _, _, rfl⟩ := jdo h2
 exact idB_inj hlt h3) List.nodup_range
theorem jh6 {W : World} {gs : Nat} : ((jhg W gs).map (·.2.1)).Nodup := jeL (fun a a' x x' h1 h2 h3 => by
 obtain ⟨_, _, _, _, rfl⟩ := jdo h1
 obtain ⟨_, _, _, _, rfl⟩ := jdo h2
 exact h3) List.nodup_range
abbrev nxW (W : World) : Nat := 900 + W.heap.size
abbrev jW (W : World) (gs : Nat) : Nat → Ev.Loc := jE (nxW W) (jhg W gs)
abbrev memW (W : World) (gs : Nat) : Mem := ⟨tE (jhg W gs), nxW W⟩
theorem jW_at {W : World} {gs : Nat} (hlt : gs < 870) {b : Nat} (h : isC W b = true) : jW W gs (idB gs b) = .at b 0 := by
 unfold isC at h
 split at h
 ·rename_i c t fz hc
  exact jE_mem (jeP hlt) _ (jgg hc)
 ·cases h
theorem idB_ne {gs b : Nat} (hlt : gs < 870) : idB gs b ≠ gs := by
 unfold idB
 split <;> omega
theorem jW_dead {W : World} {gs : Nat} (hlt : gs < 870) : jW W gs gs = .dead := by
 have h : jW W gs gs = jby (nxW W) gs := jhX fun b e => by
  obtain ⟨_, o, m⟩ := jE_at e
  obtain ⟨b', _, _, _, _, _, e2⟩ := jiI m
  exact idB_ne hlt (congrArg (·.1) e2).symm
 rw [h]
 exact if_pos (by show gs < 900 + _; omega)
theorem abs_rel {W : World} {gs : Nat} (hlt : gs < 870) (v : Value) : VRel (jW W gs) (absV W gs v) v := absV_rel (fun b h => jW_at hlt h) (jW_dead hlt) v
theorem handsW {P : Program} {W : World} {gs : Nat} (hg : P.globals.size = gs) (hlt : gs < 870) : HandsP P W (nxW W) (jW W gs) (tE (jhg W gs)) := by
 refine jjt (jeP hlt) jh6 fun x hx => ?_
 obtain ⟨b, c, t, fz, hb, hc, rfl⟩ := jiI hx
 rw [hg]
 refine ⟨idB_ne hlt, ?_, ?_, pins_pin hc ⟨by simp, fun i a b' ha hb' => ?_⟩⟩
 ·show idB gs b < 900 + W.heap.size
  unfold idB
  split <;> omega
 ·show idB gs b < gs → b = idB gs b
  unfold idB
  split <;> omega
 ·simp only [List.getElem?_toArray, List.getElem?_map, Array.getElem?_toList, hb', Option.map_some, Option.some.injEq] at ha
  subst ha
  exact abs_rel hlt b'
theorem jcQ {W : World} {gs b k : Nat} {c : Array Value} {t : TypeId} {fz : Nat × Nat} {v : Value} (hlt : gs < 870) (hc : W.heap[b]? = some (.cells c t fz)) (hk : c[k]? = some v) : jal (memW W gs) (idB gs b) k = some (absV W gs v) :=
 pin_cell (jis (jeP hlt) _ (jgg hc)) (by rw [List.getElem?_map, Array.getElem?_toList, hk]; rfl)
theorem jh0 {gs b : Nat} (h : b < gs) : idB gs b = b := if_pos h
theorem lay_hand {W : World} (hL : Laid W) : Lay (memW W pZ.globals.size) := by
 obtain ⟨t1, h1⟩ := hL.opt
 obtain ⟨t2, h2⟩ := hL.fi
 obtain ⟨t3, h3⟩ := hL.pt
 obtain ⟨y1, o1, k1, t4, ⟨h4, b1⟩, c1⟩ := hL.fp
 obtain ⟨y2, o2, k2, t5, ⟨h5, b2⟩, c2⟩ := hL.pw
 obtain ⟨y3, o3, k3, t6, ⟨h6, b3⟩, c3⟩ := hL.lc
 obtain ⟨t7, u7, v7, h7⟩ := hL.er
 obtain ⟨t8, u8, v8, h8⟩ := hL.es
 have hz := gsz
 obtain ⟨gs, hgs⟩ : ∃ gs, gs = pZ.globals.size := ⟨_, rfl⟩
 rw [← hgs] at hz ⊢
 have hlt : gs < 870 := hz.2
 have cell : ∀ {g k : Nat} {c : Array Value} {t : TypeId} {v : Value}, g < 17 → W.heap[g]? = some (.cells c t (0, 0)) → c[k]? = some v → jal (memW W gs) g k = some (absV W gs v) := fun {g k c t v} hg hc hk => by
  have := jcQ hlt hc hk
  rwa [jh0 (by omega)] at this
 have sl : ∀ {y : Arr} {o l cap : Nat}, W.heap[y.1]? = some (.cells y.2.1 y.2.2 (0, 0)) → absV W gs (.slice (some ⟨y.1, o, none⟩) l cap) = .slice (some ⟨idB gs y.1, o, none⟩) l (2 * cap) := fun {y o l cap} hc => by
  show (if isC W y.1 = true then _ else _) = _
  rw [if_pos (by unfold isC; rw [hc])]
 have lt : ∀ {y : Arr}, W.heap[y.1]? = some (.cells y.2.1 y.2.2 (0, 0)) → idB gs y.1 < nxW W := fun {y} hc => by
  have := (Array.getElem?_eq_some_iff.1 hc).1
  show idB gs y.1 < 900 + W.heap.size
  unfold idB
  split <;> omega
 refine ⟨cell (k := 0) (v := .bool true) (by decide) h1 rfl, cell (k := 0) (v := .int .u64 52) (by decide) h2 rfl, cell (k := 1) (v := .int .u64 11) (by decide) h2 rfl, cell (k := 2) (v := .int .i64 (-1023)) (by decide) h2 rfl, fun k hk => ⟨?_, ?_⟩,
  ⟨_, o1, _, (cell (k := 0) (by decide) h4 rfl).trans (congrArg some (sl b1)), lt b1, fun k hk => jcQ hlt b1 (c1 k hk)⟩,
  ⟨_, o2, _, (cell (k := 0) (by decide) h5 rfl).trans (congrArg some (sl b2)), lt b2, fun k hk => jcQ hlt b2 (c2 k hk)⟩,
  ⟨_, o3, _, (cell (k := 0) (by decide) h6 rfl).trans (congrArg some (sl b3)), lt b3, fun k hk => ⟨jcQ hlt b3 (c3 k hk).1, jcQ hlt b3 (c3 k hk).2⟩⟩,
  ⟨_, cell (k := 0) (by decide) h7 rfl, rfl⟩, ⟨_, cell (k := 0) (by decide) h8 rfl, rfl⟩, by show 20 < 900 + _; omega⟩
 ·exact cell (k := 2 * k) (v := u (hiT k)) (by decide) h3 ((List.getElem?_toArray (xs := ptab) (i := 2 * k)).trans (ptab_at (by omega)))
 ·exact cell (k := 2 * k + 1) (v := u (loT k)) (by decide) h3 ((List.getElem?_toArray (xs := ptab) (i := 2 * k + 1)).trans (ptab_at (by omega)))
end
noncomputable section
inductive Dat where
 | mk (k n : Int) (fl : Bool) (f : Nat) (neg : Bool) (ls : List Nat) (s : ByteArray) (l : List Dat)
def CapK (w n c : Nat) : Prop := (c % 2 = 0 ∧ n ≤ c / 2) ∨ (c % 2 = 1 ∧ c / 2 = w)
def IsU (μ : Mem) (ls : List Nat) (v : Value) : Prop := (∀ x ∈ ls, x < 4294967296) ∧ ls.length ≤ maxLen ∧ ((v = .slice none 0 0 ∧ ls = []) ∨ ∃ i o c, v = .slice (some ⟨i, o, none⟩) ls.length c ∧ (ls ≠ [] → i < μ.next ∧ Has μ i o (ls.map fun x => .int .u32 (.ofNat x))) ∧ CapK 1 ls.length c)
def wfI (n : Int) : Prop := (Lit.int .i64 n).wf = true
mutual
def IsD (μ : Mem) : Dat → List Value → Prop
 | .mk k n fl f neg ls s l, cs => ∃ vl vi, cs = [.int .i64 k, .int .i64 n, .bool fl, .float .f64 f, .bool neg, vl, .string s, vi] ∧ (wfI k ∧ wfI n ∧ (Lit.float .f64 f).wf = true ∧ s.size ≤ maxLen ∧ l.length ≤ maxLen) ∧ IsU μ ls vl ∧
   ((vi = .slice none 0 0 ∧ l = []) ∨ ∃ i o c, vi = .slice (some ⟨i, o, none⟩) l.length c ∧ (l ≠ [] → i < μ.next) ∧ IsDs μ l i o ∧ CapK 8 l.length c)
def IsDs (μ : Mem) : List Dat → Nat → Nat → Prop
 | [], _, _ => True
 | d :: r, i, o => (∃ cs, Has μ i o cs ∧ IsD μ d cs) ∧ IsDs μ r i (o + 8)
end
def IsL (μ : Mem) (l : List Dat) (v : Value) : Prop := l.length ≤ maxLen ∧ ((v = .slice none 0 0 ∧ l = []) ∨ ∃ i o c, v = .slice (some ⟨i, o, none⟩) l.length c ∧ (l ≠ [] → i < μ.next) ∧ IsDs μ l i o ∧ CapK 8 l.length c)
theorem jce {μ : Mem} {k n : Int} {fl : Bool} {f : Nat} {neg : Bool} {ls : List Nat} {s : ByteArray} {l : List Dat} {cs : List Value} : IsD μ (.mk k n fl f neg ls s l) cs ↔ ∃ vl vi, cs = [.int .i64 k, .int .i64 n, .bool fl, .float .f64 f, .bool neg, vl, .string s, vi] ∧ (wfI k ∧ wfI n ∧ (Lit.float .f64 f).wf = true ∧ s.size ≤ maxLen) ∧ IsU μ ls vl ∧ IsL μ l vi := by
 rw [IsD]
 constructor
 ·rintro ⟨vl, vi, h1, ⟨h2, h3, h4, h5, h6⟩, h7, h8⟩
  exact ⟨vl, vi, h1, ⟨h2, h3, h4, h5⟩, h7, h6, h8⟩
 ·rintro ⟨vl, vi, h1, ⟨h2, h3, h4, h5⟩, h7, h6, h8⟩
  exact ⟨vl, vi, h1, ⟨h2, h3, h4, h5, h6⟩, h7, h8⟩
theorem isDs_at {μ : Mem} : ∀ {l : List Dat} {i o k : Nat} {d : Dat}, IsDs μ l i o → l[k]? = some d → ∃ cs, Has μ i (o + 8 * k) cs ∧ IsD μ d cs
 | [], i, o, k, d, _, hd => by simp at hd
 | x :: r, i, o, k, d, h, hd => by
   rw [IsDs] at h
   cases k with
   | zero =>
     simp only [List.getElem?_cons_zero, Option.some.injEq] at hd
     subst hd
     exact h.1
   | succ k =>
     obtain ⟨cs, h1, h2⟩ := isDs_at h.2 (by simpa using hd)
     refine ⟨cs, ?_, h2⟩
     rw [show o + 8 * (k + 1) = o + 8 + 8 * k from by omega]
     exact h1
theorem isDs_mk {μ : Mem} : ∀ {l : List Dat} {i o : Nat}, (∀ (k : Nat) d, l[k]? = some d → ∃ cs, Has μ i (o + 8 * k) cs ∧ IsD μ d cs) → IsDs μ l i o
 | [], i, o, h => by rw [IsDs]; trivial
 | x :: r, i, o, h => by
   rw [IsDs]
   refine ⟨h 0 x rfl, isDs_mk fun k d hk => ?_⟩
   rw [show o + 8 + 8 * k = o + 8 * (k + 1) from by omega]
   exact h (k + 1) d (by simpa using hk)
theorem IsU.grow {μ μ' : Mem} {ls : List Nat} {v : Value} (h : IsU μ ls v) (g : Grow μ μ') : IsU μ' ls v := by
 obtain ⟨h1, h2, h3 | ⟨i, o, c, h3, h4, h5⟩⟩ := h
 ·exact ⟨h1, h2, .inl h3⟩
 ·exact ⟨h1, h2, .inr ⟨i, o, c, h3, fun hn => ⟨Nat.lt_of_lt_of_le (h4 hn).1 g.1, (h4 hn).2.keep (g.2 i (h4 hn).1)⟩, h5⟩⟩
mutual
theorem IsD.grow {μ μ' : Mem} (g : Grow μ μ') : ∀ {d : Dat} {cs : List Value}, IsD μ d cs → IsD μ' d cs
 | .mk k n fl f neg ls s l, cs, h => by
   rw [jce] at h ⊢
   obtain ⟨vl, vi, h1, h2, h3, h4, h5⟩ := h
   refine ⟨vl, vi, h1, h2, h3.grow g, h4, ?_⟩
   rcases h5 with h5 | ⟨i, o, c, h5, h6, h7, h8⟩
   ·exact .inl h5
   ·exact .inr ⟨i, o, c, h5, fun hn => Nat.lt_of_lt_of_le (h6 hn) g.1, IsDs.grow g h6 h7, h8⟩
theorem IsDs.grow {μ μ' : Mem} (g : Grow μ μ') : ∀ {l : List Dat} {i o : Nat}, (l ≠ [] → i < μ.next) → IsDs μ l i o → IsDs μ' l i o
 | [], i, o, _, h => by rw [IsDs]; trivial
 | d :: r, i, o, hi, h => by
   rw [IsDs] at h ⊢
   obtain ⟨⟨cs, h1, h2⟩, h3⟩ := h
   exact ⟨⟨cs, h1.keep (g.2 i (hi (List.cons_ne_nil _ _))), IsD.grow g h2⟩, IsDs.grow g (fun _ => hi (List.cons_ne_nil _ _)) h3⟩
end
theorem IsL.grow {μ μ' : Mem} {l : List Dat} {v : Value} (h : IsL μ l v) (g : Grow μ μ') : IsL μ' l v := by
 obtain ⟨h1, h2 | ⟨i, o, c, h3, h4, h5, h6⟩⟩ := h
 ·exact ⟨h1, .inl h2⟩
 ·exact ⟨h1, .inr ⟨i, o, c, h3, fun hn => Nat.lt_of_lt_of_le (h4 hn) g.1, IsDs.grow g h4 h5, h6⟩⟩
theorem spot_none {W : World} {a : Addr} {w : Nat} {row : List Value} (h : W.cells? 0 (a.add 0) w = some row) (hw : 0 < w) : a = ⟨a.block, a.off, none⟩ := by
 obtain ⟨_, hl, hc⟩ := World.cells?_some h
 have h0 := hc 0 hw
 rw [show (Addr.add (Addr.add a 0) 0) = a from rfl, List.getElem?_eq_getElem (by omega : 0 < row.length)] at h0
 unfold World.cell? at h0
 obtain ⟨b, o, sp⟩ := a
 split at h0
 ·cases sp with
  | none => rfl
  | some x => simp at h0
 ·cases h0
theorem jhi {W : World} {b o m w : Nat} {row : List Value} (h : W.cells? 0 (Addr.add ⟨b, o, none⟩ m) w = some row) (hw : 0 < w) : ∃ c t fz, W.heap[b]? = some (.cells c t fz) ∧ row.length = w ∧ ∀ (j : Nat) v, row[j]? = some v → c[o + m + j]? = some v := by
 obtain ⟨_, hl, hc⟩ := World.cells?_some h
 have ea : ∀ j, (Addr.add (Addr.add ⟨b, o, none⟩ m) j) = ⟨b, o + m + j, none⟩ := fun j => by
  unfold Addr.add
  by_cases g1 : m = 0
  ·rw [if_pos g1, g1]
   by_cases g2 : j = 0
   ·rw [if_pos g2, g2]; rfl
   ·rw [if_neg g2]; rfl
  ·rw [if_neg g1]
   by_cases g2 : j = 0
   ·rw [if_pos g2, g2]; rfl
   ·rw [if_neg g2]
 have hc0 := hc 0 hw
 rw [ea, List.getElem?_eq_getElem (by omega : 0 < row.length)] at hc0
 unfold World.cell? at hc0
 split at hc0
 ·rename_i c t fz hb
  have hb : W.heap[b]? = some (.cells c t fz) := hb
  refine ⟨c, t, fz, hb, hl, fun j v hj => ?_⟩
  have hjl : j < w := by rw [← hl]; exact (List.getElem?_eq_some_iff.1 hj).1
  have h6 := hc j hjl
  rw [ea, hj] at h6
  unfold World.cell? at h6
  simpa [hb] using h6
 ·cases hc0
theorem jge {W : World} {gs b o : Nat} {c : Array Value} {t : TypeId} {fz : Nat × Nat} {row : List Value} (hlt : gs < 870) (hb : W.heap[b]? = some (.cells c t fz)) (h : ∀ (j : Nat) v, row[j]? = some v → c[o + j]? = some v) (hne : row ≠ []) : Has (memW W gs) (idB gs b) o (row.map (absV W gs)) := by
 have hpos : 0 < row.length := List.length_pos_iff.2 hne
 have hlast := h (row.length - 1) _ (List.getElem?_eq_getElem (by omega))
 have hb1 := (Array.getElem?_eq_some_iff.1 hlast).1
 refine ⟨(c.toList.map (absV W gs)).length, (c.toList.map (absV W gs)).toArray, .e, ?_, ?_, fun k hk => ?_⟩
 ·show jb5 ((tE (jhg W gs)).get (idB gs b)) = _
  rw [jis (jeP hlt) _ (jgg hb)]
  rfl
 ·simp only [List.length_map, Array.length_toList]; omega
 ·have hk' : k < row.length := by simpa using hk
  have h1 := h k _ (List.getElem?_eq_getElem hk')
  obtain ⟨hlt', he⟩ := Array.getElem?_eq_some_iff.1 h1
  rw [jbB _ _ (by simpa using hlt')]
  simp [he]
section
variable {H : Type} {enc : TypeId × Value → H} {P : Program} {W : World} {sp : Nat → Bool} {hd : Bool} {fuel gs : Nat} {t e : TypeId} {cs : List Value} {x : DataW H × List MemPlace}
theorem jej {k : FloatKind} (ht : P.underlying t = some (.float k)) (h : DataW.trod enc P W 0 sp hd fuel t cs = some x) : ∃ b, cs = [.float k b] ∧ (Lit.float k b).wf = true := by
 cases fuel with
 | zero => simp [DataW.trod] at h
 | succ n =>
   unfold DataW.trod at h
   rw [ht] at h
   split at h <;> simp_all
theorem trod_sl {w : Nat} (ht : P.underlying t = some (.slice e)) (hc : P.cellsOf e = w) (hw : 0 < w) (h : DataW.trod enc P W 0 sp hd fuel t cs = some x) :
  ∃ v len, cs = [v] ∧ len ≤ maxLen ∧ ((v = .slice none 0 0 ∧ len = 0) ∨ ∃ a cap, v = .slice (some a) len cap ∧ len ≤ cap ∧ (0 < len → ∃ b o c tb fz n, a = ⟨b, o, none⟩ ∧ fuel = n + 1 ∧ W.heap[b]? = some (.cells c tb fz) ∧ ∀ i, i < len → ∃ row y, DataW.trod enc P W 0 sp hd n e row = some y ∧ ∀ (j : Nat) v, row[j]? = some v → c[o + i * w + j]? = some v)) := by
 rcases DataW.trod_slice ht h with ⟨rfl, _⟩ | ⟨a, len, cap, elems, rest, n, hn, rfl, _, _, hl, hm, hel, hat, _⟩
 ·exact ⟨_, 0, rfl, Nat.zero_le _, .inl ⟨rfl, rfl⟩⟩
 ·refine ⟨_, len, rfl, Nat.le_trans hl hm, .inr ⟨a, cap, rfl, hl, fun h0 => ?_⟩⟩
  rw [hc] at hat
  have each : ∀ i, i < len → ∃ row y, W.cells? 0 (a.add (i * w)) w = some row ∧ DataW.trod enc P W 0 sp hd n e row = some y := fun i hi => by
   have h4 := hat i hi
   rw [List.getElem?_eq_getElem (by omega), Option.bind_eq_some_iff] at h4
   obtain ⟨row, h5, h6⟩ := h4
   exact ⟨row, _, h5, h6⟩
  obtain ⟨r0, _, q1, _⟩ := each 0 h0
  rw [Nat.zero_mul] at q1
  have ea := spot_none q1 hw
  obtain ⟨b, o, spt⟩ := a
  injection ea with _ _ ea
  subst ea
  obtain ⟨c, tb, fz, hb, _, _⟩ := jhi (m := 0) q1 hw
  refine ⟨b, o, c, tb, fz, n, rfl, hn, hb, fun i hi => ?_⟩
  obtain ⟨row, y, q2, q3⟩ := each i hi
  obtain ⟨c', _, _, hb', _, q4⟩ := jhi q2 hw
  rw [hb] at hb'
  cases hb'
  exact ⟨row, y, q3, q4⟩
theorem abs_sl {W : World} {gs b o l c : Nat} {cs : Array Value} {t : TypeId} {fz : Nat × Nat} (hb : W.heap[b]? = some (.cells cs t fz)) : absV W gs (.slice (some ⟨b, o, none⟩) l c) = .slice (some ⟨idB gs b, o, none⟩) l (2 * c) := by
 show (if isC W b = true then _ else _) = _
 rw [if_pos (by unfold isC; rw [hb])]
theorem abs_sl0 {W : World} {gs l c : Nat} {a : Addr} : ∃ i o, absV W gs (.slice (some a) l c) = .slice (some ⟨i, o, none⟩) l (2 * c) := by
 obtain ⟨b, o, sp⟩ := a
 cases sp with
 | none =>
   cases h : isC W b with
   | true => exact ⟨_, _, if_pos h⟩
   | false => exact ⟨_, _, if_neg (by rw [h]; decide)⟩
 | some _ => exact ⟨_, _, rfl⟩
theorem id_lt {b : Nat} {cs : Array Value} {t : TypeId} {fz : Nat × Nat} (hb : W.heap[b]? = some (.cells cs t fz)) : idB gs b < (memW W gs).next := by
 have := (Array.getElem?_eq_some_iff.1 hb).1
 show idB gs b < 900 + W.heap.size
 unfold idB
 split <;> omega
theorem u_trod {n : Nat} {cs : List Value} {x : DataW H × List MemPlace} (ht : P.underlying t = some (.int .u32)) (h : DataW.trod enc P W 0 sp hd n t cs = some x) : ∃ a, a < 4294967296 ∧ cs = [.int .u32 (.ofNat a)] := by
 obtain ⟨z, rfl, _, hw⟩ := DataW.trod_int ht h
 have hb : 0 ≤ z ∧ z < 4294967296 := by
  simp only [Lit.wf, IntKind.min, IntKind.max, IntKind.signed, IntKind.bits] at hw
  simp at hw
  omega
 exact ⟨z.toNat, by omega, by rw [show Int.ofNat z.toNat = z from Int.toNat_of_nonneg hb.1]⟩
theorem list_of {α : Type} {Q : Nat → α → Prop} : ∀ {len : Nat}, (∀ i, i < len → ∃ a, Q i a) → ∃ l : List α, l.length = len ∧ ∀ (i : Nat) a, l[i]? = some a → Q i a := by
 intro len
 induction len with
 | zero => exact fun _ => ⟨[], rfl, fun i x hx => by simp at hx⟩
 | succ m ih =>
   intro ev
   obtain ⟨ls, h1, h2⟩ := ih fun i hi => ev i (by omega)
   obtain ⟨a, ha⟩ := ev m (by omega)
   refine ⟨ls ++ [a], by simp [h1], fun i x hx => ?_⟩
   rw [List.getElem?_append] at hx
   split at hx
   ·exact h2 i x hx
   ·have : i - ls.length = 0 := by
     have := (List.getElem?_eq_some_iff.1 hx).1
     simp at this
     omega
    rw [this] at hx
    simp at hx
    subst hx
    rw [show i = m from by omega]
    exact ha
theorem isU_trod {gs : Nat} (hlt : gs < 870) (ht : P.underlying t = some (.slice e)) (he : P.underlying e = some (.int .u32)) (hc : P.cellsOf e = 1) (h : DataW.trod enc P W 0 sp hd fuel t cs = some x) : ∃ v ls, cs = [v] ∧ IsU (memW W gs) ls (absV W gs v) := by
 obtain ⟨v, len, rfl, hl, ⟨rfl, rfl⟩ | ⟨a, cap, rfl, hcp, hk⟩⟩ := trod_sl ht hc (by decide) h
 ·exact ⟨_, [], rfl, fun x hx => by simp at hx, Nat.zero_le _, .inl ⟨rfl, rfl⟩⟩
 ·by_cases h0 : len = 0
  ·subst h0
   obtain ⟨i, o, hi⟩ := abs_sl0 (W := W) (gs := gs) (l := 0) (c := cap) (a := a)
   exact ⟨_, [], rfl, fun x hx => by simp at hx, Nat.zero_le _, .inr ⟨i, o, _, hi, fun h => absurd rfl h, .inl ⟨by omega, Nat.zero_le _⟩⟩⟩
  ·obtain ⟨b, o, c, tb, fz, n, rfl, _, hb, hi⟩ := hk (by omega)
   have ev : ∀ i, i < len → ∃ a, a < 4294967296 ∧ c[o + i]? = some (.int .u32 (.ofNat a)) := fun i hil => by
    obtain ⟨row, y, q1, q2⟩ := hi i hil
    obtain ⟨a, ha, rfl⟩ := u_trod he q1
    have := q2 0 _ rfl
    rw [Nat.mul_one] at this
    exact ⟨a, ha, this⟩
   obtain ⟨ls, hls, hall⟩ := list_of ev
   refine ⟨_, ls, rfl, fun x hx => ?_, by omega, .inr ⟨_, _, _, by rw [hls]; exact abs_sl hb, fun hn => ⟨id_lt hb, ?_⟩, .inl ⟨by omega, by omega⟩⟩⟩
   ·obtain ⟨i, hi, rfl⟩ := List.mem_iff_getElem.1 hx
    exact (hall i _ (List.getElem?_eq_getElem hi)).1
   ·have := jge (row := ls.map fun x => Value.int .u32 (.ofNat x)) hlt hb (fun j v hj => by
     rw [List.getElem?_map] at hj
     cases e : ls[j]? with
     | none => rw [e] at hj; cases hj
     | some y => rw [e] at hj; cases hj; exact (hall j y e).2) (by simpa using hn)
    rw [List.map_map] at this
    exact this
end
theorem cells_D : pZ.cellsOf 30 = 8 := by kernel_rfl
theorem cells_N : pZ.cellsOf 27 = 4 := by kernel_rfl
theorem cells_I : pZ.cellsOf 25 = 2 := by kernel_rfl
theorem cells_int : pZ.cellsOf 3 = 1 := by kernel_rfl
theorem jf1 : pZ.cellsOf 4 = 1 := by kernel_rfl
theorem cells_f64 : pZ.cellsOf 22 = 1 := by kernel_rfl
theorem cells_str : pZ.cellsOf 9 = 1 := by kernel_rfl
theorem cells_Ls : pZ.cellsOf 23 = 1 := by kernel_rfl
theorem cells_Ds : pZ.cellsOf 28 = 1 := by kernel_rfl
theorem cells_u32 : pZ.cellsOf 48 = 1 := by kernel_rfl
section
variable {H : Type} {enc : TypeId × Value → H} {W : World} {sp : Nat → Bool} {hd : Bool}
theorem jiD {fuel : Nat} {cs : List Value} {x : DataW H × List MemPlace} (h : DataW.trod enc pZ W 0 sp hd fuel 3 cs = some x) : ∃ n, cs = [.int .i64 n] ∧ wfI n := by
 obtain ⟨n, h1, _, h2⟩ := DataW.trod_int Tryz.underlying3 h
 exact ⟨n, h1, h2⟩
theorem four {α : Type} {l : List α} (h : l.length = 4) : ∃ a b c d, l = [a, b, c, d] := by
 cases l with
 | nil => simp at h
 | cons a l => cases l with
   | nil => simp at h
   | cons b l => cases l with
     | nil => simp at h
     | cons c l => cases l with
       | nil => simp at h
       | cons d l =>
         obtain rfl : l = [] := List.length_eq_zero_iff.1 (by simpa using h)
         exact ⟨a, b, c, d, rfl⟩
theorem eight {α : Type} {l : List α} (h : l.length = 8) : ∃ a b c d e f g i, l = [a, b, c, d, e, f, g, i] := by
 obtain ⟨a, b, c, d, h1⟩ := four (l := l.take 4) (by rw [List.length_take, h]; rfl)
 obtain ⟨e, f, g, i, h2⟩ := four (l := l.drop 4) (by rw [List.length_drop, h])
 exact ⟨a, b, c, d, e, f, g, i, by rw [← List.take_append_drop 4 l, h1, h2]; rfl⟩
theorem num_trod {gs fuel : Nat} {cs : List Value} {x : DataW H × List MemPlace} (hlt : gs < 870) (h : DataW.trod enc pZ W 0 sp hd fuel 27 cs = some x) : ∃ fl f neg vl ls, cs = [.bool fl, .float .f64 f, .bool neg, vl] ∧ (Lit.float .f64 f).wf = true ∧ IsU (memW W gs) ls (absV W gs vl) := by
 obtain ⟨xs, n, rfl, _, hl, hx, hf⟩ := DataW.trod_struct Tryz.underlying27 h
 rw [cells_N] at hl
 obtain ⟨c0, c1, c2, c3, rfl⟩ := four hl
 ·skip
  have hx : xs.length = 3 := hx
  obtain ⟨x0, e0⟩ : ∃ y, xs[0]? = some y := ⟨_, List.getElem?_eq_getElem (by omega)⟩
  obtain ⟨x1, e1⟩ : ∃ y, xs[1]? = some y := ⟨_, List.getElem?_eq_getElem (by omega)⟩
  obtain ⟨x2, e2⟩ : ∃ y, xs[2]? = some y := ⟨_, List.getElem?_eq_getElem (by omega)⟩
  have h0 : DataW.trod enc pZ W 0 sp hd n 4 (([c0, c1, c2, c3].drop 0).take (pZ.cellsOf 4)) = some x0 := (hf 0 _ rfl).trans e0
  have h1 : DataW.trod enc pZ W 0 sp hd n 22 (([c0, c1, c2, c3].drop 1).take (pZ.cellsOf 22)) = some x1 := (hf 1 _ rfl).trans e1
  have h2 : DataW.trod enc pZ W 0 sp hd n 25 (([c0, c1, c2, c3].drop 2).take (pZ.cellsOf 25)) = some x2 := (hf 2 _ rfl).trans e2
  simp only [jf1, cells_f64, cells_I, List.drop_zero, List.drop_succ_cons, List.take_succ_cons, List.take_zero] at h0 h1 h2
  obtain ⟨fl, q0, _⟩ := DataW.trod_bool Tryz.underlying4 h0
  obtain ⟨f, q1, hw⟩ := jej Tryz.underlying22 h1
  obtain ⟨ys, n2, rfl, _, hl2, hy, hg⟩ := DataW.trod_struct Tryz.underlying25 h2
  have hy : ys.length = 2 := hy
  obtain ⟨y0, e3⟩ : ∃ y, ys[0]? = some y := ⟨_, List.getElem?_eq_getElem (by omega)⟩
  obtain ⟨y1, e4⟩ : ∃ y, ys[1]? = some y := ⟨_, List.getElem?_eq_getElem (by omega)⟩
  have h3 : DataW.trod enc pZ W 0 sp hd n2 4 (([c2, c3].drop 0).take (pZ.cellsOf 4)) = some y0 := (hg 0 _ rfl).trans e3
  have h4 : DataW.trod enc pZ W 0 sp hd n2 23 (([c2, c3].drop 1).take (pZ.cellsOf 23)) = some y1 := (hg 1 _ rfl).trans e4
  simp only [jf1, cells_Ls, List.drop_zero, List.drop_succ_cons, List.take_succ_cons, List.take_zero] at h3 h4
  obtain ⟨neg, q3, _⟩ := DataW.trod_bool Tryz.underlying4 h3
  obtain ⟨vl, ls, q4, hU⟩ := isU_trod (gs := gs) hlt Tryz.underlying23 Tryz.underlying48 cells_u32 h4
  cases q0; cases q1; cases q3; cases q4
  exact ⟨fl, f, neg, _, ls, rfl, hw, hU⟩
theorem jjA {gs : Nat} (hlt : gs < 870) : ∀ (fuel : Nat) {cs : List Value} {x : DataW H × List MemPlace}, DataW.trod enc pZ W 0 sp hd fuel 30 cs = some x → ∃ d, IsD (memW W gs) d (cs.map (absV W gs)) := by
 intro fuel
 induction fuel using Nat.strongRecOn with
 | ind fuel ih =>
 intro cs x h
 obtain ⟨xs, n, rfl, _, hl, hx, hf⟩ := DataW.trod_struct Tryz.underlying30 h
 rw [cells_D] at hl
 obtain ⟨c0, c1, c2, c3, c4, c5, c6, c7, rfl⟩ := eight hl
 ·skip
  have hx : xs.length = 5 := hx
  obtain ⟨x0, e0⟩ : ∃ y, xs[0]? = some y := ⟨_, List.getElem?_eq_getElem (by omega)⟩
  obtain ⟨x1, e1⟩ : ∃ y, xs[1]? = some y := ⟨_, List.getElem?_eq_getElem (by omega)⟩
  obtain ⟨x2, e2⟩ : ∃ y, xs[2]? = some y := ⟨_, List.getElem?_eq_getElem (by omega)⟩
  obtain ⟨x3, e3⟩ : ∃ y, xs[3]? = some y := ⟨_, List.getElem?_eq_getElem (by omega)⟩
  obtain ⟨x4, e4⟩ : ∃ y, xs[4]? = some y := ⟨_, List.getElem?_eq_getElem (by omega)⟩
  have h0 : DataW.trod enc pZ W 0 sp hd n 3 (([c0, c1, c2, c3, c4, c5, c6, c7].drop 0).take (pZ.cellsOf 3)) = some x0 := (hf 0 _ rfl).trans e0
  have h1 : DataW.trod enc pZ W 0 sp hd n 3 (([c0, c1, c2, c3, c4, c5, c6, c7].drop 1).take (pZ.cellsOf 3)) = some x1 := (hf 1 _ rfl).trans e1
  have h2 : DataW.trod enc pZ W 0 sp hd n 27 (([c0, c1, c2, c3, c4, c5, c6, c7].drop 2).take (pZ.cellsOf 27)) = some x2 := (hf 2 _ rfl).trans e2
  have h3 : DataW.trod enc pZ W 0 sp hd n 9 (([c0, c1, c2, c3, c4, c5, c6, c7].drop 6).take (pZ.cellsOf 9)) = some x3 := (hf 3 _ rfl).trans e3
  have h4 : DataW.trod enc pZ W 0 sp hd n 28 (([c0, c1, c2, c3, c4, c5, c6, c7].drop 7).take (pZ.cellsOf 28)) = some x4 := (hf 4 _ rfl).trans e4
  simp only [cells_int, cells_N, cells_str, cells_Ds, List.drop_zero, List.drop_succ_cons, List.take_succ_cons, List.take_zero] at h0 h1 h2 h3 h4
  obtain ⟨k, q0, hk⟩ := jiD h0
  obtain ⟨m, q1, hm⟩ := jiD h1
  obtain ⟨fl, f, neg, vl, ls, q2, hfw, hU⟩ := num_trod (gs := gs) hlt h2
  obtain ⟨s, q3, _, hs⟩ := DataW.trod_string Tryz.underlying9 h3
  cases q0; cases q1; cases q2; cases q3
  obtain ⟨v, len, q4, hle, hv⟩ := trod_sl Tryz.underlying28 cells_D (by decide) h4
  cases q4
  have fin : ∀ (l : List Dat), IsL (memW W gs) l (absV W gs c7) → ∃ d, IsD (memW W gs) d ([Value.int .i64 k, .int .i64 m, .bool fl, .float .f64 f, .bool neg, c5, .string s, c7].map (absV W gs)) := fun l hL => ⟨.mk k m fl f neg ls s l, jce.2 ⟨_, _, rfl, ⟨hk, hm, hfw, hs⟩, hU, hL⟩⟩
  rcases hv with ⟨rfl, rfl⟩ | ⟨a, cap, rfl, hcp, hr⟩
  ·exact fin [] ⟨Nat.zero_le _, .inl ⟨rfl, rfl⟩⟩
  ·by_cases h0 : len = 0
   ·subst h0
    obtain ⟨i, o, hi⟩ := abs_sl0 (W := W) (gs := gs) (l := 0) (c := cap) (a := a)
    exact fin [] ⟨Nat.zero_le _, .inr ⟨i, o, _, hi, fun h => absurd rfl h, (by rw [IsDs]; trivial), .inl ⟨by omega, Nat.zero_le _⟩⟩⟩
   ·obtain ⟨b, o, c, tb, fz, n', rfl, hn', hb, hi⟩ := hr (by omega)
    obtain ⟨l, hl1, hl2⟩ := list_of (len := len) (Q := fun i d => ∃ cs, Has (memW W gs) (idB gs b) (o + 8 * i) cs ∧ IsD (memW W gs) d cs) fun i hil => by
     obtain ⟨row, y, q1, q2⟩ := hi i hil
     obtain ⟨d, hd⟩ := ih n' (by omega) q1
     refine ⟨d, _, jge hlt hb (fun j v hj => ?_) ?_, hd⟩
     ·rw [Nat.mul_comm 8 i]
      exact q2 j v hj
     ·rintro rfl
      cases d
      rw [jce] at hd
      obtain ⟨_, _, h, _⟩ := hd
      cases h
    exact fin l ⟨by omega, .inr ⟨_, _, _, by rw [hl1]; exact abs_sl hb, fun _ => id_lt hb, isDs_mk hl2, .inl ⟨by omega, by omega⟩⟩⟩
end
end
noncomputable section
theorem i_D : pZ.info? 30 = some Tryz.t30 := by kernel_rfl
theorem i_Dl : pZ.info? 28 = some Tryz.t28 := by kernel_rfl
theorem jdb (μ : Mem) (i o : Nat) : jbH pZ μ 28 (.pointer (some ⟨i, o, none⟩)) = jal μ i o := jb6 Tryz.underlying28 rfl μ i o
theorem jfI (ρ : Operand → Value) (x : Operand) : jaL pZ ρ 30 x 0 = (match ρ x with | .pointer (some a) => some (.pointer (some (a.add 0))) | _ => none) := jaK (ft := 3) (off := 0) Tryz.underlying30 rfl jdn rfl ρ x
theorem jhf (ρ : Operand → Value) (x : Operand) : jaL pZ ρ 30 x 1 = (match ρ x with | .pointer (some a) => some (.pointer (some (a.add 1))) | _ => none) := jaK (ft := 3) (off := 1) Tryz.underlying30 rfl jdn rfl ρ x
theorem jdQ (ρ : Operand → Value) (x : Operand) : jaL pZ ρ 30 x 2 = (match ρ x with | .pointer (some a) => some (.pointer (some (a.add 2))) | _ => none) := jaK (ft := 27) (off := 2) Tryz.underlying30 rfl i_Num rfl ρ x
theorem jfk (ρ : Operand → Value) (x : Operand) : jaL pZ ρ 30 x 3 = (match ρ x with | .pointer (some a) => some (.pointer (some (a.add 6))) | _ => none) := jaK (ft := 9) (off := 6) Tryz.underlying30 rfl i_str rfl ρ x
theorem jc1 (ρ : Operand → Value) (x : Operand) : jaL pZ ρ 30 x 4 = (match ρ x with | .pointer (some a) => some (.pointer (some (a.add 7))) | _ => none) := jaK (ft := 28) (off := 7) Tryz.underlying30 rfl i_Dl rfl ρ x
def obDt (l : List Value) : Ob := .cells 8 30 l.toArray .e 0 0 false false
theorem box_D (a b c d e f g h : Value) : aBox 30 (.agg #[a, b, c, d, e, f, g, h]) = some (obDt [a, b, c, d, e, f, g, h], fun id => .pointer (some ⟨id, 0, none⟩)) := rfl
theorem has_D (μ : Mem) (l : List Value) (hl : l.length = 8) : Has ⟨μ.obs.set μ.next (obDt l), μ.next + 1⟩ μ.next 0 l := Has.new (t := 30) (fx := false) (sh := false) (by
 show T.get _ _ = _
 rw [T.get_set, if_pos rfl, hl]
 rfl)
theorem ix_D {ρ : Operand → Value} {a b : Operand} {i o l c k : Nat} (hk : k < l) (h1 : ρ a = .slice (some ⟨i, o, none⟩) l c) (h2 : ρ b = .int .i64 (.ofNat k)) : jas pZ ρ 28 a b = some (.pointer (some ⟨i, o + 8 * k, none⟩)) := by
 unfold jas
 simp only [h1, h2, Tryz.underlying28, aIdx, i_D]
 rw [show Nat.blt k l = true from by simpa using hk]
 simp only
 rw [show Nat.mul k Tryz.t30.size = 8 * k from Nat.mul_comm k 8]
 unfold Addr.add
 by_cases g : 8 * k = 0
 ·rw [if_pos g, g]; rfl
 ·rw [if_neg g]
theorem Has.ld_D {μ : Mem} {i o : Nat} {l : List Value} (h : Has μ i o l) (hl : l.length = 8) : jbH pZ μ 30 (.pointer (some ⟨i, o, none⟩)) = some (.agg l.toArray) := h.load Tryz.underlying30 i_D (by rw [hl]; rfl)
def zD8 : List Value := [.int .i64 0, .int .i64 0, .bool false, .float .f64 0, .bool false, .slice none 0 0, .string ⟨#[]⟩, .slice none 0 0]
theorem al_D : jdJ pZ 30 = some (obDt zD8, fun id => .pointer (some ⟨id, 0, none⟩)) := by kernel_rfl
theorem blk_D {μ : Mem} {l : List Value} : Blk ⟨μ.obs.set μ.next (obDt l), μ.next + 1⟩ μ.next 8 30 := ⟨_, _, _, _, by show T.get _ _ = _; rw [T.get_set, if_pos rfl]; rfl⟩
theorem st_D {μ : Mem} {i o n t : Nat} {l : List Value} (h : Blk μ i n t) (ho : o + 8 ≤ n) (hl : l.length = 8) (h1 : l.all one = true) : jbt pZ μ 30 (.pointer (some ⟨i, o, none⟩)) (.agg l.toArray) = some (undef, putL μ i o l) := jcL (vs := l) i_D (by rw [hl]; rfl) h1 h (by omega)
theorem IsU.len {μ : Mem} {ls : List Nat} {v : Value} (h : IsU μ ls v) : aLen pZ 23 v = some ls.length := by
 unfold aLen
 rcases h with ⟨_, _, ⟨rfl, rfl⟩ | ⟨i, o, c, rfl, _⟩⟩ <;> simp only [Tryz.underlying23] <;> rfl
theorem IsU.one {μ : Mem} {ls : List Nat} {v : Value} (h : IsU μ ls v) : one v = true := by
 rcases h with ⟨_, _, ⟨rfl, rfl⟩ | ⟨i, o, c, rfl, _⟩⟩ <;> rfl
theorem IsL.len {μ : Mem} {l : List Dat} {v : Value} (h : IsL μ l v) : aLen pZ 28 v = some l.length := by
 unfold aLen
 rcases h with ⟨_, ⟨rfl, rfl⟩ | ⟨i, o, c, rfl, _⟩⟩ <;> simp only [Tryz.underlying28] <;> rfl
theorem IsL.one {μ : Mem} {l : List Dat} {v : Value} (h : IsL μ l v) : one v = true := by
 rcases h with ⟨_, ⟨rfl, rfl⟩ | ⟨i, o, c, rfl, _⟩⟩ <;> rfl
theorem IsD.eight {μ : Mem} {d : Dat} {cs : List Value} (h : IsD μ d cs) : cs.length = 8 ∧ cs.all one = true := by
 cases d
 rw [jce] at h
 obtain ⟨vl, vi, rfl, _, h1, h2⟩ := h
 refine ⟨rfl, ?_⟩
 simp only [List.all_cons, List.all_nil, h1.one, h2.one]
 rfl
theorem IsL.at {μ : Mem} {l : List Dat} {v : Value} {k : Nat} {d : Dat} (h : IsL μ l v) (hd : l[k]? = some d) : ∃ i o c cs, v = .slice (some ⟨i, o, none⟩) l.length c ∧ i < μ.next ∧ Has μ i (o + 8 * k) cs ∧ IsD μ d cs := by
 rcases h with ⟨_, ⟨_, rfl⟩ | ⟨i, o, c, h1, h2, h3, _⟩⟩
 ·simp at hd
 ·obtain ⟨cs, h4, h5⟩ := isDs_at h3 hd
  exact ⟨i, o, c, cs, h1, h2 (by rintro rfl; simp at hd), h4, h5⟩
end
noncomputable section
section
set_option linter.defProp false
variable {X : XT} {ev : Code → Rg → Mem → Option (Ax × Rg × Mem)}
def gg5 := go_call (P := pZ) (X := X) (ev := ev) (S := S0) Tryz.func5 rfl rfl
end
theorem nlt {a b : Nat} (h : ¬ (Int.ofNat a < Int.ofNat b)) : b ≤ a := by
 have : ¬ ((a : Int) < (b : Int)) := h
 omega
def Sm : Nat → Dat → Prop
 | 0, _ => False
 | n + 1, .mk _ _ _ _ _ ls s l => ls.length ≤ 200 ∧ (bys s).length ≤ 5000 ∧ l.length ≤ 4000 ∧ ∀ x ∈ l, Sm n x
theorem ji3 {n deep : Nat} (hdn : deep + 1 + n = 71) (ih : ∀ {d : Dat} {cs : List Value} {m : Int} {X : XT} {g : Nat} {μ : Mem}, IsD μ d cs → -1 ≤ m → m ≤ 4000 → 100 + 5000 * n ≤ g →
  ∃ (r : Int) (μ' : Mem), aFun pZ (jao pZ X S0 g) 5 [.agg cs.toArray, .int .i64 (.ofNat (deep + 1)), .int .i64 m] μ = some (.int .i64 r, μ') ∧ Grow μ μ' ∧ -1 ≤ r ∧ r ≤ m ∧ (0 ≤ r → Sm n d))
  {l : List Dat} {v : Value} (hl : l.length ≤ 4000) : ∀ (j i : Nat), i + j = l.length → ∀ {X : XT} {e : Nat} {tm : T Value} {μ : Mem} {m : Int}, IsL μ l v → -1 ≤ m → m ≤ 4000 → 100 + 5000 * n ≤ e →
  jam tm 1 = .int .i64 (.ofNat deep) → jam tm 2 = .int .i64 m → jam tm 39 = v → jam tm 40 = .int .i64 (.ofNat l.length) → jam tm 41 = .int .i64 (.ofNat i) →
  EndsC (jao pZ X S0 (e + j + 30) (.loop (jaR Tryz.f5 0)) ⟨54, tm, [], none⟩ μ) fun x r μ' => Grow μ μ' ∧ ∃ tm', r = ⟨54, tm', [], none⟩ ∧
   ((x = .exit 0 ∧ ∃ m' : Int, jam tm' 2 = .int .i64 m' ∧ -1 ≤ m' ∧ m' ≤ m ∧ ∀ x ∈ l.drop i, Sm n x) ∨ (x = .ret ∧ jam tm' 6 = .int .i64 (-1))) := by
 intro j
 induction j with
 | zero =>
   intro i hi X e tm μ m hL hm hm2 he h1 h2 h39 h40 h41
   have hi : i = l.length := hi
   have e1 : ilt (.ofNat i) (.ofNat l.length) = false := (jat _ _).trans (decide_eq_false (by omega))
   refine jan ?_
   repeat (first | refine jab rfl ?_ | (refine jac rfl ?_; (try simp only [go_sem, h40, h41, e1]); fail_if_success refine ifC ?_))
   exact ⟨Grow.refl _, _, rfl, .inl ⟨by trivial, m, by simp only [go_sem, h2], hm, Int.le_refl _, fun x hx => by rw [hi, List.drop_length] at hx; cases hx⟩⟩
 | succ j ihj =>
   intro i hi X e tm μ m hL hm hm2 he h1 h2 h39 h40 h41
   have hlt : i < l.length := by omega
   have hdr : l.drop i = l[i]'hlt :: l.drop (i + 1) := List.drop_eq_getElem_cons hlt
   have e1 : ilt (.ofNat i) (.ofNat l.length) = true := (jat _ _).trans (decide_eq_true hlt)
   have a1 : jax .i64 (Int.add (.ofNat i) 1) = .ofNat (i + 1) := jaV i 1 (by omega)
   have a2 : jax .i64 (Int.add (.ofNat deep) 1) = .ofNat (deep + 1) := jaV deep 1 (by omega)
   obtain ⟨bi, bo, bc, cs, hv, hb, hH, hD⟩ := hL.at (List.getElem?_eq_getElem hlt)
   have hix : ∀ (r : Rg) (x y : Operand), aev pZ r x = v → aev pZ r y = .int .i64 (.ofNat i) → jas pZ (aev pZ r) 28 x y = some (.pointer (some ⟨bi, bo + 8 * i, none⟩)) := fun r x y g1 g2 => ix_D hlt (g1.trans hv) g2
   have hl1 := Has.ld_D hH hD.eight.1
   obtain ⟨μ1, hμ1⟩ : ∃ μ1 : Mem, μ1 = putL ⟨μ.obs.set μ.next (obDt zD8), μ.next + 1⟩ μ.next 0 cs := ⟨_, rfl⟩
   have hst := st_D (o := 0) (blk_D (μ := μ) (l := zD8)) (by omega) hD.eight.1 hD.eight.2
   have hG1 : Grow μ μ1 := by rw [hμ1]; exact (jbn μ _).put_new (Nat.le_refl _)
   have hl2 : jbH pZ μ1 30 (.pointer (some ⟨μ.next, 0, none⟩)) = some (.agg cs.toArray) := by
    rw [hμ1]
    exact Has.ld_D (Has.of_put (vs := cs) blk_D (by rw [hD.eight.1]; omega)) hD.eight.1
   rw [← hμ1] at hst
   obtain ⟨r, μ2, hr, hG2, hr1, hr2, hr3⟩ := ih (X := X) (g := e + (j + 1) + 22) (hD.grow hG1) hm hm2 (by omega)
   have hG : Grow μ μ2 := hG1.trans hG2
   by_cases hneg : r < 0
   ·have e2 : ilt r 0 = true := (jbf _ _).trans (decide_eq_true hneg)
    refine jan ?_
    repeat (first | refine jab rfl ?_ | (refine jac rfl ?_; (try simp only [go_sem, h1, h2, h39, h40, h41, e1, hix, hl1, al_D, Nat.add_eq, hst, hl2, a2, gg5, hr, e2]); fail_if_success refine ifC ?_))
    refine jah ?_
    exact ⟨hG, _, rfl, .inr ⟨rfl, by simp only [go_sem]⟩⟩
   ·have e2 : ilt r 0 = false := (jbf _ _).trans (decide_eq_false hneg)
    refine jan ?_
    repeat (first | refine jab rfl ?_ | (refine jac rfl ?_; (try simp only [go_sem, h1, h2, h39, h40, h41, e1, hix, hl1, al_D, Nat.add_eq, hst, hl2, a2, gg5, hr, e2, a1]); fail_if_success refine ifC ?_))
    rw [show e + (j + 1) + 29 = e + j + 30 from by omega]
    refine EndsC.mono (ihj (i + 1) (by omega) (hL.grow hG) hr1 (by omega) he (by simp only [go_sem, h1]) (by simp only [go_sem]) (by simp only [go_sem, h39]) (by simp only [go_sem, h40]) (by simp only [go_sem])) ?_
    rintro x r' μ' ⟨g1, tm', g2, g3⟩
    refine ⟨hG.trans g1, tm', g2, ?_⟩
    rcases g3 with ⟨rfl, m', q1, q2, q3, q4⟩ | g3
    ·refine .inl ⟨rfl, m', q1, q2, by omega, fun x hx => ?_⟩
     rw [hdr] at hx
     rcases List.mem_cons.1 hx with rfl | hx
     ·exact hr3 (by omega)
     ·exact q4 x hx
    ·exact .inr g3
theorem small_ex : ∀ (n : Nat) {deep : Nat}, deep + n = 71 → ∀ {d : Dat} {cs : List Value} {m : Int} {X : XT} {g : Nat} {μ : Mem}, IsD μ d cs → -1 ≤ m → m ≤ 4000 → 100 + 5000 * n ≤ g →
  ∃ (r : Int) (μ' : Mem), aFun pZ (jao pZ X S0 g) 5 [.agg cs.toArray, .int .i64 (.ofNat deep), .int .i64 m] μ = some (.int .i64 r, μ') ∧ Grow μ μ' ∧ -1 ≤ r ∧ r ≤ m ∧ (0 ≤ r → Sm n d) := by
 intro n
 induction n with
 | zero =>
   intro deep hdn d cs m X g μ hD hm hm2 hg
   obtain ⟨k, rfl⟩ := gle hg
   obtain ⟨kd, n', fl, f, neg, ls, s, l⟩ := d
   obtain ⟨vl, vi, rfl, _, hU, hL⟩ := jce.1 hD
   have t1 : ilt 70 (.ofNat deep) = true := (jcn _ _ 70 rfl).trans (decide_eq_true (by omega))
   have key : EndsF (aFun pZ (jao pZ X S0 (k + (100 + 5000 * 0))) 5 [.agg #[.int .i64 kd, .int .i64 n', .bool fl, .float .f64 f, .bool neg, vl, .string s, vi], .int .i64 (.ofNat deep), .int .i64 m] μ) fun w μ' => ∃ r : Int, w = .int .i64 r ∧ Grow μ μ' ∧ -1 ≤ r ∧ r ≤ m ∧ (0 ≤ r → Sm 0 (.mk kd n' fl f neg ls s l)) := by
    refine jaj Tryz.func5 rfl rfl (nbl rfl) ?_
    simp only [go_sem, Tryz.ntmps5]
    repeat (first | refine jab rfl ?_ | (refine jap rfl ?_; (try simp only [go_sem, box_D, Nat.add_eq, t1]); fail_if_success refine ifC ?_) | (refine jad rfl ?_; (repeat (first | (refine jai ?_ rfl ?_; (solve | simp only [go_sem, box_D, Nat.add_eq, t1])) | (refine jaf (v := ?_) (μ' := ?_) ?_ ?_ rfl ?_; rotate_left 2; (solve | rfl | simp only [go_sem, box_D, Nat.add_eq, t1]); (solve | simp only [go_sem, box_D, Nat.add_eq, t1]; try exact rfl)))); simp only [go_sem]))
    refine jah ?_
    refine ⟨rfl, .int .i64 (-1), ?_, -1, rfl, jbn _ _, Int.le_refl _, hm, fun h => absurd h (by decide)⟩
    simp only [go_sem, Tryz.results5]
   obtain ⟨w, μ', h1, r, rfl, h2⟩ := key
   exact ⟨r, μ', h1, h2⟩
 | succ n ih =>
   intro deep hdn d cs m X g μ hD hm hm2 hg
   obtain ⟨k, hk, rfl⟩ : ∃ k, 5000 * (n + 1) ≤ k ∧ g = k + 100 := ⟨g - 100, by omega, by omega⟩
   obtain ⟨kd, n', fl, f, neg, ls, s, l⟩ := d
   obtain ⟨vl, vi, rfl, _, hU, hL⟩ := jce.1 hD
   obtain ⟨cl, hcl⟩ : ∃ cl : List Value, cl = [.int .i64 kd, .int .i64 n', .bool fl, .float .f64 f, .bool neg, vl, .string s, vi] := ⟨_, rfl⟩
   obtain ⟨μ1, hμ1⟩ : ∃ μ1 : Mem, μ1 = ⟨μ.obs.set μ.next (obDt cl), μ.next + 1⟩ := ⟨_, rfl⟩
   have hH := has_D μ cl (by rw [hcl]; rfl)
   rw [← hμ1] at hH
   have c5 : jal μ1 μ.next 5 = some vl := by have := hH.cell 5 (by simp [hcl]); simpa [hcl] using this
   have c6 : jal μ1 μ.next 6 = some (.string s) := by have := hH.cell 6 (by simp [hcl]); simpa [hcl] using this
   have c7 : jal μ1 μ.next 7 = some vi := by have := hH.cell 7 (by simp [hcl]); simpa [hcl] using this
   have hG1 : Grow μ μ1 := by rw [hμ1]; exact jbn _ _
   have hbx : aBox 30 (.agg #[.int .i64 kd, .int .i64 n', .bool fl, .float .f64 f, .bool neg, vl, .string s, vi]) = some (obDt cl, fun id => .pointer (some ⟨id, 0, none⟩)) := by rw [hcl]; rfl
   have lU := (hU.grow hG1).len
   have lL := (hL.grow hG1).len
   have lS := ja6 s
   have t1 : ilt 70 (.ofNat deep) = false := (jcn _ _ 70 rfl).trans (decide_eq_false (by omega))
   obtain ⟨b2, t2⟩ : ∃ b, ilt m 0 = b := ⟨_, rfl⟩
   obtain ⟨b3, t3⟩ : ∃ b, ilt m (.ofNat l.length) = b := ⟨_, rfl⟩
   obtain ⟨b4, t4⟩ : ∃ b, ilt 5000 (.ofNat (bys s).length) = b := ⟨_, rfl⟩
   obtain ⟨b5, t5⟩ : ∃ b, ilt 200 (.ofNat ls.length) = b := ⟨_, rfl⟩
   have key : EndsF (aFun pZ (jao pZ X S0 (k + 100)) 5 [.agg #[.int .i64 kd, .int .i64 n', .bool fl, .float .f64 f, .bool neg, vl, .string s, vi], .int .i64 (.ofNat deep), .int .i64 m] μ) fun w μ' => ∃ r : Int, w = .int .i64 r ∧ Grow μ μ' ∧ -1 ≤ r ∧ r ≤ m ∧ (0 ≤ r → Sm (n + 1) (.mk kd n' fl f neg ls s l)) := by
    have cc : (b2 = true) ∨ (b2 = false ∧ b3 = true) ∨ (b2 = false ∧ b3 = false ∧ b4 = true) ∨ (b2 = false ∧ b3 = false ∧ b4 = false ∧ b5 = true) ∨ (b2 = false ∧ b3 = false ∧ b4 = false ∧ b5 = false) := by cases b2 <;> cases b3 <;> cases b4 <;> cases b5 <;> simp
    rcases cc with rfl | ⟨rfl, rfl⟩ | ⟨rfl, rfl, rfl⟩ | ⟨rfl, rfl, rfl, rfl⟩ | ⟨rfl, rfl, rfl, rfl⟩
    rotate_left 4
    ·rw [jbf, decide_eq_false_iff_not] at t2 t3 t4 t5
     have hm0 : 0 ≤ m := by omega
     have hl4 : l.length ≤ 4000 := by
      have : ¬ (m < (l.length : Int)) := t3
      omega
     have t2' : ilt m 0 = false := (jbf _ _).trans (decide_eq_false t2)
     have t3' : ilt m (.ofNat l.length) = false := (jbf _ _).trans (decide_eq_false t3)
     have t4' : ilt 5000 (.ofNat (bys s).length) = false := (jbf _ _).trans (decide_eq_false t4)
     have t5' : ilt 200 (.ofNat ls.length) = false := (jbf _ _).trans (decide_eq_false t5)
     have a1 : jax .i64 (Int.sub m 1) = m - 1 := jdm m 1 (by omega) (by omega)
     refine jaj Tryz.func5 rfl rfl (nbl rfl) ?_
     simp only [go_sem, Tryz.ntmps5]
     have zz := (⟨@hbx, @jdQ, @jbN, @jb8, @jfk, @jc1, @jdb, @jdP, @jcO, @c5, @c6, @c7, @lU, @lL, @lS, @jae, @t1, @t2', @t3', @t4', @t5', @a1⟩ : _ ∧ _ ∧ _ ∧ _ ∧ _ ∧ _ ∧ _ ∧ _ ∧ _ ∧ _ ∧ _ ∧ _ ∧ _ ∧ _ ∧ _ ∧ _ ∧ _ ∧ _ ∧ _ ∧ _ ∧ _ ∧ _)
     repeat (first | refine jab rfl ?_ | (refine jap rfl ?_; (try simp only [go_sem, Nat.add_eq, ← hμ1, jaa, zz]); fail_if_success refine ifC ?_) | (refine jad rfl ?_; (repeat (first | (refine jai ?_ rfl ?_; (solve | simp only [go_sem, Nat.add_eq, ← hμ1, jaa, zz])) | (refine jaf (v := ?_) (μ' := ?_) ?_ ?_ rfl ?_; rotate_left 2; (solve | rfl | simp only [go_sem, Nat.add_eq, ← hμ1, jaa, zz]); (solve | simp only [go_sem, Nat.add_eq, ← hμ1, jaa, zz]; try exact rfl)))); simp only [go_sem]))
     clear zz
     rw [show k + 94 = (k + 64 - l.length) + l.length + 30 from by omega]
     refine EndsC.mono (ji3 (n := n) (deep := deep) (by omega) (fun hD hm hm2 hg => ih (by omega) hD hm hm2 hg) hl4 l.length 0 (Nat.zero_add _) (m := m - 1) (hL.grow hG1) (by omega) (by omega) (by omega) (by simp only [go_sem]) (by simp only [go_sem]) (by simp only [go_sem]) (by simp only [go_sem]) (by simp only [go_sem]; try rfl)) ?_
     rintro x r μ' ⟨g1, tm', rfl, ⟨rfl, m', q1, q2, q3, q4⟩ | ⟨rfl, q1⟩⟩
     ·simp only [jaX, reduceIte, jak]
      repeat (first | refine jab rfl ?_ | (refine jap rfl ?_; (try simp only [go_sem, q1]); fail_if_success refine ifC ?_) | (refine jad rfl ?_; (repeat (first | (refine jai ?_ rfl ?_; (solve | simp only [go_sem, q1])) | (refine jaf (v := ?_) (μ' := ?_) ?_ ?_ rfl ?_; rotate_left 2; (solve | rfl | simp only [go_sem, q1]); (solve | simp only [go_sem, q1]; try exact rfl)))); simp only [go_sem]))
      refine jah ?_
      refine ⟨rfl, .int .i64 m', ?_, m', rfl, hG1.trans g1, q2, by omega, fun h => ⟨nlt (a := 200) t5, nlt (a := 5000) t4, hl4, fun x hx => q4 x hx⟩⟩
      simp only [go_sem, Tryz.results5]
     ·simp only [jaX]
      refine ⟨rfl, .int .i64 (-1), ?_, -1, rfl, hG1.trans g1, by omega, hm, fun h => absurd h (by decide)⟩
      simp only [go_sem, Tryz.results5]
      rw [q1]
    all_goals
     refine jaj Tryz.func5 rfl rfl (nbl rfl) ?_
     simp only [go_sem, Tryz.ntmps5]
     have zz := (⟨@hbx, @jdQ, @jbN, @jb8, @jfk, @jc1, @jdb, @jdP, @jcO, @c5, @c6, @c7, @lU, @lL, @lS, @jae, @t1, @t2, @t3, @t4, @t5⟩ : _ ∧ _ ∧ _ ∧ _ ∧ _ ∧ _ ∧ _ ∧ _ ∧ _ ∧ _ ∧ _ ∧ _ ∧ _ ∧ _ ∧ _ ∧ _ ∧ _ ∧ _ ∧ _ ∧ _ ∧ _)
     repeat (first | refine jab rfl ?_ | (refine jap rfl ?_; (try simp only [go_sem, Nat.add_eq, ← hμ1, jaa, zz]); fail_if_success refine ifC ?_) | (refine jad rfl ?_; (repeat (first | (refine jai ?_ rfl ?_; (solve | simp only [go_sem, Nat.add_eq, ← hμ1, jaa, zz])) | (refine jaf (v := ?_) (μ' := ?_) ?_ ?_ rfl ?_; rotate_left 2; (solve | rfl | simp only [go_sem, Nat.add_eq, ← hμ1, jaa, zz]); (solve | simp only [go_sem, Nat.add_eq, ← hμ1, jaa, zz]; try exact rfl)))); simp only [go_sem]))
     clear zz
     refine jah ?_
     refine ⟨rfl, .int .i64 (-1), ?_, -1, rfl, hG1, Int.le_refl _, hm, fun h => absurd h (by decide)⟩
     simp only [go_sem, Tryz.results5]
   obtain ⟨w, μ', h1, r, rfl, h2⟩ := key
   exact ⟨r, μ', h1, h2⟩
end
noncomputable section
section
set_option linter.defProp false
variable {X : XT} {ev : Code → Rg → Mem → Option (Ax × Rg × Mem)}
def gg50 := go_call (P := pZ) (X := X) (ev := ev) (S := S0) Tryz.func50 rfl rfl
def gg32 := go_call (P := pZ) (X := X) (ev := ev) (S := S0) Tryz.func32 rfl rfl
def gg51 := go_call (P := pZ) (X := X) (ev := ev) (S := S0) Tryz.func51 rfl rfl
def gg33 := go_call (P := pZ) (X := X) (ev := ev) (S := S0) Tryz.func33 rfl rfl
def gg21 := go_call (P := pZ) (X := X) (ev := ev) (S := S0) Tryz.func21 rfl rfl
end
def jch (X : XT) : Prop := ∀ a μ, X 40 [.float .f64 a] μ = some (.int .u64 (.ofNat a), μ)
theorem go_bits {X : XT} {ev : Code → Rg → Mem → Option (Ax × Rg × Mem)} (args : List Value) (μ : Mem) : aGo pZ X (jbL pZ ev S0) 40 args μ = X 40 args μ := by
 unfold aGo
 rw [Tryz.func40]
 rfl
theorem wf_f64 {f : Nat} (h : (Lit.float .f64 f).wf = true) : f < 18446744073709551616 := by
 simpa [Lit.wf] using h
theorem wAnd11 (a : Nat) : jbW Nat.land .u64 .u64 (.ofNat (W a)) 2047 = some (.int .u64 (.ofNat (W (W a &&& 2047)))) := jfE _ 2047 (W_lt a) (by decide)
theorem wAnd52 (a : Nat) : jbW Nat.land .u64 .u64 (.ofNat (W a)) 4503599627370495 = some (.int .u64 (.ofNat (W (W a &&& 4503599627370495)))) := jfE _ 4503599627370495 (W_lt a) (by decide)
def nb (f : Nat) : Nat := if W (W (W f / 2 ^ 52) &&& 2047) = 2047 ∧ W (W f &&& 4503599627370495) ≠ 0 then 9221120237041090561 else f
theorem jiO {X : XT} {g f : Nat} {μ : Mem} (hX : jch X) (hf : f < 18446744073709551616) (hg : 20 ≤ g) : aFun pZ (jao pZ X S0 g) 50 [.float .f64 f] μ = some (u (nb f), μ) := by
 obtain ⟨k, rfl⟩ := gle hg
 have hc : ∀ μ', aGo pZ X (jbL pZ (jao pZ X S0 (k + 17)) S0) 40 [.float .f64 f] μ' = some (u f, μ') := fun μ' => (go_bits _ _).trans ((hX f μ').trans (by rw [u_of hf]))
 obtain ⟨p, hp⟩ : ∃ p, p = W (W (W f / 2 ^ 52) &&& 2047) := ⟨_, rfl⟩
 obtain ⟨q, hq⟩ : ∃ q, q = W (W f &&& 4503599627370495) := ⟨_, rfl⟩
 have a1 := jbS f
 have a2 := wAnd11 (W f / 2 ^ 52)
 have a3 := wAnd52 f
 rw [← hp] at a2
 rw [← hq] at a3
 have t1 : ieq (.ofNat p) 2047 = decide (p = 2047) := jaQ p 2047 2047 rfl
 have t2 : ieq (.ofNat q) 0 = decide (q = 0) := jaQ q 0 0 rfl
 have hn : nb f = if p = 2047 ∧ q ≠ 0 then 9221120237041090561 else f := by rw [hp, hq]; rfl
 refine jaN ?_
 rw [hn]
 by_cases h1 : p = 2047
 ·rw [decide_eq_true h1] at t1
  by_cases h2 : q = 0
  ·rw [decide_eq_true h2] at t2
   rw [if_neg (fun h => h.2 h2)]
   refine jaj Tryz.func50 rfl rfl (nbl rfl) ?_
   simp only [go_sem, Tryz.ntmps50]
   repeat (first | refine jab rfl ?_ | (refine jap rfl ?_; (try simp only [go_sem, hc, a1, a2, a3, t1, t2]); fail_if_success refine ifC ?_) | (refine jad rfl ?_; (repeat (first | (refine jai ?_ rfl ?_; (solve | simp only [go_sem, hc, a1, a2, a3, t1, t2])) | (refine jaf (v := ?_) (μ' := ?_) ?_ ?_ rfl ?_; rotate_left 2; (solve | rfl | simp only [go_sem, hc, a1, a2, a3, t1, t2]); (solve | simp only [go_sem, hc, a1, a2, a3, t1, t2]; try exact rfl)))); simp only [go_sem]))
   refine jah ?_
   refine ⟨rfl, _, ?_, rfl, rfl⟩
   simp only [go_sem, Tryz.results50]
  ·rw [decide_eq_false h2] at t2
   rw [if_pos ⟨h1, h2⟩]
   refine jaj Tryz.func50 rfl rfl (nbl rfl) ?_
   simp only [go_sem, Tryz.ntmps50]
   repeat (first | refine jab rfl ?_ | (refine jap rfl ?_; (try simp only [go_sem, hc, a1, a2, a3, t1, t2]); fail_if_success refine ifC ?_) | (refine jad rfl ?_; (repeat (first | (refine jai ?_ rfl ?_; (solve | simp only [go_sem, hc, a1, a2, a3, t1, t2])) | (refine jaf (v := ?_) (μ' := ?_) ?_ ?_ rfl ?_; rotate_left 2; (solve | rfl | simp only [go_sem, hc, a1, a2, a3, t1, t2]); (solve | simp only [go_sem, hc, a1, a2, a3, t1, t2]; try exact rfl)))); simp only [go_sem]))
   refine jah ?_
   refine ⟨rfl, _, ?_, rfl, rfl⟩
   simp only [go_sem, Tryz.results50]
   show some (Value.int .u64 (.ofNat 9221120237041090561)) = _
   rw [u_of (by decide)]
 ·rw [decide_eq_false h1] at t1
  rw [if_neg (fun h => h1 h.1)]
  refine jaj Tryz.func50 rfl rfl (nbl rfl) ?_
  simp only [go_sem, Tryz.ntmps50]
  repeat (first | refine jab rfl ?_ | (refine jap rfl ?_; (try simp only [go_sem, hc, a1, a2, a3, t1, t2]); fail_if_success refine ifC ?_) | (refine jad rfl ?_; (repeat (first | (refine jai ?_ rfl ?_; (solve | simp only [go_sem, hc, a1, a2, a3, t1, t2])) | (refine jaf (v := ?_) (μ' := ?_) ?_ ?_ rfl ?_; rotate_left 2; (solve | rfl | simp only [go_sem, hc, a1, a2, a3, t1, t2]); (solve | simp only [go_sem, hc, a1, a2, a3, t1, t2]; try exact rfl)))); simp only [go_sem]))
  refine jah ?_
  refine ⟨rfl, _, ?_, rfl, rfl⟩
  simp only [go_sem, Tryz.results50]
theorem nb_lt {f : Nat} (hf : f < 18446744073709551616) : nb f < 18446744073709551616 := by
 unfold nb
 split
 ·decide
 ·exact hf
theorem same3_eq {X : XT} {g f h : Nat} {μ : Mem} (hX : jch X) (hf : f < 18446744073709551616) (hh : h < 18446744073709551616) (hg : 40 ≤ g) : aFun pZ (jao pZ X S0 g) 32 [.float .f64 f, .float .f64 h] μ = some (.bool (decide (nb f = nb h)), μ) := by
 obtain ⟨k, rfl⟩ := gle hg
 have c1 : ∀ μ', aFun pZ (jao pZ X S0 (k + 37)) 50 [.float .f64 f] μ' = some (u (nb f), μ') := fun μ' => jiO hX hf (by omega)
 have c2 : ∀ μ', aFun pZ (jao pZ X S0 (k + 37)) 50 [.float .f64 h] μ' = some (u (nb h), μ') := fun μ' => jiO hX hh (by omega)
 have t1 : ieq (.ofNat (W (nb f))) (.ofNat (W (nb h))) = decide (nb f = nb h) := by rw [jbu, W_of (nb_lt hf), W_of (nb_lt hh)]
 refine jaN ?_
 refine jaj Tryz.func32 rfl rfl (nbl rfl) ?_
 simp only [go_sem, Tryz.ntmps32]
 repeat (first | refine jab rfl ?_ | (refine jac rfl ?_; (try simp only [go_sem, gg50, c1, c2, t1]); fail_if_success refine ifC ?_))
 refine jah ?_
 refine ⟨rfl, _, ?_, rfl, rfl⟩
 simp only [go_sem, Tryz.results32]
theorem IsU.at {μ : Mem} {ls : List Nat} {v : Value} {k x : Nat} (h : IsU μ ls v) (hx : ls[k]? = some x) : x < 4294967296 ∧ ∃ i o c, v = .slice (some ⟨i, o, none⟩) ls.length c ∧ i < μ.next ∧ jal μ i (o + k) = some (.int .u32 (.ofNat x)) := by
 obtain ⟨hk, rfl⟩ := List.getElem?_eq_some_iff.1 hx
 refine ⟨h.1 _ (List.getElem_mem hk), ?_⟩
 rcases h.2.2 with ⟨_, rfl⟩ | ⟨i, o, c, h1, h2, _⟩
 ·simp at hk
 ·have hn : ls ≠ [] := by rintro rfl; simp at hk
  refine ⟨i, o, c, h1, (h2 hn).1, ?_⟩
  have := (h2 hn).2.cell k (by simpa using hk)
  simpa using this
theorem ix_U {ρ : Operand → Value} {a b : Operand} {i o l c k : Nat} (hk : k < l) (h1 : ρ a = .slice (some ⟨i, o, none⟩) l c) (h2 : ρ b = .int .i64 (.ofNat k)) : jas pZ ρ 23 a b = some (.pointer (some ⟨i, o + k, none⟩)) :=
 ja1 (P := pZ) Tryz.underlying23 jdl rfl h1 h2 hk
theorem ji6 {xs ys : List Nat} {v w : Value} (hlen : xs.length = ys.length) (hl : xs.length ≤ 1000000) : ∀ (j i : Nat), i + j = xs.length → (xs.take i = ys.take i) → ∀ {X : XT} {e : Nat} {tm : T Value} {μ : Mem}, IsU μ xs v → IsU μ ys w →
  jam tm 0 = v → jam tm 1 = w → jam tm 12 = .int .i64 (.ofNat xs.length) → jam tm 13 = .int .i64 (.ofNat i) →
  EndsC (jao pZ X S0 (e + j + 30) (.loop (jaR Tryz.f51 0)) ⟨26, tm, [], none⟩ μ) fun x r μ' => Grow μ μ' ∧ ∃ tm', r = ⟨26, tm', [], none⟩ ∧ ((x = .exit 0 ∧ xs = ys) ∨ (x = .ret ∧ xs ≠ ys ∧ jam tm' 4 = .bool false)) := by
 intro j
 induction j with
 | zero =>
   intro i hi ht X e tm μ hv hw h0 h1 h12 h13
   have hi : i = xs.length := hi
   have e1 : ilt (.ofNat i) (.ofNat xs.length) = false := (jat _ _).trans (decide_eq_false (by omega))
   refine jan ?_
   repeat (first | refine jab rfl ?_ | (refine jac rfl ?_; (try simp only [go_sem, h12, h13, e1]); fail_if_success refine ifC ?_))
   refine ⟨Grow.refl _, _, rfl, .inl ⟨by trivial, ?_⟩⟩
   rw [hi, List.take_length, hlen, List.take_length] at ht
   exact ht
 | succ j ih =>
   intro i hi ht X e tm μ hv hw h0 h1 h12 h13
   have hx : i < xs.length := by omega
   have hy : i < ys.length := by omega
   have e1 : ilt (.ofNat i) (.ofNat xs.length) = true := (jat _ _).trans (decide_eq_true hx)
   have a1 : jax .i64 (Int.add (.ofNat i) 1) = .ofNat (i + 1) := jaV i 1 (by omega)
   obtain ⟨bx, bi, bo, bc, hbv, hbi, hbc⟩ := hv.at (List.getElem?_eq_getElem hx)
   obtain ⟨cx, ci, co, cc, hcv, hci, hcc⟩ := hw.at (List.getElem?_eq_getElem hy)
   obtain ⟨p, hp⟩ : ∃ p, p = xs[i]'hx := ⟨_, rfl⟩
   obtain ⟨q, hq⟩ : ∃ q, q = ys[i]'hy := ⟨_, rfl⟩
   rw [← hp] at hbc
   rw [← hq] at hcc
   have hix : ∀ (r : Rg) (x y : Operand), aev pZ r x = v → aev pZ r y = .int .i64 (.ofNat i) → jas pZ (aev pZ r) 23 x y = some (.pointer (some ⟨bi, bo + i, none⟩)) := fun r x y g1 g2 => ix_U hx (g1.trans hbv) g2
   have hiy : ∀ (r : Rg) (x y : Operand), aev pZ r x = w → aev pZ r y = .int .i64 (.ofNat i) → jas pZ (aev pZ r) 23 x y = some (.pointer (some ⟨ci, co + i, none⟩)) := fun r x y g1 g2 => ix_U hy (g1.trans hcv) g2
   have hcb : ∀ m, jal ⟨μ.obs, m⟩ bi (bo + i) = some (.int .u32 (.ofNat p)) := fun m => hbc
   have hcc' : ∀ m, jal ⟨μ.obs, m⟩ ci (co + i) = some (.int .u32 (.ofNat q)) := fun m => hcc
   have hG : Grow μ ⟨μ.obs, μ.next + 9⟩ := jb7 μ 9
   by_cases hpq : p = q
   ·have e2 : ieq (.ofNat p) (.ofNat q) = true := (jbu _ _).trans (decide_eq_true hpq)
    have ht' : xs.take (i + 1) = ys.take (i + 1) := by
     rw [List.take_add_one, List.take_add_one, ht, List.getElem?_eq_getElem hx, List.getElem?_eq_getElem hy, ← hp, ← hq, hpq]
    refine jan ?_
    repeat (first | refine jab rfl ?_ | (refine jac rfl ?_; (try simp only [go_sem, h12, h13, e1]); fail_if_success refine ifC ?_))
    refine jaG (n := 9) (ms := [0, 0, 3, 7, 0, 0, 48, 112, 255]) (ord := [0, 1, 2, 3, 4, 5, 6, 7, 8]) (ds := ?_) ?_ ?_ ?_ ?_ ?_ ?_
    rotate_left
    ·kernel_rfl
    ·kernel_rfl
    ·kernel_rfl
    ·rfl
    ·rfl
    repeat (first | (refine jaA ?_ rfl ?_; (solve | simp only [go_sem, h0, h1, hix, hiy, jcd, hcb, hcc', e2])) | (refine jar (v := ?_) (μ' := ?_) (sn' := ?_) ?_ ?_ rfl ?_; rotate_left 3; (solve | rfl | simp only [go_sem, h0, h1, hix, hiy, jcd, hcb, hcc', e2]); (solve | simp only [jav, heavy, jaI, jaq, go_sem, h0, h1, hix, hiy, jcd, hcb, hcc', e2]; try exact rfl)))
    simp only [dRun, jay, jak]
    repeat (first | refine jab rfl ?_ | (refine jac rfl ?_; (try simp only [go_sem, h0, h1, h12, h13, a1]); fail_if_success refine ifC ?_))
    rw [show e + (j + 1) + 29 = e + j + 30 from by omega]
    refine EndsC.mono (ih (i + 1) (by omega) ht' (hv.grow hG) (hw.grow hG) (by simp only [go_sem, h0]) (by simp only [go_sem, h1]) (by simp only [go_sem, h12]) (by simp only [go_sem])) ?_
    rintro x r μ' ⟨g1, g2⟩
    exact ⟨hG.trans g1, g2⟩
   ·have e2 : ieq (.ofNat p) (.ofNat q) = false := (jbu _ _).trans (decide_eq_false hpq)
    refine jan ?_
    repeat (first | refine jab rfl ?_ | (refine jac rfl ?_; (try simp only [go_sem, h12, h13, e1]); fail_if_success refine ifC ?_))
    refine jaG (n := 9) (ms := [0, 0, 3, 7, 0, 0, 48, 112, 255]) (ord := [0, 1, 2, 3, 4, 5, 6, 7, 8]) (ds := ?_) ?_ ?_ ?_ ?_ ?_ ?_
    rotate_left
    ·kernel_rfl
    ·kernel_rfl
    ·kernel_rfl
    ·rfl
    ·rfl
    repeat (first | (refine jaA ?_ rfl ?_; (solve | simp only [go_sem, h0, h1, hix, hiy, jcd, hcb, hcc', e2])) | (refine jar (v := ?_) (μ' := ?_) (sn' := ?_) ?_ ?_ rfl ?_; rotate_left 3; (solve | rfl | simp only [go_sem, h0, h1, hix, hiy, jcd, hcb, hcc', e2]); (solve | simp only [jav, heavy, jaI, jaq, go_sem, h0, h1, hix, hiy, jcd, hcb, hcc', e2]; try exact rfl)))
    simp only [dRun, jay, jak]
    repeat (first | refine jab rfl ?_ | (refine jac rfl ?_; (try simp only [go_sem, h0, h1, h12, h13, a1]); fail_if_success refine ifC ?_))
    refine jah ?_
    exact ⟨hG, _, rfl, .inr ⟨by trivial, fun e => hpq (by subst e; rw [hp, hq]), by simp only [go_sem]⟩⟩
theorem same1_eq {xs ys : List Nat} {v w : Value} {X : XT} {g : Nat} {μ : Mem} (hv : IsU μ xs v) (hw : IsU μ ys w) (hl : xs.length ≤ 1000000) (hg : xs.length + 100 ≤ g) : ∃ μ', aFun pZ (jao pZ X S0 g) 51 [v, w] μ = some (.bool (decide (xs = ys)), μ') ∧ Grow μ μ' := by
 obtain ⟨k, hk, rfl⟩ : ∃ k, xs.length ≤ k ∧ g = k + 100 := ⟨g - 100, by omega, by omega⟩
 have l1 := hv.len
 have l2 := hw.len
 have key : EndsF (aFun pZ (jao pZ X S0 (k + 100)) 51 [v, w] μ) fun r μ' => r = .bool (decide (xs = ys)) ∧ Grow μ μ' := by
  by_cases hlen : xs.length = ys.length
  ·have e1 : ieq (.ofNat xs.length) (.ofNat ys.length) = true := (jbu _ _).trans (decide_eq_true hlen)
   refine jaj Tryz.func51 rfl rfl (nbl rfl) ?_
   simp only [go_sem, Tryz.ntmps51]
   repeat (first | refine jab rfl ?_ | (refine jac rfl ?_; (try simp only [go_sem, jaa, l1, l2, jae, e1]); fail_if_success refine ifC ?_))
   rw [show k + 95 = (k + 65 - xs.length) + xs.length + 30 from by omega]
   refine EndsC.mono (ji6 hlen hl xs.length 0 (Nat.zero_add _) rfl hv hw (by simp only [go_sem]) (by simp only [go_sem]) (by simp only [go_sem]) (by simp only [go_sem]; try rfl)) ?_
   rintro x r μ' ⟨g1, tm', rfl, ⟨rfl, g2⟩ | ⟨rfl, g2, g3⟩⟩
   ·simp only [jaX, reduceIte, jak]
    repeat (first | refine jab rfl ?_ | (refine jac rfl ?_; (try simp only [go_sem, undef]); fail_if_success refine ifC ?_))
    refine jah ?_
    refine ⟨rfl, .bool true, ?_, by rw [decide_eq_true g2], g1⟩
    simp only [go_sem, Tryz.results51]
   ·simp only [jaX]
    refine ⟨rfl, .bool false, ?_, by rw [decide_eq_false g2], g1⟩
    simp only [go_sem, Tryz.results51]
    rw [g3]
  ·have e1 : ieq (.ofNat xs.length) (.ofNat ys.length) = false := (jbu _ _).trans (decide_eq_false hlen)
   refine jaj Tryz.func51 rfl rfl (nbl rfl) ?_
   simp only [go_sem, Tryz.ntmps51]
   repeat (first | refine jab rfl ?_ | (refine jac rfl ?_; (try simp only [go_sem, jaa, l1, l2, jae, e1]); fail_if_success refine ifC ?_))
   refine jah ?_
   refine ⟨rfl, .bool false, ?_, by rw [decide_eq_false (fun h => hlen (by rw [h]))], Grow.refl _⟩
   simp only [go_sem, Tryz.results51]
 obtain ⟨r, μ', h1, rfl, h2⟩ := key
 exact ⟨μ', h1, h2⟩
end
noncomputable section
theorem Has.c2 {μ : Mem} {i : Nat} {a b : Value} (h : Has μ i 0 [a, b]) : jal μ i 0 = some a ∧ jal μ i 1 = some b := ⟨Has.cell h 0 (by simp), Has.cell h 1 (by simp)⟩
theorem Has.c4 {μ : Mem} {i : Nat} {a b c d : Value} (h : Has μ i 0 [a, b, c, d]) : jal μ i 0 = some a ∧ jal μ i 1 = some b ∧ jal μ i 2 = some c ∧ jal μ i 3 = some d := ⟨Has.cell h 0 (by simp), Has.cell h 1 (by simp), Has.cell h 2 (by simp), Has.cell h 3 (by simp)⟩
theorem Has.c8 {μ : Mem} {i : Nat} {a b c d e f g j : Value} (h : Has μ i 0 [a, b, c, d, e, f, g, j]) : jal μ i 0 = some a ∧ jal μ i 1 = some b ∧ jal μ i 2 = some c ∧ jal μ i 3 = some d ∧ jal μ i 4 = some e ∧ jal μ i 5 = some f ∧ jal μ i 6 = some g ∧ jal μ i 7 = some j :=
 ⟨Has.cell h 0 (by simp), Has.cell h 1 (by simp), Has.cell h 2 (by simp), Has.cell h 3 (by simp), Has.cell h 4 (by simp), Has.cell h 5 (by simp), Has.cell h 6 (by simp), Has.cell h 7 (by simp)⟩
abbrev obL (t : TypeId) (l : List Value) : Ob := .cells l.length t l.toArray .e 0 0 false false
theorem jd7 (μ : Mem) (t : TypeId) (l : List Value) : Has ⟨μ.obs.set μ.next (obL t l), μ.next + 1⟩ μ.next 0 l := Has.new (t := t) (fx := false) (sh := false) (by
 show T.get _ _ = _
 rw [T.get_set, if_pos rfl])
theorem jgo (μ : Mem) (t t2 : TypeId) (l l2 : List Value) : Has ⟨(μ.obs.set μ.next (obL t l)).set (μ.next + 1) (obL t2 l2), μ.next + 1 + 1⟩ μ.next 0 l ∧ Has ⟨(μ.obs.set μ.next (obL t l)).set (μ.next + 1) (obL t2 l2), μ.next + 1 + 1⟩ (μ.next + 1) 0 l2 :=
 ⟨(jd7 μ t l).keep (by show T.get _ _ = T.get _ _; rw [T.get_set, if_neg (by omega)]), jd7 ⟨μ.obs.set μ.next (obL t l), μ.next + 1⟩ t2 l2⟩
theorem jd8 (μ : Mem) (a b : Ob) : Grow μ ⟨(μ.obs.set μ.next a).set (μ.next + 1) b, μ.next + 1 + 1⟩ := (jbn μ a).trans (jbn ⟨μ.obs.set μ.next a, μ.next + 1⟩ b)
theorem jf4 (a b : Value) : aBox 25 (.agg #[a, b]) = some (obL 25 [a, b], fun id => .pointer (some ⟨id, 0, none⟩)) := rfl
theorem jds (a b c d : Value) : aBox 27 (.agg #[a, b, c, d]) = some (obL 27 [a, b, c, d], fun id => .pointer (some ⟨id, 0, none⟩)) := rfl
theorem jda (a b c d e f g h : Value) : aBox 30 (.agg #[a, b, c, d, e, f, g, h]) = some (obL 30 [a, b, c, d, e, f, g, h], fun id => .pointer (some ⟨id, 0, none⟩)) := rfl
theorem has_I {μ : Mem} {i : Nat} {a b c d : Value} (h : Has μ i 0 [a, b, c, d]) : jbH pZ μ 25 (.pointer (some ⟨i, 2, none⟩)) = some (.agg #[c, d]) := (Has.part (a := [a, b]) (b := [c, d]) (c := []) h rfl).load Tryz.underlying25 i_Int rfl
theorem jeF {μ : Mem} {i : Nat} {a b c d e f g j : Value} (h : Has μ i 0 [a, b, c, d, e, f, g, j]) : jbH pZ μ 27 (.pointer (some ⟨i, 2, none⟩)) = some (.agg #[c, d, e, f]) := (Has.part (a := [a, b]) (b := [c, d, e, f]) (c := [g, j]) h rfl).load Tryz.underlying27 i_Num rfl
theorem eqB {b1 b2 b : Bool} (e : (b1 == b2) = b) : ∀ (r : Rg) (d : Option Tmp) (ty : TypeId) (x y : Operand) (ps : String) (af : Array Edge) (gd : Option (Nat × Bool)), aev pZ r x = .bool b1 → aev pZ r y = .bool b2 → jaT pZ (aev pZ r) ⟨d, .binOp .eql 4 x y 4, ty, ps, af, gd⟩ = some (.bool b) := fun r d ty x y ps af gd g1 g2 => by rw [eqb g1 g2, e]
theorem same2_eq {xs ys : List Nat} {v w : Value} {p q : Bool} {X : XT} {g : Nat} {μ : Mem} (hv : IsU μ xs v) (hw : IsU μ ys w) (hl : xs.length ≤ 1000000) (hg : xs.length + 130 ≤ g) : ∃ μ', aFun pZ (jao pZ X S0 g) 33 [.agg #[.bool p, v], .agg #[.bool q, w]] μ = some (.bool ((p == q) && decide (xs = ys)), μ') ∧ Grow μ μ' := by
 obtain ⟨k, hk, rfl⟩ : ∃ k, xs.length ≤ k ∧ g = k + 130 := ⟨g - 130, by omega, by omega⟩
 obtain ⟨h1, h2⟩ := jgo μ 25 25 [.bool p, v] [.bool q, w]
 have hG := jd8 μ (obL 25 [.bool p, v]) (obL 25 [.bool q, w])
 obtain ⟨μ2, r1, G1⟩ := same1_eq (X := X) (g := k + 127) (hv.grow hG) (hw.grow hG) hl (by omega)
 obtain ⟨c10, c11⟩ := Has.c2 h1
 obtain ⟨c20, c21⟩ := Has.c2 h2
 have key : EndsF (aFun pZ (jao pZ X S0 (k + 130)) 33 [.agg #[.bool p, v], .agg #[.bool q, w]] μ) fun r μ' => r = .bool ((p == q) && decide (xs = ys)) ∧ Grow μ μ' := by
  cases e : (p == q) with
  | true =>
    have q1 := eqB e
    refine jaj Tryz.func33 rfl rfl (nbl rfl) ?_
    simp only [go_sem, Tryz.ntmps33]
    have zz := (⟨@jf4, @jc0, @jb8, @jaM, @jdP, @c10, @c11, @c20, @c21, @q1, @gg51, @r1⟩ : _ ∧ _ ∧ _ ∧ _ ∧ _ ∧ _ ∧ _ ∧ _ ∧ _ ∧ _ ∧ _ ∧ _)
    repeat (first | refine jab rfl ?_ | (refine jap rfl ?_; (try simp only [go_sem, Nat.add_eq, zz]); fail_if_success refine ifC ?_) | (refine jad rfl ?_; (repeat (first | (refine jai ?_ rfl ?_; (solve | simp only [go_sem, Nat.add_eq, zz])) | (refine jaf (v := ?_) (μ' := ?_) ?_ ?_ rfl ?_; rotate_left 2; (solve | rfl | simp only [go_sem, Nat.add_eq, zz]); (solve | simp only [go_sem, Nat.add_eq, zz]; try exact rfl)))); simp only [go_sem]))
    clear zz
    refine jah ?_
    refine ⟨rfl, .bool (decide (xs = ys)), ?_, by rw [Bool.true_and], hG.trans G1⟩
    simp only [go_sem, Tryz.results33]
  | false =>
    have q1 := eqB e
    refine jaj Tryz.func33 rfl rfl (nbl rfl) ?_
    simp only [go_sem, Tryz.ntmps33]
    have zz := (⟨@jf4, @jc0, @jb8, @jaM, @jdP, @c10, @c11, @c20, @c21, @q1, @gg51, @r1⟩ : _ ∧ _ ∧ _ ∧ _ ∧ _ ∧ _ ∧ _ ∧ _ ∧ _ ∧ _ ∧ _ ∧ _)
    repeat (first | refine jab rfl ?_ | (refine jap rfl ?_; (try simp only [go_sem, Nat.add_eq, zz]); fail_if_success refine ifC ?_) | (refine jad rfl ?_; (repeat (first | (refine jai ?_ rfl ?_; (solve | simp only [go_sem, Nat.add_eq, zz])) | (refine jaf (v := ?_) (μ' := ?_) ?_ ?_ rfl ?_; rotate_left 2; (solve | rfl | simp only [go_sem, Nat.add_eq, zz]); (solve | simp only [go_sem, Nat.add_eq, zz]; try exact rfl)))); simp only [go_sem]))
    clear zz
    refine jah ?_
    refine ⟨rfl, .bool false, ?_, by rw [Bool.false_and], hG⟩
    simp only [go_sem, Tryz.results33]
 obtain ⟨r, μ', h1, rfl, h2⟩ := key
 exact ⟨μ', h1, h2⟩
def jez (fl f2 : Bool) (f h : Nat) (p q : Bool) (xs ys : List Nat) : Bool := if (fl && f2) = true then decide (nb f = nb h) else (!fl && !f2) && ((p == q) && decide (xs = ys))
theorem same4_eq {xs ys : List Nat} {v w : Value} {p q fl f2 : Bool} {f h : Nat} {X : XT} {g : Nat} {μ : Mem} (hX : jch X) (hf : f < 18446744073709551616) (hh : h < 18446744073709551616) (hv : IsU μ xs v) (hw : IsU μ ys w) (hl : xs.length ≤ 1000000) (hg : xs.length + 160 ≤ g) :
  ∃ μ', aFun pZ (jao pZ X S0 g) 21 [.agg #[.bool fl, .float .f64 f, .bool p, v], .agg #[.bool f2, .float .f64 h, .bool q, w]] μ = some (.bool (jez fl f2 f h p q xs ys), μ') ∧ Grow μ μ' := by
 obtain ⟨k, hk, rfl⟩ : ∃ k, xs.length ≤ k ∧ g = k + 160 := ⟨g - 160, by omega, by omega⟩
 obtain ⟨h1, h2⟩ := jgo μ 27 27 [.bool fl, .float .f64 f, .bool p, v] [.bool f2, .float .f64 h, .bool q, w]
 have hG := jd8 μ (obL 27 [.bool fl, .float .f64 f, .bool p, v]) (obL 27 [.bool f2, .float .f64 h, .bool q, w])
 obtain ⟨μ2, r1, G1⟩ := same2_eq (X := X) (p := p) (q := q) (g := k + 156) (hv.grow hG) (hw.grow hG) hl (by omega)
 have r2 : ∀ μ', aFun pZ (jao pZ X S0 (k + 154)) 32 [.float .f64 f, .float .f64 h] μ' = some (.bool (decide (nb f = nb h)), μ') := fun μ' => same3_eq hX hf hh (by omega)
 have l1 := has_I h1
 have l2 := has_I h2
 obtain ⟨c10, c11, c12, c13⟩ := Has.c4 h1
 obtain ⟨c20, c21, c22, c23⟩ := Has.c4 h2
 have key : EndsF (aFun pZ (jao pZ X S0 (k + 160)) 21 [.agg #[.bool fl, .float .f64 f, .bool p, v], .agg #[.bool f2, .float .f64 h, .bool q, w]] μ) fun r μ' => r = .bool (jez fl f2 f h p q xs ys) ∧ Grow μ μ' := by
  cases fl <;> cases f2
  ·skip
   refine jaj Tryz.func21 rfl rfl (nbl rfl) ?_
   simp only [go_sem, Tryz.ntmps21]
   have zz := (⟨@jds, @jcB, @jcA, @jbN, @jaM, @jbY, @c10, @c11, @c20, @c21, @l1, @l2, @gg32, @r2, @gg33, @r1⟩ : _ ∧ _ ∧ _ ∧ _ ∧ _ ∧ _ ∧ _ ∧ _ ∧ _ ∧ _ ∧ _ ∧ _ ∧ _ ∧ _ ∧ _ ∧ _)
   repeat (first | refine jab rfl ?_ | (refine jap rfl ?_; (try simp only [go_sem, Nat.add_eq, zz]); fail_if_success refine ifC ?_) | (refine jad rfl ?_; (repeat (first | (refine jai ?_ rfl ?_; (solve | simp only [go_sem, Nat.add_eq, zz])) | (refine jaf (v := ?_) (μ' := ?_) ?_ ?_ rfl ?_; rotate_left 2; (solve | rfl | simp only [go_sem, Nat.add_eq, zz]); (solve | simp only [go_sem, Nat.add_eq, zz]; try exact rfl)))); simp only [go_sem]))
   clear zz
   refine jah ?_
   refine ⟨rfl, .bool ((p == q) && decide (xs = ys)), ?_, by simp [jez], hG.trans G1⟩
   simp only [go_sem, Tryz.results21]
  ·skip
   refine jaj Tryz.func21 rfl rfl (nbl rfl) ?_
   simp only [go_sem, Tryz.ntmps21]
   have zz := (⟨@jds, @jcB, @jcA, @jbN, @jaM, @jbY, @c10, @c11, @c20, @c21, @l1, @l2, @gg32, @r2, @gg33, @r1⟩ : _ ∧ _ ∧ _ ∧ _ ∧ _ ∧ _ ∧ _ ∧ _ ∧ _ ∧ _ ∧ _ ∧ _ ∧ _ ∧ _ ∧ _ ∧ _)
   repeat (first | refine jab rfl ?_ | (refine jap rfl ?_; (try simp only [go_sem, Nat.add_eq, zz]); fail_if_success refine ifC ?_) | (refine jad rfl ?_; (repeat (first | (refine jai ?_ rfl ?_; (solve | simp only [go_sem, Nat.add_eq, zz])) | (refine jaf (v := ?_) (μ' := ?_) ?_ ?_ rfl ?_; rotate_left 2; (solve | rfl | simp only [go_sem, Nat.add_eq, zz]); (solve | simp only [go_sem, Nat.add_eq, zz]; try exact rfl)))); simp only [go_sem]))
   clear zz
   refine jah ?_
   refine ⟨rfl, .bool false, ?_, by simp [jez], hG⟩
   simp only [go_sem, Tryz.results21]
  ·skip
   refine jaj Tryz.func21 rfl rfl (nbl rfl) ?_
   simp only [go_sem, Tryz.ntmps21]
   have zz := (⟨@jds, @jcB, @jcA, @jbN, @jaM, @jbY, @c10, @c11, @c20, @c21, @l1, @l2, @gg32, @r2, @gg33, @r1⟩ : _ ∧ _ ∧ _ ∧ _ ∧ _ ∧ _ ∧ _ ∧ _ ∧ _ ∧ _ ∧ _ ∧ _ ∧ _ ∧ _ ∧ _ ∧ _)
   repeat (first | refine jab rfl ?_ | (refine jap rfl ?_; (try simp only [go_sem, Nat.add_eq, zz]); fail_if_success refine ifC ?_) | (refine jad rfl ?_; (repeat (first | (refine jai ?_ rfl ?_; (solve | simp only [go_sem, Nat.add_eq, zz])) | (refine jaf (v := ?_) (μ' := ?_) ?_ ?_ rfl ?_; rotate_left 2; (solve | rfl | simp only [go_sem, Nat.add_eq, zz]); (solve | simp only [go_sem, Nat.add_eq, zz]; try exact rfl)))); simp only [go_sem]))
   clear zz
   refine jah ?_
   refine ⟨rfl, .bool false, ?_, by simp [jez], hG⟩
   simp only [go_sem, Tryz.results21]
  ·skip
   refine jaj Tryz.func21 rfl rfl (nbl rfl) ?_
   simp only [go_sem, Tryz.ntmps21]
   have zz := (⟨@jds, @jcB, @jcA, @jbN, @jaM, @jbY, @c10, @c11, @c20, @c21, @l1, @l2, @gg32, @r2, @gg33, @r1⟩ : _ ∧ _ ∧ _ ∧ _ ∧ _ ∧ _ ∧ _ ∧ _ ∧ _ ∧ _ ∧ _ ∧ _ ∧ _ ∧ _ ∧ _ ∧ _)
   repeat (first | refine jab rfl ?_ | (refine jap rfl ?_; (try simp only [go_sem, Nat.add_eq, zz]); fail_if_success refine ifC ?_) | (refine jad rfl ?_; (repeat (first | (refine jai ?_ rfl ?_; (solve | simp only [go_sem, Nat.add_eq, zz])) | (refine jaf (v := ?_) (μ' := ?_) ?_ ?_ rfl ?_; rotate_left 2; (solve | rfl | simp only [go_sem, Nat.add_eq, zz]); (solve | simp only [go_sem, Nat.add_eq, zz]; try exact rfl)))); simp only [go_sem]))
   clear zz
   refine jah ?_
   refine ⟨rfl, .bool (decide (nb f = nb h)), ?_, by simp [jez], hG⟩
   simp only [go_sem, Tryz.results21]
 obtain ⟨r, μ', h1, rfl, h2⟩ := key
 exact ⟨μ', h1, h2⟩
end
noncomputable section
section
set_option linter.defProp false
variable {X : XT} {ev : Code → Rg → Mem → Option (Ax × Rg × Mem)}
end
theorem jhY (μ : Mem) : IsU μ [] (.slice none 0 0) := ⟨(by intro x h; cases h), Nat.zero_le _, .inl ⟨rfl, rfl⟩⟩
end
noncomputable section
def Lv (μ : Mem) (v : Value) (ls : List Nat) : Prop := (v = .slice none 0 0 ∧ ls = []) ∨ ∃ i c m z ov fx sh, v = .slice (some ⟨i, 0, none⟩) ls.length c ∧ μ.obs.get i = some (.cells m 48 z ov 0 0 fx sh) ∧ ls.length ≤ m ∧ i < μ.next ∧ (∀ (k : Nat) x, ls[k]? = some x → x < 4294967296 ∧ cellAt z ov k = .int .u32 (.ofNat x)) ∧ Cap ls.length c
theorem Lv.grow {μ μ' : Mem} {v : Value} {ls : List Nat} (h : Lv μ v ls) (g : Grow μ μ') : Lv μ' v ls := by
 rcases h with h | ⟨i, c, m, z, ov, fx, sh, h1, h2, h3, h4, h5, h6⟩
 ·exact .inl h
 ·exact .inr ⟨i, c, m, z, ov, fx, sh, h1, (g.2 i h4).trans h2, h3, Nat.lt_of_lt_of_le h4 g.1, h5, h6⟩
theorem Lv.rd {μ : Mem} {v : Value} {ls : List Nat} (h : Lv μ v ls) : Rd μ v ls.length := by
 rcases h with ⟨h1, rfl⟩ | ⟨i, c, m, z, ov, fx, sh, h1, h2, h3, h4, h5, h6⟩
 ·exact .inl ⟨h1, rfl⟩
 ·refine .inr ⟨i, c, m, z, ov, fx, sh, h1, h2, h3, h4, fun k hk => ?_, h6⟩
  obtain ⟨h7, h8⟩ := h5 k _ (List.getElem?_eq_getElem hk)
  exact ⟨_, h7, h8⟩
theorem Lv.isU {μ : Mem} {v : Value} {ls : List Nat} (h : Lv μ v ls) (hl : ls.length ≤ maxLen) : IsU μ ls v := by
 rcases h with ⟨h1, rfl⟩ | ⟨i, c, m, z, ov, fx, sh, h1, h2, h3, h4, h5, h6⟩
 ·exact ⟨(by intro x h; cases h), hl, .inl ⟨h1, rfl⟩⟩
 ·refine ⟨fun x hx => ?_, hl, .inr ⟨i, 0, c, h1, fun _ => ⟨h4, m, z, ov, by rw [h2]; rfl, by simp; omega, fun k hk => ?_⟩, h6⟩⟩
  ·obtain ⟨k, hk, rfl⟩ := List.mem_iff_getElem.1 hx
   exact (h5 k _ (List.getElem?_eq_getElem hk)).1
  ·have hk' : k < ls.length := by simpa using hk
   rw [Nat.zero_add, (h5 k _ (List.getElem?_eq_getElem hk')).2]
   simp
theorem Lv.take {μ : Mem} {v : Value} {ls : List Nat} {k : Nat} (h : Lv μ v ls) (hk : k ≤ ls.length) : ∃ v', (∀ (ρ : Operand → Value) (x y : Operand), ρ x = v → ρ y = .int .i64 (.ofNat k) → jbg pZ ρ 23 x none (some y) none = some v') ∧ Lv μ v' (ls.take k) ∧ ∀ i, SlAt v' i → SlAt v i := by
 have hlen : (ls.take k).length = k := by rw [List.length_take]; omega
 rcases h with ⟨rfl, rfl⟩ | ⟨i, c, m, z, ov, fx, sh, rfl, h2, h3, h4, h5, h6⟩
 ·obtain rfl : k = 0 := by simpa using hk
  refine ⟨.slice none 0 0, fun ρ x y hx hy => ?_, .inl ⟨rfl, rfl⟩, fun i hi => hi⟩
  unfold jbg
  simp only [hx, Tryz.underlying23, jdl, jbp, jb0, hy]
  try rfl
 ·refine ⟨.slice (some ⟨i, 0, none⟩) k c, fun ρ x y hx hy => ?_, .inr ⟨i, c, m, z, ov, fx, sh, by rw [hlen], h2, by omega, h4, fun j x hj => ?_, by rw [hlen]; unfold Cap at h6 ⊢; omega⟩, fun j hj => by
   obtain ⟨l', c', hv⟩ := hj
   injection hv with e1 e2 e3
   rw [e1]
   exact ⟨_, c, rfl⟩⟩
  ·unfold jbg
   rcases h6 with ⟨g1, g2⟩ | ⟨g1, g2⟩
   ·have e1 : Nat.beq (Nat.mod c 2) 0 = true := by rw [show Nat.mod c 2 = 0 from g1]; rfl
    have e3 : Nat.ble k (Nat.div c 2) = true := Nat.ble_eq_true_of_le (by show k ≤ c / 2; omega)
    simp only [hx, Tryz.underlying23, jdl, e1, jbp, jb0, hy, e3]
    have e4 : Addr.add ⟨i, 0, none⟩ (Nat.mul 0 Tryz.t48.size) = ⟨i, 0, none⟩ := by rw [show Nat.mul 0 Tryz.t48.size = 0 from Nat.zero_mul _]; rfl
    have e5 : Nat.mul 2 (Nat.sub (Nat.div c 2) 0) = c := by show 2 * (c / 2 - 0) = c; omega
    have e6 : Nat.sub k 0 = k := rfl
    cases Nat.beq (Nat.div c 2) 0 <;> simp only [e4, e5, e6]
   ·have e1 : Nat.beq (Nat.mod c 2) 0 = false := by rw [show Nat.mod c 2 = 1 from g1]; rfl
    have e3 : Nat.ble k ls.length = true := Nat.ble_eq_true_of_le hk
    simp only [hx, Tryz.underlying23, jdl, e1, jbp, jb0, hy, e3]
    try rfl
  ·refine h5 j x ?_
   rw [List.getElem?_take] at hj
   split at hj
   ·exact hj
   ·cases hj
theorem Lv.at {μ : Mem} {v : Value} {ls : List Nat} {k x : Nat} (h : Lv μ v ls) (hx : ls[k]? = some x) : ∃ i c, v = .slice (some ⟨i, 0, none⟩) ls.length c ∧ x < 4294967296 ∧ jal μ i k = some (.int .u32 (.ofNat x)) := by
 have hk : k < ls.length := (List.getElem?_eq_some_iff.1 hx).1
 rcases h with ⟨_, rfl⟩ | ⟨i, c, m, z, ov, fx, sh, h1, h2, h3, h4, h5, h6⟩
 ·simp at hx
 ·obtain ⟨h7, h8⟩ := h5 k x hx
  refine ⟨i, c, h1, h7, ?_⟩
  unfold jal
  rw [h2]
  show (if k < m then some (cellAt z ov k) else none) = _
  rw [if_pos (by omega), h8]
theorem src_has {μ : Mem} {i o n c : Nat} {l : List Value} (h : Has μ i o l) (hn : 0 < l.length) : ja7 μ 1 l.length (.slice (some ⟨i, o, none⟩) n c) = some l := by
 obtain ⟨m, z, ov, h1, h2, h3⟩ := h
 unfold ja7
 obtain ⟨k, hk⟩ : ∃ k, l.length = k + 1 := ⟨l.length - 1, by omega⟩
 have e0 : Nat.mul l.length 1 = k + 1 := by rw [show Nat.mul l.length 1 = l.length from Nat.mul_one _, hk]
 have hb : Nat.ble (Nat.add o (k + 1)) m = true := Nat.ble_eq_true_of_le (by show o + (k + 1) ≤ m; omega)
 have hc : jaE z ov o (k + 1) = l := jbI _ _ _ hk h3
 simp only [e0]
 cases hob : μ.obs.get i with
 | none => rw [hob] at h1; cases h1
 | some ob =>
   rw [hob] at h1
   cases ob <;> first | (cases h1; simp only [hb, hc]) | cases h1
theorem IsU.src {μ : Mem} {ls : List Nat} {v : Value} (h : IsU μ ls v) : ja7 μ 1 ls.length v = some (ls.map fun x => .int .u32 (.ofNat x)) := by
 rcases h with ⟨_, _, ⟨rfl, rfl⟩ | ⟨i, o, c, rfl, h2, _⟩⟩
 ·rfl
 ·by_cases hn : ls = []
  ·subst hn; rfl
  ·have := src_has (n := ls.length) (c := c) (h2 hn).2 (by rw [List.length_map]; exact List.length_pos_iff.2 hn)
   rw [List.length_map] at this
   exact this
theorem appendU {μ : Mem} {v : Value} {ls : List Nat} (h : IsU μ ls v) (hn : ls.length ≤ 1000000) : ∃ v' μ', jbk pZ ⟨μ.obs.set μ.next ob0, Nat.add μ.next 1⟩ 23 23 (.slice (some ⟨μ.next, 0, none⟩) 0 0) v = some (v', μ') ∧ Lv μ' v' ls ∧ Grow μ μ' ∧ New μ v' := by
 have hg1 : Grow μ ⟨μ.obs.set μ.next ob0, Nat.add μ.next 1⟩ := jbn μ _
 have h1 := h.grow hg1
 have hs := h1.src
 have hlt := h.1
 obtain ⟨xs, hxs⟩ : ∃ xs : List Value, xs = ls.map fun x => .int .u32 (.ofNat x) := ⟨_, rfl⟩
 rw [← hxs] at hs
 have hl : xs.length = ls.length := by rw [hxs, List.length_map]
 have hlen : lenV v = some ls.length := by
  rcases h with ⟨_, _, ⟨rfl, rfl⟩ | ⟨i, o, c, rfl, _⟩⟩ <;> rfl
 have hat : ∀ (k : Nat) x, ls[k]? = some x → x < 4294967296 ∧ cellAt xs.toArray .e k = .int .u32 (.ofNat x) := fun k x hk => by
  obtain ⟨hk', rfl⟩ := List.getElem?_eq_some_iff.1 hk
  refine ⟨hlt _ (List.getElem_mem _), ?_⟩
  rw [jbB xs k (by omega)]
  simp [hxs]
 have e1 : Nat.ble Tryz.t48.bytes 4096 = true := by kernel_rfl
 have e2 : Nat.beq (ja2 (.int .u32 0)).length 1 = true := by kernel_rfl
 have e3 : Nat.ble ls.length 67108864 = true := Nat.ble_eq_true_of_le (by omega)
 have e4 : Tryz.t48.size = 1 := by kernel_rfl
 have e5 : Nat.beq xs.length (Nat.mul ls.length 1) = true := by rw [hl, show Nat.mul ls.length 1 = ls.length from Nat.mul_one _]; exact Nat.beq_refl _
 obtain ⟨n, hn'⟩ : ∃ n, n = ls.length := ⟨_, rfl⟩
 rw [← hn'] at hs hlen e3 e5 hn hl
 have hap : jbk pZ ⟨μ.obs.set μ.next ob0, Nat.add μ.next 1⟩ 23 23 (.slice (some ⟨μ.next, 0, none⟩) 0 0) v = jbo pZ ⟨μ.obs.set μ.next ob0, Nat.add μ.next 1⟩ 48 1 n xs (.slice (some ⟨μ.next, 0, none⟩) 0 0) := by
  unfold jbk
  simp only [Tryz.underlying23, jdl, e1, z_u32, e4, e2, hlen, e3, hs, e5]
 rw [hap]
 unfold jbo
 have e6 : Nat.ble (Nat.add 0 n) 67108864 = true := Nat.ble_eq_true_of_le (by show 0 + n ≤ _; omega)
 simp only [e6]
 cases n with
 | zero =>
   obtain rfl : ls = [] := List.eq_nil_of_length_eq_zero hn'.symm
   obtain rfl : xs = [] := List.eq_nil_of_length_eq_zero hl
   refine ⟨_, _, rfl, .inr ⟨μ.next, 0, 0, #[], .e, false, false, rfl, by show T.get _ _ = _; rw [T.get_set, if_pos rfl]; rfl, Nat.le_refl _, Nat.lt_succ_self _, fun k x hk => by simp at hk, .inl ⟨rfl, Nat.le_refl _⟩⟩, hg1, New.mk (Nat.le_refl _)⟩
 | succ n =>
   have e7 : Nat.ble (Nat.add 0 (n + 1)) (Nat.div 0 2) = false := by
    cases hb : Nat.ble (Nat.add 0 (n + 1)) (Nat.div 0 2) with
    | false => rfl
    | true => have := Nat.le_of_ble_eq_true hb; have h0 : Nat.div 0 2 = 0 := rfl; rw [h0] at this; have : 0 + (n + 1) ≤ 0 := this; omega
   simp only [show Nat.beq (Nat.mod 0 2) 0 = true from rfl, e7]
   refine ⟨_, _, rfl, .inr ⟨μ.next + 1, 3, xs.length, xs.toArray, .e, true, false, ?_, ?_, by omega, ?_, hat, .inr ⟨rfl, rfl⟩⟩, ?_, New.mk (Nat.le_succ _)⟩
   ·show Value.slice (some ⟨Nat.add μ.next 1, 0, none⟩) (Nat.add 0 (n + 1)) _ = _
    rw [show Nat.add 0 (n + 1) = n + 1 from Nat.zero_add _, hn']
   ·show T.get (T.set _ (Nat.add μ.next 1) _) _ = _
    rw [T.get_set, if_pos rfl]
    rfl
   ·show μ.next + 1 < μ.next + 1 + 1; omega
   ·refine ⟨?_, fun i hi => ?_⟩
    ·show μ.next ≤ μ.next + 1 + 1; omega
    ·show T.get (T.set (T.set _ _ _) (Nat.add μ.next 1) _) i = _
     rw [T.get_set, if_neg (by show i ≠ μ.next + 1; omega), T.get_set, if_neg (by omega)]
end
end Go.Proofs.YtnafmgiaifbhgaaGreatDoor.dc
