/-
  distafflaw05.DatumMakes, part R: its walk and its law. No conditions.
-/
import Derived.Test.YthnglblipoimhaaGreatDoorDwQ
set_option maxRecDepth 20000
set_option maxHeartbeats 8000000
set_option linter.unusedSimpArgs false
set_option linter.unusedVariables false
set_option linter.unusedSectionVars false
namespace Go.Proofs.YthnglblipoimhaaGreatDoor.dm
open Go Go.Proofs Go.Proofs.YthnglblipoimhaaGreatDoor Go.Proofs.YthnglblipoimhaaGreatDoor.Ev
noncomputable section
structure Own (e : TypeId) (μ0 μ : Mem) (v : Value) (xs : List Value) : Prop where
 good : GoodSl μ e v xs
 grow : Grow μ0 μ
 above : ∀ i, SlAt v i → μ0.next ≤ i ∧ i < μ.next
theorem Own.nil (e : TypeId) (μ : Mem) : Own e μ μ (.slice none 0 0) [] := ⟨.inl ⟨rfl, rfl⟩, Grow.refl _, fun i h => by obtain ⟨l, c, h⟩ := h; cases h⟩
theorem Own.keep {e : TypeId} {μ0 μ μ' : Mem} {v : Value} {xs : List Value} (h : Own e μ0 μ v xs) (hg : Grow μ μ') : Own e μ0 μ' v xs :=
 ⟨h.good.keep fun i hi => hg.2 i (h.above i hi).2, h.grow.trans hg, fun i hi => ⟨(h.above i hi).1, Nat.lt_of_lt_of_le (h.above i hi).2 hg.1⟩⟩
theorem Own.push {st e : TypeId} {inf : TypeInfo} {z0 : Value} (hu : pZ.underlying st = some (.slice e)) (hi : pZ.info? e = some inf) (hsz : inf.size = 1) (hby : Nat.ble inf.bytes 4096 = true) (hz : jbk pZ e = some z0) (hzl : (ja6 z0).length = 1)
  {μ0 μ : Mem} {v x : Value} {xs : List Value} (h : Own e μ0 μ v xs) (hn : xs.length < 1000000) (hs : scalar x = true) :
  ∃ v' μ', jbY pZ ⟨μ.obs.set μ.next (.cells 1 e #[x] .e 0 0 false false), Nat.add μ.next 1⟩ st st v (.slice (some ⟨μ.next, 0, none⟩) 1 2) = some (v', μ') ∧ Own e μ0 μ' v' (xs ++ [x]) := by
 have hg1 : Grow μ ⟨μ.obs.set μ.next (.cells 1 e #[x] .e 0 0 false false), Nat.add μ.next 1⟩ := jbp μ _
 have h1 := h.keep hg1
 obtain ⟨v', μ', ha, hg, hnx, hat, hk⟩ := jgw (P := pZ) (st := st) (x := x) (q := μ.next) hu hi hsz hby hz hzl h1.good (by show T.get _ _ = _; rw [T.get_set, if_pos rfl]) hn hs
 have hnx' : μ'.next = μ.next + 1 + 1 := hnx
 refine ⟨v', μ', ha, hg, ⟨?_, fun i hi => ?_⟩, fun i hi => ?_⟩
 ·have := h.grow.1; omega
 ·have h0 := h.grow.1
  rw [hk i (by show i ≠ μ.next + 1; omega) (fun hv => by have := (h1.above i hv).1; omega)]
  exact h1.grow.2 i hi
 ·obtain ⟨l, c, hv⟩ := hat
  obtain ⟨l', c', hv'⟩ := hi
  rw [hv] at hv'
  injection hv' with e1
  injection e1 with e2
  injection e2 with e3
  have e4 : i = μ.next + 1 := e3.symm
  have h0 := h.grow.1
  omega
def U32 (x : Value) : Prop := ∃ a, a < 4294967296 ∧ x = .int .u32 (.ofNat a)
theorem U32.one {x : Value} (h : U32 x) : one x = true := by obtain ⟨a, _, rfl⟩ := h; rfl
theorem jgA : jbk pZ 55 = some (.int .u32 0) := by unfold jbk; rw [jcN]; rfl
theorem conv_4u (n : Int) : ja3 pZ 55 67 (.int .u32 n) = some (.int .u64 (jar .u64 n)) := by
 simp only [ja3, Tryz.underlying67, Tryz.underlying55]
theorem jcv (n : Int) : ja3 pZ 67 55 (.int .u64 n) = some (.int .u32 (jar .u32 n)) := by
 simp only [ja3, Tryz.underlying67, Tryz.underlying55]
theorem q4 (m : Nat) : jar .u32 (.ofNat m) = .ofNat (m % 4294967296) := by
 rw [jb4]
 show IntKind.wrap .u32 _ = _
 unfold IntKind.wrap
 simp only [IntKind.bits, IntKind.signed]
 simp
def Cap (n c : Nat) : Prop := (c % 2 = 0 ∧ n ≤ c / 2) ∨ (c % 2 = 1 ∧ c / 2 = 1)
def Rd (μ : Mem) (v : Value) (n : Nat) : Prop :=
 (v = .slice none 0 0 ∧ n = 0) ∨ ∃ i c m z ov fx sh, v = .slice (some ⟨i, 0, none⟩) n c ∧ μ.obs.get i = some (.cells m 55 z ov 0 0 fx sh) ∧ n ≤ m ∧ i < μ.next ∧ (∀ k, k < n → U32 (cellAt z ov k)) ∧ Cap n c
theorem Rd.nil (μ : Mem) : Rd μ (.slice none 0 0) 0 := .inl ⟨rfl, rfl⟩
theorem Rd.grow {μ μ' : Mem} {v : Value} {n : Nat} (h : Rd μ v n) (g : Grow μ μ') : Rd μ' v n := by
 rcases h with h | ⟨i, c, m, z, ov, fx, sh, h1, h2, h3, h4, h5, h6⟩
 ·exact .inl h
 ·exact .inr ⟨i, c, m, z, ov, fx, sh, h1, (g.2 i h4).trans h2, h3, Nat.lt_of_lt_of_le h4 g.1, h5, h6⟩
theorem Rd.len {μ : Mem} {v : Value} {n : Nat} (h : Rd μ v n) : aLen pZ 25 v = some n := by
 unfold aLen
 rcases h with ⟨rfl, rfl⟩ | ⟨i, c, m, z, ov, fx, sh, rfl, _⟩ <;> simp only [Tryz.underlying25]
theorem Rd.one {μ : Mem} {v : Value} {n : Nat} (h : Rd μ v n) : one v = true := by
 rcases h with ⟨rfl, rfl⟩ | ⟨i, c, m, z, ov, fx, sh, rfl, _⟩ <;> rfl
theorem Rd.at {μ : Mem} {v : Value} {n k : Nat} (h : Rd μ v n) (hk : k < n) : ∃ i c a, v = .slice (some ⟨i, 0, none⟩) n c ∧ a < 4294967296 ∧ jap μ i k = some (.int .u32 (.ofNat a)) := by
 rcases h with ⟨_, rfl⟩ | ⟨i, c, m, z, ov, fx, sh, h1, h2, h3, h4, h5, h6⟩
 ·omega
 ·obtain ⟨a, ha, hc⟩ := h5 k hk
  refine ⟨i, c, a, h1, ha, ?_⟩
  unfold jap
  rw [h2]
  show (if k < m then some (cellAt z ov k) else none) = _
  rw [if_pos (by omega), hc]
theorem Rd.take {μ : Mem} {v : Value} {n k : Nat} (h : Rd μ v n) (hk : k ≤ n) : ∃ v', (∀ (ρ : Operand → Value) (x y : Operand), ρ x = v → ρ y = .int .i64 (.ofNat k) → jbR pZ ρ 25 x none (some y) none = some v') ∧ Rd μ v' k ∧ ∀ i, SlAt v' i → SlAt v i := by
 rcases h with ⟨rfl, rfl⟩ | ⟨i, c, m, z, ov, fx, sh, rfl, h2, h3, h4, h5, h6⟩
 ·obtain rfl : k = 0 := by omega
  refine ⟨.slice none 0 0, fun ρ x y hx hy => ?_, Rd.nil μ, fun i hi => hi⟩
  unfold jbR
  simp only [hx, Tryz.underlying25, jcN, jbA, jb7, hy]
  try rfl
 ·refine ⟨.slice (some ⟨i, 0, none⟩) k c, fun ρ x y hx hy => ?_, .inr ⟨i, c, m, z, ov, fx, sh, rfl, h2, by omega, h4, fun j hj => h5 j (by omega), by unfold Cap at h6 ⊢; omega⟩, fun j hj => by
   obtain ⟨l', c', hv⟩ := hj
   injection hv with e1 e2 e3
   rw [e1]
   exact ⟨n, c, rfl⟩⟩
  unfold jbR
  rcases h6 with ⟨g1, g2⟩ | ⟨g1, g2⟩
  ·have e1 : Nat.beq (Nat.mod c 2) 0 = true := by rw [show Nat.mod c 2 = 0 from g1]; rfl
   have e3 : Nat.ble k (Nat.div c 2) = true := Nat.ble_eq_true_of_le (by show k ≤ c / 2; omega)
   simp only [hx, Tryz.underlying25, jcN, e1, jbA, jb7, hy, e3]
   have e4 : Addr.add ⟨i, 0, none⟩ (Nat.mul 0 Tryz.t55.size) = ⟨i, 0, none⟩ := by rw [show Nat.mul 0 Tryz.t55.size = 0 from Nat.zero_mul _]; rfl
   have e5 : Nat.mul 2 (Nat.sub (Nat.div c 2) 0) = c := by show 2 * (c / 2 - 0) = c; omega
   have e6 : Nat.sub k 0 = k := rfl
   cases Nat.beq (Nat.div c 2) 0 <;> simp only [e4, e5, e6]
  ·have e1 : Nat.beq (Nat.mod c 2) 0 = false := by rw [show Nat.mod c 2 = 1 from g1]; rfl
   have e3 : Nat.ble k n = true := Nat.ble_eq_true_of_le hk
   simp only [hx, Tryz.underlying25, jcN, e1, jbA, jb7, hy, e3]
   try rfl
def Lim (μ0 μ : Mem) (v : Value) (n : Nat) : Prop := ∃ xs, Own 55 μ0 μ v xs ∧ xs.length = n ∧ ∀ x ∈ xs, U32 x
theorem Lim.rd {μ0 μ : Mem} {v : Value} {n : Nat} (h : Lim μ0 μ v n) : Rd μ v n := by
 obtain ⟨xs, ho, rfl, hx⟩ := h
 rcases ho.good with ⟨h1, h2⟩ | ⟨i, m, z, ov, fx, sh, c, h1, h2, h3, h4, h5⟩
 ·exact .inl ⟨h1, by rw [h2]; rfl⟩
 ·exact .inr ⟨i, c, m, z, ov, fx, sh, h1, h2, h3, (ho.above i ⟨_, _, h1⟩).2, fun k hk => by rw [h4 k hk]; exact hx _ (List.getElem_mem hk), by unfold Cap; omega⟩
theorem Lim.grow {μ0 μ : Mem} {v : Value} {n : Nat} (h : Lim μ0 μ v n) : Grow μ0 μ := by obtain ⟨xs, ho, _⟩ := h; exact ho.grow
theorem Lim.nil (μ : Mem) : Lim μ μ (.slice none 0 0) 0 := ⟨[], Own.nil _ _, rfl, fun x h => by cases h⟩
theorem Lim.keep {μ0 μ μ' : Mem} {v : Value} {n : Nat} (h : Lim μ0 μ v n) (g : Grow μ μ') : Lim μ0 μ' v n := by
 obtain ⟨xs, ho, h1, h2⟩ := h
 exact ⟨xs, ho.keep g, h1, h2⟩
theorem Lim.push {μ0 μ : Mem} {v x : Value} {n : Nat} (h : Lim μ0 μ v n) (hn : n < 1000000) (hx : U32 x) : ∃ v' μ', jbY pZ ⟨μ.obs.set μ.next (.cells 1 55 #[x] .e 0 0 false false), Nat.add μ.next 1⟩ 25 25 v (.slice (some ⟨μ.next, 0, none⟩) 1 2) = some (v', μ') ∧ Lim μ0 μ' v' (n + 1) := by
 obtain ⟨xs, ho, h1, h2⟩ := h
 obtain ⟨v', μ', ha, ho'⟩ := ho.push (st := 25) (x := x) Tryz.underlying25 jcN rfl (by kernel_rfl) jgA rfl (by omega) (jeM hx.one)
 refine ⟨v', μ', ha, xs ++ [x], ho', by simp [h1], fun y hy => ?_⟩
 rcases List.mem_append.1 hy with hy | hy
 ·exact h2 y hy
 ·rw [List.mem_singleton.1 hy]; exact hx
theorem Lim.set {μ0 μ : Mem} {n k b i c : Nat} (h : Lim μ0 μ (.slice (some ⟨i, 0, none⟩) n c) n) (hk : k < n) (hb : b < 4294967296) :
  jb6 pZ μ 55 (.pointer (some ⟨i, k, none⟩)) (.int .u32 (.ofNat b)) = some (undef, putL μ i k [.int .u32 (.ofNat b)]) ∧ Lim μ0 (putL μ i k [.int .u32 (.ofNat b)]) (.slice (some ⟨i, 0, none⟩) n c) n := by
 obtain ⟨xs, ho, h1, h2⟩ := h
 have hab := ho.above i ⟨_, _, rfl⟩
 rcases ho.good with ⟨h3, _⟩ | ⟨i', m, z, ov, fx, sh, c', h3, h4, h5, h6, h7⟩
 ·cases h3
 injection h3 with e1 e2 e3
 injection e1 with e1
 injection e1 with e1
 subst e1
 have hblk : Blk μ i m 55 := ⟨_, _, _, _, h4⟩
 refine ⟨jcm jcN rfl rfl hblk (by omega), xs.set k (.int .u32 (.ofNat b)), ⟨.inr ⟨i, m, z, ov.lay k [.int .u32 (.ofNat b)], fx, sh, c, by rw [List.length_set, h1], jgQ h4, by rw [List.length_set]; exact h5, fun j hj => ?_, ?_⟩, ?_, fun j hj => ?_⟩, by rw [List.length_set, h1], fun x hx => ?_⟩
 ·rw [jcw]
  have hj' : j < xs.length := by rw [List.length_set] at hj; exact hj
  by_cases e : j = k
  ·subst e
   rw [dif_pos ⟨Nat.le_refl _, by simp⟩]
   simp
  ·rw [dif_neg (by simp; omega), h6 j hj', List.getElem_set_ne (by omega)]
 ·rw [List.length_set, e3]; exact h7
 ·exact ho.grow.put_new hab.1
 ·rw [jcB]; exact ho.above j hj
 ·rcases List.mem_or_eq_of_mem_set hx with hx | rfl
  ·exact h2 x hx
  ·exact ⟨b, hb, rfl⟩
end
noncomputable section
open Go.Proofs.YthnglblipoimhaaGreatDoor.NumText (dig)
section
set_option linter.defProp false
variable {X : XT} {ev : Code → Rg → Mem → Option (Ax × Rg × Mem)}
def gg82 := go_call (P := pZ) (X := X) (ev := ev) (S := S0) Tryz.func82 rfl rfl
def gg29 := go_call (P := pZ) (X := X) (ev := ev) (S := S0) Tryz.func29 rfl rfl
end
structure RegL (tm : T Value) (s : ByteArray) (v : Value) (i : Nat) : Prop where
 r0 : jak tm 0 = .string s
 r2 : jak tm 2 = .slice none 0 0
 r3 : jak tm 3 = .int .i64 0
 r4 : jak tm 4 = v
 r18 : jak tm 18 = .int .i64 (.ofNat (bys s).length)
 r19 : jak tm 19 = .int .i64 (.ofNat i)
def jdM (l : List Nat) : Prop := ∀ c ∈ l, dig c = true
theorem src_rd {μ : Mem} {v : Value} {n : Nat} (h : Rd μ v n) : ∃ xs, jbt μ 1 n v = some xs ∧ xs.length = n ∧ ∀ x ∈ xs, U32 x := by
 rcases h with ⟨rfl, rfl⟩ | ⟨i, c, m, z, ov, fx, sh, rfl, h2, h3, h4, h5, h6⟩
 ·exact ⟨[], rfl, rfl, fun x h => by cases h⟩
 ·cases n with
  | zero => exact ⟨[], rfl, rfl, fun x h => by cases h⟩
  | succ n =>
    refine ⟨jaz z ov 0 (n + 1), ?_, jbs _ _, fun x hx => ?_⟩
    ·unfold jbt
     rw [show Nat.mul (n + 1) 1 = n + 1 from Nat.mul_one _]
     simp only [h2]
     rw [show Nat.ble (Nat.add 0 (n + 1)) m = true from Nat.ble_eq_true_of_le (by show 0 + (n + 1) ≤ m; omega)]
    ·obtain ⟨k, hk, rfl⟩ := List.getElem_of_mem hx
     have hk' : k < n + 1 := by rw [jbs] at hk; exact hk
     have := jdm (zero := z) (over := ov) (n + 1) 0 k hk'
     rw [List.getElem?_eq_getElem hk, Nat.zero_add] at this
     rw [Option.some.inj this]
     exact h5 k hk'
def ob0 : Ob := .cells 0 55 #[] .e 0 0 false false
theorem bs0 (ρ : Operand → Value) : jaR pZ ρ 25 0 #[] = some (ob0, fun id => .slice (some ⟨id, 0, none⟩) 0 0) := by
 unfold jaR
 simp only [Tryz.underlying25, jcN]
 rfl
def New (μ : Mem) (v : Value) : Prop := ∀ i, SlAt v i → μ.next ≤ i
theorem New.nil (μ : Mem) : New μ (.slice none 0 0) := fun i hi => by obtain ⟨l, c, hv⟩ := hi; cases hv
theorem New.mk {μ : Mem} {j n c : Nat} (h : μ.next ≤ j) : New μ (.slice (some ⟨j, 0, none⟩) n c) := fun i hi => by
 obtain ⟨l, c', hv⟩ := hi
 injection hv with e1
 injection e1 with e1
 injection e1 with e1
 subst e1
 exact h
theorem ji4 {μ : Mem} {v : Value} {n : Nat} (h : Rd μ v n) (hn : n ≤ 1000000) : ∃ v' μ', jbY pZ ⟨μ.obs.set μ.next ob0, Nat.add μ.next 1⟩ 25 25 (.slice (some ⟨μ.next, 0, none⟩) 0 0) v = some (v', μ') ∧ Rd μ' v' n ∧ Grow μ μ' ∧ New μ v' := by
 have hg1 : Grow μ ⟨μ.obs.set μ.next ob0, Nat.add μ.next 1⟩ := jbp μ _
 have h1 := h.grow hg1
 obtain ⟨xs, hs, hl, hx⟩ := src_rd h1
 have hlen : lenV v = some n := by
  rcases h with ⟨rfl, rfl⟩ | ⟨i, c, m, z, ov, fx, sh, rfl, _⟩ <;> rfl
 have e1 : Nat.ble Tryz.t55.bytes 4096 = true := by kernel_rfl
 have e2 : Nat.beq (ja6 (.int .u32 0)).length 1 = true := by kernel_rfl
 have e3 : Nat.ble n 67108864 = true := Nat.ble_eq_true_of_le (by omega)
 have e4 : Tryz.t55.size = 1 := by kernel_rfl
 have e5 : Nat.beq xs.length (Nat.mul n 1) = true := by rw [hl, show Nat.mul n 1 = n from Nat.mul_one n]; exact Nat.beq_refl n
 have hap : jbY pZ ⟨μ.obs.set μ.next ob0, Nat.add μ.next 1⟩ 25 25 (.slice (some ⟨μ.next, 0, none⟩) 0 0) v = jbS pZ ⟨μ.obs.set μ.next ob0, Nat.add μ.next 1⟩ 55 1 n xs (.slice (some ⟨μ.next, 0, none⟩) 0 0) := by
  unfold jbY
  simp only [Tryz.underlying25, jcN, e1, jgA, e4, e2, hlen, e3, hs, e5]
 rw [hap]
 unfold jbS
 have e6 : Nat.ble (Nat.add 0 n) 67108864 = true := Nat.ble_eq_true_of_le (by show 0 + n ≤ _; omega)
 simp only [e6]
 cases n with
 | zero =>
   have hx0 : xs = [] := List.eq_nil_of_length_eq_zero hl
   subst hx0
   refine ⟨_, _, rfl, .inr ⟨μ.next, 0, 0, #[], .e, false, false, rfl, by show T.get _ _ = _; rw [T.get_set, if_pos rfl]; rfl, Nat.le_refl _, Nat.lt_succ_self _, fun k hk => by omega, .inl ⟨rfl, Nat.le_refl _⟩⟩, hg1, New.mk (Nat.le_refl _)⟩
 | succ n =>
   have e7 : Nat.ble (Nat.add 0 (n + 1)) (Nat.div 0 2) = false := by
    cases hb : Nat.ble (Nat.add 0 (n + 1)) (Nat.div 0 2) with
    | false => rfl
    | true => have := Nat.le_of_ble_eq_true hb; have h0 : Nat.div 0 2 = 0 := rfl; rw [h0] at this; have : 0 + (n + 1) ≤ 0 := this; omega
   simp only [show Nat.beq (Nat.mod 0 2) 0 = true from rfl, e7]
   refine ⟨_, _, rfl, .inr ⟨μ.next + 1, 3, xs.length, xs.toArray, .e, true, false, ?_, ?_, by omega, ?_, fun k hk => ?_, .inr ⟨rfl, rfl⟩⟩, ?_, New.mk (Nat.le_succ _)⟩
   ·show Value.slice (some ⟨Nat.add μ.next 1, 0, none⟩) (Nat.add 0 (n + 1)) _ = _
    rw [show Nat.add 0 (n + 1) = n + 1 from Nat.zero_add _]
   ·show T.get (T.set _ (Nat.add μ.next 1) _) _ = _
    rw [T.get_set, if_pos rfl]
    rfl
   ·show μ.next + 1 < μ.next + 1 + 1; omega
   ·rw [jb2 xs k (by omega)]
    exact hx _ (List.getElem_mem _)
   ·refine ⟨?_, fun i hi => ?_⟩
    ·show μ.next ≤ μ.next + 1 + 1; omega
    ·show T.get (T.set (T.set _ _ _) (Nat.add μ.next 1) _) i = _
     rw [T.get_set, if_neg (by show i ≠ μ.next + 1; omega), T.get_set, if_neg (by omega)]
end
noncomputable section
open Go.Proofs.YthnglblipoimhaaGreatDoor.NumText (dig unsg isS)
theorem an4 (a : Addr) (n c : Nat) : aNil pZ 25 (.slice (some a) n c) (.slice none 0 0) = true := by
 unfold aNil
 simp only [Tryz.underlying25]
theorem an5 : aNil pZ 25 (.slice none 0 0) (.slice none 0 0) = false := rfl
theorem p_sl (r : Rg) {d : Option Tmp} {yt ty : TypeId} {x : Operand} {ps : String} {af : Array Edge} {gd : Option (Nat × Bool)} (hx : aev pZ r x = .slice none 0 0) : jaV pZ (aev pZ r) ⟨d, .binOp .eql 25 x (.const (.slice none 0 0)) yt, ty, ps, af, gd⟩ = some (.bool true) := by
 have hy : aev pZ r (.const (.slice none 0 0)) = .slice none 0 0 := rfl
 unfold jaV
 have e : pv pZ (execOp (aev pZ r) ⟨d, .binOp .eql 25 x (.const (.slice none 0 0)) yt, ty, ps, af, gd⟩) = some (.value (.bool true)) := by
  simp only [execOp, hx, hy]
  kernel_rfl
 simp only [opsOf, jca, hx, hy, jaP, e]
end
noncomputable section
open Go.Proofs.YthnglblipoimhaaGreatDoor.NumText (dig unsg isS)
section
set_option linter.defProp false
variable {X : XT} {ev : Code → Rg → Mem → Option (Ax × Rg × Mem)}
def gg56 := go_call (P := pZ) (X := X) (ev := ev) (S := S0) Tryz.func56 rfl rfl
def gg35 := go_call (P := pZ) (X := X) (ev := ev) (S := S0) Tryz.func35 rfl rfl
end
def obI : Ob := .cells 2 27 #[.bool false, .slice none 0 0] .e 0 0 false false
theorem z_I : jbk pZ 27 = some (.agg #[.bool false, .slice none 0 0]) := by kernel_rfl
theorem al_I : jeB pZ 27 = some (obI, fun id => .pointer (some ⟨id, 0, none⟩)) := by kernel_rfl
def obN : Ob := .cells 4 29 #[.bool false, .float .f64 0, .bool false, .slice none 0 0] .e 0 0 false false
theorem z_N : jbk pZ 29 = some (.agg #[.bool false, .float .f64 0, .bool false, .slice none 0 0]) := by kernel_rfl
theorem al_N : jeB pZ 29 = some (obN, fun id => .pointer (some ⟨id, 0, none⟩)) := by kernel_rfl
theorem ji3 {ρ : Operand → Value} {a b : Operand} {p x : Value} (ha : ρ a = p) (hb : ρ b = x) (hp : one p = true) (hx : one x = true) : jbG pZ ρ 27 #[(0, a), (1, b)] = some (.agg #[p, x]) := by
 have hpl : ∃ f, pZ.underlying 27 = some (.struct f) ∧ jcI pZ f.toList = some [(0, 1), (1, 1)] := ⟨_, Tryz.underlying27, by kernel_rfl⟩
 obtain ⟨f, h1, h2⟩ := hpl
 refine jby (cs := [p, x]) z_I h1 h2 ?_
 simp only [List.map_cons, List.map_nil, ha, hb]
 show jde _ [.bool false, .slice none 0 0] [(0, p), (1, x)] = _
 rw [jcW (off := 0) rfl hp (by decide)]
 show jde _ [p, .slice none 0 0] [(1, x)] = _
 rw [jcW (off := 1) rfl hx (by simp)]
 rfl
theorem jdo (ρ : Operand → Value) : jbG pZ ρ 27 #[] = some (.agg #[.bool false, .slice none 0 0]) := by
 have hpl : ∃ f, pZ.underlying 27 = some (.struct f) ∧ jcI pZ f.toList = some [(0, 1), (1, 1)] := ⟨_, Tryz.underlying27, by kernel_rfl⟩
 obtain ⟨f, h1, h2⟩ := hpl
 exact jby (cs := [.bool false, .slice none 0 0]) z_I h1 h2 rfl
theorem blkI {μ : Mem} : Blk ⟨μ.obs.set μ.next obI, μ.next + 1⟩ μ.next 2 27 := ⟨_, _, _, _, by show T.get _ _ = _; rw [T.get_set, if_pos rfl]; rfl⟩
theorem blkN {μ : Mem} : Blk ⟨μ.obs.set μ.next obN, μ.next + 1⟩ μ.next 4 29 := ⟨_, _, _, _, by show T.get _ _ = _; rw [T.get_set, if_pos rfl]; rfl⟩
theorem st_I {μ : Mem} {i : Nat} {x y : Value} (h : Blk μ i 2 27) (hx : one x = true) (hy : one y = true) : jb6 pZ μ 27 (.pointer (some ⟨i, 0, none⟩)) (.agg #[x, y]) = some (undef, putL μ i 0 [x, y]) := jeJ (vs := [x, y]) jkz rfl (by simp [hx, hy]) h (by simp)
theorem ld_I {μ : Mem} {i : Nat} {x y : Value} (h : Blk μ i 2 27) : jbX pZ (putL μ i 0 [x, y]) 27 (.pointer (some ⟨i, 0, none⟩)) = some (.agg #[x, y]) := (Has.of_put (vs := [x, y]) h (by simp)).load Tryz.underlying27 jkz rfl
def isInt (s : ByteArray) : Prop := 0 < (unsg (bys s)).length ∧ jdM (unsg (bys s))
attribute [local irreducible] ja9
def FinE (s : ByteArray) (μ0 : Mem) (i : Nat) : Ax → Rg → Mem → Prop := fun x r μ' => x = .ret ∧ Grow μ0 μ' ∧ ∃ tm b v e, r = ⟨37, tm, [], none⟩ ∧ jak tm 2 = .pointer (some ⟨i, 0, none⟩) ∧ jak tm 3 = .int .i64 e ∧ jbX pZ μ' 27 (.pointer (some ⟨i, 0, none⟩)) = some (.agg #[.bool b, v]) ∧ (isInt s → e = 0 ∨ e = 11) ∧ (¬ isInt s → e = 13) ∧ one v = true
end
noncomputable section
section
set_option linter.defProp false
variable {X : XT} {ev : Code → Rg → Mem → Option (Ax × Rg × Mem)}
def gg104 := go_call (P := pZ) (X := X) (ev := ev) (S := S0) Tryz.func104 rfl rfl
end
theorem pl_N : ∃ f, pZ.underlying 29 = some (.struct f) ∧ jcI pZ f.toList = some [(0, 1), (1, 1), (2, 2)] := ⟨_, Tryz.underlying29, by kernel_rfl⟩
theorem jdQ (ρ : Operand → Value) : jbG pZ ρ 29 #[] = some (.agg #[.bool false, .float .f64 0, .bool false, .slice none 0 0]) := by
 obtain ⟨f, h1, h2⟩ := pl_N
 exact jby (cs := [.bool false, .float .f64 0, .bool false, .slice none 0 0]) z_N h1 h2 rfl
theorem jg6 {ρ : Operand → Value} {a : Operand} {p x : Value} (ha : ρ a = .agg #[p, x]) : jbG pZ ρ 29 #[(2, a)] = some (.agg #[.bool false, .float .f64 0, p, x]) := by
 obtain ⟨f, h1, h2⟩ := pl_N
 refine jby (cs := [.bool false, .float .f64 0, p, x]) z_N h1 h2 ?_
 simp only [List.map_cons, List.map_nil, ha]
 rfl
theorem build_NF {ρ : Operand → Value} {a b : Operand} {f : Nat} (ha : ρ a = .bool true) (hb : ρ b = .float .f64 f) : jbG pZ ρ 29 #[(0, a), (1, b)] = some (.agg #[.bool true, .float .f64 f, .bool false, .slice none 0 0]) := by
 obtain ⟨fl, h1, h2⟩ := pl_N
 refine jby (cs := [.bool true, .float .f64 f, .bool false, .slice none 0 0]) z_N h1 h2 ?_
 simp only [List.map_cons, List.map_nil, ha, hb]
 rfl
theorem st_N {μ : Mem} {i : Nat} {a b x y : Value} (h : Blk μ i 4 29) (h1 : one a = true) (h2 : one b = true) (hx : one x = true) (hy : one y = true) : jb6 pZ μ 29 (.pointer (some ⟨i, 0, none⟩)) (.agg #[a, b, x, y]) = some (undef, putL μ i 0 [a, b, x, y]) := jeJ (vs := [a, b, x, y]) i_Num rfl (by simp [h1, h2, hx, hy]) h (by simp)
theorem ld_N {μ : Mem} {i : Nat} {a b x y : Value} (h : Blk μ i 4 29) : jbX pZ (putL μ i 0 [a, b, x, y]) 29 (.pointer (some ⟨i, 0, none⟩)) = some (.agg #[a, b, x, y]) := (Has.of_put (vs := [a, b, x, y]) h (by simp)).load Tryz.underlying29 i_Num rfl
theorem flo_num {X : XT} {g f : Nat} {μ : Mem} (hg : 20 ≤ g) : (∃ μ', aFun pZ (jan pZ X S0 g) 124 [.float .f64 f] μ = some (.agg #[.bool true, .float .f64 f, .bool false, .slice none 0 0], μ') ∧ Grow μ μ') ∧ ∃ μ', aFun pZ (jan pZ X S0 g) 104 [.float .f64 f] μ = some (.agg #[.bool true, .float .f64 f, .bool false, .slice none 0 0], μ') ∧ Grow μ μ' := by
 obtain ⟨k, rfl⟩ := gle hg
 have hst : jb6 pZ ⟨μ.obs.set μ.next obN, μ.next + 1⟩ 29 (.pointer (some ⟨μ.next, 0, none⟩)) (.agg #[.bool true, .float .f64 f, .bool false, .slice none 0 0]) = some (undef, putL ⟨μ.obs.set μ.next obN, μ.next + 1⟩ μ.next 0 [.bool true, .float .f64 f, .bool false, .slice none 0 0]) := st_N blkN rfl rfl rfl rfl
 have hb : ∀ (r : Rg) (y : Operand), aev pZ r y = .float .f64 f → jbG pZ (aev pZ r) 29 #[(0, .const (.bool true)), (1, y)] = some (.agg #[.bool true, .float .f64 f, .bool false, .slice none 0 0]) := fun r y g => build_NF rfl g
 constructor
 ·refine ⟨_, jaI ?_, (jbp μ obN).put_new (o := 0) (vs := [.bool true, .float .f64 f, .bool false, .slice none 0 0]) (Nat.le_refl _)⟩
  refine jag Tryz.func124 rfl rfl (nbl rfl) ?_
  simp only [go_sem, Tryz.ntmps124]
  repeat (first | refine jac rfl ?_ | (refine jad rfl ?_; (try simp only [go_sem, al_N, Nat.add_eq, hb, hst]); fail_if_success refine ifC ?_))
  refine jaf ?_
  refine ⟨rfl, _, ?_, rfl, rfl⟩
  simp only [go_sem, Tryz.results124]
  rw [ld_N blkN]
 ·refine ⟨_, jaI ?_, (jbp μ obN).put_new (o := 0) (vs := [.bool true, .float .f64 f, .bool false, .slice none 0 0]) (Nat.le_refl _)⟩
  refine jag Tryz.func104 rfl rfl (nbl rfl) ?_
  simp only [go_sem, Tryz.ntmps104]
  repeat (first | refine jac rfl ?_ | (refine jad rfl ?_; (try simp only [go_sem, al_N, Nat.add_eq, hb, hst]); fail_if_success refine ifC ?_))
  refine jaf ?_
  refine ⟨rfl, _, ?_, rfl, rfl⟩
  simp only [go_sem, Tryz.results104]
  rw [ld_N blkN]
def obIv (p x : Value) : Ob := .cells 2 27 #[p, x] .e 0 0 false false
theorem box_I (p x : Value) : aBox 27 (.agg #[p, x]) = some (obIv p x, fun id => .pointer (some ⟨id, 0, none⟩)) := rfl
theorem whole_ex {X : XT} {g : Nat} {p x : Value} {μ : Mem} (hp : one p = true) (hx : one x = true) (hg : 20 ≤ g) : ∃ μ', aFun pZ (jan pZ X S0 g) 35 [.agg #[p, x]] μ = some (.agg #[.bool false, .float .f64 0, p, x], μ') ∧ Grow μ μ' := by
 obtain ⟨k, rfl⟩ := gle hg
 obtain ⟨μ1, hμ1⟩ : ∃ μ1 : Mem, μ1 = ⟨μ.obs.set μ.next (obIv p x), μ.next + 1⟩ := ⟨_, rfl⟩
 have hN : Blk ⟨μ1.obs.set μ1.next obN, μ1.next + 1⟩ μ1.next 4 29 := blkN
 have hst := st_N (a := .bool false) (b := .float .f64 0) hN rfl rfl hp hx
 have hld := ld_N (a := .bool false) (b := .float .f64 0) (x := p) (y := x) hN
 have hi : jbX pZ ⟨μ1.obs.set μ1.next obN, μ1.next + 1⟩ 27 (.pointer (some ⟨μ.next, 0, none⟩)) = some (.agg #[p, x]) := by
  have h0 : μ1.obs.get μ.next = some (obIv p x) := by rw [hμ1]; show T.get _ _ = _; rw [T.get_set, if_pos rfl]
  have h1 : (⟨μ1.obs.set μ1.next obN, μ1.next + 1⟩ : Mem).obs.get μ.next = some (obIv p x) := by
   show T.get (T.set _ _ _) _ = _
   rw [T.get_set, if_neg (by rw [hμ1]; show μ.next ≠ μ.next + 1; omega), h0]
  exact (Has.new (l := [p, x]) h1).load Tryz.underlying27 jkz rfl
 have hG : Grow μ μ1 := by rw [hμ1]; exact jbp _ _
 have hb : ∀ (r : Rg) (y : Operand), aev pZ r y = .agg #[p, x] → jbG pZ (aev pZ r) 29 #[(2, y)] = some (.agg #[.bool false, .float .f64 0, p, x]) := fun r y g => jg6 g
 refine ⟨_, jaI ?_, (hG.trans (jbp μ1 obN)).put_new (o := 0) (vs := [.bool false, .float .f64 0, p, x]) hG.1⟩
 rw [hμ1] at hst hld hi ⊢
 refine jag Tryz.func35 rfl rfl (nbl rfl) ?_
 simp only [go_sem, Tryz.ntmps35]
 repeat (first | refine jac rfl ?_ | (refine jad rfl ?_; (try simp only [go_sem, box_I, al_N, Nat.add_eq, hi, hb, hst]); fail_if_success refine ifC ?_))
 refine jaf ?_
 refine ⟨rfl, _, ?_, rfl, rfl⟩
 simp only [go_sem, Tryz.results35]
 rw [hld]
end
noncomputable section
end
noncomputable section
section
set_option linter.defProp false
variable {X : XT} {ev : Code → Rg → Mem → Option (Ax × Rg × Mem)}
def gg83 := go_call (P := pZ) (X := X) (ev := ev) (S := S0) Tryz.func83 rfl rfl
def gg79 := go_call (P := pZ) (X := X) (ev := ev) (S := S0) Tryz.func79 rfl rfl
def gg60 := go_call (P := pZ) (X := X) (ev := ev) (S := S0) Tryz.func60 rfl rfl
def gg149 := go_call (P := pZ) (X := X) (ev := ev) (S := S0) Tryz.func149 rfl rfl
def gg150 := go_call (P := pZ) (X := X) (ev := ev) (S := S0) Tryz.func150 rfl rfl
def gg125 := go_call (P := pZ) (X := X) (ev := ev) (S := S0) Tryz.func125 rfl rfl
end
theorem at_ex {v : Value} {n i : Nat} {μ : Mem} (h : Rd μ v n) : ∃ a, a < 4294967296 ∧ (n ≤ i → a = 0) ∧ ∀ {X : XT} {g : Nat}, 20 ≤ g → aFun pZ (jan pZ X S0 g) 83 [v, .int .i64 (.ofNat i)] μ = some (.int .u64 (.ofNat a), μ) := by
 have lv := h.len
 by_cases hi : i < n
 ·obtain ⟨bi, c, a, rfl, ha, hc⟩ := h.at hi
  have e1 : ilt (.ofNat i) (.ofNat n) = true := (jaq _ _).trans (decide_eq_true hi)
  have q1 : jar .u64 (.ofNat a) = .ofNat a := nw (by omega)
  have hix : ∀ (rg : Rg) (a b : Operand), aev pZ rg a = .slice (some ⟨bi, 0, none⟩) n c → aev pZ rg b = .int .i64 (.ofNat i) → jau pZ (aev pZ rg) 25 a b = some (.pointer (some ⟨bi, i, none⟩)) := fun rg a b g1 g2 => by
   rw [jaT (P := pZ) Tryz.underlying25 jcN rfl g1 g2 hi, Nat.zero_add]
  refine ⟨a, ha, fun h => by omega, fun {X g} hg => ?_⟩
  obtain ⟨k, rfl⟩ := gle hg
  refine jaI ?_
  refine jag Tryz.func83 rfl rfl (nbl rfl) ?_
  simp only [go_sem, Tryz.ntmps83]
  repeat (first | refine jac rfl ?_ | (refine jad rfl ?_; (try simp only [go_sem, jaa, lv, jab, e1, hix, jbH, hc, conv_4u, q1]); fail_if_success refine ifC ?_))
  refine jaf ?_
  refine ⟨rfl, _, ?_, rfl, rfl⟩
  simp only [go_sem, Tryz.results83]
 ·have e1 : ilt (.ofNat i) (.ofNat n) = false := (jaq _ _).trans (decide_eq_false hi)
  refine ⟨0, by decide, fun _ => rfl, fun {X g} hg => ?_⟩
  obtain ⟨k, rfl⟩ := gle hg
  refine jaI ?_
  refine jag Tryz.func83 rfl rfl (nbl rfl) ?_
  simp only [go_sem, Tryz.ntmps83]
  repeat (first | refine jac rfl ?_ | (refine jad rfl ?_; (try simp only [go_sem, jaa, lv, jab, e1]); fail_if_success refine ifC ?_))
  refine jaf ?_
  refine ⟨rfl, _, ?_, rfl, rfl⟩
  simp only [go_sem, Tryz.results83]
  rfl
theorem jj1 : ∀ n, n ≤ 1000000 → ∀ {X : XT} {e : Nat} {tm : T Value} {v : Value} {μ : Mem}, Rd μ v n → jak tm 3 = v →
  EndsC (jan pZ X S0 (e + n + 20) (.loop (jaB Tryz.f79 0)) ⟨25, tm, [], none⟩ μ) fun x r μ' => x = .exit 0 ∧ μ' = μ ∧ ∃ tm' v' n', r = ⟨25, tm', [], none⟩ ∧ n' ≤ n ∧ Rd μ v' n' ∧ jak tm' 3 = v' ∧ ∀ i, SlAt v' i → SlAt v i := by
 intro n
 induction n with
 | zero =>
   intro hn X e tm v μ h h3
   have lv := h.len
   have e1 : ilt 0 (.ofNat 0) = false := rfl
   refine jam ?_
   refine jah ?_
   refine jah ?_
   refine jae rfl ?_
   (repeat (first | (refine jal ?_ rfl ?_; (focus (simp only [go_sem, undef, h3, jaa, lv, jab, e1]; done))) | (refine jai (v := ?_) (μ' := ?_) ?_ ?_ rfl ?_; rotate_left 2; (focus (first | rfl | (simp only [go_sem, undef, h3, jaa, lv, jab, e1]; done))); (focus (simp only [go_sem, undef, h3, jaa, lv, jab, e1]; (try exact rfl); done)))))
   simp only [go_sem]
   refine jaC ?_ ?_
   ·simp only [go_sem]
   refine jbM ?_
   simp only [jbP]
   exact ⟨by trivial, by trivial, _, v, 0, rfl, Nat.le_refl _, h, by simp only [go_sem, h3], fun i hi => hi⟩
 | succ n ih =>
   intro hn X e tm v μ h h3
   have lv := h.len
   obtain ⟨v', hsl, hR', hS'⟩ := h.take (Nat.le_succ n)
   obtain ⟨bi, c, a, hv, ha, hc⟩ := h.at (Nat.lt_succ_self n)
   have e1 : ilt 0 (.ofNat (n + 1)) = true := (jaq 0 (n + 1)).trans (decide_eq_true (Nat.succ_pos n))
   have q1 : jar .i64 (Int.sub (.ofNat (n + 1)) 1) = .ofNat n := jce (n + 1) 1 (by omega) (by omega)
   have hix : ∀ (rg : Rg) (a b : Operand), aev pZ rg a = v → aev pZ rg b = .int .i64 (.ofNat n) → jau pZ (aev pZ rg) 25 a b = some (.pointer (some ⟨bi, n, none⟩)) := fun rg a b g1 g2 => by
    rw [hv] at g1
    rw [jaT (P := pZ) Tryz.underlying25 jcN rfl g1 g2 (by omega), Nat.zero_add]
   have hsl : ∀ (rg : Rg) (x y : Operand), aev pZ rg x = v → aev pZ rg y = .int .i64 (.ofNat n) → jbR pZ (aev pZ rg) 25 x none (some y) none = some v' := fun rg x y g1 g2 => hsl _ x y g1 g2
   by_cases hz : a = 0
   ·have e2 : ieq (.ofNat a) 0 = true := (jaS _ 0 0 rfl).trans (decide_eq_true hz)
    refine jam ?_
    refine jah ?_
    refine jah ?_
    refine jae rfl ?_
    iterate 12 (refine jai (by first | rfl | (simp only [go_sem, undef, h3, jaa, lv, jab, e1, q1, hix, jbH, hc, e2])) (by simp only [go_sem, undef, h3, jaa, lv, jab, e1, q1, hix, jbH, hc, e2]; try exact rfl) rfl ?_)
    simp only [go_sem]
    repeat (first | refine jac rfl ?_ | (refine jad rfl ?_; (try simp only [go_sem, h3, jaa, lv, jab, q1, hsl]); fail_if_success refine ifC ?_))
    rw [show e + (n + 1) + 19 = e + n + 20 from by omega]
    refine EndsC.mono (ih (by omega) hR' (by simp only [go_sem])) ?_
    rintro x r μ' ⟨g1, g2, tm', w, n', g3, g4, g5, g6, g7⟩
    exact ⟨g1, g2, tm', w, n', g3, by omega, g5, g6, fun i hi => hS' i (g7 i hi)⟩
   ·have e2 : ieq (.ofNat a) 0 = false := (jaS _ 0 0 rfl).trans (decide_eq_false hz)
    refine jam ?_
    refine jah ?_
    refine jah ?_
    refine jae rfl ?_
    iterate 12 (refine jai (by first | rfl | (simp only [go_sem, undef, h3, jaa, lv, jab, e1, q1, hix, jbH, hc, e2])) (by simp only [go_sem, undef, h3, jaa, lv, jab, e1, q1, hix, jbH, hc, e2]; try exact rfl) rfl ?_)
    simp only [go_sem]
    refine jaC ?_ ?_
    ·simp only [go_sem]
    refine jbM ?_
    simp only [jbP]
    exact ⟨by trivial, by trivial, _, v, n + 1, rfl, Nat.le_refl _, h, by simp only [go_sem, h3], fun i hi => hi⟩
theorem jgE {X : XT} {g n : Nat} {v : Value} {μ : Mem} (h : Rd μ v n) (hn : n ≤ 60000) (hg : 60100 ≤ g) : ∃ v' n' μ', aFun pZ (jan pZ X S0 g) 79 [v] μ = some (v', μ') ∧ n' ≤ n ∧ Rd μ' v' n' ∧ Grow μ μ' ∧ New μ v' := by
 obtain ⟨k, rfl⟩ := gle hg
 obtain ⟨v1, μ1, hap, hR, hG, hN⟩ := ji4 h (by omega)
 have key : EndsF (aFun pZ (jan pZ X S0 (k + 60100)) 79 [v] μ) fun w μ' => ∃ n', n' ≤ n ∧ Rd μ' w n' ∧ Grow μ μ' ∧ New μ w := by
  refine jag Tryz.func79 rfl rfl (nbl rfl) ?_
  simp only [go_sem, Tryz.ntmps79]
  repeat (first | refine jac rfl ?_ | (refine jad rfl ?_; (try simp only [go_sem, bs0, jaa, hap]); fail_if_success refine ifC ?_))
  rw [show k + 60096 = (k + 60076 - n) + n + 20 from by omega]
  refine EndsC.mono (jj1 n (by omega) hR (by simp only [go_sem])) ?_
  rintro x r μ' ⟨rfl, rfl, tm', v', n', rfl, hn', hR', h3, hS⟩
  simp only [jaU, reduceIte, jaj]
  repeat (first | refine jac rfl ?_ | (refine jad rfl ?_; (try simp only [go_sem, h3]); fail_if_success refine ifC ?_))
  refine jaf ?_
  refine ⟨rfl, v', ?_, n', hn', hR', hG, fun i hi => hN i (hS i hi)⟩
  simp only [go_sem, Tryz.results79]
 obtain ⟨w, μ', h1, n', h2, h3, h4⟩ := key
 exact ⟨w, n', μ', h1, h2, h3, h4⟩
theorem jiH {a : Nat} (ha : a < 18446744073709551616) : aDiv false .u64 .u64 (.ofNat a) 4294967296 = some (.int .u64 (.ofNat (a / 4294967296))) := by
 show some (Value.int .u64 (jar .u64 (.ofNat (a / 4294967296)))) = _
 rw [nw (Nat.lt_of_le_of_lt (Nat.div_le_self _ _) ha)]
theorem jiG (a : Nat) : aDiv true .u64 .u64 (.ofNat a) 4294967296 = some (.int .u64 (.ofNat (a % 4294967296))) := rfl
theorem lbP : (jaB Tryz.f60 0) = .seq (ja1 0 (jaB Tryz.f60 0)) (.seq (ja1 1 (jaB Tryz.f60 0)) (ja9 2 (jaB Tryz.f60 0))) := by kernel_rfl
theorem plus_loop {na nb : Nat} {va vb : Value} (hna : na ≤ 50000) (hnb : nb ≤ 50000) : ∀ (m i c : Nat), i + m = (if na < nb then nb else na) + 1 → c ≤ 1 → (m = 0 → c = 0) → ∀ {X : XT} {e : Nat} {tm : T Value} {v : Value} {μ0 μ : Mem}, Rd μ0 va na → Rd μ0 vb nb → Lim μ0 μ v i → jak tm 0 = va → jak tm 1 = vb → jak tm 5 = v → jak tm 6 = .int .u64 (.ofNat c) → jak tm 7 = .int .i64 (.ofNat i) →
  EndsC (jan pZ X S0 (e + m + 100) (.loop (jaB Tryz.f60 0)) ⟨45, tm, [], none⟩ μ) fun x r μ' => x = .exit 0 ∧ ∃ tm' v' n', r = ⟨45, tm', [], none⟩ ∧ n' ≤ (if na < nb then nb else na) + 1 ∧ Lim μ0 μ' v' n' ∧ jak tm' 5 = v' := by
 obtain ⟨M, hM⟩ : ∃ M, M = (if na < nb then nb else na) := ⟨_, rfl⟩
 have hM1 : na ≤ M ∧ nb ≤ M ∧ M ≤ 50000 ∧ (M = na ∨ M = nb) := by rw [hM]; split <;> omega
 rw [← hM]
 intro m
 induction m with
 | zero =>
   intro i c hi hc hm X e tm v μ0 μ hA hB hL h0 h1 h5 h6 h7
   obtain rfl := hm rfl
   have la := (hA.grow hL.grow).len
   have lb := (hB.grow hL.grow).len
   have e1 : ilt (.ofNat i) (.ofNat na) = false := (jaq _ _).trans (decide_eq_false (by omega))
   have e2 : ilt (.ofNat i) (.ofNat nb) = false := (jaq _ _).trans (decide_eq_false (by omega))
   have e3 : ilt 0 (.ofNat 0) = false := rfl
   refine jam ?_
   refine jah ?_
   refine jah ?_
   refine jae rfl ?_
   iterate 14 (refine jai (by first | rfl | (simp only [go_sem, undef, h0, h1, h5, h6, h7, jaa, la, lb, jab, e1, e2, e3])) (by simp only [go_sem, undef, h0, h1, h5, h6, h7, jaa, la, lb, jab, e1, e2, e3]; try exact rfl) rfl ?_)
   simp only [go_sem]
   refine jaC ?_ ?_
   ·simp only [go_sem]
   refine jbM ?_
   simp only [jbP]
   exact ⟨by trivial, _, v, i, rfl, by omega, hL, by simp only [go_sem, h5]⟩
 | succ m ih =>
   intro i c hi hc hm X e tm v μ0 μ hA hB hL h0 h1 h5 h6 h7
   have hA' := hA.grow hL.grow
   have hB' := hB.grow hL.grow
   have la := hA'.len
   have lb := hB'.len
   obtain ⟨a, ha, ha0, hat⟩ := at_ex (i := i) hA'
   obtain ⟨b, hb, hb0, hbt⟩ := at_ex (i := i) hB'
   have hat := fun (g : Nat) (hg : 20 ≤ g) => hat (X := X) hg
   have hbt := fun (g : Nat) (hg : 20 ≤ g) => hbt (X := X) hg
   by_cases hdone : i = M ∧ c = 0
   ·obtain ⟨rfl, rfl⟩ := hdone
    have e1 : ilt (.ofNat i) (.ofNat na) = false := (jaq _ _).trans (decide_eq_false (by omega))
    have e2 : ilt (.ofNat i) (.ofNat nb) = false := (jaq _ _).trans (decide_eq_false (by omega))
    have e3 : ilt 0 (.ofNat 0) = false := rfl
    refine jam ?_
    refine jah ?_
    refine jah ?_
    refine jae rfl ?_
    iterate 14 (refine jai (by first | rfl | (simp only [go_sem, undef, h0, h1, h5, h6, h7, jaa, la, lb, jab, e1, e2, e3])) (by simp only [go_sem, undef, h0, h1, h5, h6, h7, jaa, la, lb, jab, e1, e2, e3]; try exact rfl) rfl ?_)
    simp only [go_sem]
    refine jaC ?_ ?_
    ·simp only [go_sem]
    refine jbM ?_
    simp only [jbP]
    exact ⟨by trivial, _, v, i, rfl, by omega, hL, by simp only [go_sem, h5]⟩
   obtain ⟨t, ht⟩ : ∃ t, t = a + b + c := ⟨_, rfl⟩
   have q1 : jar .u64 (Int.add (.ofNat a) (.ofNat b)) = .ofNat (a + b) := je9 (by omega)
   have q2 : jar .u64 (Int.add (.ofNat (a + b)) (.ofNat c)) = .ofNat t := by rw [ht]; exact je9 (by omega)
   have q3 := jiG t
   have q4' : jar .u32 (.ofNat (t % 4294967296)) = .ofNat (t % 4294967296) := by rw [q4, Nat.mod_mod]
   have q5 := jiH (a := t) (by omega)
   have q6 : jar .i64 (Int.add (.ofNat i) 1) = .ofNat (i + 1) := jaW i 1 (by omega)
   have hc' : t / 4294967296 ≤ 1 := by omega
   have hc0 : m = 0 → t / 4294967296 = 0 := fun hm0 => by
    have hiM : i = M := by omega
    rw [ht, ha0 (by omega), hb0 (by omega)]
    omega
   obtain ⟨w, hw⟩ : ∃ w, w = t % 4294967296 := ⟨_, rfl⟩
   have hwl : w < 4294967296 := by rw [hw]; exact Nat.mod_lt _ (by decide)
   obtain ⟨c', hcc⟩ : ∃ c', c' = t / 4294967296 := ⟨_, rfl⟩
   rw [← hw] at q3 q4'
   rw [← hcc] at q5 hc' hc0
   obtain ⟨v', μ2, hap, hL2⟩ := hL.push (x := .int .u32 (.ofNat w)) (by omega) ⟨w, hwl, rfl⟩
   have bs : ∀ (r : Rg) (x : Operand), aev pZ r x = .int .u32 (.ofNat w) → jaR pZ (aev pZ r) 25 1 #[(0, x)] = some (.cells 1 55 #[.int .u32 (.ofNat w)] .e 0 0 false false, fun id => .slice (some ⟨id, 0, none⟩) 1 2) := fun r x g => jbU Tryz.underlying25 jcN rfl jgA rfl g rfl
   have go : ∀ {tm1 : T Value}, (∀ j, j < 10 → jak tm1 j = jak tm j) → EndsC (jan pZ X S0 (e + (m + 1) + 97) (ja1 1 (jaB Tryz.f60 0)) ⟨45, tm1, [], none⟩ μ) fun x r μ' => x = .normal ∧ μ' = μ2 ∧ ∃ tm', r = ⟨45, tm', [], none⟩ ∧ jak tm' 0 = va ∧ jak tm' 1 = vb ∧ jak tm' 5 = v' ∧ jak tm' 6 = .int .u64 (.ofNat c') ∧ jak tm' 7 = .int .i64 (.ofNat i) := by
    intro tm1 hr
    have h0 := (hr 0 (by decide)).trans h0
    have h1 := (hr 1 (by decide)).trans h1
    have h5 := (hr 5 (by decide)).trans h5
    have h6 := (hr 6 (by decide)).trans h6
    have h7 := (hr 7 (by decide)).trans h7
    clear hr
    repeat (first | refine jac rfl ?_ | (refine jad rfl ?_; (try simp only [go_sem, h0, h1, h5, h6, h7, gg83, hat, hbt, Nat.reduceLeDiff, q1, q2, q3, jcv, q4', bs, jaa, hap, q5]); fail_if_success refine ifC ?_))
    try simp only [jaU, jaj]
    exact ⟨by trivial, by trivial, _, rfl, by simp only [go_sem, h0], by simp only [go_sem, h1], by simp only [go_sem], by simp only [go_sem], by simp only [go_sem, h7]⟩
   have fin : ∀ {tm' : T Value}, jak tm' 0 = va → jak tm' 1 = vb → jak tm' 5 = v' → jak tm' 6 = .int .u64 (.ofNat c') → jak tm' 7 = .int .i64 (.ofNat i) → EndsC (jan pZ X S0 (e + (m + 1) + 97) (ja9 2 (jaB Tryz.f60 0)) ⟨45, tm', [], none⟩ μ2) (jgH (e + (m + 1) + 99) pZ X S0 (.loop (jaB Tryz.f60 0)) fun x r μ' => x = .exit 0 ∧ ∃ tm' v' n', r = ⟨45, tm', [], none⟩ ∧ n' ≤ M + 1 ∧ Lim μ0 μ' v' n' ∧ jak tm' 5 = v') := by
    intro tm' h0 h1 h5 h6 h7
    repeat (first | refine jac rfl ?_ | (refine jad rfl ?_; (try simp only [go_sem, h7, q6]); fail_if_success refine ifC ?_))
    rw [show e + (m + 1) + 99 = e + m + 100 from by omega]
    exact ih (i + 1) c' (by omega) hc' hc0 hA hB hL2 (by simp only [go_sem, h0]) (by simp only [go_sem, h1]) (by simp only [go_sem, h5]) (by simp only [go_sem, h6]) (by simp only [go_sem])
   by_cases c1 : i < na
   ·have e1 : ilt (.ofNat i) (.ofNat na) = true := (jaq _ _).trans (decide_eq_true c1)
    refine jam ?_
    rw [lbP]
    refine jah ?_
    refine jah ?_
    refine jae rfl ?_
    (repeat (first | (refine jal ?_ rfl ?_; (focus (simp only [go_sem, undef, h0, h1, h5, h6, h7, jaa, la, lb, jab, e1]; done))) | (refine jai (v := ?_) (μ' := ?_) ?_ ?_ rfl ?_; rotate_left 2; (focus (first | rfl | (simp only [go_sem, undef, h0, h1, h5, h6, h7, jaa, la, lb, jab, e1]; done))); (focus (simp only [go_sem, undef, h0, h1, h5, h6, h7, jaa, la, lb, jab, e1]; (try exact rfl); done)))))
    simp only [go_sem]
    refine jbD ?_ ?_
    ·simp only [go_sem]
    refine jbJ ?_
    simp only [jaj]
    refine jah (EndsC.mono (go (by intro j hj; rcases (by omega : j = 0 ∨ j = 1 ∨ j = 2 ∨ j = 3 ∨ j = 4 ∨ j = 5 ∨ j = 6 ∨ j = 7 ∨ j = 8 ∨ j = 9) with rfl | rfl | rfl | rfl | rfl | rfl | rfl | rfl | rfl | rfl <;> simp only [go_sem])) ?_)
    rintro x r μ' ⟨rfl, rfl, tm', rfl, h0, h1, h5, h6, h7⟩
    simp only [jaj]
    exact fin h0 h1 h5 h6 h7
   have e1 : ilt (.ofNat i) (.ofNat na) = false := (jaq _ _).trans (decide_eq_false c1)
   by_cases c2 : i < nb
   ·have e2 : ilt (.ofNat i) (.ofNat nb) = true := (jaq _ _).trans (decide_eq_true c2)
    refine jam ?_
    rw [lbP]
    refine jah ?_
    refine jah ?_
    refine jae rfl ?_
    (repeat (first | (refine jal ?_ rfl ?_; (focus (simp only [go_sem, undef, h0, h1, h5, h6, h7, jaa, la, lb, jab, e1, e2]; done))) | (refine jai (v := ?_) (μ' := ?_) ?_ ?_ rfl ?_; rotate_left 2; (focus (first | rfl | (simp only [go_sem, undef, h0, h1, h5, h6, h7, jaa, la, lb, jab, e1, e2]; done))); (focus (simp only [go_sem, undef, h0, h1, h5, h6, h7, jaa, la, lb, jab, e1, e2]; (try exact rfl); done)))))
    simp only [go_sem]
    refine jbD ?_ ?_
    ·simp only [go_sem]
    refine jbJ ?_
    simp only [jaj]
    refine jah (EndsC.mono (go (by intro j hj; rcases (by omega : j = 0 ∨ j = 1 ∨ j = 2 ∨ j = 3 ∨ j = 4 ∨ j = 5 ∨ j = 6 ∨ j = 7 ∨ j = 8 ∨ j = 9) with rfl | rfl | rfl | rfl | rfl | rfl | rfl | rfl | rfl | rfl <;> simp only [go_sem])) ?_)
    rintro x r μ' ⟨rfl, rfl, tm', rfl, h0, h1, h5, h6, h7⟩
    simp only [jaj]
    exact fin h0 h1 h5 h6 h7
   have e2 : ilt (.ofNat i) (.ofNat nb) = false := (jaq _ _).trans (decide_eq_false c2)
   have e3 : ilt 0 (.ofNat c) = true := (jaq 0 c).trans (decide_eq_true (by omega))
   refine jam ?_
   rw [lbP]
   refine jah ?_
   refine jah ?_
   refine jae rfl ?_
   iterate 14 (refine jai (by first | rfl | (simp only [go_sem, undef, h0, h1, h5, h6, h7, jaa, la, lb, jab, e1, e2, e3])) (by simp only [go_sem, undef, h0, h1, h5, h6, h7, jaa, la, lb, jab, e1, e2, e3]; try exact rfl) rfl ?_)
   simp only [go_sem]
   refine jbD ?_ ?_
   ·simp only [go_sem]
   refine jbJ ?_
   simp only [jaj]
   refine jah (EndsC.mono (go (by intro j hj; rcases (by omega : j = 0 ∨ j = 1 ∨ j = 2 ∨ j = 3 ∨ j = 4 ∨ j = 5 ∨ j = 6 ∨ j = 7 ∨ j = 8 ∨ j = 9) with rfl | rfl | rfl | rfl | rfl | rfl | rfl | rfl | rfl | rfl <;> simp only [go_sem])) ?_)
   rintro x r μ' ⟨rfl, rfl, tm', rfl, h0, h1, h5, h6, h7⟩
   simp only [jaj]
   exact fin h0 h1 h5 h6 h7
theorem Lim.empty (μ : Mem) : Lim μ ⟨μ.obs.set μ.next ob0, Nat.add μ.next 1⟩ (.slice (some ⟨μ.next, 0, none⟩) 0 0) 0 :=
 ⟨[], ⟨.inr ⟨μ.next, 0, #[], .e, false, false, 0, rfl, by show T.get _ _ = _; rw [T.get_set, if_pos rfl]; rfl, Nat.le_refl _, (fun k h => absurd h (Nat.not_lt_zero _)), .inl ⟨rfl, rfl⟩⟩, jbp μ _, fun i hi => by
  obtain ⟨l, c, hv⟩ := hi
  injection hv with e1
  injection e1 with e1
  injection e1 with e1
  subst e1
  exact ⟨Nat.le_refl _, Nat.lt_succ_self _⟩⟩, rfl, (fun x h => by cases h)⟩
theorem jiB {na nb : Nat} {va vb : Value} (hna : na ≤ 50000) (hnb : nb ≤ 50000) {X : XT} {g : Nat} {μ : Mem} (hA : Rd μ va na) (hB : Rd μ vb nb) (hg : 70000 ≤ g) : ∃ v n μ', aFun pZ (jan pZ X S0 g) 60 [va, vb] μ = some (v, μ') ∧ n ≤ (if na < nb then nb else na) + 1 ∧ Rd μ' v n ∧ Grow μ μ' ∧ New μ v := by
 obtain ⟨k, rfl⟩ := gle hg
 have hM : (if na < nb then nb else na) ≤ 50000 := by split <;> omega
 have key : EndsF (aFun pZ (jan pZ X S0 (k + 70000)) 60 [va, vb] μ) fun w μ' => ∃ n, n ≤ (if na < nb then nb else na) + 1 ∧ Rd μ' w n ∧ Grow μ μ' ∧ New μ w := by
  refine jag Tryz.func60 rfl rfl (nbl rfl) ?_
  simp only [go_sem, Tryz.ntmps60]
  repeat (first | refine jac rfl ?_ | (refine jad rfl ?_; (try simp only [go_sem, bs0]); fail_if_success refine ifC ?_))
  rw [show k + 69994 = (k + 69893 - (if na < nb then nb else na)) + ((if na < nb then nb else na) + 1) + 100 from by omega]
  refine EndsC.mono (plus_loop hna hnb _ 0 0 (Nat.zero_add _) (Nat.zero_le _) (fun h => rfl) hA hB (Lim.empty μ) (by simp only [go_sem]) (by simp only [go_sem]) (by simp only [go_sem]) (by simp only [go_sem]; try rfl) (by simp only [go_sem]; try rfl)) ?_
  rintro x r μ1 ⟨rfl, tm', v', n', rfl, hn', hL, h5⟩
  simp only [jaU, reduceIte, jaj]
  obtain ⟨v2, n2, μ2, hr, hn2, hR, hG, hN⟩ := jgE (X := X) (g := k + 69994) hL.rd (by omega) (by omega)
  repeat (first | refine jac rfl ?_ | (refine jad rfl ?_; (try simp only [go_sem, h5, gg79, hr]); fail_if_success refine ifC ?_))
  refine jaf ?_
  refine ⟨rfl, v2, ?_, n2, by omega, hR, hL.grow.trans hG, fun i hi => Nat.le_trans hL.grow.1 (hN i hi)⟩
  simp only [go_sem, Tryz.results60]
 obtain ⟨w, μ', h1, n, h2, h3, h4⟩ := key
 exact ⟨w, n, μ', h1, h2, h3, h4⟩
end
noncomputable section
theorem sh_none (a b : Int) : jbo false .u32 a b = none := rfl
theorem jjT (a b : Int) : jcb Nat.land .u32 .u32 a b = none := rfl
theorem pv_shr : ∀ n, n < 32 → pv pZ (Op.shift .shr .u32 10 .i64 (.ofNat n)) = some (.int .u32 (.ofNat (10 / 2 ^ n))) := by
 intro n h
 have h : n = 0 ∨ n = 1 ∨ n = 2 ∨ n = 3 ∨ n = 4 ∨ n = 5 ∨ n = 6 ∨ n = 7 ∨ n = 8 ∨ n = 9 ∨ n = 10 ∨ n = 11 ∨ n = 12 ∨ n = 13 ∨ n = 14 ∨ n = 15 ∨ n = 16 ∨ n = 17 ∨ n = 18 ∨ n = 19 ∨ n = 20 ∨ n = 21 ∨ n = 22 ∨ n = 23 ∨ n = 24 ∨ n = 25 ∨ n = 26 ∨ n = 27 ∨ n = 28 ∨ n = 29 ∨ n = 30 ∨ n = 31 := by omega
 rcases h with rfl | rfl | rfl | rfl | rfl | rfl | rfl | rfl | rfl | rfl | rfl | rfl | rfl | rfl | rfl | rfl | rfl | rfl | rfl | rfl | rfl | rfl | rfl | rfl | rfl | rfl | rfl | rfl | rfl | rfl | rfl | rfl <;> (show _ = _; kernel_rfl)
theorem pv_and : ∀ y, y ≤ 10 → pv pZ (pure (Value.int .u32 (bits .and .u32 (.ofNat y) 1)) : Sem Value) = some (.int .u32 (.ofNat (y % 2))) := by
 intro y h
 have h : y = 0 ∨ y = 1 ∨ y = 2 ∨ y = 3 ∨ y = 4 ∨ y = 5 ∨ y = 6 ∨ y = 7 ∨ y = 8 ∨ y = 9 ∨ y = 10 := by omega
 rcases h with rfl | rfl | rfl | rfl | rfl | rfl | rfl | rfl | rfl | rfl | rfl <;> (show _ = _; kernel_rfl)
theorem jj3 {na q c : Nat} {va : Value} (hna : na ≤ 49000) : ∀ (m : Nat), m ≤ 32 → ∀ {X : XT} {e no : Nat} {tm : T Value} {v : Value} {μ0 μ : Mem}, Rd μ0 va na → q < μ0.next → jap μ0 q 0 = some (.int .u32 10) → Grow μ0 μ → Rd μ v no → no ≤ na + 2 * (32 - m) → jak tm 0 = va → jak tm 1 = .slice (some ⟨q, 0, none⟩) 1 c → jak tm 5 = v → jak tm 6 = .int .i64 (rdx m) →
  EndsC (jan pZ X S0 (e + m + 70100) (.loop (jaB Tryz.f149 0)) ⟨34, tm, [], none⟩ μ) fun x r μ' => x = .exit 0 ∧ Grow μ0 μ' ∧ ∃ tm' v' n', r = ⟨34, tm', [], none⟩ ∧ n' ≤ na + 64 ∧ Rd μ' v' n' ∧ jak tm' 5 = v' := by
 intro m
 induction m with
 | zero =>
   intro _ X e no tm v μ0 μ hA hq hqc hG hR hno h0 h1 h5 h6
   have h6 : jak tm 6 = .int .i64 (-1) := h6
   have e1 : ilt (-1) 0 = true := rfl
   refine jam ?_
   repeat (first | refine jac rfl ?_ | (refine jad rfl ?_; (try simp only [go_sem, h6, e1]); fail_if_success refine ifC ?_))
   exact ⟨by trivial, hG, _, v, no, rfl, by omega, hR, by simp only [go_sem, h5]⟩
 | succ m ih =>
   intro hm X e no tm v μ0 μ hA hq hqc hG hR hno h0 h1 h5 h6
   have h6 : jak tm 6 = .int .i64 (.ofNat m) := h6
   have e1 : ilt (.ofNat m) 0 = false := (jaq m 0).trans (decide_eq_false (by omega))
   obtain ⟨v1, n1, μ1, hr1, hn1, hR1, hG1, _⟩ := jiB (X := X) (g := e + (m + 1) + 70094) (by omega) (by omega) hR hR (by omega)
   rw [if_neg (Nat.lt_irrefl _)] at hn1
   have hGa := hG.trans hG1
   have hc1 : jap μ1 q 0 = some (.int .u32 10) := (jck hGa hq 0).trans hqc
   have q1 : aDiv false .i64 .i64 (.ofNat m) 32 = some (.int .i64 0) := by
    show some (Value.int .i64 (jar .i64 (.ofNat (m / 32)))) = _
    rw [Nat.div_eq_of_lt (by omega)]; rfl
   have q2 : aDiv true .i64 .i64 (.ofNat m) 32 = some (.int .i64 (.ofNat m)) := by
    show some (Value.int .i64 (.ofNat (m % 32))) = _
    rw [Nat.mod_eq_of_lt (by omega)]
   have hix : ∀ (rg : Rg) (a b : Operand), aev pZ rg a = .slice (some ⟨q, 0, none⟩) 1 c → aev pZ rg b = .int .i64 0 → jau pZ (aev pZ rg) 25 a b = some (.pointer (some ⟨q, 0, none⟩)) := fun rg a b g1 g2 => by
    rw [jaT (P := pZ) (m := 0) Tryz.underlying25 jcN rfl g1 g2 (by decide)]
   have s1 := pv_shr m (by omega)
   have hy : 10 / 2 ^ m ≤ 10 := Nat.div_le_self _ _
   have s2 := pv_and (10 / 2 ^ m) hy
   obtain ⟨y, hyy⟩ : ∃ y, y = 10 / 2 ^ m := ⟨_, rfl⟩
   rw [← hyy] at s1 s2
   have q6 : jar .i64 (Int.sub (.ofNat m) 1) = rdx m := jiw (by omega)
   by_cases hb : y % 2 = 1
   ·have e2 : ieq (.ofNat (y % 2)) 1 = true := (jaS _ 1 1 rfl).trans (decide_eq_true hb)
    obtain ⟨v2, n2, μ2, hr2, hn2, hR2, hG2, _⟩ := jiB (X := X) (g := e + (m + 1) + 70092) (by omega) (by omega) hR1 (hA.grow hGa) (by omega)
    have hn2' : n2 ≤ na + 2 * (32 - m) := by split at hn2 <;> omega
    refine jam ?_
    repeat (first | refine jac rfl ?_ | (refine jad rfl ?_; (try simp only [go_sem, h0, h1, h5, h6, e1, gg60, hr1, q1, hix, jbH, hc1, q2, sh_none, s1, jjT, s2, e2, hr2, q6]); fail_if_success refine ifC ?_))
    rw [show e + (m + 1) + 70099 = e + m + 70100 from by omega]
    exact ih (by omega) (no := n2) (v := v2) hA hq hqc (hGa.trans hG2) hR2 hn2' (by simp only [go_sem, h0]) (by simp only [go_sem, h1]) (by simp only [go_sem]) (by simp only [go_sem])
   ·have e2 : ieq (.ofNat (y % 2)) 1 = false := (jaS _ 1 1 rfl).trans (decide_eq_false hb)
    refine jam ?_
    repeat (first | refine jac rfl ?_ | (refine jad rfl ?_; (try simp only [go_sem, h0, h1, h5, h6, e1, gg60, hr1, q1, hix, jbH, hc1, q2, sh_none, s1, jjT, s2, e2, q6]); fail_if_success refine ifC ?_))
    rw [show e + (m + 1) + 70099 = e + m + 70100 from by omega]
    exact ih (by omega) (no := n1) (v := v1) hA hq hqc hGa hR1 (by omega) (by simp only [go_sem, h0]) (by simp only [go_sem, h1]) (by simp only [go_sem]) (by simp only [go_sem])
theorem times_ex {na q c : Nat} {va : Value} (hna : na ≤ 49000) {X : XT} {g : Nat} {μ : Mem} (hA : Rd μ va na) (hq : q < μ.next) (hqc : jap μ q 0 = some (.int .u32 10)) (hg : 71000 ≤ g) : ∃ v n μ', aFun pZ (jan pZ X S0 g) 149 [va, .slice (some ⟨q, 0, none⟩) 1 c] μ = some (v, μ') ∧ n ≤ na + 64 ∧ Rd μ' v n ∧ Grow μ μ' ∧ New μ v := by
 obtain ⟨k, rfl⟩ := gle hg
 have q1 : jar .i64 (Int.mul 32 (.ofNat 1)) = 32 := rfl
 have q2 : jar .i64 (Int.sub 32 1) = 31 := rfl
 have lb : aLen pZ 25 (.slice (some ⟨q, 0, none⟩) 1 c) = some 1 := by
  unfold aLen
  simp only [Tryz.underlying25]
 have key : EndsF (aFun pZ (jan pZ X S0 (k + 71000)) 149 [va, .slice (some ⟨q, 0, none⟩) 1 c] μ) fun w μ' => ∃ n, n ≤ na + 64 ∧ Rd μ' w n ∧ Grow μ μ' ∧ New μ w := by
  refine jag Tryz.func149 rfl rfl (nbl rfl) ?_
  simp only [go_sem, Tryz.ntmps149]
  repeat (first | refine jac rfl ?_ | (refine jad rfl ?_; (try simp only [go_sem, bs0, jaa, lb, jab, q1, q2]); fail_if_success refine ifC ?_))
  rw [show k + 70995 = (k + 863) + 32 + 70100 from by omega]
  refine EndsC.mono (jj3 (c := c) hna 32 (Nat.le_refl _) (no := 0) hA hq hqc (jbp μ _) (Lim.empty μ).rd (Nat.zero_le _) (by simp only [go_sem]) (by simp only [go_sem]) (by simp only [go_sem]) (by simp only [go_sem]; try rfl)) ?_
  rintro x r μ1 ⟨rfl, hG, tm', v', n', rfl, hn', hR, h5⟩
  simp only [jaU, reduceIte, jaj]
  obtain ⟨v2, n2, μ2, hr, hn2, hR2, hG2, hN⟩ := jgE (X := X) (g := k + 70995) hR (by omega) (by omega)
  repeat (first | refine jac rfl ?_ | (refine jad rfl ?_; (try simp only [go_sem, h5, gg79, hr]); fail_if_success refine ifC ?_))
  refine jaf ?_
  refine ⟨rfl, v2, ?_, n2, by omega, hR2, hG.trans hG2, fun i hi => Nat.le_trans hG.1 (hN i hi)⟩
  simp only [go_sem, Tryz.results149]
 obtain ⟨w, μ', h1, n, h2, h3, h4, h5⟩ := key
 exact ⟨w, n, μ', h1, h2, h3, h4, h5⟩
end
noncomputable section
open Go.Proofs.YthnglblipoimhaaGreatDoor.NumText (dig)
theorem conv_84 (n : Int) : ja3 pZ 5 55 (.int .u8 n) = some (.int .u32 (jar .u32 n)) := by
 simp only [ja3, Tryz.underlying5, Tryz.underlying55]
theorem n4_sub {a b : Nat} (h : b ≤ a) (h2 : a < 4294967296) : jar .u32 (Int.sub (.ofNat a) (.ofNat b)) = .ofNat (a - b) := by
 have e : Int.sub (.ofNat a) (.ofNat b) = .ofNat (a - b) := by show (a : Int) - (b : Int) = ((a - b : Nat) : Int); omega
 rw [e, q4, Nat.mod_eq_of_lt (by omega)]
def ob1 (x : Nat) : Ob := .cells 1 55 #[.int .u32 (.ofNat x)] .e 0 0 false false
theorem bs1 {x : Nat} (r : Rg) (y : Operand) (h : aev pZ r y = .int .u32 (.ofNat x)) : jaR pZ (aev pZ r) 25 1 #[(0, y)] = some (ob1 x, fun id => .slice (some ⟨id, 0, none⟩) 1 2) := jbU Tryz.underlying25 jcN rfl jgA rfl h rfl
theorem bs10 (r : Rg) : jaR pZ (aev pZ r) 25 1 #[(0, .const (.int .u32 10))] = some (ob1 10, fun id => .slice (some ⟨id, 0, none⟩) 1 2) := bs1 (x := 10) r _ rfl
theorem ob1_rd {μ : Mem} {i x : Nat} (hx : x < 4294967296) (h : μ.obs.get i = some (ob1 x)) (hi : i < μ.next) : Rd μ (.slice (some ⟨i, 0, none⟩) 1 2) 1 :=
 .inr ⟨i, 2, 1, #[.int .u32 (.ofNat x)], .e, false, false, rfl, h, Nat.le_refl _, hi, fun k hk => by
  obtain rfl : k = 0 := by omega
  exact ⟨x, hx, rfl⟩, .inl ⟨rfl, Nat.le_refl _⟩⟩
theorem ob1_cell {μ : Mem} {i x : Nat} (h : μ.obs.get i = some (ob1 x)) : jap μ i 0 = some (.int .u32 (.ofNat x)) := by
 unfold jap
 rw [h]
 rfl
theorem Rd.off {μ μ' : Mem} {v : Value} {n j : Nat} {o : Ob} (h : Rd μ v n) (hn : ∀ i, SlAt v i → i ≠ j) (hm : μ' = ⟨μ.obs.set j o, μ.next⟩) : Rd μ' v n := by
 subst hm
 rcases h with h | ⟨i, c, m, z, ov, fx, sh, h1, h2, h3, h4, h5⟩
 ·exact .inl h
 ·refine .inr ⟨i, c, m, z, ov, fx, sh, h1, ?_, h3, h4, h5⟩
  show T.get (T.set _ _ _) _ = _
  rw [T.get_set, if_neg (hn i ⟨_, _, h1⟩)]
  exact h2
theorem rp_loop {s : ByteArray} (hl : (bys s).length ≤ 700) : ∀ (m i : Nat), i + m = (bys s).length → jdM ((bys s).drop i) → ∀ {X : XT} {e n : Nat} {tm : T Value} {v : Value} {μ0 μ : Mem}, n ≤ 66 * i → Rd μ v n → Grow μ0 μ → jak tm 0 = .string s → jak tm 2 = .slice none 0 0 → jak tm 3 = .int .i64 0 → jak tm 4 = v → jak tm 6 = .int .i64 (.ofNat i) →
  EndsC (jan pZ X S0 (e + m + 80000) (.loop (jaB Tryz.f125 1)) ⟨51, tm, [], none⟩ μ) fun x r μ' => x = .exit 2 ∧ Grow μ0 μ' ∧ ∃ tm' v' n', r = ⟨51, tm', [], none⟩ ∧ n' ≤ 46200 ∧ Rd μ' v' n' ∧ jak tm' 4 = v' := by
 have ls := jbm s
 intro m
 induction m with
 | zero =>
   intro i hi hd X e n tm v μ0 μ hn hR hG h0 h2 h3 h4 h6
   have hi : i = (bys s).length := hi
   have e1 : ilt (.ofNat i) (.ofNat (bys s).length) = false := (jaq _ _).trans (decide_eq_false (by omega))
   refine jam ?_
   repeat (first | refine jac rfl ?_ | (refine jad rfl ?_; (try simp only [go_sem, h0, h4, h6, jaa, ls, jab, e1]); fail_if_success refine ifC ?_))
   exact ⟨by trivial, hG, _, v, n, rfl, by omega, hR, by simp only [go_sem, h4]⟩
 | succ m ih =>
   intro i hi hd X e n tm v μ0 μ hn hR hG h0 h2 h3 h4 h6
   have hlt : i < (bys s).length := by omega
   have hdr : (bys s).drop i = (bys s)[i]'hlt :: (bys s).drop (i + 1) := List.drop_eq_getElem_cons hlt
   obtain ⟨c, hc⟩ : ∃ c, c = (bys s)[i]'hlt := ⟨_, rfl⟩
   rw [← hc] at hdr
   have hx : ∀ (r : Rg) (x y : Operand), aev pZ r x = .string s → aev pZ r y = .int .i64 (.ofNat i) → jbC pZ (aev pZ r) 9 x y = some (.int .u8 (.ofNat c)) := fun r x y h1 h2 => by rw [hc]; exact jb0 hlt h1 h2
   have e1 : ilt (.ofNat i) (.ofNat (bys s).length) = true := (jaq _ _).trans (decide_eq_true hlt)
   have a1 : jar .i64 (Int.add (.ofNat i) 1) = .ofNat (i + 1) := jaW i 1 (by omega)
   clear hc
   rw [hdr] at hd
   have hdc := hd c List.mem_cons_self
   have hcb : 48 ≤ c ∧ c ≤ 57 := by simp [dig] at hdc; exact hdc
   have hd' : jdM ((bys s).drop (i + 1)) := fun d hd1 => hd d (List.mem_cons_of_mem _ hd1)
   have q1 : jar .u32 (.ofNat c) = .ofNat c := by rw [q4, Nat.mod_eq_of_lt (by omega)]
   have q2 : jar .u32 (Int.sub (.ofNat c) 48) = .ofNat (c - 48) := n4_sub (b := 48) hcb.1 (by omega)
   obtain ⟨μa, hμa⟩ : ∃ μa : Mem, μa = ⟨μ.obs.set (Nat.add μ.next 1) (ob1 10), μ.next + 11⟩ := ⟨_, rfl⟩
   have hGa : Grow μ μa := by
    rw [hμa]
    exact ⟨Nat.le_add_right _ _, fun j hj => by show T.get (T.set _ _ _) _ = _; rw [T.get_set, if_neg (by show j ≠ μ.next + 1; omega)]⟩
   have hca : jap μa (Nat.add μ.next 1) 0 = some (.int .u32 10) := ob1_cell (x := 10) (by rw [hμa]; show T.get (T.set _ _ _) _ = _; rw [T.get_set, if_pos rfl])
   obtain ⟨v1, n1, μ1, hr1, hn1, hR1, hG1, hN1⟩ := times_ex (c := 2) (X := X) (g := e + (m + 1) + 79995) (μ := μa) (by omega) (hR.grow hGa) (q := Nat.add μ.next 1) (by rw [hμa]; show μ.next + 1 < μ.next + 11; omega) hca (by omega)
   have hna : μa.next = μ.next + 11 := by rw [hμa]
   obtain ⟨μb, hμb⟩ : ∃ μb : Mem, μb = ⟨μ1.obs.set (Nat.add μ.next 8) (ob1 (c - 48)), μ1.next⟩ := ⟨_, rfl⟩
   have hlt1 : μ.next + 11 ≤ μ1.next := by rw [← hna]; exact hG1.1
   have hRb1 : Rd μb v1 n1 := hR1.off (j := Nat.add μ.next 8) (o := ob1 (c - 48)) (fun i hi => by have := hN1 i hi; rw [hna] at this; show i ≠ μ.next + 8; omega) hμb
   have hRb2 : Rd μb (.slice (some ⟨Nat.add μ.next 8, 0, none⟩) 1 2) 1 := ob1_rd (x := c - 48) (by omega) (by rw [hμb]; show T.get (T.set _ _ _) _ = _; rw [T.get_set, if_pos rfl]) (by rw [hμb]; show μ.next + 8 < μ1.next; omega)
   obtain ⟨v2, n2, μ2, hr2, hn2, hR2, hG2, _⟩ := jiB (X := X) (g := e + (m + 1) + 79995) (μ := μb) (by omega) (by decide) hRb1 hRb2 (by omega)
   have hn2' : n2 ≤ 66 * (i + 1) := by split at hn2 <;> omega
   have hG' : Grow μ μ2 := by
    refine ⟨?_, fun j hj => ?_⟩
    ·have := hG2.1; rw [hμb] at this; have : μ1.next ≤ μ2.next := this; omega
    ·rw [hG2.2 j (by rw [hμb]; show j < μ1.next; omega), hμb]
     show T.get (T.set _ _ _) _ = _
     rw [T.get_set, if_neg (by show j ≠ μ.next + 8; omega)]
     exact (hG1.2 j (by rw [hna]; omega)).trans (hGa.2 j hj)
   rw [hμa] at hr1
   rw [hμb] at hr2
   have bsc : ∀ (r : Rg) (y : Operand), aev pZ r y = .int .u32 (.ofNat (c - 48)) → jaR pZ (aev pZ r) 25 1 #[(0, y)] = some (ob1 (c - 48), fun id => .slice (some ⟨id, 0, none⟩) 1 2) := fun r y h => bs1 r y h
   refine jam ?_
   repeat (first | refine jac rfl ?_ | (refine jad rfl ?_; (try simp only [go_sem, h0, h4, h6, jaa, ls, jab, e1]); fail_if_success refine ifC ?_))
   refine jaN (n := 11) (ms := [0, 0, 3, 0, 0, 24, 56, 120, 248, 511, 1023]) (ord := [0, 1, 2, 3, 4, 5, 6, 7, 8, 9, 10]) (ds := ?_) ?_ ?_ ?_ ?_ ?_ ?_
   rotate_left
   ·kernel_rfl
   ·kernel_rfl
   ·kernel_rfl
   ·rfl
   ·rfl
   iterate 11 (refine jaM (by first | rfl | (simp only [go_sem, h0, h4, h6, bs10, bsc, gg149, hr1, hx, conv_84, q1, q2, gg60, hr2])) (by simp only [jaO, heavy, ja8, jaF, go_sem, h0, h4, h6, bs10, bsc, gg149, hr1, hx, conv_84, q1, q2, gg60, hr2]; try exact rfl) rfl ?_)
   simp only [dRun, jaG, jaj]
   repeat (first | refine jac rfl ?_ | (refine jad rfl ?_; (try simp only [go_sem, h6, a1]); fail_if_success refine ifC ?_))
   rw [show e + (m + 1) + 79999 = e + m + 80000 from by omega]
   exact ih (i + 1) (by omega) hd' (n := n2) (v := v2) hn2' hR2 (hG.trans hG') (by simp only [go_sem, h0]) (by simp only [go_sem, h2]) (by simp only [go_sem, h3]) (by simp only [go_sem]) (by simp only [go_sem])
theorem rp_check {s : ByteArray} (hl : (bys s).length ≤ 700) : ∀ (m i : Nat), i + m = (bys s).length → ∀ {X : XT} {e : Nat} {tm : T Value} {v : Value} {μ : Mem}, jak tm 0 = .string s → jak tm 2 = .slice none 0 0 → jak tm 3 = .int .i64 0 → jak tm 4 = v → jak tm 5 = .int .i64 (.ofNat i) →
  EndsC (jan pZ X S0 (e + m + 40) (.loop (jaB Tryz.f125 0)) ⟨51, tm, [], none⟩ μ) fun x r μ' => μ' = μ ∧ ∃ tm', r = ⟨51, tm', [], none⟩ ∧ ((jdM ((bys s).drop i) ∧ x = .exit 0 ∧ jak tm' 0 = .string s ∧ jak tm' 2 = .slice none 0 0 ∧ jak tm' 3 = .int .i64 0 ∧ jak tm' 4 = v) ∨ (¬ jdM ((bys s).drop i) ∧ x = .ret ∧ jak tm' 2 = .slice none 0 0 ∧ jak tm' 3 = .int .i64 13)) := by
 have ls := jbm s
 intro m
 induction m with
 | zero =>
   intro i hi X e tm v μ h0 h2 h3 h4 h5
   have hi : i = (bys s).length := hi
   have e1 : ilt (.ofNat i) (.ofNat (bys s).length) = false := (jaq _ _).trans (decide_eq_false (by omega))
   refine jam ?_
   repeat (first | refine jac rfl ?_ | (refine jad rfl ?_; (try simp only [go_sem, h0, h5, jaa, ls, jab, e1]); fail_if_success refine ifC ?_))
   exact ⟨by trivial, _, rfl, .inl ⟨(by rw [hi, List.drop_length]; intro c hc; cases hc), by trivial, by simp only [go_sem, h0], by simp only [go_sem, h2], by simp only [go_sem, h3], by simp only [go_sem, h4]⟩⟩
 | succ m ih =>
   intro i hi X e tm v μ h0 h2 h3 h4 h5
   have hlt : i < (bys s).length := by omega
   have hdr : (bys s).drop i = (bys s)[i]'hlt :: (bys s).drop (i + 1) := List.drop_eq_getElem_cons hlt
   obtain ⟨c, hc⟩ : ∃ c, c = (bys s)[i]'hlt := ⟨_, rfl⟩
   rw [← hc] at hdr
   have hx : ∀ (r : Rg) (x y : Operand), aev pZ r x = .string s → aev pZ r y = .int .i64 (.ofNat i) → jbC pZ (aev pZ r) 9 x y = some (.int .u8 (.ofNat c)) := fun r x y h1 h2 => by rw [hc]; exact jb0 hlt h1 h2
   have e1 : ilt (.ofNat i) (.ofNat (bys s).length) = true := (jaq _ _).trans (decide_eq_true hlt)
   have a1 : jar .i64 (Int.add (.ofNat i) 1) = .ofNat (i + 1) := jaW i 1 (by omega)
   clear hc
   rw [hdr]
   by_cases h48 : c < 48
   ·have d1 : ilt (.ofNat c) 48 = true := (jbZ c 48 48 rfl).trans (decide_eq_true h48)
    refine jam ?_
    repeat (first | refine jac rfl ?_ | (refine jad rfl ?_; (try simp only [go_sem, h0, h5, jaa, ls, jab, e1, hx, d1, undef]); fail_if_success refine ifC ?_))
    refine jaf ?_
    exact ⟨by trivial, _, rfl, .inr ⟨fun ha => (by have := ha c List.mem_cons_self; simp [dig] at this; omega), by trivial, by simp only [go_sem], by simp only [go_sem]⟩⟩
   have d1 : ilt (.ofNat c) 48 = false := (jbZ c 48 48 rfl).trans (decide_eq_false h48)
   by_cases h57 : 57 < c
   ·have d2 : ilt 57 (.ofNat c) = true := (jdq c 57 57 rfl).trans (decide_eq_true h57)
    refine jam ?_
    repeat (first | refine jac rfl ?_ | (refine jad rfl ?_; (try simp only [go_sem, h0, h5, jaa, ls, jab, e1, hx, d1, d2, undef]); fail_if_success refine ifC ?_))
    refine jaf ?_
    exact ⟨by trivial, _, rfl, .inr ⟨fun ha => (by have := ha c List.mem_cons_self; simp [dig] at this; omega), by trivial, by simp only [go_sem], by simp only [go_sem]⟩⟩
   have d2 : ilt 57 (.ofNat c) = false := (jdq c 57 57 rfl).trans (decide_eq_false h57)
   have hdc : dig c = true := by simp [dig]; omega
   have hall : ∀ l, jdM (c :: l) ↔ jdM l := fun l => ⟨fun h d hd => h d (List.mem_cons_of_mem _ hd), fun h d hd => by
    rcases List.mem_cons.1 hd with rfl | hd
    ·exact hdc
    ·exact h d hd⟩
   refine jam ?_
   repeat (first | refine jac rfl ?_ | (refine jad rfl ?_; (try simp only [go_sem, h0, h5, jaa, ls, jab, e1, hx, d1, d2, undef, a1]); fail_if_success refine ifC ?_))
   rw [show e + (m + 1) + 39 = e + m + 40 from by omega]
   refine EndsC.mono (ih (i + 1) (by omega) (v := v) (by simp only [go_sem, h0]) (by simp only [go_sem, h2]) (by simp only [go_sem, h3]) (by simp only [go_sem, h4]) (by simp only [go_sem])) ?_
   rintro x r μ' ⟨g1, tm', g2, g3⟩
   refine ⟨g1, tm', g2, ?_⟩
   rcases g3 with ⟨g3, g4⟩ | ⟨g3, g4⟩
   ·exact .inl ⟨(hall _).2 g3, g4⟩
   ·exact .inr ⟨fun h => g3 ((hall _).1 h), g4⟩
end
noncomputable section
open Go.Proofs.YthnglblipoimhaaGreatDoor.NumText (dig unsg isS)
section
set_option linter.defProp false
variable {X : XT} {ev : Code → Rg → Mem → Option (Ax × Rg × Mem)}
def gg101 := go_call (P := pZ) (X := X) (ev := ev) (S := S0) Tryz.func101 rfl rfl
def gg58 := go_call (P := pZ) (X := X) (ev := ev) (S := S0) Tryz.func58 rfl rfl
def gg102 := go_call (P := pZ) (X := X) (ev := ev) (S := S0) Tryz.func102 rfl rfl
end
theorem bigR_ex {X : XT} {g n : Nat} {v : Value} {μ : Mem} (h : Rd μ v n) (hn : n ≤ 50000) (hg : 60200 ≤ g) : ∃ b μ', aFun pZ (jan pZ X S0 g) 150 [v] μ = some (.bool b, μ') ∧ Grow μ μ' := by
 obtain ⟨k, rfl⟩ := gle hg
 obtain ⟨v1, n1, μ1, hr, hn1, hR, hG, _⟩ := jgE (X := X) (g := k + 60197) h (by omega) (by omega)
 have lv := hR.len
 refine ⟨decide (64 < n1), μ1, jaI ?_, hG⟩
 have e1 : ilt 64 (.ofNat n1) = decide (64 < n1) := jaq 64 n1
 refine jag Tryz.func150 rfl rfl (nbl rfl) ?_
 simp only [go_sem, Tryz.ntmps150]
 repeat (first | refine jac rfl ?_ | (refine jad rfl ?_; (try simp only [go_sem, gg79, hr, jaa, lv, jab, e1]); fail_if_success refine ifC ?_))
 refine jaf ?_
 refine ⟨rfl, _, ?_, rfl, rfl⟩
 simp only [go_sem, Tryz.results150]
theorem jke {s : ByteArray} (hl : (bys s).length ≤ 700) {X : XT} {g : Nat} {μ : Mem} (hg : 90000 ≤ g) : ∃ v n e μ', aFun pZ (jan pZ X S0 g) 125 [.string s] μ = some (.tuple #[v, .int .i64 e], μ') ∧ ((0 < (bys s).length ∧ jdM (bys s)) → e = 0 ∨ e = 11) ∧ (¬ (0 < (bys s).length ∧ jdM (bys s)) → e = 13) ∧ Rd μ' v n ∧ Grow μ μ' := by
 obtain ⟨k, rfl⟩ := gle hg
 have ls := jbm s
 have key : EndsF (aFun pZ (jan pZ X S0 (k + 90000)) 125 [.string s] μ) fun w μ' => ∃ v n e, w = .tuple #[v, .int .i64 e] ∧ ((0 < (bys s).length ∧ jdM (bys s)) → e = 0 ∨ e = 11) ∧ (¬ (0 < (bys s).length ∧ jdM (bys s)) → e = 13) ∧ Rd μ' v n ∧ Grow μ μ' := by
  by_cases h0 : (bys s).length = 0
  ·have e1 : ilt (.ofNat (bys s).length) 1 = true := (jbZ _ 1 1 rfl).trans (decide_eq_true (by omega))
   refine jag Tryz.func125 rfl rfl (nbl rfl) ?_
   simp only [go_sem, Tryz.ntmps125]
   repeat (first | refine jac rfl ?_ | (refine jad rfl ?_; (try simp only [go_sem, undef, jaa, ls, jab, e1]); fail_if_success refine ifC ?_))
   refine jaf ?_
   refine ⟨rfl, .tuple #[.slice none 0 0, .int .i64 13], ?_, .slice none 0 0, 0, 13, rfl, fun h => by omega, fun _ => rfl, Rd.nil _, Grow.refl _⟩
   simp only [go_sem, Tryz.results125]
  have e1 : ilt (.ofNat (bys s).length) 1 = false := (jbZ _ 1 1 rfl).trans (decide_eq_false (by omega))
  have e7 : ilt 700 (.ofNat (bys s).length) = false := (jaq 700 _).trans (decide_eq_false (by omega))
  have hR0 : Rd ⟨μ.obs.set μ.next ob0, Nat.add μ.next 1⟩ (.slice (some ⟨μ.next, 0, none⟩) 0 0) 0 := (Lim.empty μ).rd
  have hG0 : Grow μ ⟨μ.obs.set μ.next ob0, Nat.add μ.next 1⟩ := jbp μ _
  refine jag Tryz.func125 rfl rfl (nbl rfl) ?_
  simp only [go_sem, Tryz.ntmps125]
  repeat (first | refine jac rfl ?_ | (refine jad rfl ?_; (try simp only [go_sem, undef, jaa, ls, jab, e1, e7, bs0]); fail_if_success refine ifC ?_))
  rw [show k + 89994 = (k + 89954 - (bys s).length) + (bys s).length + 40 from by omega]
  refine EndsC.mono (rp_check hl (bys s).length 0 (Nat.zero_add _) (v := .slice (some ⟨μ.next, 0, none⟩) 0 0) (by simp only [go_sem]) (by simp only [go_sem]) (by simp only [go_sem]) (by simp only [go_sem]) (by simp only [go_sem]; try rfl)) ?_
  rintro x r μ' ⟨rfl, tm', rfl, ⟨ha, rfl, h0', h2, h3, h4⟩ | ⟨ha, rfl, h2, h3⟩⟩
  ·have ha0 := ha
   rw [List.drop_zero] at ha
   simp only [jaU, reduceIte, jaj]
   repeat (first | refine jac rfl ?_ | (refine jad rfl ?_; (try simp only [go_sem]); fail_if_success refine ifC ?_))
   rw [show k + 89993 = (k + 9993 - (bys s).length) + (bys s).length + 80000 from by omega]
   refine EndsC.mono (rp_loop hl (bys s).length 0 (Nat.zero_add _) ha0 (n := 0) (v := .slice (some ⟨μ.next, 0, none⟩) 0 0) (Nat.zero_le _) hR0 hG0 (by simp only [go_sem, h0']) (by simp only [go_sem, h2]) (by simp only [go_sem, h3]) (by simp only [go_sem, h4]) (by simp only [go_sem]; try rfl)) ?_
   rintro x r μ1 ⟨rfl, hG, tm1, v', n', rfl, hn', hR, h4⟩
   simp only [jaU, reduceIte, jaj]
   obtain ⟨b, μ2, hr, hG2⟩ := bigR_ex (X := X) (g := k + 89992) hR (by omega) (by omega)
   cases b with
   | true =>
     repeat (first | refine jac rfl ?_ | (refine jad rfl ?_; (try simp only [go_sem, h4, gg150, hr]); fail_if_success refine ifC ?_))
     refine jaf ?_
     refine ⟨rfl, .tuple #[.slice none 0 0, .int .i64 11], ?_, .slice none 0 0, 0, 11, rfl, fun _ => .inr rfl, fun h => absurd ⟨by omega, ha⟩ h, Rd.nil _, hG.trans hG2⟩
     simp only [go_sem, Tryz.results125]
   | false =>
     repeat (first | refine jac rfl ?_ | (refine jad rfl ?_; (try simp only [go_sem, h4, gg150, hr]); fail_if_success refine ifC ?_))
     refine jaf ?_
     refine ⟨rfl, .tuple #[v', .int .i64 0], ?_, v', n', 0, rfl, fun _ => .inl rfl, fun h => absurd ⟨by omega, ha⟩ h, hR.grow hG2, hG.trans hG2⟩
     simp only [go_sem, Tryz.results125]
  ·rw [List.drop_zero] at ha
   simp only [jaU]
   refine ⟨rfl, .tuple #[.slice none 0 0, .int .i64 13], ?_, .slice none 0 0, 0, 13, rfl, fun h => absurd h.2 ha, fun _ => rfl, Rd.nil _, hG0⟩
   simp only [go_sem, Tryz.results125]
   rw [h2, h3]
 obtain ⟨w, μ', h1, v, n, e, rfl, h2, h3, h4, h5⟩ := key
 exact ⟨v, n, e, μ', h1, h2, h3, h4, h5⟩
theorem made_ex {X : XT} {g n : Nat} {v : Value} {b : Bool} {μ : Mem} (h : Rd μ v n) (hg : 20 ≤ g) : ∃ b' v' μ', aFun pZ (jan pZ X S0 g) 58 [.bool b, v] μ = some (.agg #[.bool b', v'], μ') ∧ one v' = true ∧ Grow μ μ' := by
 obtain ⟨k, rfl⟩ := gle hg
 have lv := (h.grow (jbp μ obI)).len
 have hG := jbp μ obI
 have key : EndsF (aFun pZ (jan pZ X S0 (k + 20)) 58 [.bool b, v] μ) fun w μ' => ∃ b' v', w = .agg #[.bool b', v'] ∧ one v' = true ∧ Grow μ μ' := by
  by_cases hz : n = 0
  ·have e1 : ieq (.ofNat n) 0 = true := (jaS _ 0 0 rfl).trans (decide_eq_true hz)
   have hs := st_I (x := .bool false) (y := .slice none 0 0) (blkI (μ := μ)) rfl rfl
   refine jag Tryz.func58 rfl rfl (nbl rfl) ?_
   simp only [go_sem, Tryz.ntmps58]
   repeat (first | refine jac rfl ?_ | (refine jad rfl ?_; (try simp only [go_sem, al_I, Nat.add_eq, jaa, lv, jab, e1, jdo, hs]); fail_if_success refine ifC ?_))
   refine jaf ?_
   refine ⟨rfl, .agg #[.bool false, .slice none 0 0], ?_, _, _, rfl, rfl, hG.put_new (Nat.le_refl _)⟩
   simp only [go_sem, Tryz.results58]
   rw [ld_I blkI]
  ·have e1 : ieq (.ofNat n) 0 = false := (jaS _ 0 0 rfl).trans (decide_eq_false hz)
   have hs := st_I (x := .bool b) (y := v) (blkI (μ := μ)) rfl h.one
   have hb : ∀ (r : Rg) (x y : Operand), aev pZ r x = .bool b → aev pZ r y = v → jbG pZ (aev pZ r) 27 #[(0, x), (1, y)] = some (.agg #[.bool b, v]) := fun r x y g1 g2 => ji3 g1 g2 rfl h.one
   refine jag Tryz.func58 rfl rfl (nbl rfl) ?_
   simp only [go_sem, Tryz.ntmps58]
   repeat (first | refine jac rfl ?_ | (refine jad rfl ?_; (try simp only [go_sem, al_I, Nat.add_eq, jaa, lv, jab, e1, hb, hs]); fail_if_success refine ifC ?_))
   refine jaf ?_
   refine ⟨rfl, .agg #[.bool b, v], ?_, _, _, rfl, h.one, hG.put_new (Nat.le_refl _)⟩
   simp only [go_sem, Tryz.results58]
   rw [ld_I blkI]
 obtain ⟨w, μ', h1, b', v', rfl, h2, h3⟩ := key
 exact ⟨b', v', μ', h1, h2, h3⟩
end
noncomputable section
open Go.Proofs.YthnglblipoimhaaGreatDoor.NumText (dig unsg isS)
theorem sf0 : (jaH Tryz.f101) = .seq (ja1 0 (jaH Tryz.f101)) (.seq (ja1 1 (jaH Tryz.f101)) (.seq (ja1 2 (jaH Tryz.f101)) (ja9 3 (jaH Tryz.f101)))) := by kernel_rfl
theorem sf3 : ja9 3 (jaH Tryz.f101) = .seq (ja1 3 (jaH Tryz.f101)) (.seq (ja1 4 (jaH Tryz.f101)) (.seq (ja1 5 (jaH Tryz.f101)) (ja9 6 (jaH Tryz.f101)))) := by kernel_rfl
theorem sf6 : ja9 6 (jaH Tryz.f101) = .ret := by kernel_rfl
attribute [local irreducible] ja9
theorem rp3 {s : ByteArray} (hl : (bys s).length ≤ 700) {X : XT} {k i : Nat} {b : Bool} {tm : T Value} {μ0 μ : Mem} (hG0 : Grow μ0 μ) (hi : μ0.next ≤ i) (hi2 : i < μ.next) (hb : Blk μ i 2 27) (h0 : jak tm 0 = .string (jeF s)) (h2 : jak tm 2 = .pointer (some ⟨i, 0, none⟩)) (h4 : jak tm 4 = .bool b) :
  EndsC (jan pZ X S0 (k + 92000) (ja9 3 (jaH Tryz.f101)) ⟨37, tm, [], none⟩ μ) (FinE s μ0 i) := by
 have hb1 : bys (jeF s) = unsg (bys s) := unsgS_bys s
 have hl1 : (bys (jeF s)).length ≤ 700 := by rw [hb1]; have := unsg_len (bys s); omega
 obtain ⟨v, n, e, μ1, hr, he1, he2, hR, hG⟩ := jke hl1 (X := X) (g := k + 91998) (μ := μ) (by omega)
 rw [hb1] at he1 he2
 have hB1 : Blk μ1 i 2 27 := hb.of_get (hG.2 i hi2)
 by_cases hI : isInt s
 ·rcases he1 hI with rfl | rfl
  ·have z1 : ieq 0 0 = true := rfl
   obtain ⟨b', v', μ2, hr2, hv', hG2⟩ := made_ex (b := b) (X := X) (g := k + 91996) hR (by omega)
   have hi1 : i < μ1.next := Nat.lt_of_lt_of_le hi2 hG.1
   have hB2 : Blk μ2 i 2 27 := hB1.of_get (hG2.2 i hi1)
   have hst := st_I (x := .bool b') (y := v') hB2 rfl hv'
   rw [sf3]
   repeat (first | refine jac rfl ?_ | (refine jad rfl ?_; (try simp only [go_sem, h0, h2, h4, gg125, hr, z1, gg58, hr2, hst]); fail_if_success refine ifC ?_))
   rw [sf6]
   refine jaf ?_
   exact ⟨by trivial, ((hG0.trans hG).trans hG2).put_new hi, _, b', v', 0, rfl, (by simp only [go_sem, h2]), (by simp only [go_sem]), ld_I hB2, fun _ => .inl rfl, fun h => absurd hI h, hv'⟩
  ·have z1 : ieq 11 0 = false := rfl
   have hst := st_I (x := .bool false) (y := .slice none 0 0) hB1 rfl rfl
   rw [sf3]
   repeat (first | refine jac rfl ?_ | (refine jad rfl ?_; (try simp only [go_sem, h0, h2, h4, gg125, hr, z1, jdo, hst]); fail_if_success refine ifC ?_))
   refine jaf ?_
   exact ⟨by trivial, (hG0.trans hG).put_new hi, _, false, .slice none 0 0, 11, rfl, (by simp only [go_sem, h2]), (by simp only [go_sem]), ld_I hB1, fun _ => .inr rfl, fun h => absurd hI h, rfl⟩
 ·obtain rfl := he2 hI
  have z1 : ieq 13 0 = false := rfl
  have hst := st_I (x := .bool false) (y := .slice none 0 0) hB1 rfl rfl
  rw [sf3]
  repeat (first | refine jac rfl ?_ | (refine jad rfl ?_; (try simp only [go_sem, h0, h2, h4, gg125, hr, z1, jdo, hst]); fail_if_success refine ifC ?_))
  refine jaf ?_
  exact ⟨by trivial, (hG0.trans hG).put_new hi, _, false, .slice none 0 0, 13, rfl, (by simp only [go_sem, h2]), (by simp only [go_sem]), ld_I hB1, fun h => absurd h hI, fun _ => rfl, rfl⟩
theorem refInt_ex {s : ByteArray} (hl : (bys s).length ≤ 700) {X : XT} {g : Nat} {μ : Mem} (hg : 92500 ≤ g) : ∃ b v e μ', aFun pZ (jan pZ X S0 g) 101 [.string s] μ = some (.tuple #[.agg #[.bool b, v], .int .i64 e], μ') ∧ (isInt s → e = 0 ∨ e = 11) ∧ (¬ isInt s → e = 13) ∧ one v = true ∧ Grow μ μ' := by
 obtain ⟨k, rfl⟩ := gle hg
 have ls := jbm s
 have hG1 : Grow μ ⟨μ.obs.set μ.next obI, μ.next + 1⟩ := jbp μ obI
 have key : EndsF (aFun pZ (jan pZ X S0 (k + 92500)) 101 [.string s] μ) fun w μ' => ∃ b v e, w = .tuple #[.agg #[.bool b, v], .int .i64 e] ∧ (isInt s → e = 0 ∨ e = 11) ∧ (¬ isInt s → e = 13) ∧ one v = true ∧ Grow μ μ' := by
  have fin : ∀ x r μ', FinE s μ μ.next x r μ' → retQ pZ Tryz.f101 (fun w μ' => ∃ b v e, w = .tuple #[.agg #[.bool b, v], .int .i64 e] ∧ (isInt s → e = 0 ∨ e = 11) ∧ (¬ isInt s → e = 13) ∧ one v = true ∧ Grow μ μ') x r μ' := by
   rintro x r μ' ⟨rfl, g1, tm, b, v, e, rfl, g2, g3, g4, g5, g6, g7⟩
   refine ⟨rfl, .tuple #[.agg #[.bool b, v], .int .i64 e], ?_, b, v, e, rfl, g5, g6, g7, g1⟩
   simp only [go_sem, Tryz.results101]
   simp only [g2, g3, g4]
  refine jag Tryz.func101 rfl rfl (nbl rfl) ?_
  simp only [go_sem, Tryz.ntmps101]
  change EndsC (jan pZ X S0 _ (jaH Tryz.f101) _ _) _
  rw [sf0]
  refine jah ?_
  refine jaA ?_ ?_
  ·rfl
  simp only [go_sem, al_I, Nat.add_eq]
  refine jah ?_
  refine jaA ?_ ?_
  ·rfl
  simp only [go_sem]
  cases h : bys s with
  | nil =>
    have hu : jeF s = s := by unfold jeF; rw [h]
    have e1 : ilt 0 (.ofNat (bys s).length) = false := (jaq 0 _).trans (decide_eq_false (by rw [h]; decide))
    refine jah ?_
    refine jah ?_
    refine jae rfl ?_
    (repeat (first | (refine jal ?_ rfl ?_; (focus (simp only [go_sem, undef, jaa, ls, jab, e1]; done))) | (refine jai (v := ?_) (μ' := ?_) ?_ ?_ rfl ?_; rotate_left 2; (focus (first | rfl | (simp only [go_sem, undef, jaa, ls, jab, e1]; done))); (focus (simp only [go_sem, undef, jaa, ls, jab, e1]; (try exact rfl); done)))))
    simp only [go_sem]
    refine jaC ?_ ?_
    ·simp only [go_sem]
    refine jbJ ?_
    simp only [jaj]
    refine EndsC.mono (rp3 hl (k := k + 497) (b := false) hG1 (Nat.le_refl _) (Nat.lt_succ_self _) blkI (by rw [hu]; simp only [go_sem]) (by simp only [go_sem]) (by simp only [go_sem])) fin
  | cons c l =>
    have e1 : ilt 0 (.ofNat (bys s).length) = true := (jaq 0 _).trans (decide_eq_true (by rw [h]; exact Nat.succ_pos _))
    have hx : ∀ (r : Rg) (x : Operand), aev pZ r x = .string s → jbC pZ (aev pZ r) 9 x (.const (.int .i64 0)) = some (.int .u8 (.ofNat c)) := fun r x h1 => at0 (kd := .i64) h h1 rfl
    have hsl : ∀ (r : Rg) (x : Operand), aev pZ r x = .string s → jbR pZ (aev pZ r) 9 x (some (.const (.int .i64 1))) none none = some (.string (jgI s 1)) := fun r x h1 => jgd (k := 1) (kd := .i64) h1 rfl (by rw [h]; exact Nat.succ_le_succ (Nat.zero_le _))
    by_cases h43 : c = 43
    ·have s1 : ieq (.ofNat c) 43 = true := (jaS _ 43 43 rfl).trans (decide_eq_true h43)
     have hu : jeF s = jgI s 1 := by unfold jeF; rw [h]; simp only; rw [if_pos (by rw [h43]; decide)]
     have e45 : ieq (.ofNat c) 45 = false := (jaS _ 45 45 rfl).trans (by rw [h43]; rfl)
     refine jah ?_
     refine jah ?_
     refine jae rfl ?_
     (repeat (first | (refine jal ?_ rfl ?_; (focus (simp only [go_sem, undef, jaa, ls, jab, e1, hx, s1]; done))) | (refine jai (v := ?_) (μ' := ?_) ?_ ?_ rfl ?_; rotate_left 2; (focus (first | rfl | (simp only [go_sem, undef, jaa, ls, jab, e1, hx, s1]; done))); (focus (simp only [go_sem, undef, jaa, ls, jab, e1, hx, s1]; (try exact rfl); done)))))
     simp only [go_sem]
     refine jbD ?_ ?_
     ·simp only [go_sem]
     repeat (first | refine jac rfl ?_ | (refine jad rfl ?_; (try simp only [go_sem, hx, e45, hsl]); fail_if_success refine ifC ?_))
     refine EndsC.mono (rp3 hl (k := k + 497) (b := false) hG1 (Nat.le_refl _) (Nat.lt_succ_self _) blkI (by rw [hu]; simp only [go_sem]) (by simp only [go_sem]) (by simp only [go_sem])) fin
    have s1 : ieq (.ofNat c) 43 = false := (jaS _ 43 43 rfl).trans (decide_eq_false h43)
    by_cases h45 : c = 45
    ·have s2 : ieq (.ofNat c) 45 = true := (jaS _ 45 45 rfl).trans (decide_eq_true h45)
     have hu : jeF s = jgI s 1 := by unfold jeF; rw [h]; simp only; rw [if_pos (by rw [h45]; decide)]
     have e45 : ieq (.ofNat c) 45 = true := (jaS _ 45 45 rfl).trans (by rw [h45]; rfl)
     refine jah ?_
     refine jah ?_
     refine jae rfl ?_
     iterate 13 (refine jai (by first | rfl | (simp only [go_sem, undef, jaa, ls, jab, e1, hx, s1, s2])) (by simp only [go_sem, undef, jaa, ls, jab, e1, hx, s1, s2]; try exact rfl) rfl ?_)
     simp only [go_sem]
     refine jbD ?_ ?_
     ·simp only [go_sem]
     repeat (first | refine jac rfl ?_ | (refine jad rfl ?_; (try simp only [go_sem, hx, e45, hsl]); fail_if_success refine ifC ?_))
     refine EndsC.mono (rp3 hl (k := k + 497) (b := true) hG1 (Nat.le_refl _) (Nat.lt_succ_self _) blkI (by rw [hu]; simp only [go_sem]) (by simp only [go_sem]) (by simp only [go_sem])) fin
    have s2 : ieq (.ofNat c) 45 = false := (jaS _ 45 45 rfl).trans (decide_eq_false h45)
    have hu : jeF s = s := by unfold jeF; rw [h]; simp only; rw [if_neg (by simp [isS, h43, h45])]
    refine jah ?_
    refine jah ?_
    refine jae rfl ?_
    iterate 13 (refine jai (by first | rfl | (simp only [go_sem, undef, jaa, ls, jab, e1, hx, s1, s2])) (by simp only [go_sem, undef, jaa, ls, jab, e1, hx, s1, s2]; try exact rfl) rfl ?_)
    simp only [go_sem]
    refine jaC ?_ ?_
    ·simp only [go_sem]
    refine jbJ ?_
    simp only [jaj]
    refine EndsC.mono (rp3 hl (k := k + 497) (b := false) hG1 (Nat.le_refl _) (Nat.lt_succ_self _) blkI (by rw [hu]; simp only [go_sem]) (by simp only [go_sem]) (by simp only [go_sem])) fin
 obtain ⟨w, μ', h1, b, v, e, rfl, h2, h3, h4, h5⟩ := key
 exact ⟨b, v, e, μ', h1, h2, h3, h4, h5⟩
end
noncomputable section
theorem out_ex {X : XT} {g : Nat} {p x : Value} {e : Int} {μ : Mem} (hp : one p = true) (hx : one x = true) (he : e = 0 ∨ e = 11) (hg : 20 ≤ g) : ∃ a b c d μ', aFun pZ (jan pZ X S0 g) 102 [.agg #[p, x], .int .i64 e] μ = some (.tuple #[.agg #[a, b, c, d], .int .i64 e], μ') ∧ (one a = true ∧ one b = true ∧ one c = true ∧ one d = true) ∧ Grow μ μ' := by
 obtain ⟨k, rfl⟩ := gle hg
 obtain ⟨μ1, hμ1⟩ : ∃ μ1 : Mem, μ1 = ⟨μ.obs.set μ.next (obIv p x), μ.next + 1⟩ := ⟨_, rfl⟩
 have hN : Blk ⟨μ1.obs.set μ1.next obN, μ1.next + 1⟩ μ1.next 4 29 := blkN
 have hst := st_N (a := .bool false) (b := .float .f64 0) hN rfl rfl hp hx
 have hst0 := st_N (a := .bool false) (b := .float .f64 0) (x := .bool false) (y := .slice none 0 0) hN rfl rfl rfl rfl
 have hld := ld_N (a := .bool false) (b := .float .f64 0) (x := p) (y := x) hN
 have hld0 := ld_N (a := .bool false) (b := .float .f64 0) (x := .bool false) (y := .slice none 0 0) hN
 have hi : jbX pZ ⟨μ1.obs.set μ1.next obN, μ1.next + 1⟩ 27 (.pointer (some ⟨μ.next, 0, none⟩)) = some (.agg #[p, x]) := by
  have h0 : μ1.obs.get μ.next = some (obIv p x) := by rw [hμ1]; show T.get _ _ = _; rw [T.get_set, if_pos rfl]
  have h1 : (⟨μ1.obs.set μ1.next obN, μ1.next + 1⟩ : Mem).obs.get μ.next = some (obIv p x) := by
   show T.get (T.set _ _ _) _ = _
   rw [T.get_set, if_neg (by rw [hμ1]; show μ.next ≠ μ.next + 1; omega), h0]
  exact (Has.new (l := [p, x]) h1).load Tryz.underlying27 jkz rfl
 have hG : Grow μ μ1 := by rw [hμ1]; exact jbp _ _
 have hb : ∀ (r : Rg) (y : Operand), aev pZ r y = .agg #[p, x] → jbG pZ (aev pZ r) 29 #[(2, y)] = some (.agg #[.bool false, .float .f64 0, p, x]) := fun r y g => jg6 g
 rcases he with rfl | rfl
 ·refine ⟨.bool false, .float .f64 0, p, x, _, jaI ?_, ⟨rfl, rfl, hp, hx⟩, (hG.trans (jbp μ1 obN)).put_new (o := 0) (vs := [.bool false, .float .f64 0, p, x]) hG.1⟩
  have z1 : ieq 0 0 = true := rfl
  rw [hμ1] at hst hld hi ⊢
  refine jag Tryz.func102 rfl rfl (nbl rfl) ?_
  simp only [go_sem, Tryz.ntmps102]
  repeat (first | refine jac rfl ?_ | (refine jad rfl ?_; (try simp only [go_sem, box_I, al_N, Nat.add_eq, z1, hi, hb, hst]); fail_if_success refine ifC ?_))
  refine jaf ?_
  refine ⟨rfl, _, ?_, rfl, rfl⟩
  simp only [go_sem, Tryz.results102]
  rw [hld]
 ·refine ⟨.bool false, .float .f64 0, .bool false, .slice none 0 0, _, jaI ?_, ⟨rfl, rfl, rfl, rfl⟩, (hG.trans (jbp μ1 obN)).put_new (o := 0) (vs := [.bool false, .float .f64 0, .bool false, .slice none 0 0]) hG.1⟩
  have z1 : ieq 11 0 = false := rfl
  rw [hμ1] at hst0 hld0 ⊢
  refine jag Tryz.func102 rfl rfl (nbl rfl) ?_
  simp only [go_sem, Tryz.ntmps102]
  repeat (first | refine jac rfl ?_ | (refine jad rfl ?_; (try simp only [go_sem, box_I, al_N, Nat.add_eq, z1, jdQ, hst0]); fail_if_success refine ifC ?_))
  refine jaf ?_
  refine ⟨rfl, _, ?_, rfl, rfl⟩
  simp only [go_sem, Tryz.results102]
  rw [hld0]
theorem jiv {s : ByteArray} (hl : (bys s).length ≤ 700) {X : XT} {g : Nat} {μ : Mem} (hX : jbx X) (hX2 : jbT X) (hL : Lay μ) (hg : 95000 ≤ g) :
  ∃ a b c d e μ', aFun pZ (jan pZ X S0 g) 81 [.string s] μ = some (.tuple #[.agg #[a, b, c, d], .int .i64 e], μ') ∧ (one a = true ∧ one b = true ∧ one c = true ∧ one d = true) ∧ (isInt s → e = 0 ∨ e = 11) ∧ (¬ isInt s → e = if jgW s then 0 else 13) ∧ Grow μ μ' := by
 obtain ⟨k, rfl⟩ := gle hg
 have hG1 : Grow μ ⟨μ.obs.set μ.next obN, μ.next + 1⟩ := jbp μ obN
 obtain ⟨b, v, e, μ2, hr, he1, he2, hv, hG2⟩ := refInt_ex hl (X := X) (g := k + 94997) (μ := ⟨μ.obs.set μ.next obN, μ.next + 1⟩) (by omega)
 have hB2 : Blk μ2 μ.next 4 29 := blkN.of_get (hG2.2 μ.next (Nat.lt_succ_self _))
 have hst1 := st_I (x := .bool b) (y := v) (blkI (μ := μ2)) rfl hv
 have hld1 := ld_I (x := .bool b) (y := v) (blkI (μ := μ2))
 obtain ⟨μ4, hμ4⟩ : ∃ μ4, μ4 = putL ⟨μ2.obs.set μ2.next obI, μ2.next + 1⟩ μ2.next 0 [.bool b, v] := ⟨_, rfl⟩
 have hG4 : Grow μ2 μ4 := by rw [hμ4]; exact (jbp μ2 obI).put_new (Nat.le_refl _)
 have hlt2 : μ.next < μ2.next := Nat.lt_of_lt_of_le (Nat.lt_succ_self _) hG2.1
 have hB4 : Blk μ4 μ.next 4 29 := hB2.of_get (hG4.2 μ.next hlt2)
 have hlt4 : μ.next < μ4.next := Nat.lt_of_lt_of_le hlt2 hG4.1
 rw [← hμ4] at hst1 hld1
 have hGa : Grow μ μ4 := (hG1.trans hG2).trans hG4
 have key : EndsF (aFun pZ (jan pZ X S0 (k + 95000)) 81 [.string s] μ) fun w μ' => ∃ a b c d e, w = .tuple #[.agg #[a, b, c, d], .int .i64 e] ∧ (one a = true ∧ one b = true ∧ one c = true ∧ one d = true) ∧ (isInt s → e = 0 ∨ e = 11) ∧ (¬ isInt s → e = if jgW s then 0 else 13) ∧ Grow μ μ' := by
  by_cases hI : isInt s
  ·obtain ⟨a, b', c, d, μ5, hr5, ⟨o1, o2, o3, o4⟩, hG5⟩ := out_ex (p := .bool b) (x := v) (e := e) (X := X) (g := k + 94993) (μ := μ4) rfl hv (he1 hI) (by omega)
   have hB5 : Blk μ5 μ.next 4 29 := hB4.of_get (hG5.2 μ.next hlt4)
   have hst := st_N hB5 o1 o2 o3 o4
   rcases he1 hI with rfl | rfl
   ·have z1 : ieq 0 0 = true := rfl
    refine jag Tryz.func81 rfl rfl (nbl rfl) ?_
    simp only [go_sem, Tryz.ntmps81]
    repeat (first | refine jac rfl ?_ | (refine jad rfl ?_; (try simp only [go_sem, undef, al_N, Nat.add_eq, gg101, hr, al_I, hst1, z1, hld1, gg102, hr5, hst]); fail_if_success refine ifC ?_))
    refine jaf ?_
    refine ⟨rfl, .tuple #[.agg #[a, b', c, d], .int .i64 0], ?_, _, _, _, _, _, rfl, ⟨o1, o2, o3, o4⟩, fun _ => .inl rfl, fun h => absurd hI h, (hGa.trans hG5).put_new (Nat.le_refl _)⟩
    simp only [go_sem, Tryz.results81]
    rw [ld_N hB5]
   ·have z1 : ieq 11 0 = false := rfl
    have z2 : ieq 11 11 = true := rfl
    refine jag Tryz.func81 rfl rfl (nbl rfl) ?_
    simp only [go_sem, Tryz.ntmps81]
    repeat (first | refine jac rfl ?_ | (refine jad rfl ?_; (try simp only [go_sem, undef, al_N, Nat.add_eq, gg101, hr, al_I, hst1, z1, z2, hld1, gg102, hr5, hst]); fail_if_success refine ifC ?_))
    refine jaf ?_
    refine ⟨rfl, .tuple #[.agg #[a, b', c, d], .int .i64 11], ?_, _, _, _, _, _, rfl, ⟨o1, o2, o3, o4⟩, fun _ => .inr rfl, fun h => absurd hI h, (hGa.trans hG5).put_new (Nat.le_refl _)⟩
    simp only [go_sem, Tryz.results81]
    rw [ld_N hB5]
  ·obtain rfl := he2 hI
   have z1 : ieq 13 0 = false := rfl
   have z2 : ieq 13 11 = false := rfl
   obtain ⟨f, μ5, hr5, hG5⟩ := refFlo_ex hl (X := X) (g := k + 94995) (μ := μ4) hX hX2 (hL.grow hGa) (by omega)
   cases hf : jgW s with
   | true =>
     rw [hf, if_pos rfl] at hr5
     have z3 : ieq 0 0 = true := rfl
     obtain ⟨_, ⟨μ6, hr6, hG6⟩⟩ := flo_num (f := f) (X := X) (g := k + 94993) (μ := μ5) (by omega)
     have hB6 : Blk μ6 μ.next 4 29 := hB4.of_get ((hG5.trans hG6).2 μ.next hlt4)
     have hst := st_N (a := .bool true) (b := .float .f64 f) (x := .bool false) (y := .slice none 0 0) hB6 rfl rfl rfl rfl
     refine jag Tryz.func81 rfl rfl (nbl rfl) ?_
     simp only [go_sem, Tryz.ntmps81]
     repeat (first | refine jac rfl ?_ | (refine jad rfl ?_; (try simp only [go_sem, undef, al_N, Nat.add_eq, gg101, hr, al_I, hst1, z1, z2, gg103, hr5, z3, gg104, hr6, hst]); fail_if_success refine ifC ?_))
     refine jaf ?_
     refine ⟨rfl, .tuple #[.agg #[.bool true, .float .f64 f, .bool false, .slice none 0 0], .int .i64 0], ?_, _, _, _, _, _, rfl, ⟨rfl, rfl, rfl, rfl⟩, fun h => absurd h hI, fun _ => rfl, ((hGa.trans hG5).trans hG6).put_new (Nat.le_refl _)⟩
     simp only [go_sem, Tryz.results81]
     rw [ld_N hB6]
   | false =>
     rw [hf, if_neg (by decide)] at hr5
     have z3 : ieq 31 0 = false := rfl
     have hB5 : Blk μ5 μ.next 4 29 := hB4.of_get (hG5.2 μ.next hlt4)
     have hst := st_N (a := .bool false) (b := .float .f64 0) (x := .bool false) (y := .slice none 0 0) hB5 rfl rfl rfl rfl
     refine jag Tryz.func81 rfl rfl (nbl rfl) ?_
     simp only [go_sem, Tryz.ntmps81]
     repeat (first | refine jac rfl ?_ | (refine jad rfl ?_; (try simp only [go_sem, undef, al_N, Nat.add_eq, gg101, hr, al_I, hst1, z1, z2, gg103, hr5, z3, jdQ, hst]); fail_if_success refine ifC ?_))
     refine jaf ?_
     refine ⟨rfl, .tuple #[.agg #[.bool false, .float .f64 0, .bool false, .slice none 0 0], .int .i64 13], ?_, _, _, _, _, _, rfl, ⟨rfl, rfl, rfl, rfl⟩, fun h => absurd h hI, fun _ => rfl, (hGa.trans hG5).put_new (Nat.le_refl _)⟩
     simp only [go_sem, Tryz.results81]
     rw [ld_N hB5]
 obtain ⟨w, μ', h1, a, b, c, d, e, rfl, h2, h3, h4, h5⟩ := key
 exact ⟨a, b, c, d, e, μ', h1, h2, h3, h4, h5⟩
end
noncomputable section
def jiF (s : ByteArray) : Bool := by
 classical exact if isInt s then false else !jgW s
theorem jkE {s : ByteArray} {e : Int} (h1 : isInt s → e = 0 ∨ e = 11) (h2 : ¬ isInt s → e = if jgW s then 0 else 13) : ieq e 13 = jiF s := by
 unfold jiF
 by_cases hI : isInt s
 ·rw [if_pos hI]
  rcases h1 hI with rfl | rfl <;> rfl
 ·rw [if_neg hI]
  have h2 := h2 hI
  cases hf : jgW s with
  | true => rw [hf, if_pos rfl] at h2; subst h2; rfl
  | false => rw [hf, if_neg (by decide)] at h2; subst h2; rfl
theorem rn_yes {s : ByteArray} (h : Head s ∧ jeD s) {X : XT} {g : Nat} {μ : Mem} (hX : jbx X) (hX2 : jbT X) (hL : Lay μ) (hg : 100000 ≤ g) : ∃ μ', aFun pZ (jan pZ X S0 g) 53 [.string s] μ = some (.bool (jiF s), μ') ∧ Grow μ μ' := by
 obtain ⟨k, rfl⟩ := gle hg
 obtain ⟨⟨z1, z2, z3⟩, hp⟩ := h
 have ls := jbm s
 have e1 : ilt (.ofNat (bys s).length) 1 = false := (jbZ _ 1 1 rfl).trans (decide_eq_false (by omega))
 have e2 : ilt 40 (.ofNat (bys s).length) = false := (jaq 40 _).trans (decide_eq_false (by omega))
 have e3 : aStr .eql s ⟨List.toArray [46]⟩ = some (.bool false) := (str_eq s dotS).trans (by rw [decide_eq_false z3])
 obtain ⟨a, b, c, d, e, μ1, hr, ⟨o1, o2, o3, o4⟩, he1, he2, hG⟩ := jiv (s := s) (by omega) (X := X) (g := k + 99995) (μ := μ) hX hX2 hL (by omega)
 have hst := st_N (blkN (μ := μ1)) o1 o2 o3 o4
 have hq := jkE he1 he2
 have key : EndsF (aFun pZ (jan pZ X S0 (k + 100000)) 53 [.string s] μ) fun w μ' => w = .bool (jiF s) ∧ Grow μ μ' := by
  refine jag Tryz.func53 rfl rfl (nbl rfl) ?_
  simp only [go_sem, Tryz.ntmps53]
  refine jah ?_
  refine jaA ?_ ?_
  ·rfl
  simp only [go_sem]
  refine jah ?_
  refine jah ?_
  refine jae rfl ?_
  iterate 12 (refine jai (by first | rfl | (simp only [go_sem, undef, jaa, ls, jab, e1, e2, e3])) (by simp only [go_sem, undef, jaa, ls, jab, e1, e2, e3]; try exact rfl) rfl ?_)
  simp only [go_sem]
  repeat (first | refine jac rfl ?_ | (refine jad rfl ?_; (try simp only [go_sem, jaa, ls, jab]); fail_if_success refine ifC ?_))
  rw [show k + 99995 = (k + 99965 - (bys s).length) + (bys s).length + 30 from by omega]
  refine EndsC.mono (rn_loop (by omega) (bys s).length 0 (Nat.zero_add _) (by simp only [go_sem]) (by simp only [go_sem]) (by simp only [go_sem]; try rfl)) ?_
  rintro x r μ' ⟨rfl, tm', rfl, h0, h2, ⟨h5, rfl⟩ | ⟨⟨c', hc1, hc2⟩, -⟩⟩
  ·simp only [jaU, reduceIte, jaj]
   repeat (first | refine jac rfl ?_ | (refine jad rfl ?_; (try simp only [go_sem, h0, gg81, hr, al_N, Nat.add_eq, hst, hq]); fail_if_success refine ifC ?_))
   refine jaf ?_
   refine ⟨rfl, .bool (jiF s), ?_, rfl, (hG.trans (jbp μ1 obN)).put_new hG.1⟩
   simp only [go_sem, Tryz.results53]
  ·rw [List.drop_zero] at hc1
   rw [hp c' hc1] at hc2
   cases hc2
 obtain ⟨w, μ', h1, rfl, h2⟩ := key
 exact ⟨μ', h1, h2⟩
end
noncomputable section
structure Pins (J : Nat → Ev.Loc) (W : World) (b : Nat) (o : Ob) : Prop where
 live : o ≠ .dead
 bnd : b < W.heap.size
 ob : ObRel J W b 0 o
 back : ∀ (J' : Nat → Ev.Loc) (w' : World), ObRel J' w' b 0 o → w'.heap[b]? = W.heap[b]?
theorem pins_pin {J : Nat → Ev.Loc} {W : World} {b : Nat} {l : List Value} {c : Array Value} {ty : TypeId} {fz : Nat × Nat} (h : W.heap[b]? = some (.cells c ty fz)) (hv : ARel J l.toArray c) : Pins J W b (.pin l c ty fz) :=
 ⟨by simp, (Array.getElem?_eq_some_iff.1 h).1, ⟨h, hv⟩, fun J' w' (h' : _ ∧ _) => h'.1.trans h.symm⟩
structure HandsP (P : Program) (W : World) (nx : Nat) (J : Nat → Ev.Loc) (t : T Ob) : Prop where
 loc : ∀ i, J i = jbr nx i ∨ ∃ b o, J i = .at b 0 ∧ i ≠ P.globals.size ∧ i < nx ∧ (i < P.globals.size → b = i) ∧ t.get i = some o ∧ Pins J W b o
 inj : ∀ i j b, J i = .at b 0 → J j = .at b 0 → i = j
 only : ∀ i o, t.get i = some o → ∃ b, J i = .at b 0
theorem jjw (nx i b s : Nat) : jbr nx i ≠ .at b s := fun e => by unfold jbr at e; split at e <;> cases e
theorem jhS {P : Program} {X : XT} (hN : jcX P) (hX : XOk P X) (hm : P.follows .mixedOrders = true) {S : List (FuncId × LK)} (hS : SumsOk P S) {k : Nat} {g : FuncId} {nx : Nat} (hnx : P.globals.size < nx) {W : World} {J : Nat → Ev.Loc} {t : T Ob} (h : HandsP P W nx J t)
  {args : List Value} {args' : Array Value} (ha : ARel J args.toArray args') {v : Value} {μ' : Mem} (hrun : aFun P (jan P X S k) g args ⟨t, nx⟩ = some (v, μ')) (hk : ∀ i, i < nx → μ'.obs.get i = t.get i) (hpv : jaP 5 v = true) :
  Calls P g args' W fun e W' => e = .returned v ∧ Same W W' := by
 have at0 : ∀ {i b s}, J i = .at b s → s = 0 ∧ i ≠ P.globals.size ∧ i < nx ∧ (i < P.globals.size → b = i) ∧ ∃ o, t.get i = some o ∧ Pins J W b o := fun {i b s} e => by
  rcases h.loc i with e1 | ⟨b1, o1, e1, h1, h2, h3, h4, h5⟩
  ·rw [e1] at e; exact absurd e (jjw _ _ _ _)
  ·rw [e1] at e; cases e; exact ⟨rfl, h1, h2, h3, o1, h4, h5⟩
 have nk : ∀ i, (i = P.globals.size ∨ nx ≤ i) → J i = jbr nx i := fun i hi => by
  rcases h.loc i with e1 | ⟨b1, o1, e1, h1, h2, _⟩
  ·exact e1
  ·omega
 have hr : Rel J ⟨t, nx⟩ W := by
  refine ⟨fun i j b s t2 e1 e2 => ?_, fun i b s e => ?_, fun i hi => ?_, fun i o ho _ => ?_⟩
  ·obtain ⟨rfl, _⟩ := at0 e1
   obtain ⟨rfl, _⟩ := at0 e2
   exact h.inj i j b e1 e2
  ·obtain ⟨_, _, _, _, o, _, h4⟩ := at0 e
   exact h4.bnd
  ·rw [nk i (.inr hi)]; exact if_neg (Nat.not_lt.2 hi)
  ·obtain ⟨b, e⟩ := h.only i o ho
   have ho' : t.get i = some o := ho
   obtain ⟨_, _, _, _, o2, h3, h4⟩ := at0 e
   rw [h3] at ho'
   cases ho'
   exact ⟨b, 0, e, h4.ob⟩
 have hB : Base P J := by
  refine ⟨fun g hg => ?_, ?_⟩
  ·rcases h.loc g with e1 | ⟨b1, o1, e1, h1, h2, h3, _⟩
   ·exact .inr (by rw [e1]; exact if_pos (Nat.lt_trans hg hnx))
   ·obtain rfl := h3 hg
    exact .inl ⟨0, e1⟩
  ·rw [nk _ (.inl rfl)]; exact if_pos hnx
 refine callsIn_wide.1 (jgq (jg4 hN hX hm hS k).1 g args _ _ μ' hrun _ W args' hr hB ha 0 _ fun J' v' w' h1 h2 h3 => ?_)
 refine ⟨by rw [jek 5 hpv h1], h3.os, h3.output, h3.size, fun b2 hb2 => ?_, h3.tape⟩
 by_cases hex : ∃ i, J i = .at b2 0
 ·obtain ⟨i, e⟩ := hex
  obtain ⟨_, _, hi, _, o, h5, h6⟩ := at0 e
  obtain ⟨b3, s3, hJ, hob⟩ := h2.obj i _ ((hk i hi).trans h5) h6.live
  rcases h3.at_ _ _ _ e with e3 | ⟨e3, _⟩
  ·rw [e3] at hJ; cases hJ; exact h6.back J' w' hob
  ·rw [e3] at hJ; cases hJ
 ·refine h3.frame b2 hb2 fun i s e => ?_
  obtain ⟨rfl, _⟩ := at0 e
  exact absurd ⟨i, e⟩ hex
abbrev Ent := Nat × Nat × Ob
def jE (nx : Nat) : List Ent → Nat → Ev.Loc
 | [], i => jbr nx i
 | x :: r, i => if i = x.1 then .at x.2.1 0 else jE nx r i
def tE : List Ent → T Ob
 | [] => .e
 | x :: r => (tE r).set x.1 x.2.2
theorem jE_at {nx : Nat} : ∀ {E : List Ent} {i b s : Nat}, jE nx E i = .at b s → s = 0 ∧ ∃ o, (i, b, o) ∈ E
 | [], i, b, s, h => absurd h (jjw _ _ _ _)
 | x :: r, i, b, s, h => by
   unfold jE at h
   by_cases g : i = x.1
   ·rw [if_pos g] at h; cases h; subst g; exact ⟨rfl, x.2.2, List.mem_cons_self ..⟩
   ·rw [if_neg g] at h
    obtain ⟨h1, o, h2⟩ := jE_at h
    exact ⟨h1, o, List.mem_cons_of_mem _ h2⟩
theorem jiO {nx : Nat} : ∀ {E : List Ent} {i : Nat}, (∀ b, jE nx E i ≠ .at b 0) → jE nx E i = jbr nx i
 | [], i, _ => rfl
 | x :: r, i, h => by
   unfold jE at h ⊢
   by_cases g : i = x.1
   ·exact absurd (if_pos g) (h x.2.1)
   ·rw [if_neg g]; exact jiO fun b e => h b ((if_neg g).trans e)
theorem jE_mem {nx : Nat} : ∀ {E : List Ent}, (E.map (·.1)).Nodup → ∀ x ∈ E, jE nx E x.1 = .at x.2.1 0
 | [], _, x, h => by cases h
 | y :: r, hn, x, h => by
   rw [List.map_cons, List.nodup_cons] at hn
   unfold jE
   rcases List.mem_cons.1 h with rfl | h
   ·exact if_pos rfl
   ·rw [if_neg (show x.1 ≠ y.1 from fun e => hn.1 (e ▸ List.mem_map_of_mem (f := fun z : Ent => z.1) h))]
    exact jE_mem hn.2 x h
theorem jjm : ∀ {E : List Ent}, (E.map (·.1)).Nodup → ∀ x ∈ E, (tE E).get x.1 = some x.2.2
 | [], _, x, h => by cases h
 | y :: r, hn, x, h => by
   rw [List.map_cons, List.nodup_cons] at hn
   unfold tE
   rcases List.mem_cons.1 h with rfl | h
   ·rw [T.get_set, if_pos rfl]
   ·rw [T.get_set, if_neg (show x.1 ≠ y.1 from fun e => hn.1 (e ▸ List.mem_map_of_mem (f := fun z : Ent => z.1) h))]
    exact jjm hn.2 x h
theorem tE_some : ∀ {E : List Ent} {i : Nat} {o : Ob}, (tE E).get i = some o → ∃ x ∈ E, x.1 = i
 | [], i, o, h => by unfold tE at h; rw [T.get_e] at h; cases h
 | y :: r, i, o, h => by
   unfold tE at h
   rw [T.get_set] at h
   by_cases g : i = y.1
   ·exact ⟨y, List.mem_cons_self .., g.symm⟩
   ·rw [if_neg g] at h
    obtain ⟨x, h1, h2⟩ := tE_some h
    exact ⟨x, List.mem_cons_of_mem _ h1, h2⟩
theorem jgh : ∀ {E : List Ent}, (E.map (·.2.1)).Nodup → ∀ {x y : Ent}, x ∈ E → y ∈ E → x.2.1 = y.2.1 → x = y
 | [], _, x, y, h, _, _ => by cases h
 | z :: r, hn, x, y, hx, hy, e => by
   rw [List.map_cons, List.nodup_cons] at hn
   rcases List.mem_cons.1 hx with h1 | h1
   ·rcases List.mem_cons.1 hy with h2 | h2
    ·rw [h1, h2]
    ·rw [h1] at e
     exact absurd (e ▸ List.mem_map_of_mem (f := fun z : Ent => z.2.1) h2) hn.1
   ·rcases List.mem_cons.1 hy with h2 | h2
    ·rw [h2] at e
     exact absurd (e ▸ List.mem_map_of_mem (f := fun z : Ent => z.2.1) h1) hn.1
    ·exact jgh hn.2 h1 h2 e
theorem jkC {P : Program} {W : World} {nx : Nat} {E : List Ent} (h1 : (E.map (·.1)).Nodup) (h2 : (E.map (·.2.1)).Nodup) (h3 : ∀ x ∈ E, x.1 ≠ P.globals.size ∧ x.1 < nx ∧ (x.1 < P.globals.size → x.2.1 = x.1) ∧ Pins (jE nx E) W x.2.1 x.2.2) : HandsP P W nx (jE nx E) (tE E) := by
 refine ⟨fun i => ?_, fun i j b e1 e2 => ?_, fun i o ho => ?_⟩
 ·by_cases hex : ∃ b, jE nx E i = .at b 0
  ·obtain ⟨b, e⟩ := hex
   obtain ⟨_, o, hm⟩ := jE_at e
   obtain ⟨g1, g2, g3, g4⟩ := h3 _ hm
   exact .inr ⟨b, o, e, g1, g2, g3, jjm h1 _ hm, g4⟩
  ·exact .inl (jiO fun b e => hex ⟨b, e⟩)
 ·obtain ⟨_, o1, m1⟩ := jE_at e1
  obtain ⟨_, o2, m2⟩ := jE_at e2
  exact congrArg (·.1) (jgh h2 m1 m2 rfl)
 ·obtain ⟨x, hx, rfl⟩ := tE_some ho
  exact ⟨_, jE_mem h1 x hx⟩
abbrev Arr := Nat × Array Value × TypeId
end
noncomputable section
structure SlotAt (W : World) (g n : Nat) (y : Arr) (o cap : Nat) (t : TypeId) : Prop where
 head : W.heap[g]? = some (.cells #[.slice (some ⟨y.1, o, none⟩) n cap] t (0, 0))
 blk : W.heap[y.1]? = some (.cells y.2.1 y.2.2 (0, 0))
structure Laid (W : World) : Prop where
 opt : ∃ t, W.heap[(4 : Nat)]? = some (.cells [Value.bool true].toArray t (0, 0))
 fi : ∃ t, W.heap[(13 : Nat)]? = some (.cells [Value.int .u64 52, .int .u64 11, .int .i64 (-1023)].toArray t (0, 0))
 pt : ∃ t, W.heap[(8 : Nat)]? = some (.cells ptab.toArray t (0, 0))
 fp : ∃ y o cap t, SlotAt W 16 23 y o cap t ∧ ∀ k, k < 23 → y.2.1[o + k]? = some (.float .f64 (fpows.getD k 0))
 pw : ∃ y o cap t, SlotAt W 15 9 y o cap t ∧ ∀ k, k < 9 → y.2.1[o + k]? = some (.int .i64 (.ofNat (powts.getD k 0)))
 lc : ∃ y o cap t, SlotAt W 9 61 y o cap t ∧ ∀ k, k < 61 → y.2.1[o + 2 * k]? = some (.int .i64 (.ofNat (dlt k))) ∧ y.2.1[o + 2 * k + 1]? = some (.string (cut k))
 er : ∃ t u v, W.heap[(6 : Nat)]? = some (.cells #[.iface u v] t (0, 0))
 es : ∃ t u v, W.heap[(5 : Nat)]? = some (.cells #[.iface u v] t (0, 0))
def okU : Value → Bool
 | .int .u64 (.ofNat n) => Nat.blt n 18446744073709551616
 | _ => false
theorem okU_u {v : Value} (h : okU v = true) : v = u (natOf v) := by
 unfold okU at h
 split at h
 ·rename_i n
  show Value.int .u64 (.ofNat n) = .int .u64 (.ofNat (W n))
  rw [W_of (by simpa using h)]
 ·cases h
set_option maxRecDepth 1000000 in
theorem ptab_ok : ptab.all okU = true := by kernel_rfl
set_option maxRecDepth 1000000 in
theorem jjt : ptab.length = 1392 := by kernel_rfl
theorem ptab_at {k : Nat} (h : k < 1392) : ptab[k]? = some (u (natOf (ptab.getD k undef))) := by
 have h' : k < ptab.length := by rw [jjt]; exact h
 have e : ptab.getD k undef = ptab[k] := by simp [List.getD, h']
 rw [e, List.getElem?_eq_getElem h', ← okU_u (List.all_eq_true.1 ptab_ok _ (List.getElem_mem h'))]
theorem pin_cell {t : T Ob} {nx i k : Nat} {l : List Value} {c : Array Value} {ty : TypeId} {fz : Nat × Nat} {v : Value} (h : t.get i = some (.pin l c ty fz)) (hk : l[k]? = some v) : jap ⟨t, nx⟩ i k = some v := by
 unfold jap
 rw [show (Mem.obs ⟨t, nx⟩).get i = _ from h]
 obtain ⟨hl, rfl⟩ := List.getElem?_eq_some_iff.1 hk
 show (if k < l.length then some (cellAt l.toArray .e k) else none) = _
 rw [if_pos hl, jb2 l k hl]
theorem jbz {J : Nat → Ev.Loc} {v v' : Value} (h : VRel J v v') : ARel J [v].toArray #[v'] := ⟨rfl, fun i a b ha hb => by
 match i with
 | 0 => simp at ha hb; subst ha hb; exact h
 | i + 1 => simp at ha⟩
theorem gsz : 17 ≤ pZ.globals.size ∧ pZ.globals.size < 870 := by decide +kernel
end
noncomputable section
theorem jfF {P : Program} {w : World} : ∀ {l : List (String × DataW Unit)} {ps : List MemPlace}, DataW.LaidVars P w l ps → ∀ n d, (n, d) ∈ l →
  ∃ g t cs fuel p, P.globalNamed n = some g ∧ (P.globals[g]?).map (·.type) = some t ∧ w.var? P n = some cs ∧ DataW.trod (fun _ => ()) P w 0 (fun _ => true) false fuel t cs.toList = some (d, p) ∧ ∀ x ∈ MemPlace.row ⟨g, 0, none⟩ cs.size ++ p, x ∈ ps
 | [], _, _, _, _, hm => by cases hm
 | (n', d') :: r, ps, h, n, d, hm => by
   obtain ⟨g, t, cs, fuel, p, q, h1, h2, h3, h4, h5, rfl⟩ := h
   rcases List.mem_cons.1 hm with e | e
   ·cases e
    exact ⟨g, t, cs, fuel, p, h1, h2, h3, h4, fun x hx => List.mem_append_left q hx⟩
   ·obtain ⟨g', t', cs', f', p', k1, k2, k3, k4, k5⟩ := jfF h5 n d e
    exact ⟨g', t', cs', f', p', k1, k2, k3, k4, fun x hx => List.mem_append_right _ (k5 x hx)⟩
theorem row_mem {a : Addr} {n i : Nat} (h : i < n) : MemPlace.cell a.block (a.off + i) ∈ MemPlace.row a n := List.mem_map.2 ⟨i, List.mem_range.2 h, rfl⟩
variable {P : Program} {W : World} {laid : List (String × DataW Unit)} {n : String} {d : DataW Unit} {g : Nat} {t : TypeId}
theorem listed (hL : laidMetH P laid W) (hp : (laid.all fun x => x.2.handleName?.isNone) = true) (hm : (n, d) ∈ laid) (hg : P.globalNamed n = some g) (hty : (P.globals[g]?).map (·.type) = some t) :
  ∃ cs fuel p, (0 < cs.size → ∃ t', W.heap[g]? = some (.cells cs t' (0, 0))) ∧ DataW.trod (fun _ => ()) P W 0 (fun _ => true) false fuel t cs.toList = some (d, p) ∧ ∀ b off, MemPlace.cell b off ∈ p → ∃ c t', W.heap[b]? = some (.cells c t' (0, 0)) := by
 rw [MakeChecks.laidMetH_plain P laid W hp] at hL
 obtain ⟨ps, hv, _, hps⟩ := hL
 obtain ⟨g2, t2, cs, fuel, p, e1, e2, e3, e4, e5⟩ := jfF hv n d hm
 rw [hg] at e1; cases e1
 rw [hty] at e2; cases e2
 refine ⟨cs, fuel, p, fun h0 => ?_, e4, fun b off hb => (hps b off (e5 _ (List.mem_append_right _ hb))).1⟩
 obtain ⟨⟨c, t', hc⟩, _⟩ := hps g (0 + 0) (e5 _ (List.mem_append_left _ (row_mem (a := ⟨g, 0, none⟩) h0)))
 have e6 : World.var? P W n = some c := by
  unfold World.var?
  rw [hg]
  show (match W.heap[g]? with
   | some (.cells cs _ _) => some cs
   | _ => none) = some c
  rw [hc]
 rw [e3] at e6; cases e6
 exact ⟨t', hc⟩
theorem jeH {c : Array Value} {l : List Value} (h : c.toList = l) : c = l.toArray := by subst h; simp
theorem jiT (hL : laidMetH P laid W) (hp : (laid.all fun x => x.2.handleName?.isNone) = true) (hm : (n, d) ∈ laid) (hg : P.globalNamed n = some g) (hty : (P.globals[g]?).map (·.type) = some t) {k m : Nat} {l : List Value} (hk : jiU P k t = true) (hd : flatL m d = some l) (hne : 0 < l.length) :
  ∃ t', W.heap[g]? = some (.cells l.toArray t' (0, 0)) := by
 obtain ⟨cs, fuel, p, h1, h2, _⟩ := listed hL hp hm hg hty
 have e := jhV k t fuel m _ l d p hk h2 hd
 obtain rfl := jeH e
 exact h1 (by simpa using hne)
theorem jjF {name : String} {d' : DataW Unit} {ms : Array (String × TypeId)} (hL : laidMetH P laid W) (hp : (laid.all fun x => x.2.handleName?.isNone) = true) (hm : (n, .iface name d') ∈ laid) (hg : P.globalNamed n = some g) (hty : (P.globals[g]?).map (·.type) = some t) (hi : P.underlying t = some (.interface ms)) :
  ∃ t' u v, W.heap[g]? = some (.cells #[.iface u v] t' (0, 0)) := by
 obtain ⟨cs, fuel, p, h1, h2, _⟩ := listed hL hp hm hg hty
 obtain ⟨_, u, v, hcs, _⟩ := iface_of_trod hi h2
 obtain rfl := jeH hcs
 obtain ⟨t', h⟩ := h1 (by simp)
 exact ⟨t', u, v, h⟩
theorem jgM {e : TypeId} {ds : List (DataW Unit)} {ls : List (List Value)} {k m w : Nat} (hL : laidMetH P laid W) (hp : (laid.all fun x => x.2.handleName?.isNone) = true) (hm : (n, .slice ds []) ∈ laid) (hg : P.globalNamed n = some g) (hty : (P.globals[g]?).map (·.type) = some t)
  (ht : P.underlying t = some (.slice e)) (hc : P.cellsOf e = w) (hw : 0 < w) (hk : jiU P k e = true) (hfl : ds.map (flatL m) = ls.map some) (hne : 0 < ls.length) :
  ∃ (y : Arr) (o cap : Nat) (tb : TypeId), SlotAt W g ls.length y o cap tb ∧ ∀ i l j v, ls[i]? = some l → l[j]? = some v → y.2.1[o + i * w + j]? = some v := by
 obtain ⟨cs, fuel, p, h1, h2, h3⟩ := listed hL hp hm hg hty
 have hlen : ds.length = ls.length := by simpa using congrArg List.length hfl
 rcases DataW.trod_slice ht h2 with ⟨_, ex⟩ | ⟨a, len, cap, elems, rest, f, rfl, ecs, ex, _, _, _, hel, hat, _, _⟩
 ·cases ex
 injection ex with ex1 ex2
 injection ex1 with ed er
 subst ex2
 have hdl : ls.length = len := by rw [← hlen, ed, List.length_map, hel]
 have each : ∀ i l, ls[i]? = some l → W.cells? 0 (a.add (i * w)) w = some l := fun i l hi => by
  have hil : i < ls.length := (List.getElem?_eq_some_iff.1 hi).1
  have h4 := hat i (by omega)
  have hie : i < elems.length := by omega
  rw [List.getElem?_eq_getElem hie, Option.bind_eq_some_iff] at h4
  obtain ⟨csi, h5, h6⟩ := h4
  have h7 : (ds.map (flatL m))[i]? = some (some l) := by rw [hfl, List.getElem?_map, hi]; rfl
  rw [ed] at h7
  have h8 : flatL m (elems[i]).1 = some l := by simpa [hie] using h7
  obtain rfl := jhV k e f m csi l (elems[i]).1 (elems[i]).2 hk h6 h8
  rw [hc] at h5
  exact h5
 obtain ⟨l0, hl0⟩ : ∃ l0, ls[0]? = some l0 := ⟨_, List.getElem?_eq_getElem hne⟩
 obtain ⟨_, hl0w, hl0c⟩ := World.cells?_some (each 0 l0 hl0)
 obtain ⟨b, o, sp⟩ := a
 have a0 : ∀ (x : Addr), x.add 0 = x := fun x => rfl
 have hc0 := hl0c 0 hw
 rw [Nat.zero_mul, a0, a0, List.getElem?_eq_getElem (by omega : 0 < l0.length)] at hc0
 have hsp : sp = none := by
  unfold World.cell? at hc0
  simp only at hc0
  split at hc0
  ·cases sp with
   | none => rfl
   | some x => simp at hc0
  ·cases hc0
 subst hsp
 have hpos : 0 < (elems.length + rest.length) * P.cellsOf e := by
  rw [hc]
  exact Nat.mul_pos (by omega) hw
 obtain ⟨c, te, hb⟩ := h3 b (o + 0) (List.mem_append_left _ (row_mem (a := ⟨b, o, none⟩) hpos))
 obtain rfl := jeH ecs
 obtain ⟨tb, hh⟩ := h1 (by simp)
 refine ⟨(b, c, te), o, cap, tb, ⟨?_, hb⟩, fun i l j v hi hj => ?_⟩
 ·rw [hdl]; exact hh
 ·obtain ⟨_, h4, h5⟩ := World.cells?_some (each i l hi)
  have hjl : j < l.length := (List.getElem?_eq_some_iff.1 hj).1
  have h6 := h5 j (by omega)
  rw [hj] at h6
  have ea : (Addr.add (Addr.add ⟨b, o, none⟩ (i * w)) j) = ⟨b, o + i * w + j, none⟩ := by
   unfold Addr.add
   by_cases g1 : i * w = 0
   ·rw [if_pos g1, g1]
    by_cases g2 : j = 0
    ·rw [if_pos g2, g2]; rfl
    ·rw [if_neg g2]; rfl
   ·rw [if_neg g1]
    by_cases g2 : j = 0
    ·rw [if_pos g2, g2]; rfl
    ·rw [if_neg g2]
  rw [ea] at h6
  unfold World.cell? at h6
  simp only [hb] at h6
  simpa using h6
end
noncomputable section
def idB (gs b : Nat) : Nat := if b < gs then b else 900 + b
def isC (W : World) (b : Nat) : Bool := match W.heap[b]? with
 | some (.cells _ _ _) => true
 | _ => false
def absV (W : World) (gs : Nat) : Value → Value
 | .slice (some ⟨b, o, none⟩) l c => if isC W b = true then .slice (some ⟨idB gs b, o, none⟩) l (2 * c) else .slice (some ⟨gs, 0, none⟩) l (2 * c)
 | .slice (some ⟨_, _, some _⟩) l c => .slice (some ⟨gs, 0, none⟩) l (2 * c)
 | .iface t _ => .iface t (.chan none)
 | v => strip v
theorem absV_rel {W : World} {gs : Nat} {J : Nat → Ev.Loc} (hJ : ∀ b, isC W b = true → J (idB gs b) = .at b 0) (hd : J gs = .dead) (v : Value) : VRel J (absV W gs v) v := by
 unfold absV
 split
 ·split
  ·exact .slice (hJ _ (by assumption)) (.inl ⟨by omega, by omega⟩)
  ·exact .sliceDead _ _ hd (.inl ⟨by omega, by omega⟩)
 ·exact .sliceDead _ _ hd (.inl ⟨by omega, by omega⟩)
 ·exact .iface (.any none _)
 ·exact jhq J _
def entW (W : World) (gs : Nat) (b : Nat) : Option Ent := match W.heap[b]? with
 | some (.cells c t fz) => some (idB gs b, b, .pin (c.toList.map (absV W gs)) c t fz)
 | _ => none
def jhX (W : World) (gs : Nat) : List Ent := (List.range W.heap.size).filterMap (entW W gs)
theorem jdE {W : World} {gs b : Nat} {x : Ent} (h : entW W gs b = some x) : ∃ c t fz, W.heap[b]? = some (.cells c t fz) ∧ x = (idB gs b, b, .pin (c.toList.map (absV W gs)) c t fz) := by
 unfold entW at h
 split at h
 ·rename_i c t fz hc
  cases h
  exact ⟨c, t, fz, hc, rfl⟩
 ·cases h
theorem jjK {W : World} {gs : Nat} {x : Ent} (h : x ∈ jhX W gs) : ∃ b c t fz, b < W.heap.size ∧ W.heap[b]? = some (.cells c t fz) ∧ x = (idB gs b, b, .pin (c.toList.map (absV W gs)) c t fz) := by
 obtain ⟨b, hb, hx⟩ := List.mem_filterMap.1 h
 obtain ⟨c, t, fz, h1, h2⟩ := jdE hx
 exact ⟨b, c, t, fz, List.mem_range.1 hb, h1, h2⟩
theorem jgT {W : World} {gs b : Nat} {c : Array Value} {t : TypeId} {fz : Nat × Nat} (h : W.heap[b]? = some (.cells c t fz)) : (idB gs b, b, Ob.pin (c.toList.map (absV W gs)) c t fz) ∈ jhX W gs :=
 List.mem_filterMap.2 ⟨b, List.mem_range.2 (Array.getElem?_eq_some_iff.1 h).1, by unfold entW; rw [h]⟩
theorem jfh {α : Type} {f : Nat → Option α} {k : α → Nat} (inj : ∀ a a' x x', f a = some x → f a' = some x' → k x = k x' → a = a') : ∀ {l : List Nat}, l.Nodup → ((l.filterMap f).map k).Nodup
 | [], _ => List.nodup_nil
 | a :: r, hl => by
   rw [List.nodup_cons] at hl
   cases e : f a with
   | none => rw [List.filterMap_cons_none e]; exact jfh inj hl.2
   | some x =>
     rw [List.filterMap_cons_some e, List.map_cons, List.nodup_cons]
     refine ⟨fun h => ?_, jfh inj hl.2⟩
     obtain ⟨y, hy, hk⟩ := List.mem_map.1 h
     obtain ⟨a', ha', hf⟩ := List.mem_filterMap.1 hy
     obtain rfl := inj _ _ _ _ e hf hk.symm
     exact hl.1 ha'
theorem idB_inj {gs a b : Nat} (hlt : gs < 870) (h : idB gs a = idB gs b) : a = b := by
 unfold idB at h
 split at h <;> split at h <;> omega
theorem jfl {W : World} {gs : Nat} (hlt : gs < 870) : ((jhX W gs).map (·.1)).Nodup := jfh (fun a a' x x' h1 h2 h3 => by
 obtain ⟨_, _, _, _, rfl⟩ := jdE h1
 obtain ⟨_, _, _, _, rfl⟩ := jdE h2
 exact idB_inj hlt h3) List.nodup_range
theorem jiW {W : World} {gs : Nat} : ((jhX W gs).map (·.2.1)).Nodup := jfh (fun a a' x x' h1 h2 h3 => by
 obtain ⟨_, _, _, _, rfl⟩ := jdE h1
 obtain ⟨_, _, _, _, rfl⟩ := jdE h2
 exact h3) List.nodup_range
abbrev nxW (W : World) : Nat := 900 + W.heap.size
abbrev jW (W : World) (gs : Nat) : Nat → Ev.Loc := jE (nxW W) (jhX W gs)
abbrev memW (W : World) (gs : Nat) : Mem := ⟨tE (jhX W gs), nxW W⟩
theorem jW_at {W : World} {gs : Nat} (hlt : gs < 870) {b : Nat} (h : isC W b = true) : jW W gs (idB gs b) = .at b 0 := by
 unfold isC at h
 split at h
 ·rename_i c t fz hc
  exact jE_mem (jfl hlt) _ (jgT hc)
 ·cases h
theorem idB_ne {gs b : Nat} (hlt : gs < 870) : idB gs b ≠ gs := by
 unfold idB
 split <;> omega
theorem jW_dead {W : World} {gs : Nat} (hlt : gs < 870) : jW W gs gs = .dead := by
 have h : jW W gs gs = jbr (nxW W) gs := jiO fun b e => by
  obtain ⟨_, o, m⟩ := jE_at e
  obtain ⟨b', _, _, _, _, _, e2⟩ := jjK m
  exact idB_ne hlt (congrArg (·.1) e2).symm
 rw [h]
 exact if_pos (by show gs < 900 + _; omega)
theorem abs_rel {W : World} {gs : Nat} (hlt : gs < 870) (v : Value) : VRel (jW W gs) (absV W gs v) v := absV_rel (fun b h => jW_at hlt h) (jW_dead hlt) v
theorem handsW {P : Program} {W : World} {gs : Nat} (hg : P.globals.size = gs) (hlt : gs < 870) : HandsP P W (nxW W) (jW W gs) (tE (jhX W gs)) := by
 refine jkC (jfl hlt) jiW fun x hx => ?_
 obtain ⟨b, c, t, fz, hb, hc, rfl⟩ := jjK hx
 rw [hg]
 refine ⟨idB_ne hlt, ?_, ?_, pins_pin hc ⟨by simp, fun i a b' ha hb' => ?_⟩⟩
 ·show idB gs b < 900 + W.heap.size
  unfold idB
  split <;> omega
 ·show idB gs b < gs → b = idB gs b
  unfold idB
  split <;> omega
 ·simp only [List.getElem?_toArray, List.getElem?_map, Array.getElem?_toList, hb', Option.map_some, Option.some.injEq] at ha
  subst ha
  exact abs_rel hlt b'
theorem jdC {W : World} {gs b k : Nat} {c : Array Value} {t : TypeId} {fz : Nat × Nat} {v : Value} (hlt : gs < 870) (hc : W.heap[b]? = some (.cells c t fz)) (hk : c[k]? = some v) : jap (memW W gs) (idB gs b) k = some (absV W gs v) :=
 pin_cell (jjm (jfl hlt) _ (jgT hc)) (by rw [List.getElem?_map, Array.getElem?_toList, hk]; rfl)
theorem idB_low {gs b : Nat} (h : b < gs) : idB gs b = b := if_pos h
theorem lay_hand {W : World} (hL : Laid W) : Lay (memW W pZ.globals.size) := by
 obtain ⟨t1, h1⟩ := hL.opt
 obtain ⟨t2, h2⟩ := hL.fi
 obtain ⟨t3, h3⟩ := hL.pt
 obtain ⟨y1, o1, k1, t4, ⟨h4, b1⟩, c1⟩ := hL.fp
 obtain ⟨y2, o2, k2, t5, ⟨h5, b2⟩, c2⟩ := hL.pw
 obtain ⟨y3, o3, k3, t6, ⟨h6, b3⟩, c3⟩ := hL.lc
 obtain ⟨t7, u7, v7, h7⟩ := hL.er
 obtain ⟨t8, u8, v8, h8⟩ := hL.es
 have hz := gsz
 obtain ⟨gs, hgs⟩ : ∃ gs, gs = pZ.globals.size := ⟨_, rfl⟩
 rw [← hgs] at hz ⊢
 have hlt : gs < 870 := hz.2
 have cell : ∀ {g k : Nat} {c : Array Value} {t : TypeId} {v : Value}, g < 17 → W.heap[g]? = some (.cells c t (0, 0)) → c[k]? = some v → jap (memW W gs) g k = some (absV W gs v) := fun {g k c t v} hg hc hk => by
  have := jdC hlt hc hk
  rwa [idB_low (by omega)] at this
 have sl : ∀ {y : Arr} {o l cap : Nat}, W.heap[y.1]? = some (.cells y.2.1 y.2.2 (0, 0)) → absV W gs (.slice (some ⟨y.1, o, none⟩) l cap) = .slice (some ⟨idB gs y.1, o, none⟩) l (2 * cap) := fun {y o l cap} hc => by
  show (if isC W y.1 = true then _ else _) = _
  rw [if_pos (by unfold isC; rw [hc])]
 have lt : ∀ {y : Arr}, W.heap[y.1]? = some (.cells y.2.1 y.2.2 (0, 0)) → idB gs y.1 < nxW W := fun {y} hc => by
  have := (Array.getElem?_eq_some_iff.1 hc).1
  show idB gs y.1 < 900 + W.heap.size
  unfold idB
  split <;> omega
 refine ⟨cell (k := 0) (v := .bool true) (by decide) h1 rfl, cell (k := 0) (v := .int .u64 52) (by decide) h2 rfl, cell (k := 1) (v := .int .u64 11) (by decide) h2 rfl, cell (k := 2) (v := .int .i64 (-1023)) (by decide) h2 rfl, fun k hk => ⟨?_, ?_⟩,
  ⟨_, o1, _, (cell (k := 0) (by decide) h4 rfl).trans (congrArg some (sl b1)), lt b1, fun k hk => jdC hlt b1 (c1 k hk)⟩,
  ⟨_, o2, _, (cell (k := 0) (by decide) h5 rfl).trans (congrArg some (sl b2)), lt b2, fun k hk => jdC hlt b2 (c2 k hk)⟩,
  ⟨_, o3, _, (cell (k := 0) (by decide) h6 rfl).trans (congrArg some (sl b3)), lt b3, fun k hk => ⟨jdC hlt b3 (c3 k hk).1, jdC hlt b3 (c3 k hk).2⟩⟩,
  ⟨_, cell (k := 0) (by decide) h7 rfl, rfl⟩, ⟨_, cell (k := 0) (by decide) h8 rfl, rfl⟩, by show 20 < 900 + _; omega⟩
 ·exact cell (k := 2 * k) (v := u (hiT k)) (by decide) h3 ((List.getElem?_toArray (xs := ptab) (i := 2 * k)).trans (ptab_at (by omega)))
 ·exact cell (k := 2 * k + 1) (v := u (loT k)) (by decide) h3 ((List.getElem?_toArray (xs := ptab) (i := 2 * k + 1)).trans (ptab_at (by omega)))
end
noncomputable section
inductive Dat where
 | mk (k n : Int) (fl : Bool) (f : Nat) (neg : Bool) (ls : List Nat) (s : ByteArray) (l : List Dat)
def CapK (w n c : Nat) : Prop := (c % 2 = 0 ∧ n ≤ c / 2) ∨ (c % 2 = 1 ∧ c / 2 = w)
def IsU (μ : Mem) (ls : List Nat) (v : Value) : Prop := (∀ x ∈ ls, x < 4294967296) ∧ ls.length ≤ maxLen ∧ ((v = .slice none 0 0 ∧ ls = []) ∨ ∃ i o c, v = .slice (some ⟨i, o, none⟩) ls.length c ∧ (ls ≠ [] → i < μ.next ∧ Has μ i o (ls.map fun x => .int .u32 (.ofNat x))) ∧ CapK 1 ls.length c)
def wfI (n : Int) : Prop := (Lit.int .i64 n).wf = true
mutual
def IsD (μ : Mem) : Dat → List Value → Prop
 | .mk k n fl f neg ls s l, cs => ∃ vl vi, cs = [.int .i64 k, .int .i64 n, .bool fl, .float .f64 f, .bool neg, vl, .string s, vi] ∧ (wfI k ∧ wfI n ∧ (Lit.float .f64 f).wf = true ∧ s.size ≤ maxLen ∧ l.length ≤ maxLen) ∧ IsU μ ls vl ∧
   ((vi = .slice none 0 0 ∧ l = []) ∨ ∃ i o c, vi = .slice (some ⟨i, o, none⟩) l.length c ∧ (l ≠ [] → i < μ.next) ∧ IsDs μ l i o ∧ CapK 8 l.length c)
def IsDs (μ : Mem) : List Dat → Nat → Nat → Prop
 | [], _, _ => True
 | d :: r, i, o => (∃ cs, Has μ i o cs ∧ IsD μ d cs) ∧ IsDs μ r i (o + 8)
end
def IsL (μ : Mem) (l : List Dat) (v : Value) : Prop := l.length ≤ maxLen ∧ ((v = .slice none 0 0 ∧ l = []) ∨ ∃ i o c, v = .slice (some ⟨i, o, none⟩) l.length c ∧ (l ≠ [] → i < μ.next) ∧ IsDs μ l i o ∧ CapK 8 l.length c)
theorem jcD {μ : Mem} {k n : Int} {fl : Bool} {f : Nat} {neg : Bool} {ls : List Nat} {s : ByteArray} {l : List Dat} {cs : List Value} : IsD μ (.mk k n fl f neg ls s l) cs ↔ ∃ vl vi, cs = [.int .i64 k, .int .i64 n, .bool fl, .float .f64 f, .bool neg, vl, .string s, vi] ∧ (wfI k ∧ wfI n ∧ (Lit.float .f64 f).wf = true ∧ s.size ≤ maxLen) ∧ IsU μ ls vl ∧ IsL μ l vi := by
 rw [IsD]
 constructor
 ·rintro ⟨vl, vi, h1, ⟨h2, h3, h4, h5, h6⟩, h7, h8⟩
  exact ⟨vl, vi, h1, ⟨h2, h3, h4, h5⟩, h7, h6, h8⟩
 ·rintro ⟨vl, vi, h1, ⟨h2, h3, h4, h5⟩, h7, h6, h8⟩
  exact ⟨vl, vi, h1, ⟨h2, h3, h4, h5, h6⟩, h7, h8⟩
theorem isDs_at {μ : Mem} : ∀ {l : List Dat} {i o k : Nat} {d : Dat}, IsDs μ l i o → l[k]? = some d → ∃ cs, Has μ i (o + 8 * k) cs ∧ IsD μ d cs
 | [], i, o, k, d, _, hd => by simp at hd
 | x :: r, i, o, k, d, h, hd => by
   rw [IsDs] at h
   cases k with
   | zero =>
     simp only [List.getElem?_cons_zero, Option.some.injEq] at hd
     subst hd
     exact h.1
   | succ k =>
     obtain ⟨cs, h1, h2⟩ := isDs_at h.2 (by simpa using hd)
     refine ⟨cs, ?_, h2⟩
     rw [show o + 8 * (k + 1) = o + 8 + 8 * k from by omega]
     exact h1
theorem jgX {μ : Mem} : ∀ {l : List Dat} {i o : Nat}, (∀ (k : Nat) d, l[k]? = some d → ∃ cs, Has μ i (o + 8 * k) cs ∧ IsD μ d cs) → IsDs μ l i o
 | [], i, o, h => by rw [IsDs]; trivial
 | x :: r, i, o, h => by
   rw [IsDs]
   refine ⟨h 0 x rfl, jgX fun k d hk => ?_⟩
   rw [show o + 8 + 8 * k = o + 8 * (k + 1) from by omega]
   exact h (k + 1) d (by simpa using hk)
theorem IsU.grow {μ μ' : Mem} {ls : List Nat} {v : Value} (h : IsU μ ls v) (g : Grow μ μ') : IsU μ' ls v := by
 obtain ⟨h1, h2, h3 | ⟨i, o, c, h3, h4, h5⟩⟩ := h
 ·exact ⟨h1, h2, .inl h3⟩
 ·exact ⟨h1, h2, .inr ⟨i, o, c, h3, fun hn => ⟨Nat.lt_of_lt_of_le (h4 hn).1 g.1, (h4 hn).2.keep (g.2 i (h4 hn).1)⟩, h5⟩⟩
mutual
theorem IsD.grow {μ μ' : Mem} (g : Grow μ μ') : ∀ {d : Dat} {cs : List Value}, IsD μ d cs → IsD μ' d cs
 | .mk k n fl f neg ls s l, cs, h => by
   rw [jcD] at h ⊢
   obtain ⟨vl, vi, h1, h2, h3, h4, h5⟩ := h
   refine ⟨vl, vi, h1, h2, h3.grow g, h4, ?_⟩
   rcases h5 with h5 | ⟨i, o, c, h5, h6, h7, h8⟩
   ·exact .inl h5
   ·exact .inr ⟨i, o, c, h5, fun hn => Nat.lt_of_lt_of_le (h6 hn) g.1, IsDs.grow g h6 h7, h8⟩
theorem IsDs.grow {μ μ' : Mem} (g : Grow μ μ') : ∀ {l : List Dat} {i o : Nat}, (l ≠ [] → i < μ.next) → IsDs μ l i o → IsDs μ' l i o
 | [], i, o, _, h => by rw [IsDs]; trivial
 | d :: r, i, o, hi, h => by
   rw [IsDs] at h ⊢
   obtain ⟨⟨cs, h1, h2⟩, h3⟩ := h
   exact ⟨⟨cs, h1.keep (g.2 i (hi (List.cons_ne_nil _ _))), IsD.grow g h2⟩, IsDs.grow g (fun _ => hi (List.cons_ne_nil _ _)) h3⟩
end
theorem IsL.grow {μ μ' : Mem} {l : List Dat} {v : Value} (h : IsL μ l v) (g : Grow μ μ') : IsL μ' l v := by
 obtain ⟨h1, h2 | ⟨i, o, c, h3, h4, h5, h6⟩⟩ := h
 ·exact ⟨h1, .inl h2⟩
 ·exact ⟨h1, .inr ⟨i, o, c, h3, fun hn => Nat.lt_of_lt_of_le (h4 hn) g.1, IsDs.grow g h4 h5, h6⟩⟩
theorem spot_none {W : World} {a : Addr} {w : Nat} {row : List Value} (h : W.cells? 0 (a.add 0) w = some row) (hw : 0 < w) : a = ⟨a.block, a.off, none⟩ := by
 obtain ⟨_, hl, hc⟩ := World.cells?_some h
 have h0 := hc 0 hw
 rw [show (Addr.add (Addr.add a 0) 0) = a from rfl, List.getElem?_eq_getElem (by omega : 0 < row.length)] at h0
 unfold World.cell? at h0
 obtain ⟨b, o, sp⟩ := a
 split at h0
 ·cases sp with
  | none => rfl
  | some x => simp at h0
 ·cases h0
theorem jhZ {W : World} {b o m w : Nat} {row : List Value} (h : W.cells? 0 (Addr.add ⟨b, o, none⟩ m) w = some row) (hw : 0 < w) : ∃ c t fz, W.heap[b]? = some (.cells c t fz) ∧ row.length = w ∧ ∀ (j : Nat) v, row[j]? = some v → c[o + m + j]? = some v := by
 obtain ⟨_, hl, hc⟩ := World.cells?_some h
 have ea : ∀ j, (Addr.add (Addr.add ⟨b, o, none⟩ m) j) = ⟨b, o + m + j, none⟩ := fun j => by
  unfold Addr.add
  by_cases g1 : m = 0
  ·rw [if_pos g1, g1]
   by_cases g2 : j = 0
   ·rw [if_pos g2, g2]; rfl
   ·rw [if_neg g2]; rfl
  ·rw [if_neg g1]
   by_cases g2 : j = 0
   ·rw [if_pos g2, g2]; rfl
   ·rw [if_neg g2]
 have hc0 := hc 0 hw
 rw [ea, List.getElem?_eq_getElem (by omega : 0 < row.length)] at hc0
 unfold World.cell? at hc0
 split at hc0
 ·rename_i c t fz hb
  have hb : W.heap[b]? = some (.cells c t fz) := hb
  refine ⟨c, t, fz, hb, hl, fun j v hj => ?_⟩
  have hjl : j < w := by rw [← hl]; exact (List.getElem?_eq_some_iff.1 hj).1
  have h6 := hc j hjl
  rw [ea, hj] at h6
  unfold World.cell? at h6
  simpa [hb] using h6
 ·cases hc0
theorem jgP {W : World} {gs b o : Nat} {c : Array Value} {t : TypeId} {fz : Nat × Nat} {row : List Value} (hlt : gs < 870) (hb : W.heap[b]? = some (.cells c t fz)) (h : ∀ (j : Nat) v, row[j]? = some v → c[o + j]? = some v) (hne : row ≠ []) : Has (memW W gs) (idB gs b) o (row.map (absV W gs)) := by
 have hpos : 0 < row.length := List.length_pos_iff.2 hne
 have hlast := h (row.length - 1) _ (List.getElem?_eq_getElem (by omega))
 have hb1 := (Array.getElem?_eq_some_iff.1 hlast).1
 refine ⟨(c.toList.map (absV W gs)).length, (c.toList.map (absV W gs)).toArray, .e, ?_, ?_, fun k hk => ?_⟩
 ·show jcF ((tE (jhX W gs)).get (idB gs b)) = _
  rw [jjm (jfl hlt) _ (jgT hb)]
  rfl
 ·simp only [List.length_map, Array.length_toList]; omega
 ·have hk' : k < row.length := by simpa using hk
  have h1 := h k _ (List.getElem?_eq_getElem hk')
  obtain ⟨hlt', he⟩ := Array.getElem?_eq_some_iff.1 h1
  rw [jb2 _ _ (by simpa using hlt')]
  simp [he]
section
variable {H : Type} {enc : TypeId × Value → H} {P : Program} {W : World} {sp : Nat → Bool} {hd : Bool} {fuel gs : Nat} {t e : TypeId} {cs : List Value} {x : DataW H × List MemPlace}
theorem jeG {k : FloatKind} (ht : P.underlying t = some (.float k)) (h : DataW.trod enc P W 0 sp hd fuel t cs = some x) : ∃ b, cs = [.float k b] ∧ (Lit.float k b).wf = true := by
 cases fuel with
 | zero => simp [DataW.trod] at h
 | succ n =>
   unfold DataW.trod at h
   rw [ht] at h
   split at h <;> simp_all
theorem jin {w : Nat} (ht : P.underlying t = some (.slice e)) (hc : P.cellsOf e = w) (hw : 0 < w) (h : DataW.trod enc P W 0 sp hd fuel t cs = some x) :
  ∃ v len, cs = [v] ∧ len ≤ maxLen ∧ ((v = .slice none 0 0 ∧ len = 0) ∨ ∃ a cap, v = .slice (some a) len cap ∧ len ≤ cap ∧ (0 < len → ∃ b o c tb fz n, a = ⟨b, o, none⟩ ∧ fuel = n + 1 ∧ W.heap[b]? = some (.cells c tb fz) ∧ ∀ i, i < len → ∃ row y, DataW.trod enc P W 0 sp hd n e row = some y ∧ ∀ (j : Nat) v, row[j]? = some v → c[o + i * w + j]? = some v)) := by
 rcases DataW.trod_slice ht h with ⟨rfl, _⟩ | ⟨a, len, cap, elems, rest, n, hn, rfl, _, _, hl, hm, hel, hat, _⟩
 ·exact ⟨_, 0, rfl, Nat.zero_le _, .inl ⟨rfl, rfl⟩⟩
 ·refine ⟨_, len, rfl, Nat.le_trans hl hm, .inr ⟨a, cap, rfl, hl, fun h0 => ?_⟩⟩
  rw [hc] at hat
  have each : ∀ i, i < len → ∃ row y, W.cells? 0 (a.add (i * w)) w = some row ∧ DataW.trod enc P W 0 sp hd n e row = some y := fun i hi => by
   have h4 := hat i hi
   rw [List.getElem?_eq_getElem (by omega), Option.bind_eq_some_iff] at h4
   obtain ⟨row, h5, h6⟩ := h4
   exact ⟨row, _, h5, h6⟩
  obtain ⟨r0, _, q1, _⟩ := each 0 h0
  rw [Nat.zero_mul] at q1
  have ea := spot_none q1 hw
  obtain ⟨b, o, spt⟩ := a
  injection ea with _ _ ea
  subst ea
  obtain ⟨c, tb, fz, hb, _, _⟩ := jhZ (m := 0) q1 hw
  refine ⟨b, o, c, tb, fz, n, rfl, hn, hb, fun i hi => ?_⟩
  obtain ⟨row, y, q2, q3⟩ := each i hi
  obtain ⟨c', _, _, hb', _, q4⟩ := jhZ q2 hw
  rw [hb] at hb'
  cases hb'
  exact ⟨row, y, q3, q4⟩
theorem abs_sl {W : World} {gs b o l c : Nat} {cs : Array Value} {t : TypeId} {fz : Nat × Nat} (hb : W.heap[b]? = some (.cells cs t fz)) : absV W gs (.slice (some ⟨b, o, none⟩) l c) = .slice (some ⟨idB gs b, o, none⟩) l (2 * c) := by
 show (if isC W b = true then _ else _) = _
 rw [if_pos (by unfold isC; rw [hb])]
theorem ji6 {W : World} {gs l c : Nat} {a : Addr} : ∃ i o, absV W gs (.slice (some a) l c) = .slice (some ⟨i, o, none⟩) l (2 * c) := by
 obtain ⟨b, o, sp⟩ := a
 cases sp with
 | none =>
   cases h : isC W b with
   | true => exact ⟨_, _, if_pos h⟩
   | false => exact ⟨_, _, if_neg (by rw [h]; decide)⟩
 | some _ => exact ⟨_, _, rfl⟩
theorem id_lt {b : Nat} {cs : Array Value} {t : TypeId} {fz : Nat × Nat} (hb : W.heap[b]? = some (.cells cs t fz)) : idB gs b < (memW W gs).next := by
 have := (Array.getElem?_eq_some_iff.1 hb).1
 show idB gs b < 900 + W.heap.size
 unfold idB
 split <;> omega
theorem u_trod {n : Nat} {cs : List Value} {x : DataW H × List MemPlace} (ht : P.underlying t = some (.int .u32)) (h : DataW.trod enc P W 0 sp hd n t cs = some x) : ∃ a, a < 4294967296 ∧ cs = [.int .u32 (.ofNat a)] := by
 obtain ⟨z, rfl, _, hw⟩ := DataW.trod_int ht h
 have hb : 0 ≤ z ∧ z < 4294967296 := by
  simp only [Lit.wf, IntKind.min, IntKind.max, IntKind.signed, IntKind.bits] at hw
  simp at hw
  omega
 exact ⟨z.toNat, by omega, by rw [show Int.ofNat z.toNat = z from Int.toNat_of_nonneg hb.1]⟩
theorem jiN {α : Type} {Q : Nat → α → Prop} : ∀ {len : Nat}, (∀ i, i < len → ∃ a, Q i a) → ∃ l : List α, l.length = len ∧ ∀ (i : Nat) a, l[i]? = some a → Q i a := by
 intro len
 induction len with
 | zero => exact fun _ => ⟨[], rfl, fun i x hx => by simp at hx⟩
 | succ m ih =>
   intro ev
   obtain ⟨ls, h1, h2⟩ := ih fun i hi => ev i (by omega)
   obtain ⟨a, ha⟩ := ev m (by omega)
   refine ⟨ls ++ [a], by simp [h1], fun i x hx => ?_⟩
   rw [List.getElem?_append] at hx
   split at hx
   ·exact h2 i x hx
   ·have : i - ls.length = 0 := by
     have := (List.getElem?_eq_some_iff.1 hx).1
     simp at this
     omega
    rw [this] at hx
    simp at hx
    subst hx
    rw [show i = m from by omega]
    exact ha
theorem isU_trod {gs : Nat} (hlt : gs < 870) (ht : P.underlying t = some (.slice e)) (he : P.underlying e = some (.int .u32)) (hc : P.cellsOf e = 1) (h : DataW.trod enc P W 0 sp hd fuel t cs = some x) : ∃ v ls, cs = [v] ∧ IsU (memW W gs) ls (absV W gs v) := by
 obtain ⟨v, len, rfl, hl, ⟨rfl, rfl⟩ | ⟨a, cap, rfl, hcp, hk⟩⟩ := jin ht hc (by decide) h
 ·exact ⟨_, [], rfl, fun x hx => by simp at hx, Nat.zero_le _, .inl ⟨rfl, rfl⟩⟩
 ·by_cases h0 : len = 0
  ·subst h0
   obtain ⟨i, o, hi⟩ := ji6 (W := W) (gs := gs) (l := 0) (c := cap) (a := a)
   exact ⟨_, [], rfl, fun x hx => by simp at hx, Nat.zero_le _, .inr ⟨i, o, _, hi, fun h => absurd rfl h, .inl ⟨by omega, Nat.zero_le _⟩⟩⟩
  ·obtain ⟨b, o, c, tb, fz, n, rfl, _, hb, hi⟩ := hk (by omega)
   have ev : ∀ i, i < len → ∃ a, a < 4294967296 ∧ c[o + i]? = some (.int .u32 (.ofNat a)) := fun i hil => by
    obtain ⟨row, y, q1, q2⟩ := hi i hil
    obtain ⟨a, ha, rfl⟩ := u_trod he q1
    have := q2 0 _ rfl
    rw [Nat.mul_one] at this
    exact ⟨a, ha, this⟩
   obtain ⟨ls, hls, hall⟩ := jiN ev
   refine ⟨_, ls, rfl, fun x hx => ?_, by omega, .inr ⟨_, _, _, by rw [hls]; exact abs_sl hb, fun hn => ⟨id_lt hb, ?_⟩, .inl ⟨by omega, by omega⟩⟩⟩
   ·obtain ⟨i, hi, rfl⟩ := List.mem_iff_getElem.1 hx
    exact (hall i _ (List.getElem?_eq_getElem hi)).1
   ·have := jgP (row := ls.map fun x => Value.int .u32 (.ofNat x)) hlt hb (fun j v hj => by
     rw [List.getElem?_map] at hj
     cases e : ls[j]? with
     | none => rw [e] at hj; cases hj
     | some y => rw [e] at hj; cases hj; exact (hall j y e).2) (by simpa using hn)
    rw [List.map_map] at this
    exact this
end
theorem ji1 : pZ.cellsOf 31 = 8 := by kernel_rfl
theorem cells_N : pZ.cellsOf 29 = 4 := by kernel_rfl
theorem cells_I : pZ.cellsOf 27 = 2 := by kernel_rfl
theorem cells_int : pZ.cellsOf 3 = 1 := by kernel_rfl
theorem jgs : pZ.cellsOf 4 = 1 := by kernel_rfl
theorem cells_f64 : pZ.cellsOf 24 = 1 := by kernel_rfl
theorem cells_str : pZ.cellsOf 9 = 1 := by kernel_rfl
theorem cells_Ls : pZ.cellsOf 25 = 1 := by kernel_rfl
theorem cells_Ds : pZ.cellsOf 22 = 1 := by kernel_rfl
theorem cells_u32 : pZ.cellsOf 55 = 1 := by kernel_rfl
section
variable {H : Type} {enc : TypeId × Value → H} {W : World} {sp : Nat → Bool} {hd : Bool}
theorem jjE {fuel : Nat} {cs : List Value} {x : DataW H × List MemPlace} (h : DataW.trod enc pZ W 0 sp hd fuel 3 cs = some x) : ∃ n, cs = [.int .i64 n] ∧ wfI n := by
 obtain ⟨n, h1, _, h2⟩ := DataW.trod_int Tryz.underlying3 h
 exact ⟨n, h1, h2⟩
theorem four {α : Type} {l : List α} (h : l.length = 4) : ∃ a b c d, l = [a, b, c, d] := by
 cases l with
 | nil => simp at h
 | cons a l => cases l with
   | nil => simp at h
   | cons b l => cases l with
     | nil => simp at h
     | cons c l => cases l with
       | nil => simp at h
       | cons d l =>
         obtain rfl : l = [] := List.length_eq_zero_iff.1 (by simpa using h)
         exact ⟨a, b, c, d, rfl⟩
theorem eight {α : Type} {l : List α} (h : l.length = 8) : ∃ a b c d e f g i, l = [a, b, c, d, e, f, g, i] := by
 obtain ⟨a, b, c, d, h1⟩ := four (l := l.take 4) (by rw [List.length_take, h]; rfl)
 obtain ⟨e, f, g, i, h2⟩ := four (l := l.drop 4) (by rw [List.length_drop, h])
 exact ⟨a, b, c, d, e, f, g, i, by rw [← List.take_append_drop 4 l, h1, h2]; rfl⟩
theorem num_trod {gs fuel : Nat} {cs : List Value} {x : DataW H × List MemPlace} (hlt : gs < 870) (h : DataW.trod enc pZ W 0 sp hd fuel 29 cs = some x) : ∃ fl f neg vl ls, cs = [.bool fl, .float .f64 f, .bool neg, vl] ∧ (Lit.float .f64 f).wf = true ∧ IsU (memW W gs) ls (absV W gs vl) := by
 obtain ⟨xs, n, rfl, _, hl, hx, hf⟩ := DataW.trod_struct Tryz.underlying29 h
 rw [cells_N] at hl
 obtain ⟨c0, c1, c2, c3, rfl⟩ := four hl
 ·skip
  have hx : xs.length = 3 := hx
  obtain ⟨x0, e0⟩ : ∃ y, xs[0]? = some y := ⟨_, List.getElem?_eq_getElem (by omega)⟩
  obtain ⟨x1, e1⟩ : ∃ y, xs[1]? = some y := ⟨_, List.getElem?_eq_getElem (by omega)⟩
  obtain ⟨x2, e2⟩ : ∃ y, xs[2]? = some y := ⟨_, List.getElem?_eq_getElem (by omega)⟩
  have h0 : DataW.trod enc pZ W 0 sp hd n 4 (([c0, c1, c2, c3].drop 0).take (pZ.cellsOf 4)) = some x0 := (hf 0 _ rfl).trans e0
  have h1 : DataW.trod enc pZ W 0 sp hd n 24 (([c0, c1, c2, c3].drop 1).take (pZ.cellsOf 24)) = some x1 := (hf 1 _ rfl).trans e1
  have h2 : DataW.trod enc pZ W 0 sp hd n 27 (([c0, c1, c2, c3].drop 2).take (pZ.cellsOf 27)) = some x2 := (hf 2 _ rfl).trans e2
  simp only [jgs, cells_f64, cells_I, List.drop_zero, List.drop_succ_cons, List.take_succ_cons, List.take_zero] at h0 h1 h2
  obtain ⟨fl, q0, _⟩ := DataW.trod_bool Tryz.underlying4 h0
  obtain ⟨f, q1, hw⟩ := jeG Tryz.underlying24 h1
  obtain ⟨ys, n2, rfl, _, hl2, hy, hg⟩ := DataW.trod_struct Tryz.underlying27 h2
  have hy : ys.length = 2 := hy
  obtain ⟨y0, e3⟩ : ∃ y, ys[0]? = some y := ⟨_, List.getElem?_eq_getElem (by omega)⟩
  obtain ⟨y1, e4⟩ : ∃ y, ys[1]? = some y := ⟨_, List.getElem?_eq_getElem (by omega)⟩
  have h3 : DataW.trod enc pZ W 0 sp hd n2 4 (([c2, c3].drop 0).take (pZ.cellsOf 4)) = some y0 := (hg 0 _ rfl).trans e3
  have h4 : DataW.trod enc pZ W 0 sp hd n2 25 (([c2, c3].drop 1).take (pZ.cellsOf 25)) = some y1 := (hg 1 _ rfl).trans e4
  simp only [jgs, cells_Ls, List.drop_zero, List.drop_succ_cons, List.take_succ_cons, List.take_zero] at h3 h4
  obtain ⟨neg, q3, _⟩ := DataW.trod_bool Tryz.underlying4 h3
  obtain ⟨vl, ls, q4, hU⟩ := isU_trod (gs := gs) hlt Tryz.underlying25 Tryz.underlying55 cells_u32 h4
  cases q0; cases q1; cases q3; cases q4
  exact ⟨fl, f, neg, _, ls, rfl, hw, hU⟩
theorem jkH {gs : Nat} (hlt : gs < 870) : ∀ (fuel : Nat) {cs : List Value} {x : DataW H × List MemPlace}, DataW.trod enc pZ W 0 sp hd fuel 31 cs = some x → ∃ d, IsD (memW W gs) d (cs.map (absV W gs)) := by
 intro fuel
 induction fuel using Nat.strongRecOn with
 | ind fuel ih =>
 intro cs x h
 obtain ⟨xs, n, rfl, _, hl, hx, hf⟩ := DataW.trod_struct Tryz.underlying31 h
 rw [ji1] at hl
 obtain ⟨c0, c1, c2, c3, c4, c5, c6, c7, rfl⟩ := eight hl
 ·skip
  have hx : xs.length = 5 := hx
  obtain ⟨x0, e0⟩ : ∃ y, xs[0]? = some y := ⟨_, List.getElem?_eq_getElem (by omega)⟩
  obtain ⟨x1, e1⟩ : ∃ y, xs[1]? = some y := ⟨_, List.getElem?_eq_getElem (by omega)⟩
  obtain ⟨x2, e2⟩ : ∃ y, xs[2]? = some y := ⟨_, List.getElem?_eq_getElem (by omega)⟩
  obtain ⟨x3, e3⟩ : ∃ y, xs[3]? = some y := ⟨_, List.getElem?_eq_getElem (by omega)⟩
  obtain ⟨x4, e4⟩ : ∃ y, xs[4]? = some y := ⟨_, List.getElem?_eq_getElem (by omega)⟩
  have h0 : DataW.trod enc pZ W 0 sp hd n 3 (([c0, c1, c2, c3, c4, c5, c6, c7].drop 0).take (pZ.cellsOf 3)) = some x0 := (hf 0 _ rfl).trans e0
  have h1 : DataW.trod enc pZ W 0 sp hd n 3 (([c0, c1, c2, c3, c4, c5, c6, c7].drop 1).take (pZ.cellsOf 3)) = some x1 := (hf 1 _ rfl).trans e1
  have h2 : DataW.trod enc pZ W 0 sp hd n 29 (([c0, c1, c2, c3, c4, c5, c6, c7].drop 2).take (pZ.cellsOf 29)) = some x2 := (hf 2 _ rfl).trans e2
  have h3 : DataW.trod enc pZ W 0 sp hd n 9 (([c0, c1, c2, c3, c4, c5, c6, c7].drop 6).take (pZ.cellsOf 9)) = some x3 := (hf 3 _ rfl).trans e3
  have h4 : DataW.trod enc pZ W 0 sp hd n 22 (([c0, c1, c2, c3, c4, c5, c6, c7].drop 7).take (pZ.cellsOf 22)) = some x4 := (hf 4 _ rfl).trans e4
  simp only [cells_int, cells_N, cells_str, cells_Ds, List.drop_zero, List.drop_succ_cons, List.take_succ_cons, List.take_zero] at h0 h1 h2 h3 h4
  obtain ⟨k, q0, hk⟩ := jjE h0
  obtain ⟨m, q1, hm⟩ := jjE h1
  obtain ⟨fl, f, neg, vl, ls, q2, hfw, hU⟩ := num_trod (gs := gs) hlt h2
  obtain ⟨s, q3, _, hs⟩ := DataW.trod_string Tryz.underlying9 h3
  cases q0; cases q1; cases q2; cases q3
  obtain ⟨v, len, q4, hle, hv⟩ := jin Tryz.underlying22 ji1 (by decide) h4
  cases q4
  have fin : ∀ (l : List Dat), IsL (memW W gs) l (absV W gs c7) → ∃ d, IsD (memW W gs) d ([Value.int .i64 k, .int .i64 m, .bool fl, .float .f64 f, .bool neg, c5, .string s, c7].map (absV W gs)) := fun l hL => ⟨.mk k m fl f neg ls s l, jcD.2 ⟨_, _, rfl, ⟨hk, hm, hfw, hs⟩, hU, hL⟩⟩
  rcases hv with ⟨rfl, rfl⟩ | ⟨a, cap, rfl, hcp, hr⟩
  ·exact fin [] ⟨Nat.zero_le _, .inl ⟨rfl, rfl⟩⟩
  ·by_cases h0 : len = 0
   ·subst h0
    obtain ⟨i, o, hi⟩ := ji6 (W := W) (gs := gs) (l := 0) (c := cap) (a := a)
    exact fin [] ⟨Nat.zero_le _, .inr ⟨i, o, _, hi, fun h => absurd rfl h, (by rw [IsDs]; trivial), .inl ⟨by omega, Nat.zero_le _⟩⟩⟩
   ·obtain ⟨b, o, c, tb, fz, n', rfl, hn', hb, hi⟩ := hr (by omega)
    obtain ⟨l, hl1, hl2⟩ := jiN (len := len) (Q := fun i d => ∃ cs, Has (memW W gs) (idB gs b) (o + 8 * i) cs ∧ IsD (memW W gs) d cs) fun i hil => by
     obtain ⟨row, y, q1, q2⟩ := hi i hil
     obtain ⟨d, hd⟩ := ih n' (by omega) q1
     refine ⟨d, _, jgP hlt hb (fun j v hj => ?_) ?_, hd⟩
     ·rw [Nat.mul_comm 8 i]
      exact q2 j v hj
     ·rintro rfl
      cases d
      rw [jcD] at hd
      obtain ⟨_, _, h, _⟩ := hd
      cases h
    exact fin l ⟨by omega, .inr ⟨_, _, _, by rw [hl1]; exact abs_sl hb, fun _ => id_lt hb, jgX hl2, .inl ⟨by omega, by omega⟩⟩⟩
end
end
noncomputable section
theorem i_D : pZ.info? 31 = some Tryz.t31 := by kernel_rfl
theorem i_Dl : pZ.info? 22 = some Tryz.t22 := by kernel_rfl
theorem jba (μ : Mem) (i o : Nat) : jbX pZ μ 22 (.pointer (some ⟨i, o, none⟩)) = jap μ i o := jco Tryz.underlying22 rfl μ i o
theorem jbq (ρ : Operand → Value) (x : Operand) : jaL pZ ρ 31 x 0 = (match ρ x with | .pointer (some a) => some (.pointer (some (a.add 0))) | _ => none) := jaJ (ft := 3) (off := 0) Tryz.underlying31 rfl jdB rfl ρ x
theorem jbF (ρ : Operand → Value) (x : Operand) : jaL pZ ρ 31 x 1 = (match ρ x with | .pointer (some a) => some (.pointer (some (a.add 1))) | _ => none) := jaJ (ft := 3) (off := 1) Tryz.underlying31 rfl jdB rfl ρ x
theorem jbd (ρ : Operand → Value) (x : Operand) : jaL pZ ρ 31 x 2 = (match ρ x with | .pointer (some a) => some (.pointer (some (a.add 2))) | _ => none) := jaJ (ft := 29) (off := 2) Tryz.underlying31 rfl i_Num rfl ρ x
theorem jbu (ρ : Operand → Value) (x : Operand) : jaL pZ ρ 31 x 3 = (match ρ x with | .pointer (some a) => some (.pointer (some (a.add 6))) | _ => none) := jaJ (ft := 9) (off := 6) Tryz.underlying31 rfl i_str rfl ρ x
theorem jbc (ρ : Operand → Value) (x : Operand) : jaL pZ ρ 31 x 4 = (match ρ x with | .pointer (some a) => some (.pointer (some (a.add 7))) | _ => none) := jaJ (ft := 22) (off := 7) Tryz.underlying31 rfl i_Dl rfl ρ x
def obDt (l : List Value) : Ob := .cells 8 31 l.toArray .e 0 0 false false
theorem box_D (a b c d e f g h : Value) : aBox 31 (.agg #[a, b, c, d, e, f, g, h]) = some (obDt [a, b, c, d, e, f, g, h], fun id => .pointer (some ⟨id, 0, none⟩)) := rfl
theorem has_D (μ : Mem) (l : List Value) (hl : l.length = 8) : Has ⟨μ.obs.set μ.next (obDt l), μ.next + 1⟩ μ.next 0 l := Has.new (t := 31) (fx := false) (sh := false) (by
 show T.get _ _ = _
 rw [T.get_set, if_pos rfl, hl]
 rfl)
theorem ix_D {ρ : Operand → Value} {a b : Operand} {i o l c k : Nat} (hk : k < l) (h1 : ρ a = .slice (some ⟨i, o, none⟩) l c) (h2 : ρ b = .int .i64 (.ofNat k)) : jau pZ ρ 22 a b = some (.pointer (some ⟨i, o + 8 * k, none⟩)) := by
 unfold jau
 simp only [h1, h2, Tryz.underlying22, aIdx, i_D]
 rw [show Nat.blt k l = true from by simpa using hk]
 simp only
 rw [show Nat.mul k Tryz.t31.size = 8 * k from Nat.mul_comm k 8]
 unfold Addr.add
 by_cases g : 8 * k = 0
 ·rw [if_pos g, g]; rfl
 ·rw [if_neg g]
theorem Has.ld_D {μ : Mem} {i o : Nat} {l : List Value} (h : Has μ i o l) (hl : l.length = 8) : jbX pZ μ 31 (.pointer (some ⟨i, o, none⟩)) = some (.agg l.toArray) := h.load Tryz.underlying31 i_D (by rw [hl]; rfl)
def zD8 : List Value := [.int .i64 0, .int .i64 0, .bool false, .float .f64 0, .bool false, .slice none 0 0, .string ⟨#[]⟩, .slice none 0 0]
theorem al_D : jeB pZ 31 = some (obDt zD8, fun id => .pointer (some ⟨id, 0, none⟩)) := by kernel_rfl
theorem blk_D {μ : Mem} {l : List Value} : Blk ⟨μ.obs.set μ.next (obDt l), μ.next + 1⟩ μ.next 8 31 := ⟨_, _, _, _, by show T.get _ _ = _; rw [T.get_set, if_pos rfl]; rfl⟩
theorem st_D {μ : Mem} {i o n t : Nat} {l : List Value} (h : Blk μ i n t) (ho : o + 8 ≤ n) (hl : l.length = 8) (h1 : l.all one = true) : jb6 pZ μ 31 (.pointer (some ⟨i, o, none⟩)) (.agg l.toArray) = some (undef, putL μ i o l) := jeJ (vs := l) i_D (by rw [hl]; rfl) h1 h (by omega)
theorem IsU.len {μ : Mem} {ls : List Nat} {v : Value} (h : IsU μ ls v) : aLen pZ 25 v = some ls.length := by
 unfold aLen
 rcases h with ⟨_, _, ⟨rfl, rfl⟩ | ⟨i, o, c, rfl, _⟩⟩ <;> simp only [Tryz.underlying25] <;> rfl
theorem IsU.one {μ : Mem} {ls : List Nat} {v : Value} (h : IsU μ ls v) : one v = true := by
 rcases h with ⟨_, _, ⟨rfl, rfl⟩ | ⟨i, o, c, rfl, _⟩⟩ <;> rfl
theorem IsL.len {μ : Mem} {l : List Dat} {v : Value} (h : IsL μ l v) : aLen pZ 22 v = some l.length := by
 unfold aLen
 rcases h with ⟨_, ⟨rfl, rfl⟩ | ⟨i, o, c, rfl, _⟩⟩ <;> simp only [Tryz.underlying22] <;> rfl
theorem IsL.one {μ : Mem} {l : List Dat} {v : Value} (h : IsL μ l v) : one v = true := by
 rcases h with ⟨_, ⟨rfl, rfl⟩ | ⟨i, o, c, rfl, _⟩⟩ <;> rfl
theorem IsD.eight {μ : Mem} {d : Dat} {cs : List Value} (h : IsD μ d cs) : cs.length = 8 ∧ cs.all one = true := by
 cases d
 rw [jcD] at h
 obtain ⟨vl, vi, rfl, _, h1, h2⟩ := h
 refine ⟨rfl, ?_⟩
 simp only [List.all_cons, List.all_nil, h1.one, h2.one]
 rfl
theorem IsL.at {μ : Mem} {l : List Dat} {v : Value} {k : Nat} {d : Dat} (h : IsL μ l v) (hd : l[k]? = some d) : ∃ i o c cs, v = .slice (some ⟨i, o, none⟩) l.length c ∧ i < μ.next ∧ Has μ i (o + 8 * k) cs ∧ IsD μ d cs := by
 rcases h with ⟨_, ⟨_, rfl⟩ | ⟨i, o, c, h1, h2, h3, _⟩⟩
 ·simp at hd
 ·obtain ⟨cs, h4, h5⟩ := isDs_at h3 hd
  exact ⟨i, o, c, cs, h1, h2 (by rintro rfl; simp at hd), h4, h5⟩
end
noncomputable section
section
set_option linter.defProp false
variable {X : XT} {ev : Code → Rg → Mem → Option (Ax × Rg × Mem)}
def gg5 := go_call (P := pZ) (X := X) (ev := ev) (S := S0) Tryz.func5 rfl rfl
end
theorem nlt {a b : Nat} (h : ¬ (Int.ofNat a < Int.ofNat b)) : b ≤ a := by
 have : ¬ ((a : Int) < (b : Int)) := h
 omega
def Sm : Nat → Dat → Prop
 | 0, _ => False
 | n + 1, .mk _ _ _ _ _ ls s l => ls.length ≤ 200 ∧ (bys s).length ≤ 5000 ∧ l.length ≤ 4000 ∧ ∀ x ∈ l, Sm n x
theorem jj6 {n deep : Nat} (hdn : deep + 1 + n = 71) (ih : ∀ {d : Dat} {cs : List Value} {m : Int} {X : XT} {g : Nat} {μ : Mem}, IsD μ d cs → -1 ≤ m → m ≤ 4000 → 100 + 5000 * n ≤ g →
  ∃ (r : Int) (μ' : Mem), aFun pZ (jan pZ X S0 g) 5 [.agg cs.toArray, .int .i64 (.ofNat (deep + 1)), .int .i64 m] μ = some (.int .i64 r, μ') ∧ Grow μ μ' ∧ -1 ≤ r ∧ r ≤ m ∧ (0 ≤ r → Sm n d))
  {l : List Dat} {v : Value} (hl : l.length ≤ 4000) : ∀ (j i : Nat), i + j = l.length → ∀ {X : XT} {e : Nat} {tm : T Value} {μ : Mem} {m : Int}, IsL μ l v → -1 ≤ m → m ≤ 4000 → 100 + 5000 * n ≤ e →
  jak tm 1 = .int .i64 (.ofNat deep) → jak tm 2 = .int .i64 m → jak tm 39 = v → jak tm 40 = .int .i64 (.ofNat l.length) → jak tm 41 = .int .i64 (.ofNat i) →
  EndsC (jan pZ X S0 (e + j + 30) (.loop (jaB Tryz.f5 0)) ⟨54, tm, [], none⟩ μ) fun x r μ' => Grow μ μ' ∧ ∃ tm', r = ⟨54, tm', [], none⟩ ∧
   ((x = .exit 0 ∧ ∃ m' : Int, jak tm' 2 = .int .i64 m' ∧ -1 ≤ m' ∧ m' ≤ m ∧ ∀ x ∈ l.drop i, Sm n x) ∨ (x = .ret ∧ jak tm' 6 = .int .i64 (-1))) := by
 intro j
 induction j with
 | zero =>
   intro i hi X e tm μ m hL hm hm2 he h1 h2 h39 h40 h41
   have hi : i = l.length := hi
   have e1 : ilt (.ofNat i) (.ofNat l.length) = false := (jaq _ _).trans (decide_eq_false (by omega))
   refine jam ?_
   repeat (first | refine jac rfl ?_ | (refine jad rfl ?_; (try simp only [go_sem, h40, h41, e1]); fail_if_success refine ifC ?_))
   exact ⟨Grow.refl _, _, rfl, .inl ⟨by trivial, m, by simp only [go_sem, h2], hm, Int.le_refl _, fun x hx => by rw [hi, List.drop_length] at hx; cases hx⟩⟩
 | succ j ihj =>
   intro i hi X e tm μ m hL hm hm2 he h1 h2 h39 h40 h41
   have hlt : i < l.length := by omega
   have hdr : l.drop i = l[i]'hlt :: l.drop (i + 1) := List.drop_eq_getElem_cons hlt
   have e1 : ilt (.ofNat i) (.ofNat l.length) = true := (jaq _ _).trans (decide_eq_true hlt)
   have a1 : jar .i64 (Int.add (.ofNat i) 1) = .ofNat (i + 1) := jaW i 1 (by omega)
   have a2 : jar .i64 (Int.add (.ofNat deep) 1) = .ofNat (deep + 1) := jaW deep 1 (by omega)
   obtain ⟨bi, bo, bc, cs, hv, hb, hH, hD⟩ := hL.at (List.getElem?_eq_getElem hlt)
   have hix : ∀ (r : Rg) (x y : Operand), aev pZ r x = v → aev pZ r y = .int .i64 (.ofNat i) → jau pZ (aev pZ r) 22 x y = some (.pointer (some ⟨bi, bo + 8 * i, none⟩)) := fun r x y g1 g2 => ix_D hlt (g1.trans hv) g2
   have hl1 := Has.ld_D hH hD.eight.1
   obtain ⟨μ1, hμ1⟩ : ∃ μ1 : Mem, μ1 = putL ⟨μ.obs.set μ.next (obDt zD8), μ.next + 1⟩ μ.next 0 cs := ⟨_, rfl⟩
   have hst := st_D (o := 0) (blk_D (μ := μ) (l := zD8)) (by omega) hD.eight.1 hD.eight.2
   have hG1 : Grow μ μ1 := by rw [hμ1]; exact (jbp μ _).put_new (Nat.le_refl _)
   have hl2 : jbX pZ μ1 31 (.pointer (some ⟨μ.next, 0, none⟩)) = some (.agg cs.toArray) := by
    rw [hμ1]
    exact Has.ld_D (Has.of_put (vs := cs) blk_D (by rw [hD.eight.1]; omega)) hD.eight.1
   rw [← hμ1] at hst
   obtain ⟨r, μ2, hr, hG2, hr1, hr2, hr3⟩ := ih (X := X) (g := e + (j + 1) + 22) (hD.grow hG1) hm hm2 (by omega)
   have hG : Grow μ μ2 := hG1.trans hG2
   by_cases hneg : r < 0
   ·have e2 : ilt r 0 = true := (jbi _ _).trans (decide_eq_true hneg)
    refine jam ?_
    repeat (first | refine jac rfl ?_ | (refine jad rfl ?_; (try simp only [go_sem, h1, h2, h39, h40, h41, e1, hix, hl1, al_D, Nat.add_eq, hst, hl2, a2, gg5, hr, e2]); fail_if_success refine ifC ?_))
    refine jaf ?_
    exact ⟨hG, _, rfl, .inr ⟨rfl, by simp only [go_sem]⟩⟩
   ·have e2 : ilt r 0 = false := (jbi _ _).trans (decide_eq_false hneg)
    refine jam ?_
    repeat (first | refine jac rfl ?_ | (refine jad rfl ?_; (try simp only [go_sem, h1, h2, h39, h40, h41, e1, hix, hl1, al_D, Nat.add_eq, hst, hl2, a2, gg5, hr, e2, a1]); fail_if_success refine ifC ?_))
    rw [show e + (j + 1) + 29 = e + j + 30 from by omega]
    refine EndsC.mono (ihj (i + 1) (by omega) (hL.grow hG) hr1 (by omega) he (by simp only [go_sem, h1]) (by simp only [go_sem]) (by simp only [go_sem, h39]) (by simp only [go_sem, h40]) (by simp only [go_sem])) ?_
    rintro x r' μ' ⟨g1, tm', g2, g3⟩
    refine ⟨hG.trans g1, tm', g2, ?_⟩
    rcases g3 with ⟨rfl, m', q1, q2, q3, q4⟩ | g3
    ·refine .inl ⟨rfl, m', q1, q2, by omega, fun x hx => ?_⟩
     rw [hdr] at hx
     rcases List.mem_cons.1 hx with rfl | hx
     ·exact hr3 (by omega)
     ·exact q4 x hx
    ·exact .inr g3
theorem small_ex : ∀ (n : Nat) {deep : Nat}, deep + n = 71 → ∀ {d : Dat} {cs : List Value} {m : Int} {X : XT} {g : Nat} {μ : Mem}, IsD μ d cs → -1 ≤ m → m ≤ 4000 → 100 + 5000 * n ≤ g →
  ∃ (r : Int) (μ' : Mem), aFun pZ (jan pZ X S0 g) 5 [.agg cs.toArray, .int .i64 (.ofNat deep), .int .i64 m] μ = some (.int .i64 r, μ') ∧ Grow μ μ' ∧ -1 ≤ r ∧ r ≤ m ∧ (0 ≤ r → Sm n d) := by
 intro n
 induction n with
 | zero =>
   intro deep hdn d cs m X g μ hD hm hm2 hg
   obtain ⟨k, rfl⟩ := gle hg
   obtain ⟨kd, n', fl, f, neg, ls, s, l⟩ := d
   obtain ⟨vl, vi, rfl, _, hU, hL⟩ := jcD.1 hD
   have t1 : ilt 70 (.ofNat deep) = true := (jdq _ _ 70 rfl).trans (decide_eq_true (by omega))
   have key : EndsF (aFun pZ (jan pZ X S0 (k + (100 + 5000 * 0))) 5 [.agg #[.int .i64 kd, .int .i64 n', .bool fl, .float .f64 f, .bool neg, vl, .string s, vi], .int .i64 (.ofNat deep), .int .i64 m] μ) fun w μ' => ∃ r : Int, w = .int .i64 r ∧ Grow μ μ' ∧ -1 ≤ r ∧ r ≤ m ∧ (0 ≤ r → Sm 0 (.mk kd n' fl f neg ls s l)) := by
    refine jag Tryz.func5 rfl rfl (nbl rfl) ?_
    simp only [go_sem, Tryz.ntmps5]
    repeat (first | refine jac rfl ?_ | (refine jas rfl ?_; (try simp only [go_sem, box_D, Nat.add_eq, t1]); fail_if_success refine ifC ?_) | (refine jae rfl ?_; (repeat (first | (refine jal ?_ rfl ?_; (focus (simp only [go_sem, box_D, Nat.add_eq, t1]; done))) | (refine jai (v := ?_) (μ' := ?_) ?_ ?_ rfl ?_; rotate_left 2; (focus (first | rfl | (simp only [go_sem, box_D, Nat.add_eq, t1]; done))); (focus (simp only [go_sem, box_D, Nat.add_eq, t1]; (try exact rfl); done))))); simp only [go_sem]))
    refine jaf ?_
    refine ⟨rfl, .int .i64 (-1), ?_, -1, rfl, jbp _ _, Int.le_refl _, hm, fun h => absurd h (by decide)⟩
    simp only [go_sem, Tryz.results5]
   obtain ⟨w, μ', h1, r, rfl, h2⟩ := key
   exact ⟨r, μ', h1, h2⟩
 | succ n ih =>
   intro deep hdn d cs m X g μ hD hm hm2 hg
   obtain ⟨k, hk, rfl⟩ : ∃ k, 5000 * (n + 1) ≤ k ∧ g = k + 100 := ⟨g - 100, by omega, by omega⟩
   obtain ⟨kd, n', fl, f, neg, ls, s, l⟩ := d
   obtain ⟨vl, vi, rfl, _, hU, hL⟩ := jcD.1 hD
   obtain ⟨cl, hcl⟩ : ∃ cl : List Value, cl = [.int .i64 kd, .int .i64 n', .bool fl, .float .f64 f, .bool neg, vl, .string s, vi] := ⟨_, rfl⟩
   obtain ⟨μ1, hμ1⟩ : ∃ μ1 : Mem, μ1 = ⟨μ.obs.set μ.next (obDt cl), μ.next + 1⟩ := ⟨_, rfl⟩
   have hH := has_D μ cl (by rw [hcl]; rfl)
   rw [← hμ1] at hH
   have c5 : jap μ1 μ.next 5 = some vl := by have := hH.cell 5 (by simp [hcl]); simpa [hcl] using this
   have c6 : jap μ1 μ.next 6 = some (.string s) := by have := hH.cell 6 (by simp [hcl]); simpa [hcl] using this
   have c7 : jap μ1 μ.next 7 = some vi := by have := hH.cell 7 (by simp [hcl]); simpa [hcl] using this
   have hG1 : Grow μ μ1 := by rw [hμ1]; exact jbp _ _
   have hbx : aBox 31 (.agg #[.int .i64 kd, .int .i64 n', .bool fl, .float .f64 f, .bool neg, vl, .string s, vi]) = some (obDt cl, fun id => .pointer (some ⟨id, 0, none⟩)) := by rw [hcl]; rfl
   have lU := (hU.grow hG1).len
   have lL := (hL.grow hG1).len
   have lS := jbm s
   have t1 : ilt 70 (.ofNat deep) = false := (jdq _ _ 70 rfl).trans (decide_eq_false (by omega))
   obtain ⟨b2, t2⟩ : ∃ b, ilt m 0 = b := ⟨_, rfl⟩
   obtain ⟨b3, t3⟩ : ∃ b, ilt m (.ofNat l.length) = b := ⟨_, rfl⟩
   obtain ⟨b4, t4⟩ : ∃ b, ilt 5000 (.ofNat (bys s).length) = b := ⟨_, rfl⟩
   obtain ⟨b5, t5⟩ : ∃ b, ilt 200 (.ofNat ls.length) = b := ⟨_, rfl⟩
   have key : EndsF (aFun pZ (jan pZ X S0 (k + 100)) 5 [.agg #[.int .i64 kd, .int .i64 n', .bool fl, .float .f64 f, .bool neg, vl, .string s, vi], .int .i64 (.ofNat deep), .int .i64 m] μ) fun w μ' => ∃ r : Int, w = .int .i64 r ∧ Grow μ μ' ∧ -1 ≤ r ∧ r ≤ m ∧ (0 ≤ r → Sm (n + 1) (.mk kd n' fl f neg ls s l)) := by
    have cc : (b2 = true) ∨ (b2 = false ∧ b3 = true) ∨ (b2 = false ∧ b3 = false ∧ b4 = true) ∨ (b2 = false ∧ b3 = false ∧ b4 = false ∧ b5 = true) ∨ (b2 = false ∧ b3 = false ∧ b4 = false ∧ b5 = false) := by cases b2 <;> cases b3 <;> cases b4 <;> cases b5 <;> simp
    rcases cc with rfl | ⟨rfl, rfl⟩ | ⟨rfl, rfl, rfl⟩ | ⟨rfl, rfl, rfl, rfl⟩ | ⟨rfl, rfl, rfl, rfl⟩
    rotate_left 4
    ·rw [jbi, decide_eq_false_iff_not] at t2 t3 t4 t5
     have hm0 : 0 ≤ m := by omega
     have hl4 : l.length ≤ 4000 := by
      have : ¬ (m < (l.length : Int)) := t3
      omega
     have t2' : ilt m 0 = false := (jbi _ _).trans (decide_eq_false t2)
     have t3' : ilt m (.ofNat l.length) = false := (jbi _ _).trans (decide_eq_false t3)
     have t4' : ilt 5000 (.ofNat (bys s).length) = false := (jbi _ _).trans (decide_eq_false t4)
     have t5' : ilt 200 (.ofNat ls.length) = false := (jbi _ _).trans (decide_eq_false t5)
     have a1 : jar .i64 (Int.sub m 1) = m - 1 := jdj m 1 (by omega) (by omega)
     refine jag Tryz.func5 rfl rfl (nbl rfl) ?_
     simp only [go_sem, Tryz.ntmps5]
     repeat (first | refine jac rfl ?_ | (refine jas rfl ?_; (try simp only [go_sem, hbx, Nat.add_eq, ← hμ1, jbd, ja2, ja4, jbu, jbc, jba, jbQ, jaZ, c5, c6, c7, jaa, lU, lL, lS, jab, t1, t2', t3', t4', t5', a1]); fail_if_success refine ifC ?_) | (refine jae rfl ?_; (repeat (first | (refine jal ?_ rfl ?_; (focus (simp only [go_sem, hbx, Nat.add_eq, ← hμ1, jbd, ja2, ja4, jbu, jbc, jba, jbQ, jaZ, c5, c6, c7, jaa, lU, lL, lS, jab, t1, t2', t3', t4', t5', a1]; done))) | (refine jai (v := ?_) (μ' := ?_) ?_ ?_ rfl ?_; rotate_left 2; (focus (first | rfl | (simp only [go_sem, hbx, Nat.add_eq, ← hμ1, jbd, ja2, ja4, jbu, jbc, jba, jbQ, jaZ, c5, c6, c7, jaa, lU, lL, lS, jab, t1, t2', t3', t4', t5', a1]; done))); (focus (simp only [go_sem, hbx, Nat.add_eq, ← hμ1, jbd, ja2, ja4, jbu, jbc, jba, jbQ, jaZ, c5, c6, c7, jaa, lU, lL, lS, jab, t1, t2', t3', t4', t5', a1]; (try exact rfl); done))))); simp only [go_sem]))
     rw [show k + 94 = (k + 64 - l.length) + l.length + 30 from by omega]
     refine EndsC.mono (jj6 (n := n) (deep := deep) (by omega) (fun hD hm hm2 hg => ih (by omega) hD hm hm2 hg) hl4 l.length 0 (Nat.zero_add _) (m := m - 1) (hL.grow hG1) (by omega) (by omega) (by omega) (by simp only [go_sem]) (by simp only [go_sem]) (by simp only [go_sem]) (by simp only [go_sem]) (by simp only [go_sem]; try rfl)) ?_
     rintro x r μ' ⟨g1, tm', rfl, ⟨rfl, m', q1, q2, q3, q4⟩ | ⟨rfl, q1⟩⟩
     ·simp only [jaU, reduceIte, jaj]
      repeat (first | refine jac rfl ?_ | (refine jas rfl ?_; (try simp only [go_sem, q1]); fail_if_success refine ifC ?_) | (refine jae rfl ?_; (repeat (first | (refine jal ?_ rfl ?_; (focus (simp only [go_sem, q1]; done))) | (refine jai (v := ?_) (μ' := ?_) ?_ ?_ rfl ?_; rotate_left 2; (focus (first | rfl | (simp only [go_sem, q1]; done))); (focus (simp only [go_sem, q1]; (try exact rfl); done))))); simp only [go_sem]))
      refine jaf ?_
      refine ⟨rfl, .int .i64 m', ?_, m', rfl, hG1.trans g1, q2, by omega, fun h => ⟨nlt (a := 200) t5, nlt (a := 5000) t4, hl4, fun x hx => q4 x hx⟩⟩
      simp only [go_sem, Tryz.results5]
     ·simp only [jaU]
      refine ⟨rfl, .int .i64 (-1), ?_, -1, rfl, hG1.trans g1, by omega, hm, fun h => absurd h (by decide)⟩
      simp only [go_sem, Tryz.results5]
      rw [q1]
    all_goals
     refine jag Tryz.func5 rfl rfl (nbl rfl) ?_
     simp only [go_sem, Tryz.ntmps5]
     repeat (first | refine jac rfl ?_ | (refine jas rfl ?_; (try simp only [go_sem, hbx, Nat.add_eq, ← hμ1, jbd, ja2, ja4, jbu, jbc, jba, jbQ, jaZ, c5, c6, c7, jaa, lU, lL, lS, jab, t1, t2, t3, t4, t5]); fail_if_success refine ifC ?_) | (refine jae rfl ?_; (repeat (first | (refine jal ?_ rfl ?_; (focus (simp only [go_sem, hbx, Nat.add_eq, ← hμ1, jbd, ja2, ja4, jbu, jbc, jba, jbQ, jaZ, c5, c6, c7, jaa, lU, lL, lS, jab, t1, t2, t3, t4, t5]; done))) | (refine jai (v := ?_) (μ' := ?_) ?_ ?_ rfl ?_; rotate_left 2; (focus (first | rfl | (simp only [go_sem, hbx, Nat.add_eq, ← hμ1, jbd, ja2, ja4, jbu, jbc, jba, jbQ, jaZ, c5, c6, c7, jaa, lU, lL, lS, jab, t1, t2, t3, t4, t5]; done))); (focus (simp only [go_sem, hbx, Nat.add_eq, ← hμ1, jbd, ja2, ja4, jbu, jbc, jba, jbQ, jaZ, c5, c6, c7, jaa, lU, lL, lS, jab, t1, t2, t3, t4, t5]; (try exact rfl); done))))); simp only [go_sem]))
     refine jaf ?_
     refine ⟨rfl, .int .i64 (-1), ?_, -1, rfl, hG1, Int.le_refl _, hm, fun h => absurd h (by decide)⟩
     simp only [go_sem, Tryz.results5]
   obtain ⟨w, μ', h1, r, rfl, h2⟩ := key
   exact ⟨r, μ', h1, h2⟩
end
noncomputable section
section
set_option linter.defProp false
variable {X : XT} {ev : Code → Rg → Mem → Option (Ax × Rg × Mem)}
def gg54 := go_call (P := pZ) (X := X) (ev := ev) (S := S0) Tryz.func54 rfl rfl
def gg33 := go_call (P := pZ) (X := X) (ev := ev) (S := S0) Tryz.func33 rfl rfl
def gg55 := go_call (P := pZ) (X := X) (ev := ev) (S := S0) Tryz.func55 rfl rfl
def gg34 := go_call (P := pZ) (X := X) (ev := ev) (S := S0) Tryz.func34 rfl rfl
def gg21 := go_call (P := pZ) (X := X) (ev := ev) (S := S0) Tryz.func21 rfl rfl
end
def jcL (X : XT) : Prop := ∀ a μ, X 49 [.float .f64 a] μ = some (.int .u64 (.ofNat a), μ)
theorem go_bits {X : XT} {ev : Code → Rg → Mem → Option (Ax × Rg × Mem)} (args : List Value) (μ : Mem) : aGo pZ X (jbO pZ ev S0) 49 args μ = X 49 args μ := by
 unfold aGo
 rw [Tryz.func49]
 rfl
theorem wf_f64 {f : Nat} (h : (Lit.float .f64 f).wf = true) : f < 18446744073709551616 := by
 simpa [Lit.wf] using h
theorem wAnd11 (a : Nat) : jcb Nat.land .u64 .u64 (.ofNat (W a)) 2047 = some (.int .u64 (.ofNat (W (W a &&& 2047)))) := jgB _ 2047 (W_lt a) (by decide)
theorem wAnd52 (a : Nat) : jcb Nat.land .u64 .u64 (.ofNat (W a)) 4503599627370495 = some (.int .u64 (.ofNat (W (W a &&& 4503599627370495)))) := jgB _ 4503599627370495 (W_lt a) (by decide)
def nb (f : Nat) : Nat := if W (W (W f / 2 ^ 52) &&& 2047) = 2047 ∧ W (W f &&& 4503599627370495) ≠ 0 then 9221120237041090561 else f
theorem jjP {X : XT} {g f : Nat} {μ : Mem} (hX : jcL X) (hf : f < 18446744073709551616) (hg : 20 ≤ g) : aFun pZ (jan pZ X S0 g) 54 [.float .f64 f] μ = some (u (nb f), μ) := by
 obtain ⟨k, rfl⟩ := gle hg
 have hc : ∀ μ', aGo pZ X (jbO pZ (jan pZ X S0 (k + 17)) S0) 49 [.float .f64 f] μ' = some (u f, μ') := fun μ' => (go_bits _ _).trans ((hX f μ').trans (by rw [u_of hf]))
 obtain ⟨p, hp⟩ : ∃ p, p = W (W (W f / 2 ^ 52) &&& 2047) := ⟨_, rfl⟩
 obtain ⟨q, hq⟩ : ∃ q, q = W (W f &&& 4503599627370495) := ⟨_, rfl⟩
 have a1 := jb5 f
 have a2 := wAnd11 (W f / 2 ^ 52)
 have a3 := wAnd52 f
 rw [← hp] at a2
 rw [← hq] at a3
 have t1 : ieq (.ofNat p) 2047 = decide (p = 2047) := jaS p 2047 2047 rfl
 have t2 : ieq (.ofNat q) 0 = decide (q = 0) := jaS q 0 0 rfl
 have hn : nb f = if p = 2047 ∧ q ≠ 0 then 9221120237041090561 else f := by rw [hp, hq]; rfl
 refine jaI ?_
 rw [hn]
 by_cases h1 : p = 2047
 ·rw [decide_eq_true h1] at t1
  by_cases h2 : q = 0
  ·rw [decide_eq_true h2] at t2
   rw [if_neg (fun h => h.2 h2)]
   refine jag Tryz.func54 rfl rfl (nbl rfl) ?_
   simp only [go_sem, Tryz.ntmps54]
   repeat (first | refine jac rfl ?_ | (refine jas rfl ?_; (try simp only [go_sem, hc, a1, a2, a3, t1, t2]); fail_if_success refine ifC ?_) | (refine jae rfl ?_; (repeat (first | (refine jal ?_ rfl ?_; (focus (simp only [go_sem, hc, a1, a2, a3, t1, t2]; done))) | (refine jai (v := ?_) (μ' := ?_) ?_ ?_ rfl ?_; rotate_left 2; (focus (first | rfl | (simp only [go_sem, hc, a1, a2, a3, t1, t2]; done))); (focus (simp only [go_sem, hc, a1, a2, a3, t1, t2]; (try exact rfl); done))))); simp only [go_sem]))
   refine jaf ?_
   refine ⟨rfl, _, ?_, rfl, rfl⟩
   simp only [go_sem, Tryz.results54]
  ·rw [decide_eq_false h2] at t2
   rw [if_pos ⟨h1, h2⟩]
   refine jag Tryz.func54 rfl rfl (nbl rfl) ?_
   simp only [go_sem, Tryz.ntmps54]
   repeat (first | refine jac rfl ?_ | (refine jas rfl ?_; (try simp only [go_sem, hc, a1, a2, a3, t1, t2]); fail_if_success refine ifC ?_) | (refine jae rfl ?_; (repeat (first | (refine jal ?_ rfl ?_; (focus (simp only [go_sem, hc, a1, a2, a3, t1, t2]; done))) | (refine jai (v := ?_) (μ' := ?_) ?_ ?_ rfl ?_; rotate_left 2; (focus (first | rfl | (simp only [go_sem, hc, a1, a2, a3, t1, t2]; done))); (focus (simp only [go_sem, hc, a1, a2, a3, t1, t2]; (try exact rfl); done))))); simp only [go_sem]))
   refine jaf ?_
   refine ⟨rfl, _, ?_, rfl, rfl⟩
   simp only [go_sem, Tryz.results54]
   show some (Value.int .u64 (.ofNat 9221120237041090561)) = _
   rw [u_of (by decide)]
 ·rw [decide_eq_false h1] at t1
  rw [if_neg (fun h => h1 h.1)]
  refine jag Tryz.func54 rfl rfl (nbl rfl) ?_
  simp only [go_sem, Tryz.ntmps54]
  repeat (first | refine jac rfl ?_ | (refine jas rfl ?_; (try simp only [go_sem, hc, a1, a2, a3, t1, t2]); fail_if_success refine ifC ?_) | (refine jae rfl ?_; (repeat (first | (refine jal ?_ rfl ?_; (focus (simp only [go_sem, hc, a1, a2, a3, t1, t2]; done))) | (refine jai (v := ?_) (μ' := ?_) ?_ ?_ rfl ?_; rotate_left 2; (focus (first | rfl | (simp only [go_sem, hc, a1, a2, a3, t1, t2]; done))); (focus (simp only [go_sem, hc, a1, a2, a3, t1, t2]; (try exact rfl); done))))); simp only [go_sem]))
  refine jaf ?_
  refine ⟨rfl, _, ?_, rfl, rfl⟩
  simp only [go_sem, Tryz.results54]
theorem nb_lt {f : Nat} (hf : f < 18446744073709551616) : nb f < 18446744073709551616 := by
 unfold nb
 split
 ·decide
 ·exact hf
theorem same3_eq {X : XT} {g f h : Nat} {μ : Mem} (hX : jcL X) (hf : f < 18446744073709551616) (hh : h < 18446744073709551616) (hg : 40 ≤ g) : aFun pZ (jan pZ X S0 g) 33 [.float .f64 f, .float .f64 h] μ = some (.bool (decide (nb f = nb h)), μ) := by
 obtain ⟨k, rfl⟩ := gle hg
 have c1 : ∀ μ', aFun pZ (jan pZ X S0 (k + 37)) 54 [.float .f64 f] μ' = some (u (nb f), μ') := fun μ' => jjP hX hf (by omega)
 have c2 : ∀ μ', aFun pZ (jan pZ X S0 (k + 37)) 54 [.float .f64 h] μ' = some (u (nb h), μ') := fun μ' => jjP hX hh (by omega)
 have t1 : ieq (.ofNat (W (nb f))) (.ofNat (W (nb h))) = decide (nb f = nb h) := by rw [jbW, W_of (nb_lt hf), W_of (nb_lt hh)]
 refine jaI ?_
 refine jag Tryz.func33 rfl rfl (nbl rfl) ?_
 simp only [go_sem, Tryz.ntmps33]
 repeat (first | refine jac rfl ?_ | (refine jad rfl ?_; (try simp only [go_sem, gg54, c1, c2, t1]); fail_if_success refine ifC ?_))
 refine jaf ?_
 refine ⟨rfl, _, ?_, rfl, rfl⟩
 simp only [go_sem, Tryz.results33]
theorem IsU.at {μ : Mem} {ls : List Nat} {v : Value} {k x : Nat} (h : IsU μ ls v) (hx : ls[k]? = some x) : x < 4294967296 ∧ ∃ i o c, v = .slice (some ⟨i, o, none⟩) ls.length c ∧ i < μ.next ∧ jap μ i (o + k) = some (.int .u32 (.ofNat x)) := by
 obtain ⟨hk, rfl⟩ := List.getElem?_eq_some_iff.1 hx
 refine ⟨h.1 _ (List.getElem_mem hk), ?_⟩
 rcases h.2.2 with ⟨_, rfl⟩ | ⟨i, o, c, h1, h2, _⟩
 ·simp at hk
 ·have hn : ls ≠ [] := by rintro rfl; simp at hk
  refine ⟨i, o, c, h1, (h2 hn).1, ?_⟩
  have := (h2 hn).2.cell k (by simpa using hk)
  simpa using this
theorem ix_U {ρ : Operand → Value} {a b : Operand} {i o l c k : Nat} (hk : k < l) (h1 : ρ a = .slice (some ⟨i, o, none⟩) l c) (h2 : ρ b = .int .i64 (.ofNat k)) : jau pZ ρ 25 a b = some (.pointer (some ⟨i, o + k, none⟩)) :=
 jaT (P := pZ) Tryz.underlying25 jcN rfl h1 h2 hk
theorem jka {xs ys : List Nat} {v w : Value} (hlen : xs.length = ys.length) (hl : xs.length ≤ 1000000) : ∀ (j i : Nat), i + j = xs.length → (xs.take i = ys.take i) → ∀ {X : XT} {e : Nat} {tm : T Value} {μ : Mem}, IsU μ xs v → IsU μ ys w →
  jak tm 0 = v → jak tm 1 = w → jak tm 12 = .int .i64 (.ofNat xs.length) → jak tm 13 = .int .i64 (.ofNat i) →
  EndsC (jan pZ X S0 (e + j + 30) (.loop (jaB Tryz.f55 0)) ⟨26, tm, [], none⟩ μ) fun x r μ' => Grow μ μ' ∧ ∃ tm', r = ⟨26, tm', [], none⟩ ∧ ((x = .exit 0 ∧ xs = ys) ∨ (x = .ret ∧ xs ≠ ys ∧ jak tm' 4 = .bool false)) := by
 intro j
 induction j with
 | zero =>
   intro i hi ht X e tm μ hv hw h0 h1 h12 h13
   have hi : i = xs.length := hi
   have e1 : ilt (.ofNat i) (.ofNat xs.length) = false := (jaq _ _).trans (decide_eq_false (by omega))
   refine jam ?_
   repeat (first | refine jac rfl ?_ | (refine jad rfl ?_; (try simp only [go_sem, h12, h13, e1]); fail_if_success refine ifC ?_))
   refine ⟨Grow.refl _, _, rfl, .inl ⟨by trivial, ?_⟩⟩
   rw [hi, List.take_length, hlen, List.take_length] at ht
   exact ht
 | succ j ih =>
   intro i hi ht X e tm μ hv hw h0 h1 h12 h13
   have hx : i < xs.length := by omega
   have hy : i < ys.length := by omega
   have e1 : ilt (.ofNat i) (.ofNat xs.length) = true := (jaq _ _).trans (decide_eq_true hx)
   have a1 : jar .i64 (Int.add (.ofNat i) 1) = .ofNat (i + 1) := jaW i 1 (by omega)
   obtain ⟨bx, bi, bo, bc, hbv, hbi, hbc⟩ := hv.at (List.getElem?_eq_getElem hx)
   obtain ⟨cx, ci, co, cc, hcv, hci, hcc⟩ := hw.at (List.getElem?_eq_getElem hy)
   obtain ⟨p, hp⟩ : ∃ p, p = xs[i]'hx := ⟨_, rfl⟩
   obtain ⟨q, hq⟩ : ∃ q, q = ys[i]'hy := ⟨_, rfl⟩
   rw [← hp] at hbc
   rw [← hq] at hcc
   have hix : ∀ (r : Rg) (x y : Operand), aev pZ r x = v → aev pZ r y = .int .i64 (.ofNat i) → jau pZ (aev pZ r) 25 x y = some (.pointer (some ⟨bi, bo + i, none⟩)) := fun r x y g1 g2 => ix_U hx (g1.trans hbv) g2
   have hiy : ∀ (r : Rg) (x y : Operand), aev pZ r x = w → aev pZ r y = .int .i64 (.ofNat i) → jau pZ (aev pZ r) 25 x y = some (.pointer (some ⟨ci, co + i, none⟩)) := fun r x y g1 g2 => ix_U hy (g1.trans hcv) g2
   have hcb : ∀ m, jap ⟨μ.obs, m⟩ bi (bo + i) = some (.int .u32 (.ofNat p)) := fun m => hbc
   have hcc' : ∀ m, jap ⟨μ.obs, m⟩ ci (co + i) = some (.int .u32 (.ofNat q)) := fun m => hcc
   have hG : Grow μ ⟨μ.obs, μ.next + 9⟩ := jd6 μ 9
   by_cases hpq : p = q
   ·have e2 : ieq (.ofNat p) (.ofNat q) = true := (jbW _ _).trans (decide_eq_true hpq)
    have ht' : xs.take (i + 1) = ys.take (i + 1) := by
     rw [List.take_add_one, List.take_add_one, ht, List.getElem?_eq_getElem hx, List.getElem?_eq_getElem hy, ← hp, ← hq, hpq]
    refine jam ?_
    repeat (first | refine jac rfl ?_ | (refine jad rfl ?_; (try simp only [go_sem, h12, h13, e1]); fail_if_success refine ifC ?_))
    refine jaN (n := 9) (ms := [0, 0, 3, 7, 0, 0, 48, 112, 255]) (ord := [0, 1, 2, 3, 4, 5, 6, 7, 8]) (ds := ?_) ?_ ?_ ?_ ?_ ?_ ?_
    rotate_left
    ·kernel_rfl
    ·kernel_rfl
    ·kernel_rfl
    ·rfl
    ·rfl
    repeat (first | (refine jcu ?_ rfl ?_; (focus (simp only [go_sem, h0, h1, hix, hiy, jbH, hcb, hcc', e2]; done))) | (refine jaM (v := ?_) (μ' := ?_) (sn' := ?_) ?_ ?_ rfl ?_; rotate_left 3; (focus (first | rfl | (simp only [go_sem, h0, h1, hix, hiy, jbH, hcb, hcc', e2]; done))); (focus (simp only [jaO, heavy, ja8, jaF, go_sem, h0, h1, hix, hiy, jbH, hcb, hcc', e2]; (try exact rfl); done))))
    simp only [dRun, jaG, jaj]
    repeat (first | refine jac rfl ?_ | (refine jad rfl ?_; (try simp only [go_sem, h0, h1, h12, h13, a1]); fail_if_success refine ifC ?_))
    rw [show e + (j + 1) + 29 = e + j + 30 from by omega]
    refine EndsC.mono (ih (i + 1) (by omega) ht' (hv.grow hG) (hw.grow hG) (by simp only [go_sem, h0]) (by simp only [go_sem, h1]) (by simp only [go_sem, h12]) (by simp only [go_sem])) ?_
    rintro x r μ' ⟨g1, g2⟩
    exact ⟨hG.trans g1, g2⟩
   ·have e2 : ieq (.ofNat p) (.ofNat q) = false := (jbW _ _).trans (decide_eq_false hpq)
    refine jam ?_
    repeat (first | refine jac rfl ?_ | (refine jad rfl ?_; (try simp only [go_sem, h12, h13, e1]); fail_if_success refine ifC ?_))
    refine jaN (n := 9) (ms := [0, 0, 3, 7, 0, 0, 48, 112, 255]) (ord := [0, 1, 2, 3, 4, 5, 6, 7, 8]) (ds := ?_) ?_ ?_ ?_ ?_ ?_ ?_
    rotate_left
    ·kernel_rfl
    ·kernel_rfl
    ·kernel_rfl
    ·rfl
    ·rfl
    repeat (first | (refine jcu ?_ rfl ?_; (focus (simp only [go_sem, h0, h1, hix, hiy, jbH, hcb, hcc', e2]; done))) | (refine jaM (v := ?_) (μ' := ?_) (sn' := ?_) ?_ ?_ rfl ?_; rotate_left 3; (focus (first | rfl | (simp only [go_sem, h0, h1, hix, hiy, jbH, hcb, hcc', e2]; done))); (focus (simp only [jaO, heavy, ja8, jaF, go_sem, h0, h1, hix, hiy, jbH, hcb, hcc', e2]; (try exact rfl); done))))
    simp only [dRun, jaG, jaj]
    repeat (first | refine jac rfl ?_ | (refine jad rfl ?_; (try simp only [go_sem, h0, h1, h12, h13, a1]); fail_if_success refine ifC ?_))
    refine jaf ?_
    exact ⟨hG, _, rfl, .inr ⟨by trivial, fun e => hpq (by subst e; rw [hp, hq]), by simp only [go_sem]⟩⟩
theorem jjp {xs ys : List Nat} {v w : Value} {X : XT} {g : Nat} {μ : Mem} (hv : IsU μ xs v) (hw : IsU μ ys w) (hl : xs.length ≤ 1000000) (hg : xs.length + 100 ≤ g) : ∃ μ', aFun pZ (jan pZ X S0 g) 55 [v, w] μ = some (.bool (decide (xs = ys)), μ') ∧ Grow μ μ' := by
 obtain ⟨k, hk, rfl⟩ : ∃ k, xs.length ≤ k ∧ g = k + 100 := ⟨g - 100, by omega, by omega⟩
 have l1 := hv.len
 have l2 := hw.len
 have key : EndsF (aFun pZ (jan pZ X S0 (k + 100)) 55 [v, w] μ) fun r μ' => r = .bool (decide (xs = ys)) ∧ Grow μ μ' := by
  by_cases hlen : xs.length = ys.length
  ·have e1 : ieq (.ofNat xs.length) (.ofNat ys.length) = true := (jbW _ _).trans (decide_eq_true hlen)
   refine jag Tryz.func55 rfl rfl (nbl rfl) ?_
   simp only [go_sem, Tryz.ntmps55]
   repeat (first | refine jac rfl ?_ | (refine jad rfl ?_; (try simp only [go_sem, jaa, l1, l2, jab, e1]); fail_if_success refine ifC ?_))
   rw [show k + 95 = (k + 65 - xs.length) + xs.length + 30 from by omega]
   refine EndsC.mono (jka hlen hl xs.length 0 (Nat.zero_add _) rfl hv hw (by simp only [go_sem]) (by simp only [go_sem]) (by simp only [go_sem]) (by simp only [go_sem]; try rfl)) ?_
   rintro x r μ' ⟨g1, tm', rfl, ⟨rfl, g2⟩ | ⟨rfl, g2, g3⟩⟩
   ·simp only [jaU, reduceIte, jaj]
    repeat (first | refine jac rfl ?_ | (refine jad rfl ?_; (try simp only [go_sem, undef]); fail_if_success refine ifC ?_))
    refine jaf ?_
    refine ⟨rfl, .bool true, ?_, by rw [decide_eq_true g2], g1⟩
    simp only [go_sem, Tryz.results55]
   ·simp only [jaU]
    refine ⟨rfl, .bool false, ?_, by rw [decide_eq_false g2], g1⟩
    simp only [go_sem, Tryz.results55]
    rw [g3]
  ·have e1 : ieq (.ofNat xs.length) (.ofNat ys.length) = false := (jbW _ _).trans (decide_eq_false hlen)
   refine jag Tryz.func55 rfl rfl (nbl rfl) ?_
   simp only [go_sem, Tryz.ntmps55]
   repeat (first | refine jac rfl ?_ | (refine jad rfl ?_; (try simp only [go_sem, jaa, l1, l2, jab, e1]); fail_if_success refine ifC ?_))
   refine jaf ?_
   refine ⟨rfl, .bool false, ?_, by rw [decide_eq_false (fun h => hlen (by rw [h]))], Grow.refl _⟩
   simp only [go_sem, Tryz.results55]
 obtain ⟨r, μ', h1, rfl, h2⟩ := key
 exact ⟨μ', h1, h2⟩
end
noncomputable section
theorem Has.c2 {μ : Mem} {i : Nat} {a b : Value} (h : Has μ i 0 [a, b]) : jap μ i 0 = some a ∧ jap μ i 1 = some b := ⟨Has.cell h 0 (by simp), Has.cell h 1 (by simp)⟩
theorem Has.c4 {μ : Mem} {i : Nat} {a b c d : Value} (h : Has μ i 0 [a, b, c, d]) : jap μ i 0 = some a ∧ jap μ i 1 = some b ∧ jap μ i 2 = some c ∧ jap μ i 3 = some d := ⟨Has.cell h 0 (by simp), Has.cell h 1 (by simp), Has.cell h 2 (by simp), Has.cell h 3 (by simp)⟩
theorem Has.c8 {μ : Mem} {i : Nat} {a b c d e f g j : Value} (h : Has μ i 0 [a, b, c, d, e, f, g, j]) : jap μ i 0 = some a ∧ jap μ i 1 = some b ∧ jap μ i 2 = some c ∧ jap μ i 3 = some d ∧ jap μ i 4 = some e ∧ jap μ i 5 = some f ∧ jap μ i 6 = some g ∧ jap μ i 7 = some j :=
 ⟨Has.cell h 0 (by simp), Has.cell h 1 (by simp), Has.cell h 2 (by simp), Has.cell h 3 (by simp), Has.cell h 4 (by simp), Has.cell h 5 (by simp), Has.cell h 6 (by simp), Has.cell h 7 (by simp)⟩
abbrev obL (t : TypeId) (l : List Value) : Ob := .cells l.length t l.toArray .e 0 0 false false
theorem jhR (μ : Mem) (t : TypeId) (l : List Value) : Has ⟨μ.obs.set μ.next (obL t l), μ.next + 1⟩ μ.next 0 l := Has.new (t := t) (fx := false) (sh := false) (by
 show T.get _ _ = _
 rw [T.get_set, if_pos rfl])
theorem has_2 (μ : Mem) (t t2 : TypeId) (l l2 : List Value) : Has ⟨(μ.obs.set μ.next (obL t l)).set (μ.next + 1) (obL t2 l2), μ.next + 1 + 1⟩ μ.next 0 l ∧ Has ⟨(μ.obs.set μ.next (obL t l)).set (μ.next + 1) (obL t2 l2), μ.next + 1 + 1⟩ (μ.next + 1) 0 l2 :=
 ⟨(jhR μ t l).keep (by show T.get _ _ = T.get _ _; rw [T.get_set, if_neg (by omega)]), jhR ⟨μ.obs.set μ.next (obL t l), μ.next + 1⟩ t2 l2⟩
theorem grow_2 (μ : Mem) (a b : Ob) : Grow μ ⟨(μ.obs.set μ.next a).set (μ.next + 1) b, μ.next + 1 + 1⟩ := (jbp μ a).trans (jbp ⟨μ.obs.set μ.next a, μ.next + 1⟩ b)
theorem jcK (a b : Value) : aBox 27 (.agg #[a, b]) = some (obL 27 [a, b], fun id => .pointer (some ⟨id, 0, none⟩)) := rfl
theorem jbE (a b c d : Value) : aBox 29 (.agg #[a, b, c, d]) = some (obL 29 [a, b, c, d], fun id => .pointer (some ⟨id, 0, none⟩)) := rfl
theorem ja7 (a b c d e f g h : Value) : aBox 31 (.agg #[a, b, c, d, e, f, g, h]) = some (obL 31 [a, b, c, d, e, f, g, h], fun id => .pointer (some ⟨id, 0, none⟩)) := rfl
theorem has_I {μ : Mem} {i : Nat} {a b c d : Value} (h : Has μ i 0 [a, b, c, d]) : jbX pZ μ 27 (.pointer (some ⟨i, 2, none⟩)) = some (.agg #[c, d]) := (Has.part (a := [a, b]) (b := [c, d]) (c := []) h rfl).load Tryz.underlying27 jkz rfl
theorem has_N {μ : Mem} {i : Nat} {a b c d e f g j : Value} (h : Has μ i 0 [a, b, c, d, e, f, g, j]) : jbX pZ μ 29 (.pointer (some ⟨i, 2, none⟩)) = some (.agg #[c, d, e, f]) := (Has.part (a := [a, b]) (b := [c, d, e, f]) (c := [g, j]) h rfl).load Tryz.underlying29 i_Num rfl
theorem eqB {b1 b2 b : Bool} (e : (b1 == b2) = b) : ∀ (r : Rg) (d : Option Tmp) (ty : TypeId) (x y : Operand) (ps : String) (af : Array Edge) (gd : Option (Nat × Bool)), aev pZ r x = .bool b1 → aev pZ r y = .bool b2 → jaV pZ (aev pZ r) ⟨d, .binOp .eql 4 x y 4, ty, ps, af, gd⟩ = some (.bool b) := fun r d ty x y ps af gd g1 g2 => by rw [eqb g1 g2, e]
theorem same2_eq {xs ys : List Nat} {v w : Value} {p q : Bool} {X : XT} {g : Nat} {μ : Mem} (hv : IsU μ xs v) (hw : IsU μ ys w) (hl : xs.length ≤ 1000000) (hg : xs.length + 130 ≤ g) : ∃ μ', aFun pZ (jan pZ X S0 g) 34 [.agg #[.bool p, v], .agg #[.bool q, w]] μ = some (.bool ((p == q) && decide (xs = ys)), μ') ∧ Grow μ μ' := by
 obtain ⟨k, hk, rfl⟩ : ∃ k, xs.length ≤ k ∧ g = k + 130 := ⟨g - 130, by omega, by omega⟩
 obtain ⟨h1, h2⟩ := has_2 μ 27 27 [.bool p, v] [.bool q, w]
 have hG := grow_2 μ (obL 27 [.bool p, v]) (obL 27 [.bool q, w])
 obtain ⟨μ2, r1, G1⟩ := jjp (X := X) (g := k + 127) (hv.grow hG) (hw.grow hG) hl (by omega)
 obtain ⟨c10, c11⟩ := Has.c2 h1
 obtain ⟨c20, c21⟩ := Has.c2 h2
 have key : EndsF (aFun pZ (jan pZ X S0 (k + 130)) 34 [.agg #[.bool p, v], .agg #[.bool q, w]] μ) fun r μ' => r = .bool ((p == q) && decide (xs = ys)) ∧ Grow μ μ' := by
  cases e : (p == q) with
  | true =>
    have q1 := eqB e
    refine jag Tryz.func34 rfl rfl (nbl rfl) ?_
    simp only [go_sem, Tryz.ntmps34]
    repeat (first | refine jac rfl ?_ | (refine jas rfl ?_; (try simp only [go_sem, jcK, Nat.add_eq, jbn, ja4, jav, jbQ, c10, c11, c20, c21, q1, gg55, r1]); fail_if_success refine ifC ?_) | (refine jae rfl ?_; (repeat (first | (refine jal ?_ rfl ?_; (focus (simp only [go_sem, jcK, Nat.add_eq, jbn, ja4, jav, jbQ, c10, c11, c20, c21, q1, gg55, r1]; done))) | (refine jai (v := ?_) (μ' := ?_) ?_ ?_ rfl ?_; rotate_left 2; (focus (first | rfl | (simp only [go_sem, jcK, Nat.add_eq, jbn, ja4, jav, jbQ, c10, c11, c20, c21, q1, gg55, r1]; done))); (focus (simp only [go_sem, jcK, Nat.add_eq, jbn, ja4, jav, jbQ, c10, c11, c20, c21, q1, gg55, r1]; (try exact rfl); done))))); simp only [go_sem]))
    refine jaf ?_
    refine ⟨rfl, .bool (decide (xs = ys)), ?_, by rw [Bool.true_and], hG.trans G1⟩
    simp only [go_sem, Tryz.results34]
  | false =>
    have q1 := eqB e
    refine jag Tryz.func34 rfl rfl (nbl rfl) ?_
    simp only [go_sem, Tryz.ntmps34]
    repeat (first | refine jac rfl ?_ | (refine jas rfl ?_; (try simp only [go_sem, jcK, Nat.add_eq, jbn, ja4, jav, jbQ, c10, c11, c20, c21, q1, gg55, r1]); fail_if_success refine ifC ?_) | (refine jae rfl ?_; (repeat (first | (refine jal ?_ rfl ?_; (focus (simp only [go_sem, jcK, Nat.add_eq, jbn, ja4, jav, jbQ, c10, c11, c20, c21, q1, gg55, r1]; done))) | (refine jai (v := ?_) (μ' := ?_) ?_ ?_ rfl ?_; rotate_left 2; (focus (first | rfl | (simp only [go_sem, jcK, Nat.add_eq, jbn, ja4, jav, jbQ, c10, c11, c20, c21, q1, gg55, r1]; done))); (focus (simp only [go_sem, jcK, Nat.add_eq, jbn, ja4, jav, jbQ, c10, c11, c20, c21, q1, gg55, r1]; (try exact rfl); done))))); simp only [go_sem]))
    refine jaf ?_
    refine ⟨rfl, .bool false, ?_, by rw [Bool.false_and], hG⟩
    simp only [go_sem, Tryz.results34]
 obtain ⟨r, μ', h1, rfl, h2⟩ := key
 exact ⟨μ', h1, h2⟩
def jdt (fl f2 : Bool) (f h : Nat) (p q : Bool) (xs ys : List Nat) : Bool := if (fl && f2) = true then decide (nb f = nb h) else (!fl && !f2) && ((p == q) && decide (xs = ys))
theorem jjo {xs ys : List Nat} {v w : Value} {p q fl f2 : Bool} {f h : Nat} {X : XT} {g : Nat} {μ : Mem} (hX : jcL X) (hf : f < 18446744073709551616) (hh : h < 18446744073709551616) (hv : IsU μ xs v) (hw : IsU μ ys w) (hl : xs.length ≤ 1000000) (hg : xs.length + 160 ≤ g) :
  ∃ μ', aFun pZ (jan pZ X S0 g) 21 [.agg #[.bool fl, .float .f64 f, .bool p, v], .agg #[.bool f2, .float .f64 h, .bool q, w]] μ = some (.bool (jdt fl f2 f h p q xs ys), μ') ∧ Grow μ μ' := by
 obtain ⟨k, hk, rfl⟩ : ∃ k, xs.length ≤ k ∧ g = k + 160 := ⟨g - 160, by omega, by omega⟩
 obtain ⟨h1, h2⟩ := has_2 μ 29 29 [.bool fl, .float .f64 f, .bool p, v] [.bool f2, .float .f64 h, .bool q, w]
 have hG := grow_2 μ (obL 29 [.bool fl, .float .f64 f, .bool p, v]) (obL 29 [.bool f2, .float .f64 h, .bool q, w])
 obtain ⟨μ2, r1, G1⟩ := same2_eq (X := X) (p := p) (q := q) (g := k + 156) (hv.grow hG) (hw.grow hG) hl (by omega)
 have r2 : ∀ μ', aFun pZ (jan pZ X S0 (k + 154)) 33 [.float .f64 f, .float .f64 h] μ' = some (.bool (decide (nb f = nb h)), μ') := fun μ' => same3_eq hX hf hh (by omega)
 have l1 := has_I h1
 have l2 := has_I h2
 obtain ⟨c10, c11, c12, c13⟩ := Has.c4 h1
 obtain ⟨c20, c21, c22, c23⟩ := Has.c4 h2
 have key : EndsF (aFun pZ (jan pZ X S0 (k + 160)) 21 [.agg #[.bool fl, .float .f64 f, .bool p, v], .agg #[.bool f2, .float .f64 h, .bool q, w]] μ) fun r μ' => r = .bool (jdt fl f2 f h p q xs ys) ∧ Grow μ μ' := by
  cases fl <;> cases f2
  ·skip
   refine jag Tryz.func21 rfl rfl (nbl rfl) ?_
   simp only [go_sem, Tryz.ntmps21]
   repeat (first | refine jac rfl ?_ | (refine jas rfl ?_; (try simp only [go_sem, jbE, Nat.add_eq, jbg, jbf, ja2, jav, jbh, c10, c11, c20, c21, l1, l2, gg33, r2, gg34, r1]); fail_if_success refine ifC ?_) | (refine jae rfl ?_; (repeat (first | (refine jal ?_ rfl ?_; (focus (simp only [go_sem, jbE, Nat.add_eq, jbg, jbf, ja2, jav, jbh, c10, c11, c20, c21, l1, l2, gg33, r2, gg34, r1]; done))) | (refine jai (v := ?_) (μ' := ?_) ?_ ?_ rfl ?_; rotate_left 2; (focus (first | rfl | (simp only [go_sem, jbE, Nat.add_eq, jbg, jbf, ja2, jav, jbh, c10, c11, c20, c21, l1, l2, gg33, r2, gg34, r1]; done))); (focus (simp only [go_sem, jbE, Nat.add_eq, jbg, jbf, ja2, jav, jbh, c10, c11, c20, c21, l1, l2, gg33, r2, gg34, r1]; (try exact rfl); done))))); simp only [go_sem]))
   refine jaf ?_
   refine ⟨rfl, .bool ((p == q) && decide (xs = ys)), ?_, by simp [jdt], hG.trans G1⟩
   simp only [go_sem, Tryz.results21]
  ·skip
   refine jag Tryz.func21 rfl rfl (nbl rfl) ?_
   simp only [go_sem, Tryz.ntmps21]
   repeat (first | refine jac rfl ?_ | (refine jas rfl ?_; (try simp only [go_sem, jbE, Nat.add_eq, jbg, jbf, ja2, jav, jbh, c10, c11, c20, c21, l1, l2, gg33, r2, gg34, r1]); fail_if_success refine ifC ?_) | (refine jae rfl ?_; (repeat (first | (refine jal ?_ rfl ?_; (focus (simp only [go_sem, jbE, Nat.add_eq, jbg, jbf, ja2, jav, jbh, c10, c11, c20, c21, l1, l2, gg33, r2, gg34, r1]; done))) | (refine jai (v := ?_) (μ' := ?_) ?_ ?_ rfl ?_; rotate_left 2; (focus (first | rfl | (simp only [go_sem, jbE, Nat.add_eq, jbg, jbf, ja2, jav, jbh, c10, c11, c20, c21, l1, l2, gg33, r2, gg34, r1]; done))); (focus (simp only [go_sem, jbE, Nat.add_eq, jbg, jbf, ja2, jav, jbh, c10, c11, c20, c21, l1, l2, gg33, r2, gg34, r1]; (try exact rfl); done))))); simp only [go_sem]))
   refine jaf ?_
   refine ⟨rfl, .bool false, ?_, by simp [jdt], hG⟩
   simp only [go_sem, Tryz.results21]
  ·skip
   refine jag Tryz.func21 rfl rfl (nbl rfl) ?_
   simp only [go_sem, Tryz.ntmps21]
   repeat (first | refine jac rfl ?_ | (refine jas rfl ?_; (try simp only [go_sem, jbE, Nat.add_eq, jbg, jbf, ja2, jav, jbh, c10, c11, c20, c21, l1, l2, gg33, r2, gg34, r1]); fail_if_success refine ifC ?_) | (refine jae rfl ?_; (repeat (first | (refine jal ?_ rfl ?_; (focus (simp only [go_sem, jbE, Nat.add_eq, jbg, jbf, ja2, jav, jbh, c10, c11, c20, c21, l1, l2, gg33, r2, gg34, r1]; done))) | (refine jai (v := ?_) (μ' := ?_) ?_ ?_ rfl ?_; rotate_left 2; (focus (first | rfl | (simp only [go_sem, jbE, Nat.add_eq, jbg, jbf, ja2, jav, jbh, c10, c11, c20, c21, l1, l2, gg33, r2, gg34, r1]; done))); (focus (simp only [go_sem, jbE, Nat.add_eq, jbg, jbf, ja2, jav, jbh, c10, c11, c20, c21, l1, l2, gg33, r2, gg34, r1]; (try exact rfl); done))))); simp only [go_sem]))
   refine jaf ?_
   refine ⟨rfl, .bool false, ?_, by simp [jdt], hG⟩
   simp only [go_sem, Tryz.results21]
  ·skip
   refine jag Tryz.func21 rfl rfl (nbl rfl) ?_
   simp only [go_sem, Tryz.ntmps21]
   repeat (first | refine jac rfl ?_ | (refine jas rfl ?_; (try simp only [go_sem, jbE, Nat.add_eq, jbg, jbf, ja2, jav, jbh, c10, c11, c20, c21, l1, l2, gg33, r2, gg34, r1]); fail_if_success refine ifC ?_) | (refine jae rfl ?_; (repeat (first | (refine jal ?_ rfl ?_; (focus (simp only [go_sem, jbE, Nat.add_eq, jbg, jbf, ja2, jav, jbh, c10, c11, c20, c21, l1, l2, gg33, r2, gg34, r1]; done))) | (refine jai (v := ?_) (μ' := ?_) ?_ ?_ rfl ?_; rotate_left 2; (focus (first | rfl | (simp only [go_sem, jbE, Nat.add_eq, jbg, jbf, ja2, jav, jbh, c10, c11, c20, c21, l1, l2, gg33, r2, gg34, r1]; done))); (focus (simp only [go_sem, jbE, Nat.add_eq, jbg, jbf, ja2, jav, jbh, c10, c11, c20, c21, l1, l2, gg33, r2, gg34, r1]; (try exact rfl); done))))); simp only [go_sem]))
   refine jaf ?_
   refine ⟨rfl, .bool (decide (nb f = nb h)), ?_, by simp [jdt], hG⟩
   simp only [go_sem, Tryz.results21]
 obtain ⟨r, μ', h1, rfl, h2⟩ := key
 exact ⟨μ', h1, h2⟩
end
noncomputable section
section
set_option linter.defProp false
variable {X : XT} {ev : Code → Rg → Mem → Option (Ax × Rg × Mem)}
def gg31 := go_call (P := pZ) (X := X) (ev := ev) (S := S0) Tryz.func31 rfl rfl
def gg51 := go_call (P := pZ) (X := X) (ev := ev) (S := S0) Tryz.func51 rfl rfl
end
def onlyB (k0 k1 k2 k3 k4 no n0 s0 l0 : Bool) : Bool := if k0 then n0 && s0 && l0 else if k1 || k2 then no && s0 && l0 else if k3 || k4 then no && n0 && l0 else no && n0 && s0
def noB (fl : Bool) (f : Nat) (neg : Bool) (ls : List Nat) : Bool := jdt fl false f 0 neg false ls []
def onlyD : Dat → Bool
 | .mk k n fl f neg ls s l => onlyB (ieq k 0) (ieq k 1) (ieq k 2) (ieq k 3) (ieq k 4) (noB fl f neg ls) (ieq n 0) (decide (s = ⟨List.toArray []⟩)) (ieq (.ofNat l.length) 0)
theorem jiP (μ : Mem) : IsU μ [] (.slice none 0 0) := ⟨(by intro x h; cases h), Nat.zero_le _, .inl ⟨rfl, rfl⟩⟩
theorem jkm : ∀ k0 k1 k2 k3 k4 no n0 s0 : Bool, (k0 = true ∧ n0 = false) ∨ (k0 = true ∧ n0 = true ∧ s0 = false) ∨ (k0 = true ∧ n0 = true ∧ s0 = true) ∨ (k0 = false ∧ k1 = true ∧ no = false) ∨ (k0 = false ∧ k1 = true ∧ no = true ∧ s0 = false) ∨ (k0 = false ∧ k1 = true ∧ no = true ∧ s0 = true) ∨ (k0 = false ∧ k1 = false ∧ k2 = true ∧ no = false) ∨ (k0 = false ∧ k1 = false ∧ k2 = true ∧ no = true ∧ s0 = false) ∨ (k0 = false ∧ k1 = false ∧ k2 = true ∧ no = true ∧ s0 = true) ∨ (k0 = false ∧ k1 = false ∧ k2 = false ∧ k3 = true ∧ no = false) ∨ (k0 = false ∧ k1 = false ∧ k2 = false ∧ k3 = true ∧ no = true ∧ n0 = false) ∨ (k0 = false ∧ k1 = false ∧ k2 = false ∧ k3 = true ∧ no = true ∧ n0 = true) ∨ (k0 = false ∧ k1 = false ∧ k2 = false ∧ k3 = false ∧ k4 = true ∧ no = false) ∨ (k0 = false ∧ k1 = false ∧ k2 = false ∧ k3 = false ∧ k4 = true ∧ no = true ∧ n0 = false) ∨ (k0 = false ∧ k1 = false ∧ k2 = false ∧ k3 = false ∧ k4 = true ∧ no = true ∧ n0 = true) ∨ (k0 = false ∧ k1 = false ∧ k2 = false ∧ k3 = false ∧ k4 = false ∧ no = false) ∨ (k0 = false ∧ k1 = false ∧ k2 = false ∧ k3 = false ∧ k4 = false ∧ no = true ∧ n0 = false) ∨ (k0 = false ∧ k1 = false ∧ k2 = false ∧ k3 = false ∧ k4 = false ∧ no = true ∧ n0 = true) := by
 intro k0 k1 k2 k3 k4 no n0 s0
 cases k0 <;> cases k1 <;> cases k2 <;> cases k3 <;> cases k4 <;> cases no <;> cases n0 <;> cases s0 <;> simp
theorem only_eq {d : Dat} {cs : List Value} {X : XT} {g : Nat} {μ : Mem} (hX : jcL X) (hD : IsD μ d cs) (hn : ∀ {k n fl f neg ls s l}, d = .mk k n fl f neg ls s l → ls.length ≤ 200) (hg : 500 ≤ g) :
  ∃ μ', aFun pZ (jan pZ X S0 g) 31 [.agg cs.toArray] μ = some (.bool (onlyD d), μ') ∧ Grow μ μ' := by
 obtain ⟨k, rfl⟩ := gle hg
 obtain ⟨kd, n, fl, f, neg, ls, s, l⟩ := d
 have hls := hn rfl
 clear hn
 obtain ⟨vl, vi, rfl, ⟨_, _, hwf, _⟩, hU, hL⟩ := jcD.1 hD
 have h1 := jhR μ 31 [.int .i64 kd, .int .i64 n, .bool fl, .float .f64 f, .bool neg, vl, .string s, vi]
 have hG := jbp μ (obL 31 [.int .i64 kd, .int .i64 n, .bool fl, .float .f64 f, .bool neg, vl, .string s, vi])
 have hN := has_N h1
 obtain ⟨μ2, r1, G1⟩ := jjo (X := X) (g := k + 497) (f2 := false) (h := 0) (q := false) hX (wf_f64 hwf) (by decide) (hU.grow hG) (jiP _) (by omega) (by omega)
 have h2 : Has μ2 μ.next 0 [.int .i64 kd, .int .i64 n, .bool fl, .float .f64 f, .bool neg, vl, .string s, vi] := h1.keep (G1.2 _ (Nat.lt_succ_self _))
 have lL := ((hL.grow hG).grow G1).len
 obtain ⟨c0, c1, c2, c3, c4, c5, c6, c7⟩ := Has.c8 h2
 have s1 : aStr .eql s ⟨List.toArray []⟩ = some (.bool (decide (s = ⟨List.toArray []⟩))) := jgL s ⟨List.toArray []⟩
 have key : EndsF (aFun pZ (jan pZ X S0 (k + 500)) 31 [.agg #[.int .i64 kd, .int .i64 n, .bool fl, .float .f64 f, .bool neg, vl, .string s, vi]] μ) fun r μ' => r = .bool (onlyD (.mk kd n fl f neg ls s l)) ∧ Grow μ μ' := by
  show EndsF _ fun r μ' => r = .bool (onlyB (ieq kd 0) (ieq kd 1) (ieq kd 2) (ieq kd 3) (ieq kd 4) (jdt fl false f 0 neg false ls []) (ieq n 0) (decide (s = ⟨List.toArray []⟩)) (ieq (.ofNat l.length) 0)) ∧ Grow μ μ'
  obtain ⟨k0, e0⟩ : ∃ b, ieq kd 0 = b := ⟨_, rfl⟩
  obtain ⟨k1, e1⟩ : ∃ b, ieq kd 1 = b := ⟨_, rfl⟩
  obtain ⟨k2, e2⟩ : ∃ b, ieq kd 2 = b := ⟨_, rfl⟩
  obtain ⟨k3, e3⟩ : ∃ b, ieq kd 3 = b := ⟨_, rfl⟩
  obtain ⟨k4, e4⟩ : ∃ b, ieq kd 4 = b := ⟨_, rfl⟩
  obtain ⟨no, e5⟩ : ∃ b, jdt fl false f 0 neg false ls [] = b := ⟨_, rfl⟩
  obtain ⟨n0, e6⟩ : ∃ b, ieq n 0 = b := ⟨_, rfl⟩
  obtain ⟨s0, e7⟩ : ∃ b, decide (s = ⟨List.toArray []⟩) = b := ⟨_, rfl⟩
  obtain ⟨l0, e8⟩ : ∃ b, ieq (.ofNat l.length) 0 = b := ⟨_, rfl⟩
  rw [e5] at r1
  rw [e7] at s1
  rw [e0, e1, e2, e3, e4, e5, e6, e7, e8]
  rcases jkm k0 k1 k2 k3 k4 no n0 s0 with ⟨rfl, rfl⟩ | ⟨rfl, rfl, rfl⟩ | ⟨rfl, rfl, rfl⟩ | ⟨rfl, rfl, rfl⟩ | ⟨rfl, rfl, rfl, rfl⟩ | ⟨rfl, rfl, rfl, rfl⟩ | ⟨rfl, rfl, rfl, rfl⟩ | ⟨rfl, rfl, rfl, rfl, rfl⟩ | ⟨rfl, rfl, rfl, rfl, rfl⟩ | ⟨rfl, rfl, rfl, rfl, rfl⟩ | ⟨rfl, rfl, rfl, rfl, rfl, rfl⟩ | ⟨rfl, rfl, rfl, rfl, rfl, rfl⟩ | ⟨rfl, rfl, rfl, rfl, rfl, rfl⟩ | ⟨rfl, rfl, rfl, rfl, rfl, rfl, rfl⟩ | ⟨rfl, rfl, rfl, rfl, rfl, rfl, rfl⟩ | ⟨rfl, rfl, rfl, rfl, rfl, rfl⟩ | ⟨rfl, rfl, rfl, rfl, rfl, rfl, rfl⟩ | ⟨rfl, rfl, rfl, rfl, rfl, rfl, rfl⟩
  all_goals
   refine jag Tryz.func31 rfl rfl (nbl rfl) ?_
   simp only [go_sem, Tryz.ntmps31]
   repeat (first | refine jac rfl ?_ | (refine jas rfl ?_; (try simp only [go_sem, ja7, Nat.add_eq, jbq, jbF, jbd, jbu, jbc, jao, jaZ, jba, hN, jdQ, gg21, r1, c0, c1, c6, c7, jaa, lL, jab, e0, e1, e2, e3, e4, e6, s1, e8]); fail_if_success refine ifC ?_) | (refine jae rfl ?_; (repeat (first | (refine jal ?_ rfl ?_; (focus (simp only [go_sem, ja7, Nat.add_eq, jbq, jbF, jbd, jbu, jbc, jao, jaZ, jba, hN, jdQ, gg21, r1, c0, c1, c6, c7, jaa, lL, jab, e0, e1, e2, e3, e4, e6, s1, e8]; done))) | (refine jai (v := ?_) (μ' := ?_) ?_ ?_ rfl ?_; rotate_left 2; (focus (first | rfl | (simp only [go_sem, ja7, Nat.add_eq, jbq, jbF, jbd, jbu, jbc, jao, jaZ, jba, hN, jdQ, gg21, r1, c0, c1, c6, c7, jaa, lL, jab, e0, e1, e2, e3, e4, e6, s1, e8]; done))); (focus (simp only [go_sem, ja7, Nat.add_eq, jbq, jbF, jbd, jbu, jbc, jao, jaZ, jba, hN, jdQ, gg21, r1, c0, c1, c6, c7, jaa, lL, jab, e0, e1, e2, e3, e4, e6, s1, e8]; (try exact rfl); done))))); simp only [go_sem]))
   refine jaf ?_
   refine ⟨rfl, .bool _, ?_, rfl, hG.trans G1⟩
   simp only [go_sem, Tryz.results31]
   try rfl
 obtain ⟨r, μ', h1, rfl, h2⟩ := key
 exact ⟨μ', h1, h2⟩
def signB (n : Int) : Bool := (!ilt n 0 && ilt n 55296) || (ilt 57343 n && !ilt 1114111 n)
theorem sign5_eq {n : Int} {X : XT} {g : Nat} {μ : Mem} (hg : 20 ≤ g) : aFun pZ (jan pZ X S0 g) 51 [.int .i64 n] μ = some (.bool (signB n), μ) := by
 obtain ⟨k, rfl⟩ := gle hg
 refine jaI ?_
 unfold signB
 obtain ⟨b0, e0⟩ : ∃ b, ilt n 0 = b := ⟨_, rfl⟩
 obtain ⟨b1, e1⟩ : ∃ b, ilt n 55296 = b := ⟨_, rfl⟩
 obtain ⟨b2, e2⟩ : ∃ b, ilt 57343 n = b := ⟨_, rfl⟩
 obtain ⟨b3, e3⟩ : ∃ b, ilt 1114111 n = b := ⟨_, rfl⟩
 rw [e0, e1, e2, e3]
 cases b0 <;> cases b1 <;> cases b2
 all_goals
  refine jag Tryz.func51 rfl rfl (nbl rfl) ?_
  simp only [go_sem, Tryz.ntmps51]
  repeat (first | refine jac rfl ?_ | (refine jas rfl ?_; (try simp only [go_sem, undef, e0, e1, e2, e3]); fail_if_success refine ifC ?_) | (refine jae rfl ?_; (repeat (first | (refine jal ?_ rfl ?_; (focus (simp only [go_sem, undef, e0, e1, e2, e3]; done))) | (refine jai (v := ?_) (μ' := ?_) ?_ ?_ rfl ?_; rotate_left 2; (focus (first | rfl | (simp only [go_sem, undef, e0, e1, e2, e3]; done))); (focus (simp only [go_sem, undef, e0, e1, e2, e3]; (try exact rfl); done))))); simp only [go_sem]))
  refine jaf ?_
  refine ⟨rfl, .bool _, ?_, rfl, rfl⟩
  simp only [go_sem, Tryz.results51]
  try rfl
end
noncomputable section
def Lv (μ : Mem) (v : Value) (ls : List Nat) : Prop := (v = .slice none 0 0 ∧ ls = []) ∨ ∃ i c m z ov fx sh, v = .slice (some ⟨i, 0, none⟩) ls.length c ∧ μ.obs.get i = some (.cells m 55 z ov 0 0 fx sh) ∧ ls.length ≤ m ∧ i < μ.next ∧ (∀ (k : Nat) x, ls[k]? = some x → x < 4294967296 ∧ cellAt z ov k = .int .u32 (.ofNat x)) ∧ Cap ls.length c
theorem Lv.grow {μ μ' : Mem} {v : Value} {ls : List Nat} (h : Lv μ v ls) (g : Grow μ μ') : Lv μ' v ls := by
 rcases h with h | ⟨i, c, m, z, ov, fx, sh, h1, h2, h3, h4, h5, h6⟩
 ·exact .inl h
 ·exact .inr ⟨i, c, m, z, ov, fx, sh, h1, (g.2 i h4).trans h2, h3, Nat.lt_of_lt_of_le h4 g.1, h5, h6⟩
theorem Lv.rd {μ : Mem} {v : Value} {ls : List Nat} (h : Lv μ v ls) : Rd μ v ls.length := by
 rcases h with ⟨h1, rfl⟩ | ⟨i, c, m, z, ov, fx, sh, h1, h2, h3, h4, h5, h6⟩
 ·exact .inl ⟨h1, rfl⟩
 ·refine .inr ⟨i, c, m, z, ov, fx, sh, h1, h2, h3, h4, fun k hk => ?_, h6⟩
  obtain ⟨h7, h8⟩ := h5 k _ (List.getElem?_eq_getElem hk)
  exact ⟨_, h7, h8⟩
theorem Lv.isU {μ : Mem} {v : Value} {ls : List Nat} (h : Lv μ v ls) (hl : ls.length ≤ maxLen) : IsU μ ls v := by
 rcases h with ⟨h1, rfl⟩ | ⟨i, c, m, z, ov, fx, sh, h1, h2, h3, h4, h5, h6⟩
 ·exact ⟨(by intro x h; cases h), hl, .inl ⟨h1, rfl⟩⟩
 ·refine ⟨fun x hx => ?_, hl, .inr ⟨i, 0, c, h1, fun _ => ⟨h4, m, z, ov, by rw [h2]; rfl, by simp; omega, fun k hk => ?_⟩, h6⟩⟩
  ·obtain ⟨k, hk, rfl⟩ := List.mem_iff_getElem.1 hx
   exact (h5 k _ (List.getElem?_eq_getElem hk)).1
  ·have hk' : k < ls.length := by simpa using hk
   rw [Nat.zero_add, (h5 k _ (List.getElem?_eq_getElem hk')).2]
   simp
theorem Lv.take {μ : Mem} {v : Value} {ls : List Nat} {k : Nat} (h : Lv μ v ls) (hk : k ≤ ls.length) : ∃ v', (∀ (ρ : Operand → Value) (x y : Operand), ρ x = v → ρ y = .int .i64 (.ofNat k) → jbR pZ ρ 25 x none (some y) none = some v') ∧ Lv μ v' (ls.take k) ∧ ∀ i, SlAt v' i → SlAt v i := by
 have hlen : (ls.take k).length = k := by rw [List.length_take]; omega
 rcases h with ⟨rfl, rfl⟩ | ⟨i, c, m, z, ov, fx, sh, rfl, h2, h3, h4, h5, h6⟩
 ·obtain rfl : k = 0 := by simpa using hk
  refine ⟨.slice none 0 0, fun ρ x y hx hy => ?_, .inl ⟨rfl, rfl⟩, fun i hi => hi⟩
  unfold jbR
  simp only [hx, Tryz.underlying25, jcN, jbA, jb7, hy]
  try rfl
 ·refine ⟨.slice (some ⟨i, 0, none⟩) k c, fun ρ x y hx hy => ?_, .inr ⟨i, c, m, z, ov, fx, sh, by rw [hlen], h2, by omega, h4, fun j x hj => ?_, by rw [hlen]; unfold Cap at h6 ⊢; omega⟩, fun j hj => by
   obtain ⟨l', c', hv⟩ := hj
   injection hv with e1 e2 e3
   rw [e1]
   exact ⟨_, c, rfl⟩⟩
  ·unfold jbR
   rcases h6 with ⟨g1, g2⟩ | ⟨g1, g2⟩
   ·have e1 : Nat.beq (Nat.mod c 2) 0 = true := by rw [show Nat.mod c 2 = 0 from g1]; rfl
    have e3 : Nat.ble k (Nat.div c 2) = true := Nat.ble_eq_true_of_le (by show k ≤ c / 2; omega)
    simp only [hx, Tryz.underlying25, jcN, e1, jbA, jb7, hy, e3]
    have e4 : Addr.add ⟨i, 0, none⟩ (Nat.mul 0 Tryz.t55.size) = ⟨i, 0, none⟩ := by rw [show Nat.mul 0 Tryz.t55.size = 0 from Nat.zero_mul _]; rfl
    have e5 : Nat.mul 2 (Nat.sub (Nat.div c 2) 0) = c := by show 2 * (c / 2 - 0) = c; omega
    have e6 : Nat.sub k 0 = k := rfl
    cases Nat.beq (Nat.div c 2) 0 <;> simp only [e4, e5, e6]
   ·have e1 : Nat.beq (Nat.mod c 2) 0 = false := by rw [show Nat.mod c 2 = 1 from g1]; rfl
    have e3 : Nat.ble k ls.length = true := Nat.ble_eq_true_of_le hk
    simp only [hx, Tryz.underlying25, jcN, e1, jbA, jb7, hy, e3]
    try rfl
  ·refine h5 j x ?_
   rw [List.getElem?_take] at hj
   split at hj
   ·exact hj
   ·cases hj
theorem Lv.at {μ : Mem} {v : Value} {ls : List Nat} {k x : Nat} (h : Lv μ v ls) (hx : ls[k]? = some x) : ∃ i c, v = .slice (some ⟨i, 0, none⟩) ls.length c ∧ x < 4294967296 ∧ jap μ i k = some (.int .u32 (.ofNat x)) := by
 have hk : k < ls.length := (List.getElem?_eq_some_iff.1 hx).1
 rcases h with ⟨_, rfl⟩ | ⟨i, c, m, z, ov, fx, sh, h1, h2, h3, h4, h5, h6⟩
 ·simp at hx
 ·obtain ⟨h7, h8⟩ := h5 k x hx
  refine ⟨i, c, h1, h7, ?_⟩
  unfold jap
  rw [h2]
  show (if k < m then some (cellAt z ov k) else none) = _
  rw [if_pos (by omega), h8]
theorem src_has {μ : Mem} {i o n c : Nat} {l : List Value} (h : Has μ i o l) (hn : 0 < l.length) : jbt μ 1 l.length (.slice (some ⟨i, o, none⟩) n c) = some l := by
 obtain ⟨m, z, ov, h1, h2, h3⟩ := h
 unfold jbt
 obtain ⟨k, hk⟩ : ∃ k, l.length = k + 1 := ⟨l.length - 1, by omega⟩
 have e0 : Nat.mul l.length 1 = k + 1 := by rw [show Nat.mul l.length 1 = l.length from Nat.mul_one _, hk]
 have hb : Nat.ble (Nat.add o (k + 1)) m = true := Nat.ble_eq_true_of_le (by show o + (k + 1) ≤ m; omega)
 have hc : jaz z ov o (k + 1) = l := jb1 _ _ _ hk h3
 simp only [e0]
 cases hob : μ.obs.get i with
 | none => rw [hob] at h1; cases h1
 | some ob =>
   rw [hob] at h1
   cases ob <;> first | (cases h1; simp only [hb, hc]) | cases h1
theorem IsU.src {μ : Mem} {ls : List Nat} {v : Value} (h : IsU μ ls v) : jbt μ 1 ls.length v = some (ls.map fun x => .int .u32 (.ofNat x)) := by
 rcases h with ⟨_, _, ⟨rfl, rfl⟩ | ⟨i, o, c, rfl, h2, _⟩⟩
 ·rfl
 ·by_cases hn : ls = []
  ·subst hn; rfl
  ·have := src_has (n := ls.length) (c := c) (h2 hn).2 (by rw [List.length_map]; exact List.length_pos_iff.2 hn)
   rw [List.length_map] at this
   exact this
theorem appendU {μ : Mem} {v : Value} {ls : List Nat} (h : IsU μ ls v) (hn : ls.length ≤ 1000000) : ∃ v' μ', jbY pZ ⟨μ.obs.set μ.next ob0, Nat.add μ.next 1⟩ 25 25 (.slice (some ⟨μ.next, 0, none⟩) 0 0) v = some (v', μ') ∧ Lv μ' v' ls ∧ Grow μ μ' ∧ New μ v' := by
 have hg1 : Grow μ ⟨μ.obs.set μ.next ob0, Nat.add μ.next 1⟩ := jbp μ _
 have h1 := h.grow hg1
 have hs := h1.src
 have hlt := h.1
 obtain ⟨xs, hxs⟩ : ∃ xs : List Value, xs = ls.map fun x => .int .u32 (.ofNat x) := ⟨_, rfl⟩
 rw [← hxs] at hs
 have hl : xs.length = ls.length := by rw [hxs, List.length_map]
 have hlen : lenV v = some ls.length := by
  rcases h with ⟨_, _, ⟨rfl, rfl⟩ | ⟨i, o, c, rfl, _⟩⟩ <;> rfl
 have hat : ∀ (k : Nat) x, ls[k]? = some x → x < 4294967296 ∧ cellAt xs.toArray .e k = .int .u32 (.ofNat x) := fun k x hk => by
  obtain ⟨hk', rfl⟩ := List.getElem?_eq_some_iff.1 hk
  refine ⟨hlt _ (List.getElem_mem _), ?_⟩
  rw [jb2 xs k (by omega)]
  simp [hxs]
 have e1 : Nat.ble Tryz.t55.bytes 4096 = true := by kernel_rfl
 have e2 : Nat.beq (ja6 (.int .u32 0)).length 1 = true := by kernel_rfl
 have e3 : Nat.ble ls.length 67108864 = true := Nat.ble_eq_true_of_le (by omega)
 have e4 : Tryz.t55.size = 1 := by kernel_rfl
 have e5 : Nat.beq xs.length (Nat.mul ls.length 1) = true := by rw [hl, show Nat.mul ls.length 1 = ls.length from Nat.mul_one _]; exact Nat.beq_refl _
 obtain ⟨n, hn'⟩ : ∃ n, n = ls.length := ⟨_, rfl⟩
 rw [← hn'] at hs hlen e3 e5 hn hl
 have hap : jbY pZ ⟨μ.obs.set μ.next ob0, Nat.add μ.next 1⟩ 25 25 (.slice (some ⟨μ.next, 0, none⟩) 0 0) v = jbS pZ ⟨μ.obs.set μ.next ob0, Nat.add μ.next 1⟩ 55 1 n xs (.slice (some ⟨μ.next, 0, none⟩) 0 0) := by
  unfold jbY
  simp only [Tryz.underlying25, jcN, e1, jgA, e4, e2, hlen, e3, hs, e5]
 rw [hap]
 unfold jbS
 have e6 : Nat.ble (Nat.add 0 n) 67108864 = true := Nat.ble_eq_true_of_le (by show 0 + n ≤ _; omega)
 simp only [e6]
 cases n with
 | zero =>
   obtain rfl : ls = [] := List.eq_nil_of_length_eq_zero hn'.symm
   obtain rfl : xs = [] := List.eq_nil_of_length_eq_zero hl
   refine ⟨_, _, rfl, .inr ⟨μ.next, 0, 0, #[], .e, false, false, rfl, by show T.get _ _ = _; rw [T.get_set, if_pos rfl]; rfl, Nat.le_refl _, Nat.lt_succ_self _, fun k x hk => by simp at hk, .inl ⟨rfl, Nat.le_refl _⟩⟩, hg1, New.mk (Nat.le_refl _)⟩
 | succ n =>
   have e7 : Nat.ble (Nat.add 0 (n + 1)) (Nat.div 0 2) = false := by
    cases hb : Nat.ble (Nat.add 0 (n + 1)) (Nat.div 0 2) with
    | false => rfl
    | true => have := Nat.le_of_ble_eq_true hb; have h0 : Nat.div 0 2 = 0 := rfl; rw [h0] at this; have : 0 + (n + 1) ≤ 0 := this; omega
   simp only [show Nat.beq (Nat.mod 0 2) 0 = true from rfl, e7]
   refine ⟨_, _, rfl, .inr ⟨μ.next + 1, 3, xs.length, xs.toArray, .e, true, false, ?_, ?_, by omega, ?_, hat, .inr ⟨rfl, rfl⟩⟩, ?_, New.mk (Nat.le_succ _)⟩
   ·show Value.slice (some ⟨Nat.add μ.next 1, 0, none⟩) (Nat.add 0 (n + 1)) _ = _
    rw [show Nat.add 0 (n + 1) = n + 1 from Nat.zero_add _, hn']
   ·show T.get (T.set _ (Nat.add μ.next 1) _) _ = _
    rw [T.get_set, if_pos rfl]
    rfl
   ·show μ.next + 1 < μ.next + 1 + 1; omega
   ·refine ⟨?_, fun i hi => ?_⟩
    ·show μ.next ≤ μ.next + 1 + 1; omega
    ·show T.get (T.set (T.set _ _ _) (Nat.add μ.next 1) _) i = _
     rw [T.get_set, if_neg (by show i ≠ μ.next + 1; omega), T.get_set, if_neg (by omega)]
def trN (ls : List Nat) : Nat → Nat
 | 0 => 0
 | n + 1 => if ls.getD n 0 = 0 then trN ls n else n + 1
theorem trN_le (ls : List Nat) : ∀ n, trN ls n ≤ n
 | 0 => Nat.le_refl _
 | n + 1 => by
   unfold trN
   split
   ·exact Nat.le_succ_of_le (trN_le ls n)
   ·exact Nat.le_refl _
def jcl (ls : List Nat) : List Nat := ls.take (trN ls ls.length)
theorem jio {ls : List Nat} : ∀ n, n ≤ ls.length → n ≤ 1000000 → ∀ {X : XT} {e : Nat} {tm : T Value} {v : Value} {μ : Mem}, Lv μ v (ls.take n) → jak tm 3 = v →
  EndsC (jan pZ X S0 (e + n + 20) (.loop (jaB Tryz.f79 0)) ⟨25, tm, [], none⟩ μ) fun x r μ' => x = .exit 0 ∧ μ' = μ ∧ ∃ tm' v', r = ⟨25, tm', [], none⟩ ∧ Lv μ v' (ls.take (trN ls n)) ∧ jak tm' 3 = v' ∧ ∀ i, SlAt v' i → SlAt v i := by
 intro n
 induction n with
 | zero =>
   intro hn hn2 X e tm v μ h h3
   have lv := h.rd.len
   have e1 : ilt 0 (.ofNat (ls.take 0).length) = false := rfl
   refine jam ?_
   repeat (first | refine jac rfl ?_ | (refine jas rfl ?_; (try simp only [go_sem, undef, h3, jaa, lv, jab, e1]); fail_if_success refine ifC ?_) | (refine jae rfl ?_; (repeat (first | (refine jal ?_ rfl ?_; (focus (simp only [go_sem, undef, h3, jaa, lv, jab, e1]; done))) | (refine jai (v := ?_) (μ' := ?_) ?_ ?_ rfl ?_; rotate_left 2; (focus (first | rfl | (simp only [go_sem, undef, h3, jaa, lv, jab, e1]; done))); (focus (simp only [go_sem, undef, h3, jaa, lv, jab, e1]; (try exact rfl); done))))); simp only [go_sem]))
   exact ⟨by trivial, by trivial, _, v, rfl, h, by simp only [go_sem, h3], fun i hi => hi⟩
 | succ n ih =>
   intro hn hn2 X e tm v μ h h3
   have hlen : (ls.take (n + 1)).length = n + 1 := by rw [List.length_take]; omega
   have lv := h.rd.len
   rw [hlen] at lv
   obtain ⟨v', hsl, hR', hS'⟩ := h.take (k := n) (by omega)
   rw [List.take_take, Nat.min_eq_left (Nat.le_succ n)] at hR'
   obtain ⟨a, ha0⟩ : ∃ a, ls[n]? = some a := ⟨_, List.getElem?_eq_getElem (by omega)⟩
   obtain ⟨bi, c, hv, ha, hc⟩ := h.at (k := n) (x := a) (by rw [List.getElem?_take, if_pos (Nat.lt_succ_self n)]; exact ha0)
   rw [hlen] at hv
   have hgd : ls.getD n 0 = a := by rw [List.getD_eq_getElem?_getD, ha0]; rfl
   have e1 : ilt 0 (.ofNat (n + 1)) = true := (jaq 0 (n + 1)).trans (decide_eq_true (Nat.succ_pos n))
   have q1 : jar .i64 (Int.sub (.ofNat (n + 1)) 1) = .ofNat n := jce (n + 1) 1 (by omega) (by omega)
   have hix : ∀ (rg : Rg) (a b : Operand), aev pZ rg a = v → aev pZ rg b = .int .i64 (.ofNat n) → jau pZ (aev pZ rg) 25 a b = some (.pointer (some ⟨bi, n, none⟩)) := fun rg a b g1 g2 => by
    rw [hv] at g1
    rw [jaT (P := pZ) Tryz.underlying25 jcN rfl g1 g2 (by omega), Nat.zero_add]
   have hsl : ∀ (rg : Rg) (x y : Operand), aev pZ rg x = v → aev pZ rg y = .int .i64 (.ofNat n) → jbR pZ (aev pZ rg) 25 x none (some y) none = some v' := fun rg x y g1 g2 => hsl _ x y g1 g2
   by_cases hz : a = 0
   ·have e2 : ieq (.ofNat a) 0 = true := (jaS _ 0 0 rfl).trans (decide_eq_true hz)
    have et : trN ls (n + 1) = trN ls n := by rw [trN, hgd, if_pos hz]
    rw [et]
    refine jam ?_
    repeat (first | refine jac rfl ?_ | (refine jas rfl ?_; (try simp only [go_sem, undef, h3, jaa, lv, jab, e1, q1, hix, jbH, hc, e2, hsl]); fail_if_success refine ifC ?_) | (refine jae rfl ?_; (repeat (first | (refine jal ?_ rfl ?_; (focus (simp only [go_sem, undef, h3, jaa, lv, jab, e1, q1, hix, jbH, hc, e2, hsl]; done))) | (refine jai (v := ?_) (μ' := ?_) ?_ ?_ rfl ?_; rotate_left 2; (focus (first | rfl | (simp only [go_sem, undef, h3, jaa, lv, jab, e1, q1, hix, jbH, hc, e2, hsl]; done))); (focus (simp only [go_sem, undef, h3, jaa, lv, jab, e1, q1, hix, jbH, hc, e2, hsl]; (try exact rfl); done))))); simp only [go_sem]))
    rw [show e + (n + 1) + 19 = e + n + 20 from by omega]
    refine EndsC.mono (ih (by omega) (by omega) hR' (by simp only [go_sem])) ?_
    rintro x r μ' ⟨g1, g2, tm', w, g3, g5, g6, g7⟩
    exact ⟨g1, g2, tm', w, g3, g5, g6, fun i hi => hS' i (g7 i hi)⟩
   ·have e2 : ieq (.ofNat a) 0 = false := (jaS _ 0 0 rfl).trans (decide_eq_false hz)
    have et : trN ls (n + 1) = n + 1 := by rw [trN, hgd, if_neg hz]
    rw [et]
    refine jam ?_
    repeat (first | refine jac rfl ?_ | (refine jas rfl ?_; (try simp only [go_sem, undef, h3, jaa, lv, jab, e1, q1, hix, jbH, hc, e2]); fail_if_success refine ifC ?_) | (refine jae rfl ?_; (repeat (first | (refine jal ?_ rfl ?_; (focus (simp only [go_sem, undef, h3, jaa, lv, jab, e1, q1, hix, jbH, hc, e2]; done))) | (refine jai (v := ?_) (μ' := ?_) ?_ ?_ rfl ?_; rotate_left 2; (focus (first | rfl | (simp only [go_sem, undef, h3, jaa, lv, jab, e1, q1, hix, jbH, hc, e2]; done))); (focus (simp only [go_sem, undef, h3, jaa, lv, jab, e1, q1, hix, jbH, hc, e2]; (try exact rfl); done))))); simp only [go_sem]))
    exact ⟨by trivial, by trivial, _, v, rfl, h, by simp only [go_sem, h3], fun i hi => hi⟩
theorem jgF {X : XT} {g : Nat} {ls : List Nat} {v : Value} {μ : Mem} (h : IsU μ ls v) (hn : ls.length ≤ 1000000) (hg : ls.length + 100 ≤ g) : ∃ v' μ', aFun pZ (jan pZ X S0 g) 79 [v] μ = some (v', μ') ∧ Lv μ' v' (jcl ls) ∧ Grow μ μ' ∧ New μ v' := by
 obtain ⟨k, hk, rfl⟩ : ∃ k, ls.length ≤ k ∧ g = k + 100 := ⟨g - 100, by omega, by omega⟩
 obtain ⟨v1, μ1, hap, hR, hG, hN⟩ := appendU h hn
 have key : EndsF (aFun pZ (jan pZ X S0 (k + 100)) 79 [v] μ) fun w μ' => Lv μ' w (jcl ls) ∧ Grow μ μ' ∧ New μ w := by
  refine jag Tryz.func79 rfl rfl (nbl rfl) ?_
  simp only [go_sem, Tryz.ntmps79]
  repeat (first | refine jac rfl ?_ | (refine jad rfl ?_; (try simp only [go_sem, bs0, jaa, hap]); fail_if_success refine ifC ?_))
  rw [show k + 96 = (k + 76 - ls.length) + ls.length + 20 from by omega]
  refine EndsC.mono (jio (ls := ls) ls.length (Nat.le_refl _) (by omega) (by rw [List.take_length]; exact hR) (by simp only [go_sem])) ?_
  rintro x r μ' ⟨rfl, rfl, tm', v', rfl, hR', h3, hS⟩
  simp only [jaU, reduceIte, jaj]
  repeat (first | refine jac rfl ?_ | (refine jad rfl ?_; (try simp only [go_sem, h3]); fail_if_success refine ifC ?_))
  refine jaf ?_
  refine ⟨rfl, v', ?_, hR', hG, fun i hi => hN i (hS i hi)⟩
  simp only [go_sem, Tryz.results79]
 obtain ⟨w, μ', h1, h2⟩ := key
 exact ⟨w, μ', h1, h2⟩
end
end Go.Proofs.YthnglblipoimhaaGreatDoor.dm
