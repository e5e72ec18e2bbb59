/-
  distafflaw10.CodeEffects, part Qf: its walk and its law. No conditions.
-/
import Derived.Test.YtlkenchibdeinaaGreatDoorDwQd
import Derived.Test.YtlkenchibdeinaaGreatDoorDwQe
set_option linter.all false
set_option maxRecDepth 20000
set_option maxHeartbeats 8000000
namespace Go.Proofs.YtlkenchibdeinaaGreatDoor.ce
open YtlkenchibdeinaaGreatDoor.Ev
noncomputable section
theorem Has.c2 {μ : Mem} {i : Nat} {a b : Value} (h : Has μ i 0 [a, b]) : jal μ i 0 = some a ∧ jal μ i 1 = some b := ⟨Has.cell h 0 (by simp), Has.cell h 1 (by simp)⟩
theorem Has.c4 {μ : Mem} {i : Nat} {a b c d : Value} (h : Has μ i 0 [a, b, c, d]) : jal μ i 0 = some a ∧ jal μ i 1 = some b ∧ jal μ i 2 = some c ∧ jal μ i 3 = some d := ⟨Has.cell h 0 (by simp), Has.cell h 1 (by simp), Has.cell h 2 (by simp), Has.cell h 3 (by simp)⟩
theorem Has.c8 {μ : Mem} {i : Nat} {a b c d e f g j : Value} (h : Has μ i 0 [a, b, c, d, e, f, g, j]) : jal μ i 0 = some a ∧ jal μ i 1 = some b ∧ jal μ i 2 = some c ∧ jal μ i 3 = some d ∧ jal μ i 4 = some e ∧ jal μ i 5 = some f ∧ jal μ i 6 = some g ∧ jal μ i 7 = some j :=
 ⟨Has.cell h 0 (by simp), Has.cell h 1 (by simp), Has.cell h 2 (by simp), Has.cell h 3 (by simp), Has.cell h 4 (by simp), Has.cell h 5 (by simp), Has.cell h 6 (by simp), Has.cell h 7 (by simp)⟩
abbrev obL (t : TypeId) (l : List Value) : Ob := .cells l.length t l.toArray .e 0 0 false false
theorem jey (μ : Mem) (t : TypeId) (l : List Value) : Has ⟨μ.obs.set μ.next (obL t l), μ.next + 1⟩ μ.next 0 l := Has.new (t := t) (fx := false) (sh := false) (by
 show T.get _ _ = _
 rw [T.get_set, if_pos rfl])
theorem jix (μ : Mem) (t t2 : TypeId) (l l2 : List Value) : Has ⟨(μ.obs.set μ.next (obL t l)).set (μ.next + 1) (obL t2 l2), μ.next + 1 + 1⟩ μ.next 0 l ∧ Has ⟨(μ.obs.set μ.next (obL t l)).set (μ.next + 1) (obL t2 l2), μ.next + 1 + 1⟩ (μ.next + 1) 0 l2 :=
 ⟨(jey μ t l).keep (by show T.get _ _ = T.get _ _; rw [T.get_set, if_neg (by omega)]), jey ⟨μ.obs.set μ.next (obL t l), μ.next + 1⟩ t2 l2⟩
theorem jfl (μ : Mem) (a b : Ob) : Grow μ ⟨(μ.obs.set μ.next a).set (μ.next + 1) b, μ.next + 1 + 1⟩ := (ja5 μ a).trans (ja5 ⟨μ.obs.set μ.next a, μ.next + 1⟩ b)
theorem jf4 (a b : Value) : aBox 40 (.agg #[a, b]) = some (obL 40 [a, b], fun id => .pointer (some ⟨id, 0, none⟩)) := rfl
theorem jdC (a b c d : Value) : aBox 42 (.agg #[a, b, c, d]) = some (obL 42 [a, b, c, d], fun id => .pointer (some ⟨id, 0, none⟩)) := rfl
theorem jf5 (a b c d e f g h : Value) : aBox 44 (.agg #[a, b, c, d, e, f, g, h]) = some (obL 44 [a, b, c, d, e, f, g, h], fun id => .pointer (some ⟨id, 0, none⟩)) := rfl
theorem has_I {μ : Mem} {i : Nat} {a b c d : Value} (h : Has μ i 0 [a, b, c, d]) : jcq pZ μ 40 (.pointer (some ⟨i, 2, none⟩)) = some (.agg #[c, d]) := (Has.part (a := [a, b]) (b := [c, d]) (c := []) h rfl).load Tryz.underlying40 i_Int rfl
theorem has_N {μ : Mem} {i : Nat} {a b c d e f g j : Value} (h : Has μ i 0 [a, b, c, d, e, f, g, j]) : jcq pZ μ 42 (.pointer (some ⟨i, 2, none⟩)) = some (.agg #[c, d, e, f]) := (Has.part (a := [a, b]) (b := [c, d, e, f]) (c := [g, j]) h rfl).load Tryz.underlying42 i_Num rfl
theorem eqB {b1 b2 b : Bool} (e : (b1 == b2) = b) : ∀ (r : Rg) (d : Option Tmp) (ty : TypeId) (x y : Operand) (ps : String) (af : Array Edge) (gd : Option (Nat × Bool)), aev pZ r x = .bool b1 → aev pZ r y = .bool b2 → jaH pZ (aev pZ r) ⟨d, .binOp .eql 4 x y 4, ty, ps, af, gd⟩ = some (.bool b) := fun r d ty x y ps af gd g1 g2 => by rw [eqb g1 g2, e]
theorem same2_eq {xs ys : List Nat} {v w : Value} {p q : Bool} {X : XT} {g : Nat} {μ : Mem} (hv : IsU μ xs v) (hw : IsU μ ys w) (hl : xs.length ≤ 2000000) (hg : xs.length + 130 ≤ g) : ∃ μ', aFun pZ (jaj pZ X S0 g) 84 [.agg #[.bool p, v], .agg #[.bool q, w]] μ = some (.bool ((p == q) && decide (xs = ys)), μ') ∧ Grow μ μ' := by
 obtain ⟨k, hk, rfl⟩ : ∃ k, xs.length ≤ k ∧ g = k + 130 := ⟨g - 130, by omega, by omega⟩
 obtain ⟨h1, h2⟩ := jix μ 40 40 [.bool p, v] [.bool q, w]
 have hG := jfl μ (obL 40 [.bool p, v]) (obL 40 [.bool q, w])
 obtain ⟨μ2, r1, G1⟩ := ji7 (X := X) (g := k + 127) (hv.grow hG) (hw.grow hG) hl (by omega)
 obtain ⟨c10, c11⟩ := Has.c2 h1
 obtain ⟨c20, c21⟩ := Has.c2 h2
 have key : EndsF (aFun pZ (jaj pZ X S0 (k + 130)) 84 [.agg #[.bool p, v], .agg #[.bool q, w]] μ) fun r μ' => r = .bool ((p == q) && decide (xs = ys)) ∧ Grow μ μ' := by
  cases e : (p == q) with
  | true =>
    have q1 := eqB e
    refine jaf Tryz.func84 rfl rfl (nbl rfl) ?_
    simp only [go_sem, Tryz.ntmps84]
    repeat ((first | refine jab rfl ?_ | refine jam rfl ?_); (try simp only [go_sem, jf4, c10, c11, c20, c21, q1, r1]); fail_if_success refine stk ?_)
    refine jad ?_
    refine ⟨rfl, .bool (decide (xs = ys)), ?_, by rw [Bool.true_and], hG.trans G1⟩
    simp only [go_sem, Tryz.results84]
  | false =>
    have q1 := eqB e
    refine jaf Tryz.func84 rfl rfl (nbl rfl) ?_
    simp only [go_sem, Tryz.ntmps84]
    repeat ((first | refine jab rfl ?_ | refine jam rfl ?_); (try simp only [go_sem, jf4, c10, c11, c20, c21, q1, r1]); fail_if_success refine stk ?_)
    refine jad ?_
    refine ⟨rfl, .bool false, ?_, by rw [Bool.false_and], hG⟩
    simp only [go_sem, Tryz.results84]
 obtain ⟨r, μ', h1, rfl, h2⟩ := key
 exact ⟨μ', h1, h2⟩
def jdT (fl f2 : Bool) (f h : Nat) (p q : Bool) (xs ys : List Nat) : Bool := if (fl && f2) = true then decide (nb f = nb h) else (!fl && !f2) && ((p == q) && decide (xs = ys))
theorem same4_eq {xs ys : List Nat} {v w : Value} {p q fl f2 : Bool} {f h : Nat} {X : XT} {g : Nat} {μ : Mem} (hX : jb1 X) (hf : f < 18446744073709551616) (hh : h < 18446744073709551616) (hv : IsU μ xs v) (hw : IsU μ ys w) (hl : xs.length ≤ 2000000) (hg : xs.length + 160 ≤ g) :
  ∃ μ', aFun pZ (jaj pZ X S0 g) 62 [.agg #[.bool fl, .float .f64 f, .bool p, v], .agg #[.bool f2, .float .f64 h, .bool q, w]] μ = some (.bool (jdT fl f2 f h p q xs ys), μ') ∧ Grow μ μ' := by
 obtain ⟨k, hk, rfl⟩ : ∃ k, xs.length ≤ k ∧ g = k + 160 := ⟨g - 160, by omega, by omega⟩
 obtain ⟨h1, h2⟩ := jix μ 42 42 [.bool fl, .float .f64 f, .bool p, v] [.bool f2, .float .f64 h, .bool q, w]
 have hG := jfl μ (obL 42 [.bool fl, .float .f64 f, .bool p, v]) (obL 42 [.bool f2, .float .f64 h, .bool q, w])
 obtain ⟨μ2, r1, G1⟩ := same2_eq (X := X) (p := p) (q := q) (g := k + 156) (hv.grow hG) (hw.grow hG) hl (by omega)
 have r2 : ∀ μ', aFun pZ (jaj pZ X S0 (k + 154)) 83 [.float .f64 f, .float .f64 h] μ' = some (.bool (decide (nb f = nb h)), μ') := fun μ' => same3_eq hX hf hh (by omega)
 have l1 := has_I h1
 have l2 := has_I h2
 obtain ⟨c10, c11, c12, c13⟩ := Has.c4 h1
 obtain ⟨c20, c21, c22, c23⟩ := Has.c4 h2
 have key : EndsF (aFun pZ (jaj pZ X S0 (k + 160)) 62 [.agg #[.bool fl, .float .f64 f, .bool p, v], .agg #[.bool f2, .float .f64 h, .bool q, w]] μ) fun r μ' => r = .bool (jdT fl f2 f h p q xs ys) ∧ Grow μ μ' := by
  cases fl <;> cases f2
  ·skip
   refine jaf Tryz.func62 rfl rfl (nbl rfl) ?_
   simp only [go_sem, Tryz.ntmps62]
   repeat ((first | refine jab rfl ?_ | refine jam rfl ?_); (try simp only [go_sem, jdC, c10, c11, c20, c21, l1, l2, r2, r1]); fail_if_success refine stk ?_)
   exact jad ⟨rfl, .bool ((p == q) && decide (xs = ys)), by simp only [go_sem, Tryz.results62], by simp [jdT], hG.trans G1⟩
  ·skip
   refine jaf Tryz.func62 rfl rfl (nbl rfl) ?_
   simp only [go_sem, Tryz.ntmps62]
   repeat ((first | refine jab rfl ?_ | refine jam rfl ?_); (try simp only [go_sem, jdC, c10, c11, c20, c21, l1, l2, r2, r1]); fail_if_success refine stk ?_)
   exact jad ⟨rfl, .bool false, by simp only [go_sem, Tryz.results62], by simp [jdT], hG⟩
  ·skip
   refine jaf Tryz.func62 rfl rfl (nbl rfl) ?_
   simp only [go_sem, Tryz.ntmps62]
   repeat ((first | refine jab rfl ?_ | refine jam rfl ?_); (try simp only [go_sem, jdC, c10, c11, c20, c21, l1, l2, r2, r1]); fail_if_success refine stk ?_)
   exact jad ⟨rfl, .bool false, by simp only [go_sem, Tryz.results62], by simp [jdT], hG⟩
  ·skip
   refine jaf Tryz.func62 rfl rfl (nbl rfl) ?_
   simp only [go_sem, Tryz.ntmps62]
   repeat ((first | refine jab rfl ?_ | refine jam rfl ?_); (try simp only [go_sem, jdC, c10, c11, c20, c21, l1, l2, r2, r1]); fail_if_success refine stk ?_)
   exact jad ⟨rfl, .bool (decide (nb f = nb h)), by simp only [go_sem, Tryz.results62], by simp [jdT], hG⟩
 obtain ⟨r, μ', h1, rfl, h2⟩ := key
 exact ⟨μ', h1, h2⟩
def Lv (μ : Mem) (v : Value) (ls : List Nat) : Prop := (v = .slice none 0 0 ∧ ls = []) ∨ ∃ i c m z ov fx sh, v = .slice (some ⟨i, 0, none⟩) ls.length c ∧ μ.obs.get i = some (.cells m 141 z ov 0 0 fx sh) ∧ ls.length ≤ m ∧ i < μ.next ∧ (∀ (k : Nat) x, ls[k]? = some x → x < 4294967296 ∧ cellAt z ov k = .int .u32 (.ofNat x)) ∧ Cap ls.length c
theorem Lv.grow {μ μ' : Mem} {v : Value} {ls : List Nat} (h : Lv μ v ls) (g : Grow μ μ') : Lv μ' v ls := by
 rcases h with h | ⟨i, c, m, z, ov, fx, sh, h1, h2, h3, h4, h5, h6⟩
 ·exact .inl h
 ·exact .inr ⟨i, c, m, z, ov, fx, sh, h1, (g.2 i h4).trans h2, h3, rzO h4 g.1, h5, h6⟩
theorem Lv.rd {μ : Mem} {v : Value} {ls : List Nat} (h : Lv μ v ls) : Rd μ v ls.length := by
 rcases h with ⟨h1, rfl⟩ | ⟨i, c, m, z, ov, fx, sh, h1, h2, h3, h4, h5, h6⟩
 ·exact .inl ⟨h1, rfl⟩
 ·refine .inr ⟨i, c, m, z, ov, fx, sh, h1, h2, h3, h4, fun k hk => ?_, h6⟩
  obtain ⟨h7, h8⟩ := h5 k _ (rzK hk)
  exact ⟨_, h7, h8⟩
theorem Lv.isU {μ : Mem} {v : Value} {ls : List Nat} (h : Lv μ v ls) (hl : ls.length ≤ maxLen) : IsU μ ls v := by
 rcases h with ⟨h1, rfl⟩ | ⟨i, c, m, z, ov, fx, sh, h1, h2, h3, h4, h5, h6⟩
 ·exact ⟨(by intro x h; cases h), hl, .inl ⟨h1, rfl⟩⟩
 ·refine ⟨fun x hx => ?_, hl, .inr ⟨i, 0, c, h1, fun _ => ⟨h4, m, z, ov, by rw [h2]; rfl, by simp; omega, fun k hk => ?_⟩, h6⟩⟩
  ·obtain ⟨k, hk, rfl⟩ := List.mem_iff_getElem.1 hx
   exact (h5 k _ (rzK hk)).1
  ·have hk' : k < ls.length := by simpa using hk
   rw [rzT, (h5 k _ (rzK hk')).2]
   simp
theorem Lv.take {μ : Mem} {v : Value} {ls : List Nat} {k : Nat} (h : Lv μ v ls) (hk : k ≤ ls.length) : ∃ v', (∀ (ρ : Operand → Value) (x y : Operand), ρ x = v → ρ y = .int .i64 (.ofNat k) → ja0 pZ ρ 38 x none (some y) none = some v') ∧ Lv μ v' (ls.take k) ∧ ∀ i, SlAt v' i → SlAt v i := by
 have hlen : (ls.take k).length = k := by rw [List.length_take]; omega
 rcases h with ⟨rfl, rfl⟩ | ⟨i, c, m, z, ov, fx, sh, rfl, h2, h3, h4, h5, h6⟩
 ·obtain rfl : k = 0 := by simpa using hk
  refine ⟨.slice none 0 0, fun ρ x y hx hy => ?_, .inl ⟨rfl, rfl⟩, fun i hi => hi⟩
  unfold ja0
  simp only [hx, Tryz.underlying38, jcI, jbb, jbD, hy]
  try rfl
 ·refine ⟨.slice (some ⟨i, 0, none⟩) k c, fun ρ x y hx hy => ?_, .inr ⟨i, c, m, z, ov, fx, sh, by rw [hlen], h2, by omega, h4, fun j x hj => ?_, by rw [hlen]; unfold Cap at h6 ⊢; omega⟩, fun j hj => by
   obtain ⟨l', c', hv⟩ := hj
   injection hv with e1 e2 e3
   rw [e1]
   exact ⟨_, c, rfl⟩⟩
  ·unfold ja0
   rcases h6 with ⟨g1, g2⟩ | ⟨g1, g2⟩
   ·have e1 : Nat.beq (Nat.mod c 2) 0 = true := by rw [show Nat.mod c 2 = 0 from g1]; rfl
    have e3 : Nat.ble k (Nat.div c 2) = true := rzP (by show k ≤ c / 2; omega)
    simp only [hx, Tryz.underlying38, jcI, e1, jbb, jbD, hy, e3]
    have e4 : Addr.add ⟨i, 0, none⟩ (Nat.mul 0 Tryz.t141.size) = ⟨i, 0, none⟩ := by rw [show Nat.mul 0 Tryz.t141.size = 0 from Nat.zero_mul _]; rfl
    have e5 : Nat.mul 2 (Nat.sub (Nat.div c 2) 0) = c := by show 2 * (c / 2 - 0) = c; omega
    have e6 : Nat.sub k 0 = k := rfl
    cases Nat.beq (Nat.div c 2) 0 <;> simp only [e4, e5, e6]
   ·have e1 : Nat.beq (Nat.mod c 2) 0 = false := by rw [show Nat.mod c 2 = 1 from g1]; rfl
    have e3 : Nat.ble k ls.length = true := rzP hk
    simp only [hx, Tryz.underlying38, jcI, e1, jbb, jbD, hy, e3]
    try rfl
  ·refine h5 j x ?_
   rw [List.getElem?_take] at hj
   split at hj
   ·exact hj
   ·cases hj
theorem Lv.at {μ : Mem} {v : Value} {ls : List Nat} {k x : Nat} (h : Lv μ v ls) (hx : ls[k]? = some x) : ∃ i c, v = .slice (some ⟨i, 0, none⟩) ls.length c ∧ x < 4294967296 ∧ jal μ i k = some (.int .u32 (.ofNat x)) := by
 have hk : k < ls.length := (List.getElem?_eq_some_iff.1 hx).1
 rcases h with ⟨_, rfl⟩ | ⟨i, c, m, z, ov, fx, sh, h1, h2, h3, h4, h5, h6⟩
 ·simp at hx
 ·obtain ⟨h7, h8⟩ := h5 k x hx
  refine ⟨i, c, h1, h7, ?_⟩
  unfold jal
  rw [h2]
  show (if k < m then some (cellAt z ov k) else none) = _
  rw [if_pos (by omega), h8]
theorem src_has {μ : Mem} {i o n c : Nat} {l : List Value} (h : Has μ i o l) (hn : 0 < l.length) : jaP μ 1 l.length (.slice (some ⟨i, o, none⟩) n c) = some l := by
 obtain ⟨m, z, ov, h1, h2, h3⟩ := h
 unfold jaP
 obtain ⟨k, hk⟩ : ∃ k, l.length = k + 1 := ⟨l.length - 1, by omega⟩
 have e0 : Nat.mul l.length 1 = k + 1 := by rw [show Nat.mul l.length 1 = l.length from Nat.mul_one _, hk]
 have hb : Nat.ble (Nat.add o (k + 1)) m = true := rzP (by show o + (k + 1) ≤ m; omega)
 have hc : jas z ov o (k + 1) = l := jbm _ _ _ hk h3
 simp only [e0]
 cases hob : μ.obs.get i with
 | none => rw [hob] at h1; cases h1
 | some ob =>
   rw [hob] at h1
   cases ob <;> first | (cases h1; simp only [hb, hc]) | cases h1
theorem IsU.src {μ : Mem} {ls : List Nat} {v : Value} (h : IsU μ ls v) : jaP μ 1 ls.length v = some (ls.map fun x => .int .u32 (.ofNat x)) := by
 rcases h with ⟨_, _, ⟨rfl, rfl⟩ | ⟨i, o, c, rfl, h2, _⟩⟩
 ·rfl
 ·by_cases hn : ls = []
  ·subst hn; rfl
  ·have := src_has (n := ls.length) (c := c) (h2 hn).2 (by rw [List.length_map]; exact List.length_pos_iff.2 hn)
   rw [List.length_map] at this
   exact this
theorem appendU {μ : Mem} {v : Value} {ls : List Nat} (h : IsU μ ls v) (hn : ls.length ≤ 2000000) : ∃ v' μ', jaN pZ ⟨μ.obs.set μ.next ob0, Nat.add μ.next 1⟩ 38 38 (.slice (some ⟨μ.next, 0, none⟩) 0 0) v = some (v', μ') ∧ Lv μ' v' ls ∧ Grow μ μ' ∧ New μ v' := by
 have hg1 : Grow μ ⟨μ.obs.set μ.next ob0, Nat.add μ.next 1⟩ := ja5 μ _
 have h1 := h.grow hg1
 have hs := h1.src
 have hlt := h.1
 obtain ⟨xs, hxs⟩ := exq (ls.map fun x => .int .u32 (.ofNat x) : List Value)
 rw [← hxs] at hs
 have hl : xs.length = ls.length := by rw [hxs, List.length_map]
 have hlen : lenV v = some ls.length := by
  rcases h with ⟨_, _, ⟨rfl, rfl⟩ | ⟨i, o, c, rfl, _⟩⟩ <;> rfl
 have hat : ∀ (k : Nat) x, ls[k]? = some x → x < 4294967296 ∧ cellAt xs.toArray .e k = .int .u32 (.ofNat x) := fun k x hk => by
  obtain ⟨hk', rfl⟩ := List.getElem?_eq_some_iff.1 hk
  refine ⟨hlt _ (List.getElem_mem _), ?_⟩
  rw [jbg xs k (by omega)]
  simp [hxs]
 have e1 : Nat.ble Tryz.t141.bytes 4096 = true := by kernel_rfl
 have e2 : Nat.beq (jaR (.int .u32 0)).length 1 = true := by kernel_rfl
 have e3 : Nat.ble ls.length 67108864 = true := rzP (by omega)
 have e4 : Tryz.t141.size = 1 := by kernel_rfl
 have e5 : Nat.beq xs.length (Nat.mul ls.length 1) = true := by rw [hl, show Nat.mul ls.length 1 = ls.length from Nat.mul_one _]; exact Nat.beq_refl _
 obtain ⟨n, hn'⟩ := exq (ls.length)
 rw [← hn'] at hs hlen e3 e5 hn hl
 have hap : jaN pZ ⟨μ.obs.set μ.next ob0, Nat.add μ.next 1⟩ 38 38 (.slice (some ⟨μ.next, 0, none⟩) 0 0) v = ja1 pZ ⟨μ.obs.set μ.next ob0, Nat.add μ.next 1⟩ 141 1 n xs (.slice (some ⟨μ.next, 0, none⟩) 0 0) := by
  unfold jaN
  simp only [Tryz.underlying38, jcI, e1, jh1, e4, e2, hlen, e3, hs, e5]
 rw [hap]
 unfold ja1
 have e6 : Nat.ble (Nat.add 0 n) 67108864 = true := rzP (by show 0 + n ≤ _; omega)
 simp only [e6]
 cases n with
 | zero =>
   obtain rfl : ls = [] := List.eq_nil_of_length_eq_zero hn'.symm
   obtain rfl : xs = [] := List.eq_nil_of_length_eq_zero hl
   refine ⟨_, _, rfl, .inr ⟨μ.next, 0, 0, #[], .e, false, false, rfl, by show T.get _ _ = _; rw [T.get_set, if_pos rfl]; rfl, rzN _, rzQ _, fun k x hk => by simp at hk, .inl ⟨rfl, rzN _⟩⟩, hg1, New.mk (rzN _)⟩
 | succ n =>
   have e7 : Nat.ble (Nat.add 0 (n + 1)) (Nat.div 0 2) = false := by
    cases hb : Nat.ble (Nat.add 0 (n + 1)) (Nat.div 0 2) with
    | false => rfl
    | true => have := rzE hb; have h0 : Nat.div 0 2 = 0 := rfl; rw [h0] at this; have : 0 + (n + 1) ≤ 0 := this; omega
   simp only [show Nat.beq (Nat.mod 0 2) 0 = true from rfl, e7]
   refine ⟨_, _, rfl, .inr ⟨μ.next + 1, 3, xs.length, xs.toArray, .e, true, false, ?_, ?_, by omega, ?_, hat, .inr ⟨rfl, rfl⟩⟩, ?_, New.mk (Nat.le_succ _)⟩
   ·show Value.slice (some ⟨Nat.add μ.next 1, 0, none⟩) (Nat.add 0 (n + 1)) _ = _
    rw [show Nat.add 0 (n + 1) = n + 1 from rzT _, hn']
   ·show T.get (T.set _ (Nat.add μ.next 1) _) _ = _
    rw [T.get_set, if_pos rfl]
    rfl
   ·show μ.next + 1 < μ.next + 1 + 1; omega
   ·refine ⟨?_, fun i hi => ?_⟩
    ·show μ.next ≤ μ.next + 1 + 1; omega
    ·show T.get (T.set (T.set _ _ _) (Nat.add μ.next 1) _) i = _
     rw [T.get_set, if_neg (by show i ≠ μ.next + 1; omega), T.get_set, if_neg (by omega)]
def trN (ls : List Nat) : Nat → Nat
 | 0 => 0
 | n + 1 => if ls.getD n 0 = 0 then trN ls n else n + 1
def je6 (ls : List Nat) : List Nat := ls.take (trN ls ls.length)
theorem jh7 {ls : List Nat} : ∀ n, n ≤ ls.length → n ≤ 2000000 → ∀ {X : XT} {e : Nat} {tm : T Value} {v : Value} {μ : Mem}, Lv μ v (ls.take n) → jac tm 3 = v →
  LpC X (e + n + 20) Tryz.f82 0 25 tm μ fun x r μ' => x = .exit 0 ∧ μ' = μ ∧ ∃ tm' v', r = ⟨25, tm', [], none⟩ ∧ Lv μ v' (ls.take (trN ls n)) ∧ jac tm' 3 = v' ∧ ∀ i, SlAt v' i → SlAt v i := by
 intro n
 induction n with
 | zero =>
   intro hn hn2 X e tm v μ h h3
   have lv := h.rd.len
   have e1 : ilt 0 (.ofNat (ls.take 0).length) = false := rfl
   refine jah ?_
   repeat ((first | refine jab rfl ?_ | refine jam rfl ?_); (try simp only [go_sem, h3, lv, jae, e1]); fail_if_success refine stk ?_)
   exact ⟨by trivial, by trivial, _, v, rfl, h, by simp only [go_sem, h3], fun i hi => hi⟩
 | succ n ih =>
   intro hn hn2 X e tm v μ h h3
   have hlen : (ls.take (n + 1)).length = n + 1 := by rw [List.length_take]; omega
   have lv := h.rd.len
   rw [hlen] at lv
   obtain ⟨v', hsl, hR', hS'⟩ := h.take (k := n) (by omega)
   rw [List.take_take, Nat.min_eq_left (Nat.le_succ n)] at hR'
   obtain ⟨a, ha0⟩ : ∃ a, ls[n]? = some a := ⟨_, rzK (by omega)⟩
   obtain ⟨bi, c, hv, ha, hc⟩ := h.at (k := n) (x := a) (by rw [List.getElem?_take, if_pos (rzQ n)]; exact ha0)
   rw [hlen] at hv
   have hgd : ls.getD n 0 = a := by rw [List.getD_eq_getElem?_getD, ha0]; rfl
   have e1 : ilt 0 (.ofNat (n + 1)) = true := dT (jao 0 (n + 1)) (rzW n)
   have q1 : jak .i64 (Int.sub (.ofNat (n + 1)) 1) = .ofNat n := jaV (n + 1) 1 (by omega) (by omega)
   have hix : ∀ rg a b, aev pZ rg a = v → aev pZ rg b = .int .i64 (.ofNat n) → jan pZ (aev pZ rg) 38 a b = some (.pointer (some ⟨bi, n, none⟩)) := fun rg a b g1 g2 => by
    rw [hv] at g1
    rw [jaL (P := pZ) Tryz.underlying38 jcI rfl g1 g2 (by omega), rzT]
   have hsl : ∀ rg x y, aev pZ rg x = v → aev pZ rg y = .int .i64 (.ofNat n) → ja0 pZ (aev pZ rg) 38 x none (some y) none = some v' := fun rg x y g1 g2 => hsl _ x y g1 g2
   by_cases hz : a = 0
   ·have e2 : ieq (.ofNat a) 0 = true := dT (jaB _ 0 0 rfl) hz
    have et : trN ls (n + 1) = trN ls n := by rw [trN, hgd, if_pos hz]
    rw [et]
    refine jah ?_
    repeat ((first | refine jab rfl ?_ | refine jam rfl ?_); (try simp only [go_sem, h3, lv, jae, e1, q1, hix, hc, e2, hsl]); fail_if_success refine stk ?_)
    rw [(by omega : e + (n + 1) + 19 = e + n + 20)]
    refine rzM (ih (by omega) (by omega) hR' (by simp only [go_sem])) ?_
    rintro x r μ' ⟨g1, g2, tm', w, g3, g5, g6, g7⟩
    exact ⟨g1, g2, tm', w, g3, g5, g6, fun i hi => hS' i (g7 i hi)⟩
   ·have e2 : ieq (.ofNat a) 0 = false := dF (jaB _ 0 0 rfl) hz
    have et : trN ls (n + 1) = n + 1 := by rw [trN, hgd, if_neg hz]
    rw [et]
    refine jah ?_
    repeat ((first | refine jab rfl ?_ | refine jam rfl ?_); (try simp only [go_sem, h3, lv, jae, e1, q1, hix, hc, e2]); fail_if_success refine stk ?_)
    exact ⟨by trivial, by trivial, _, v, rfl, h, by simp only [go_sem, h3], fun i hi => hi⟩
theorem jdO {X : XT} {g : Nat} {ls : List Nat} {v : Value} {μ : Mem} (h : IsU μ ls v) (hn : ls.length ≤ 2000000) (hg : ls.length + 100 ≤ g) : ∃ v' μ', aFun pZ (jaj pZ X S0 g) 82 [v] μ = some (v', μ') ∧ Lv μ' v' (je6 ls) ∧ Grow μ μ' ∧ New μ v' := by
 obtain ⟨k, hk, rfl⟩ : ∃ k, ls.length ≤ k ∧ g = k + 100 := ⟨g - 100, by omega, by omega⟩
 obtain ⟨v1, μ1, hap, hR, hG, hN⟩ := appendU h hn
 have key : EndsF (aFun pZ (jaj pZ X S0 (k + 100)) 82 [v] μ) fun w μ' => Lv μ' w (je6 ls) ∧ Grow μ μ' ∧ New μ w := by
  refine jaf Tryz.func82 rfl rfl (nbl rfl) ?_
  simp only [go_sem, Tryz.ntmps82]
  repeat (refine jaa rfl ?_; (try simp only [go_sem, bs0, hap]); fail_if_success refine stk ?_)
  rw [(by omega : k + 96 = (k + 76 - ls.length) + ls.length + 20)]
  refine rzM (jh7 (ls := ls) ls.length (rzN _) (by omega) (by rw [List.take_length]; exact hR) (by simp only [go_sem])) ?_
  rintro x r μ' ⟨rfl, rfl, tm', v', rfl, hR', h3, hS⟩
  simp only [go_sem]
  repeat (refine jaa rfl ?_; (try simp only [go_sem, h3]); fail_if_success refine stk ?_)
  exact jad ⟨rfl, v', by simp only [go_sem, Tryz.results82], hR', hG, fun i hi => hN i (hS i hi)⟩
 obtain ⟨w, μ', h1, h2⟩ := key
 exact ⟨w, μ', h1, h2⟩
def fu (n : Nat) : Nat := 4000000 + 4000000 * n
theorem fu_succ (n : Nat) : fu (n + 1) = fu n + 4000000 := by
 unfold fu
 rw [Nat.mul_succ, Nat.add_assoc]
theorem fu_ge (n : Nat) : 4000000 ≤ fu n := Nat.le_add_right _ _
def Sm : Nat → Dat → Prop
 | 0, _ => False
 | n + 1, .mk _ _ _ _ _ ls s l => ls.length ≤ 2000000 ∧ (bys s).length ≤ 2000000 ∧ l.length ≤ 2000000 ∧ ∀ x ∈ l, Sm n x
theorem bits_lt {d : Dat} {μ : Mem} {cs : List Value} (h : IsD μ d cs) : ∀ {k n fl f neg ls s l}, d = .mk k n fl f neg ls s l → f < 18446744073709551616 := by
 rintro k n fl f neg ls s l rfl
 obtain ⟨_, _, _, ⟨_, _, h, _⟩, _⟩ := jdh.1 h
 exact wf_f64 h
theorem u8_lt (s : ByteArray) {i : Nat} (h : i < (bys s).length) : (bys s)[i]'h < 256 := by
 have e : (bys s)[i]'h = (s.data.toList[i]'(by rw [← jb5]; exact h)).toNat := List.getElem_map ..
 rw [e]
 exact UInt8.toNat_lt _
theorem byte_at (s : ByteArray) {i : Nat} (h : i < (bys s).length) : ∃ c, c < 256 ∧ ∀ r x y, aev pZ r x = .string s → aev pZ r y = .int .i64 (.ofNat i) → jaX pZ (aev pZ r) 9 x y = some (.int .u8 (.ofNat c)) :=
 ⟨_, u8_lt s h, fun r x y h1 h2 => jbB h h1 h2⟩
theorem sl_at (s : ByteArray) {k : Nat} (h : k ≤ (bys s).length) (r : Rg) (x y : Operand) (h1 : aev pZ r x = .string s) (h2 : aev pZ r y = .int .i64 (.ofNat k)) : ja0 pZ (aev pZ r) 9 x (some y) none none = some (.string (jc6 s k)) := jds h1 h2 h
theorem ji4 (s : ByteArray) (k : Nat) : (bys (jc6 s k)).length = (bys s).length - k := by rw [jeb, List.length_drop]
@[go_sem] def gg45 {X ev} := gC X ev Tryz.func45 rfl rfl
@[go_sem] def gg63 {X ev} := gC X ev Tryz.func63 rfl rfl
def onlyB (k0 k1 k2 k3 k4 no n0 s0 l0 : Bool) : Bool := if k0 then n0 && s0 && l0 else if k1 || k2 then no && s0 && l0 else if k3 || k4 then no && n0 && l0 else no && n0 && s0
def noB (fl : Bool) (f : Nat) (neg : Bool) (ls : List Nat) : Bool := jdT fl false f 0 neg false ls []
def onlyD : Dat → Bool
 | .mk k n fl f neg ls s l => onlyB (ieq k 0) (ieq k 1) (ieq k 2) (ieq k 3) (ieq k 4) (noB fl f neg ls) (ieq n 0) (decide (s = ⟨List.toArray []⟩)) (ieq (.ofNat l.length) 0)
theorem isU_nil (μ : Mem) : IsU μ [] (.slice none 0 0) := ⟨(by intro x h; cases h), rzY _, .inl ⟨rfl, rfl⟩⟩
theorem jj0 : ∀ k0 k1 k2 k3 k4 no n0 s0 : Bool, (k0 = true ∧ n0 = false) ∨ (k0 = true ∧ n0 = true ∧ s0 = false) ∨ (k0 = true ∧ n0 = true ∧ s0 = true) ∨ (k0 = false ∧ k1 = true ∧ no = false) ∨ (k0 = false ∧ k1 = true ∧ no = true ∧ s0 = false) ∨ (k0 = false ∧ k1 = true ∧ no = true ∧ s0 = true) ∨ (k0 = false ∧ k1 = false ∧ k2 = true ∧ no = false) ∨ (k0 = false ∧ k1 = false ∧ k2 = true ∧ no = true ∧ s0 = false) ∨ (k0 = false ∧ k1 = false ∧ k2 = true ∧ no = true ∧ s0 = true) ∨ (k0 = false ∧ k1 = false ∧ k2 = false ∧ k3 = true ∧ no = false) ∨ (k0 = false ∧ k1 = false ∧ k2 = false ∧ k3 = true ∧ no = true ∧ n0 = false) ∨ (k0 = false ∧ k1 = false ∧ k2 = false ∧ k3 = true ∧ no = true ∧ n0 = true) ∨ (k0 = false ∧ k1 = false ∧ k2 = false ∧ k3 = false ∧ k4 = true ∧ no = false) ∨ (k0 = false ∧ k1 = false ∧ k2 = false ∧ k3 = false ∧ k4 = true ∧ no = true ∧ n0 = false) ∨ (k0 = false ∧ k1 = false ∧ k2 = false ∧ k3 = false ∧ k4 = true ∧ no = true ∧ n0 = true) ∨ (k0 = false ∧ k1 = false ∧ k2 = false ∧ k3 = false ∧ k4 = false ∧ no = false) ∨ (k0 = false ∧ k1 = false ∧ k2 = false ∧ k3 = false ∧ k4 = false ∧ no = true ∧ n0 = false) ∨ (k0 = false ∧ k1 = false ∧ k2 = false ∧ k3 = false ∧ k4 = false ∧ no = true ∧ n0 = true) := by
 intro k0 k1 k2 k3 k4 no n0 s0
 cases k0 <;> cases k1 <;> cases k2 <;> cases k3 <;> cases k4 <;> cases no <;> cases n0 <;> cases s0 <;> simp
theorem only_eq {d : Dat} {cs : List Value} {X : XT} {g : Nat} {μ : Mem} (hX : jb1 X) (hD : IsD μ d cs) (hn : ∀ {k n fl f neg ls s l}, d = .mk k n fl f neg ls s l → ls.length ≤ 2000000) (hg : 2000500 ≤ g) :
  ∃ μ', aFun pZ (jaj pZ X S0 g) 45 [.agg cs.toArray] μ = some (.bool (onlyD d), μ') ∧ Grow μ μ' := by
 obtain ⟨k, hk, rfl⟩ : ∃ k, 2000000 ≤ k ∧ g = k + 500 := ⟨g - 500, by omega, by omega⟩
 obtain ⟨kd, n, fl, f, neg, ls, s, l⟩ := d
 have hls := hn rfl
 clear hn
 obtain ⟨vl, vi, rfl, ⟨_, _, hwf, _⟩, hU, hL⟩ := jdh.1 hD
 have h1 := jey μ 44 [.int .i64 kd, .int .i64 n, .bool fl, .float .f64 f, .bool neg, vl, .string s, vi]
 have hG := ja5 μ (obL 44 [.int .i64 kd, .int .i64 n, .bool fl, .float .f64 f, .bool neg, vl, .string s, vi])
 have hN := has_N h1
 obtain ⟨μ2, r1, G1⟩ := same4_eq (X := X) (g := k + 497) (f2 := false) (h := 0) (q := false) hX (wf_f64 hwf) (by decide) (hU.grow hG) (isU_nil _) (by omega) (by omega)
 have h2 : Has μ2 μ.next 0 [.int .i64 kd, .int .i64 n, .bool fl, .float .f64 f, .bool neg, vl, .string s, vi] := h1.keep (G1.2 _ (rzQ _))
 have lL := ((hL.grow hG).grow G1).len
 obtain ⟨c0, c1, c2, c3, c4, c5, c6, c7⟩ := Has.c8 h2
 have s1 : aStr .eql s ⟨List.toArray []⟩ = some (.bool (decide (s = ⟨List.toArray []⟩))) := jgk s ⟨List.toArray []⟩
 have key : EndsF (aFun pZ (jaj pZ X S0 (k + 500)) 45 [.agg #[.int .i64 kd, .int .i64 n, .bool fl, .float .f64 f, .bool neg, vl, .string s, vi]] μ) fun r μ' => r = .bool (onlyD (.mk kd n fl f neg ls s l)) ∧ Grow μ μ' := by
  show EndsF _ fun r μ' => r = .bool (onlyB (ieq kd 0) (ieq kd 1) (ieq kd 2) (ieq kd 3) (ieq kd 4) (jdT fl false f 0 neg false ls []) (ieq n 0) (decide (s = ⟨List.toArray []⟩)) (ieq (.ofNat l.length) 0)) ∧ Grow μ μ'
  obtain ⟨k0, e0⟩ := eqx (ieq kd 0)
  obtain ⟨k1, e1⟩ := eqx (ieq kd 1)
  obtain ⟨k2, e2⟩ := eqx (ieq kd 2)
  obtain ⟨k3, e3⟩ := eqx (ieq kd 3)
  obtain ⟨k4, e4⟩ := eqx (ieq kd 4)
  obtain ⟨no, e5⟩ := eqx (jdT fl false f 0 neg false ls [])
  obtain ⟨n0, e6⟩ := eqx (ieq n 0)
  obtain ⟨s0, e7⟩ : ∃ b, decide (s = ⟨List.toArray []⟩) = b := ⟨_, rfl⟩
  obtain ⟨l0, e8⟩ := eqx (ieq (.ofNat l.length) 0)
  rw [e5] at r1
  rw [e7] at s1
  rw [e0, e1, e2, e3, e4, e5, e6, e7, e8]
  rcases jj0 k0 k1 k2 k3 k4 no n0 s0 with ⟨rfl, rfl⟩ | ⟨rfl, rfl, rfl⟩ | ⟨rfl, rfl, rfl⟩ | ⟨rfl, rfl, rfl⟩ | ⟨rfl, rfl, rfl, rfl⟩ | ⟨rfl, rfl, rfl, rfl⟩ | ⟨rfl, rfl, rfl, rfl⟩ | ⟨rfl, rfl, rfl, rfl, rfl⟩ | ⟨rfl, rfl, rfl, rfl, rfl⟩ | ⟨rfl, rfl, rfl, rfl, rfl⟩ | ⟨rfl, rfl, rfl, rfl, rfl, rfl⟩ | ⟨rfl, rfl, rfl, rfl, rfl, rfl⟩ | ⟨rfl, rfl, rfl, rfl, rfl, rfl⟩ | ⟨rfl, rfl, rfl, rfl, rfl, rfl, rfl⟩ | ⟨rfl, rfl, rfl, rfl, rfl, rfl, rfl⟩ | ⟨rfl, rfl, rfl, rfl, rfl, rfl⟩ | ⟨rfl, rfl, rfl, rfl, rfl, rfl, rfl⟩ | ⟨rfl, rfl, rfl, rfl, rfl, rfl, rfl⟩
  all_goals
   refine jaf Tryz.func45 rfl rfl (nbl rfl) ?_
   simp only [go_sem, Tryz.ntmps45]
   repeat ((first | refine jab rfl ?_ | refine jam rfl ?_); (try simp only [go_sem, jf5, hN, jgJ, r1, c0, c1, c6, c7, lL, jae, e0, e1, e2, e3, e4, e6, s1, e8]); fail_if_success refine stk ?_)
   refine jad ?_
   refine ⟨rfl, .bool _, ?_, rfl, hG.trans G1⟩
   simp only [go_sem, Tryz.results45]
   try rfl
 obtain ⟨r, μ', h1, rfl, h2⟩ := key
 exact ⟨μ', h1, h2⟩
def signB (n : Int) : Bool := (!ilt n 0 && ilt n 55296) || (ilt 57343 n && !ilt 1114111 n)
theorem sign5_eq {n : Int} {X : XT} {g : Nat} {μ : Mem} (hg : 20 ≤ g) : aFun pZ (jaj pZ X S0 g) 63 [.int .i64 n] μ = some (.bool (signB n), μ) := by
 obtain ⟨k, rfl⟩ := gle hg
 refine jaF ?_
 unfold signB
 obtain ⟨b0, e0⟩ := eqx (ilt n 0)
 obtain ⟨b1, e1⟩ := eqx (ilt n 55296)
 obtain ⟨b2, e2⟩ := eqx (ilt 57343 n)
 obtain ⟨b3, e3⟩ := eqx (ilt 1114111 n)
 rw [e0, e1, e2, e3]
 cases b0 <;> cases b1 <;> cases b2
 all_goals
  refine jaf Tryz.func63 rfl rfl (nbl rfl) ?_
  simp only [go_sem, Tryz.ntmps63]
  repeat ((first | refine jab rfl ?_ | refine jam rfl ?_); (try simp only [go_sem, e0, e1, e2, e3]); fail_if_success refine stk ?_)
  refine jad ?_
  refine ⟨rfl, .bool _, ?_, rfl, rfl⟩
  simp only [go_sem, Tryz.results63]
  try rfl
@[go_sem] def gg61 {X ev} := gC X ev Tryz.func61 rfl rfl
@[go_sem] def gg44 {X ev} := gC X ev Tryz.func44 rfl rfl
def jes (neg : Bool) (ls : List Nat) : Bool := !ilt 64 (.ofNat ls.length) && (decide (je6 ls = ls) && !(neg && ieq (.ofNat ls.length) 0))
theorem right2_eq {ls : List Nat} {v : Value} {neg : Bool} {X : XT} {g : Nat} {μ : Mem} (hU : IsU μ ls v) (hl : ls.length ≤ 2000000) (hg : 2000400 ≤ g) : ∃ μ', aFun pZ (jaj pZ X S0 g) 61 [.agg #[.bool neg, v]] μ = some (.bool (jes neg ls), μ') ∧ Grow μ μ' := by
 obtain ⟨k, hk, rfl⟩ : ∃ k, 2000000 ≤ k ∧ g = k + 400 := ⟨g - 400, by omega, by omega⟩
 have h1 := jey μ 40 [.bool neg, v]
 obtain ⟨μ1, hμ1⟩ := exq (⟨μ.obs.set μ.next (obL 40 [.bool neg, v]), μ.next + 1⟩ : Mem)
 have hG1 : Grow μ μ1 := by rw [hμ1]; exact ja5 _ _
 have n1 : μ1.next = μ.next + 1 := by rw [hμ1]
 have hG2 : Grow μ1 ⟨μ1.obs, μ1.next + 24⟩ := jez μ1 24
 rw [← hμ1] at h1
 have hU1 := (hU.grow hG1).grow hG2
 obtain ⟨v', μ2, r1, hT, G3, _⟩ := jdO (X := X) (g := k + 397) hU1 (by omega) (by omega)
 have htl : (je6 ls).length ≤ ls.length := by unfold je6; rw [List.length_take]; omega
 have hlm : ls.length ≤ maxLen := hU.2.1
 obtain ⟨μ3, r2, G4⟩ := ji7 (X := X) (g := k + 397) (hT.isU (by omega)) (hU1.grow G3) (by omega) (by omega)
 have hq : μ.next < (⟨μ1.obs, μ1.next + 24⟩ : Mem).next := by show μ.next < μ1.next + 24; omega
 have h2 : Has μ2 μ.next 0 [.bool neg, v] := Has.keep (μ := ⟨μ1.obs, μ1.next + 24⟩) h1 (G3.2 _ hq)
 have h3 : Has μ3 μ.next 0 [.bool neg, v] := h2.keep (G4.2 _ (rzO hq G3.1))
 have c0 : ∀ m, jal ⟨μ1.obs, m⟩ μ.next 0 = some (.bool neg) := fun m => (Has.c2 (μ := ⟨μ1.obs, m⟩) h1).1
 have c1 : ∀ m, jal ⟨μ1.obs, m⟩ μ.next 1 = some v := fun m => (Has.c2 (μ := ⟨μ1.obs, m⟩) h1).2
 obtain ⟨d0, d1⟩ := Has.c2 h2
 obtain ⟨f0, f1⟩ := Has.c2 h3
 have lU := hU1.len
 obtain ⟨b0, e0⟩ := eqx (ilt 64 (.ofNat ls.length))
 obtain ⟨b1, e1⟩ : ∃ b, decide (je6 ls = ls) = b := ⟨_, rfl⟩
 obtain ⟨l0, e2⟩ := eqx (ieq (.ofNat ls.length) 0)
 rw [e1] at r2
 have hGa := ((hG1.trans hG2).trans G3).trans G4
 have key : EndsF (aFun pZ (jaj pZ X S0 (k + 400)) 61 [.agg #[.bool neg, v]] μ) fun r μ' => r = .bool (jes neg ls) ∧ Grow μ μ' := by
  unfold jes
  rw [e0, e1, e2]
  cases b0
  ·cases b1 <;> cases neg
   all_goals
    refine jaf Tryz.func61 rfl rfl (nbl rfl) ?_
    simp only [go_sem, Tryz.ntmps61]
    repeat ((first | refine jab rfl ?_ | refine jam rfl ?_); (try simp only [go_sem, jf4]); fail_if_success refine stk ?_)
    rw [← hμ1]
    skip
    have zz := (⟨@c0, @c1, @d0, @d1, @f0, @f1, @lU, @jae, @e0, @e2, @r1, @r2⟩ : _ ∧ _ ∧ _ ∧ _ ∧ _ ∧ _ ∧ _ ∧ _ ∧ _ ∧ _ ∧ _ ∧ _)
    refine jaz (n := 24) (ms := [0, 1, 3, 7, 15, 31, 63, 127, 31, 287, 1023, 2047, 4095, 8191, 16383, 32767, 65535, 131071, 262143, 524287, 1048575, 2097151, 4194303, 8388607]) (ord := [0, 1, 2, 3, 4, 5, 6, 7, 8, 9, 10, 11, 12, 13, 14, 15, 16, 17, 18, 19, 20, 21, 22, 23]) (ds := ?_) ?_ ?_ ?_ ?_ ?_ ?_
    rotate_left
    ·kernel_rfl
    ·kernel_rfl
    ·kernel_rfl
    ·rfl
    ·rfl
    repeat (first | (refine ja8 ?_ rfl ?_; (solve | simp only [go_sem, zz])) | (refine jay (v := ?_) (μ' := ?_) (sn' := ?_) ?_ ?_ rfl ?_; rotate_left 3; (solve | rfl | simp only [go_sem, zz]); (solve | simp only [jaC, heavy, jaO, jar, go_sem, zz]; try exact rfl)))
    clear zz
    simp only [dRun, jat, jai]
    refine jad ?_
    refine ⟨rfl, .bool _, ?_, rfl, hGa⟩
    simp only [go_sem, Tryz.results61]
    try rfl
  ·skip
   refine jaf Tryz.func61 rfl rfl (nbl rfl) ?_
   simp only [go_sem, Tryz.ntmps61]
   repeat ((first | refine jab rfl ?_ | refine jam rfl ?_); (try simp only [go_sem, jf4]); fail_if_success refine stk ?_)
   rw [← hμ1]
   skip
   have zz := (⟨@c0, @c1, @d0, @d1, @f0, @f1, @lU, @jae, @e0, @e2, @r1, @r2⟩ : _ ∧ _ ∧ _ ∧ _ ∧ _ ∧ _ ∧ _ ∧ _ ∧ _ ∧ _ ∧ _ ∧ _)
   refine jaz (n := 24) (ms := [0, 1, 3, 7, 15, 31, 63, 127, 31, 287, 1023, 2047, 4095, 8191, 16383, 32767, 65535, 131071, 262143, 524287, 1048575, 2097151, 4194303, 8388607]) (ord := [0, 1, 2, 3, 4, 5, 6, 7, 8, 9, 10, 11, 12, 13, 14, 15, 16, 17, 18, 19, 20, 21, 22, 23]) (ds := ?_) ?_ ?_ ?_ ?_ ?_ ?_
   rotate_left
   ·kernel_rfl
   ·kernel_rfl
   ·kernel_rfl
   ·rfl
   ·rfl
   repeat (first | (refine ja8 ?_ rfl ?_; (solve | simp only [go_sem, zz])) | (refine jay (v := ?_) (μ' := ?_) (sn' := ?_) ?_ ?_ rfl ?_; rotate_left 3; (solve | rfl | simp only [go_sem, zz]); (solve | simp only [jaC, heavy, jaO, jar, go_sem, zz]; try exact rfl)))
   clear zz
   simp only [dRun, jat, jai]
   exact jad ⟨rfl, .bool false, by simp only [go_sem, Tryz.results61], by simp, hG1.trans hG2⟩
 obtain ⟨r, μ', h1, rfl, h2⟩ := key
 exact ⟨μ', h1, h2⟩
def jcU (fl : Bool) (f : Nat) (neg : Bool) (ls : List Nat) : Bool := if fl then !neg && ieq (.ofNat ls.length) 0 else ieq (.ofNat (W f)) 0 && jes neg ls
theorem jhe {ls : List Nat} {v : Value} {fl neg : Bool} {f : Nat} {X : XT} {g : Nat} {μ : Mem} (hX : jb1 X) (hf : f < 18446744073709551616) (hU : IsU μ ls v) (hl : ls.length ≤ 2000000) (hg : 2000500 ≤ g) :
  ∃ μ', aFun pZ (jaj pZ X S0 g) 44 [.agg #[.bool fl, .float .f64 f, .bool neg, v]] μ = some (.bool (jcU fl f neg ls), μ') ∧ Grow μ μ' := by
 obtain ⟨k, hk, rfl⟩ : ∃ k, 2000000 ≤ k ∧ g = k + 500 := ⟨g - 500, by omega, by omega⟩
 have h1 := jey μ 42 [.bool fl, .float .f64 f, .bool neg, v]
 have hG := ja5 μ (obL 42 [.bool fl, .float .f64 f, .bool neg, v])
 obtain ⟨μ2, r1, G1⟩ := right2_eq (X := X) (neg := neg) (g := k + 496) (hU.grow hG) hl (by omega)
 have hb : ∀ μ', aGo pZ X (jbj pZ (jaj pZ X S0 (k + 496)) S0) 60 [.float .f64 f] μ' = some (u f, μ') := fun μ' => (go_bits _ _).trans ((hX f μ').trans (by rw [u_of hf]))
 have lI := has_I h1
 have lU := (hU.grow hG).len
 obtain ⟨c0, c1, c2, c3⟩ := Has.c4 h1
 obtain ⟨l0, e0⟩ := eqx (ieq (.ofNat ls.length) 0)
 obtain ⟨f0, e1⟩ := eqx (ieq (.ofNat (W f)) 0)
 have key : EndsF (aFun pZ (jaj pZ X S0 (k + 500)) 44 [.agg #[.bool fl, .float .f64 f, .bool neg, v]] μ) fun r μ' => r = .bool (jcU fl f neg ls) ∧ Grow μ μ' := by
  unfold jcU
  rw [e0, e1]
  cases fl
  ·cases f0
   ·skip
    refine jaf Tryz.func44 rfl rfl (nbl rfl) ?_
    simp only [go_sem, Tryz.ntmps44]
    repeat ((first | refine jab rfl ?_ | refine jam rfl ?_); (try simp only [go_sem, jdC, c0, c1, c2, c3, lI, hb, e1, r1]); fail_if_success refine stk ?_)
    exact jad ⟨rfl, .bool false, by simp only [go_sem, Tryz.results44], by simp, hG⟩
   ·skip
    refine jaf Tryz.func44 rfl rfl (nbl rfl) ?_
    simp only [go_sem, Tryz.ntmps44]
    repeat ((first | refine jab rfl ?_ | refine jam rfl ?_); (try simp only [go_sem, jdC, c0, c1, c2, c3, lI, hb, e1, r1]); fail_if_success refine stk ?_)
    exact jad ⟨rfl, .bool (jes neg ls), by simp only [go_sem, Tryz.results44], by simp, hG.trans G1⟩
  ·cases neg
   ·skip
    refine jaf Tryz.func44 rfl rfl (nbl rfl) ?_
    simp only [go_sem, Tryz.ntmps44]
    repeat ((first | refine jab rfl ?_ | refine jam rfl ?_); (try simp only [go_sem, jdC, c0, c1, c2, c3, lU, jae, e0]); fail_if_success refine stk ?_)
    exact jad ⟨rfl, .bool l0, by simp only [go_sem, Tryz.results44], by simp, hG⟩
   ·skip
    refine jaf Tryz.func44 rfl rfl (nbl rfl) ?_
    simp only [go_sem, Tryz.ntmps44]
    repeat ((first | refine jab rfl ?_ | refine jam rfl ?_); (try simp only [go_sem, jdC, c0, c1, c2, c3, lU, jae, e0]); fail_if_success refine stk ?_)
    exact jad ⟨rfl, .bool false, by simp only [go_sem, Tryz.results44], by simp, hG⟩
 obtain ⟨r, μ', h1, rfl, h2⟩ := key
 exact ⟨μ', h1, h2⟩
@[go_sem] def gg64 {X ev} := gC X ev Tryz.func64 rfl rfl
def midS (s : ByteArray) (a b : Nat) : ByteArray := ⟨((s.data.toList.drop a).take (b - a)).toArray⟩
theorem jdR {ρ : Operand → Value} {x y z : Operand} {s : ByteArray} {a b : Nat} (hx : ρ x = .string s) (hy : ρ y = .int .i64 (.ofNat a)) (hz : ρ z = .int .i64 (.ofNat b)) (hab : a ≤ b) (hb : b ≤ (bys s).length) : ja0 pZ ρ 9 x (some y) (some z) none = some (.string (midS s a b)) := by
 unfold ja0
 have h' : b ≤ s.data.toList.length := by rw [← jb5]; exact hb
 have e1 : Nat.ble b s.data.toList.length = true := rzP h'
 have e2 : Nat.ble a b = true := rzP hab
 simp only [hx, Tryz.underlying9, jbb, jbD, hy, hz, e1, e2]
 rfl
def jbI (s : ByteArray) : Nat → Nat → Nat → Bool × Nat
 | 0, _, n => (true, n)
 | f + 1, p, n => if p < (bys s).length then
   if ((bys s).length - p < (bys (Utf8.encode (Utf8.decode s p).1)).length) ∨ midS s p (p + (bys (Utf8.encode (Utf8.decode s p).1)).length) ≠ Utf8.encode (Utf8.decode s p).1 then (false, 0) else jbI s f (p + (Utf8.decode s p).2) (n + 1)
   else (true, n)
theorem jcw (n : Int) : jaG pZ 21 3 (.int .i32 n) = some (.int .i64 (jak .i64 n)) := by
 simp only [jaG, Tryz.underlying21, Tryz.underlying3]
theorem i_r32 : pZ.info? 21 = some Tryz.t21 := by kernel_rfl
theorem z_r32 : ja6 pZ 21 = some (.int .i32 0) := by unfold ja6; rw [i_r32]; rfl
theorem z_int : ja6 pZ 3 = some (.int .i64 0) := by unfold ja6; rw [jcg]; rfl
def obI0 : Ob := .cells 0 3 #[] .e 0 0 false false
theorem bsI0 (ρ : Operand → Value) : jap pZ ρ 87 0 #[] = some (obI0, fun id => .slice (some ⟨id, 0, none⟩) 0 0) := by
 unfold jap
 simp only [Tryz.underlying87, jcg]
 rfl
theorem rngS (s : ByteArray) : jhR pZ 9 (.string s) = some (.siter s 0, fun id => .pointer (some ⟨id, 0, none⟩)) := by
 unfold jhR
 simp only [Tryz.underlying9]
theorem jjh {μ : Mem} {q p : Nat} {s : ByteArray} (h : μ.obs.get q = some (.siter s p)) (hp : p < (bys s).length) : jiU μ (.pointer (some ⟨q, 0, none⟩)) = some (.tuple #[.bool true, .int .i64 (.ofNat p), .int .i32 (.ofNat (Utf8.decode s p).1)], ⟨μ.obs.set q (.siter s (p + (Utf8.decode s p).2)), μ.next⟩) := by
 unfold jiU
 simp only [h]
 rw [show Nat.blt p s.data.toList.length = true from by rw [← jb5]; simpa using hp]
 rfl
theorem next_no {μ : Mem} {q p : Nat} {s : ByteArray} (h : μ.obs.get q = some (.siter s p)) (hp : (bys s).length ≤ p) : jiU μ (.pointer (some ⟨q, 0, none⟩)) = some (.tuple #[.bool false], μ) := by
 unfold jiU
 simp only [h]
 rw [show Nat.blt p s.data.toList.length = false from by rw [← jb5]; cases e : Nat.blt p (bys s).length with | false => rfl | true => exact absurd (by simpa using e) (Nat.not_lt.2 hp)]
theorem ji8 {μ : Mem} {q : Nat} {c : Int} (h : μ.obs.get q = some (.cells 1 21 #[.int .i32 c] .e 0 0 false false)) : ja3 pZ μ 99 9 (.slice (some ⟨q, 0, none⟩) 1 2) = some (.string (Utf8.encode c)) := by
 unfold ja3
 simp only [Tryz.underlying99, Tryz.underlying9, Tryz.underlying21, h]
 show (match jcD [Value.int .i32 c] ByteArray.empty with | some l => some (Value.string l) | none => none) = _
 show some (Value.string (ByteArray.empty ++ Utf8.encode c)) = _
 rw [ByteArray.empty_append]
theorem jfo (a : Addr) (l c : Nat) : jaG pZ 99 9 (.slice (some a) l c) = none := by
 simp only [jaG]
theorem jfn (μ : Mem) (a : Addr) (l c : Nat) : jdI pZ μ 99 9 (.slice (some a) l c) = none := by
 simp only [jdI]
theorem Own.push2 {st e : TypeId} {inf : TypeInfo} {z0 : Value} (hu : pZ.underlying st = some (.slice e)) (hi : pZ.info? e = some inf) (hsz : inf.size = 1) (hby : Nat.ble inf.bytes 4096 = true) (hz : ja6 pZ e = some z0) (hzl : (jaR z0).length = 1)
  {μ0 μ : Mem} {v x : Value} {xs : List Value} (h : Own e μ0 μ v xs) (hn : xs.length < 2000000) (hs : scalar x = true) :
  ∃ v' μ', jaN pZ ⟨μ.obs.set μ.next (.cells 1 e #[x] .e 0 0 false false), Nat.add μ.next 1⟩ st st v (.slice (some ⟨μ.next, 0, none⟩) 1 2) = some (v', μ') ∧ Own e μ0 μ' v' (xs ++ [x]) ∧ μ'.next = μ.next + 1 + 1 ∧ (∀ i, SlAt v' i → μ.next < i) ∧ ∀ i, i < μ.next → ¬ SlAt v i → μ'.obs.get i = μ.obs.get i := by
 have hg1 : Grow μ ⟨μ.obs.set μ.next (.cells 1 e #[x] .e 0 0 false false), Nat.add μ.next 1⟩ := ja5 μ _
 have h1 := h.keep hg1
 obtain ⟨v', μ', ha, hg, hnx, hat, hk⟩ := jf8 (P := pZ) (st := st) (x := x) (q := μ.next) hu hi hsz hby hz hzl h1.good (by show T.get _ _ = _; rw [T.get_set, if_pos rfl]) hn hs
 have hnx' : μ'.next = μ.next + 1 + 1 := hnx
 have hat' : ∀ i, SlAt v' i → i = μ.next + 1 := fun i hi => by
  obtain ⟨l, c, hv⟩ := hat
  obtain ⟨l', c', hv'⟩ := hi
  rw [hv] at hv'
  injection hv' with e1
  injection e1 with e2
  injection e2 with e3
  exact e3.symm
 have hfr : ∀ i, i < μ.next → ¬ SlAt v i → μ'.obs.get i = μ.obs.get i := fun i hi hn => (hk i (by show i ≠ μ.next + 1; omega) hn).trans (hg1.2 i hi)
 refine ⟨v', μ', ha, ⟨hg, ⟨?_, fun i hi => ?_⟩, fun i hi => ?_⟩, hnx', fun i hi => by rw [hat' i hi]; omega, hfr⟩
 ·have := h.grow.1; omega
 ·have h0 := h.grow.1
  rw [hfr i (by omega) (fun hv => by have := (h.above i hv).1; omega)]
  exact h.grow.2 i hi
 ·have h0 := h.grow.1
  have := hat' i hi
  omega
theorem Own.poke {e : TypeId} {μ0 μ : Mem} {v : Value} {xs : List Value} {q : Nat} {ob : Ob} (h : Own e μ0 μ v xs) (hq : μ0.next ≤ q) (hv : ¬ SlAt v q) : Own e μ0 ⟨μ.obs.set q ob, μ.next⟩ v xs :=
 ⟨h.good.keep fun i hi => by
  show T.get _ _ = _
  rw [T.get_set, if_neg (fun e => hv (by rw [← e]; exact hi))], ⟨h.grow.1, fun i hi => by
  show T.get _ _ = _
  rw [T.get_set, if_neg (by omega)]
  exact h.grow.2 i hi⟩, h.above⟩
theorem Own.len {st e : TypeId} {μ0 μ : Mem} {v : Value} {xs : List Value} (hu : pZ.underlying st = some (.slice e)) (h : Own e μ0 μ v xs) : aLen pZ st v = some xs.length := by
 unfold aLen
 rcases h.good with ⟨rfl, rfl⟩ | ⟨i, m, z, ov, fx, sh, c, rfl, _⟩ <;> simp only [hu] <;> rfl
theorem enc_len (c : Int) : (bys (Utf8.encode c)).length ≤ 4 := by
 unfold Utf8.encode
 generalize (if Utf8.valid c = true then c.toNat else Utf8.runeError) = n
 simp only
 repeat' split
 all_goals simp [bys]
theorem str_ne' (a b : ByteArray) : aStr .neq a b = some (.bool (!decide (a = b))) := by
 unfold aStr
 simp only [jgG]
theorem jjO {s : ByteArray} (hl : (bys s).length ≤ 2000000) {μ0 : Mem} {q : Nat} (hq : μ0.next ≤ q) : ∀ (f p n : Nat), (bys s).length ≤ p + f → n ≤ p → ∀ {X : XT} {e : Nat} {tm : T Value} {μ : Mem} {v : Value} {xs : List Value}, μ.obs.get q = some (.siter s p) → q < μ.next → Own 3 μ0 μ v xs → xs.length = n → ¬ SlAt v q →
  jac tm 0 = .string s → jac tm 4 = v → jac tm 11 = .pointer (some ⟨q, 0, none⟩) →
  LpC X (e + f + 60) Tryz.f64 0 44 tm μ fun x r μ' => Grow μ0 μ' ∧ ∃ tm', r = ⟨44, tm', [], none⟩ ∧ ((x = .exit 0 ∧ ∃ w, jac tm' 4 = w ∧ (jbI s f p n).1 = true ∧ aLen pZ 87 w = some (jbI s f p n).2) ∨ (x = .ret ∧ jbI s f p n = (false, 0) ∧ jac tm' 2 = .slice none 0 0 ∧ jac tm' 3 = .bool false)) := by
 intro f
 have done : ∀ (f p n : Nat), (bys s).length ≤ p → ∀ {X : XT} {e : Nat} {tm : T Value} {μ : Mem} {v : Value} {xs : List Value}, μ.obs.get q = some (.siter s p) → Own 3 μ0 μ v xs → xs.length = n → jac tm 4 = v → jac tm 11 = .pointer (some ⟨q, 0, none⟩) →
   LpC X (e + f + 60) Tryz.f64 0 44 tm μ fun x r μ' => Grow μ0 μ' ∧ ∃ tm', r = ⟨44, tm', [], none⟩ ∧ ((x = .exit 0 ∧ ∃ w, jac tm' 4 = w ∧ (jbI s f p n).1 = true ∧ aLen pZ 87 w = some (jbI s f p n).2) ∨ (x = .ret ∧ jbI s f p n = (false, 0) ∧ jac tm' 2 = .slice none 0 0 ∧ jac tm' 3 = .bool false)) := by
  intro f p n hp X e tm μ v xs ho hO hx h4 h11
  have ef : jbI s f p n = (true, n) := by
   cases f with
   | zero => rfl
   | succ f => rw [jbI, if_neg (by omega)]
  have hnx := next_no ho hp
  rw [ef]
  refine jah ?_
  repeat ((first | refine jab rfl ?_ | refine jam rfl ?_); (try simp only [go_sem, h11, hnx]); fail_if_success refine stk ?_)
  exact ⟨hO.grow, _, rfl, .inl ⟨by trivial, v, by simp only [go_sem, h4], by trivial, by rw [hO.len Tryz.underlying87, hx]⟩⟩
 induction f with
 | zero =>
   intro p n hp hnp X e tm μ v xs ho hqn hO hx hsl h0 h4 h11
   exact done 0 p n (by omega) ho hO hx h4 h11
 | succ f ih =>
   intro p n hp hnp X e tm μ v xs ho hqn hO hx hsl h0 h4 h11
   by_cases hlt : p < (bys s).length
   ·obtain ⟨c, hc⟩ := exq ((Utf8.decode s p).1)
    obtain ⟨w, hw⟩ := exq ((Utf8.decode s p).2)
    have hw1 : 1 ≤ w := by rw [hw]; exact Lib.width_pos s p
    have hcl : c ≤ 1114111 := by rw [hc]; exact Lib.rune_le s p
    obtain ⟨own, hown⟩ := exq (Utf8.encode (.ofNat c))
    have ho4 : (bys own).length ≤ 4 := by rw [hown]; exact enc_len _
    have hnx := jjh ho hlt
    rw [← hc, ← hw] at hnx
    obtain ⟨μ1, hμ1⟩ := exq (⟨μ.obs.set q (.siter s (p + w)), μ.next⟩ : Mem)
    rw [← hμ1] at hnx
    have hO1 : Own 3 μ0 μ1 v xs := by rw [hμ1]; exact hO.poke hq hsl
    have n1 : μ1.next = μ.next := by rw [hμ1]
    obtain ⟨μ2, hμ2⟩ := exq (⟨μ1.obs.set μ1.next (.cells 1 21 #[.int .i32 (.ofNat c)] .e 0 0 false false), μ1.next + 1⟩ : Mem)
    have hG2 : Grow μ1 μ2 := by rw [hμ2]; exact ja5 _ _
    have hO2 := hO1.keep hG2
    have n2 : μ2.next = μ1.next + 1 := by rw [hμ2]
    have hq2 : μ2.obs.get q = some (.siter s (p + w)) := by
     rw [hG2.2 q (by omega), hμ1]
     show T.get _ _ = _
     rw [T.get_set, if_pos rfl]
    have hst : ja3 pZ μ2 99 9 (.slice (some ⟨μ1.next, 0, none⟩) 1 2) = some (.string own) := by
     rw [hown]
     exact ji8 (by rw [hμ2]; show T.get _ _ = _; rw [T.get_set, if_pos rfl])
    obtain ⟨v', μ3, hap, hO3, n3, hat3, hk3⟩ := hO2.push2 (x := .int .i64 (.ofNat c)) Tryz.underlying87 jcg rfl (by kernel_rfl) z_int rfl (by omega) rfl
    have hv2 : ¬ SlAt v' q := fun h => by have := hat3 q h; omega
    have hq3 : μ3.obs.get q = some (.siter s (p + w)) := (hk3 q (by omega) hsl).trans hq2
    have lS := jaU s
    have lO := jaU own
    have q1 : jak .i64 (.ofNat c) = .ofNat c := wrap_i64 _ (by show -9223372036854775808 ≤ (c : Int); omega) (by show (c : Int) < _; omega)
    have q2 : jak .i64 (Int.sub (.ofNat (bys s).length) (.ofNat p)) = .ofNat ((bys s).length - p) := jaV _ _ (by omega) (by omega)
    have q3 : jak .i64 (Int.add (.ofNat p) (.ofNat (bys own).length)) = .ofNat (p + (bys own).length) := jaE _ _ (by omega)
    have hcp : ∀ (r : Rg) (o : Oper), o.op = .convert 99 9 (.tmp 19) → aev pZ r (.tmp 19) = .slice (some ⟨μ1.next, 0, none⟩) 1 2 → jaH pZ (aev pZ r) o = none := fun r o ho hx => by
     unfold jaH
     simp only [ho, opsOf, jbJ, hx, jaK]
    have hbr : ∀ r x, aev pZ r x = .int .i32 (.ofNat c) → jap pZ (aev pZ r) 99 1 #[(0, x)] = some (.cells 1 21 #[.int .i32 (.ofNat c)] .e 0 0 false false, fun id => .slice (some ⟨id, 0, none⟩) 1 2) := fun r x g => jbr Tryz.underlying99 i_r32 rfl z_r32 rfl g rfl
    have hbi : ∀ r x, aev pZ r x = .int .i64 (.ofNat c) → jap pZ (aev pZ r) 87 1 #[(0, x)] = some (.cells 1 3 #[.int .i64 (.ofNat c)] .e 0 0 false false, fun id => .slice (some ⟨id, 0, none⟩) 1 2) := fun r x g => jbr Tryz.underlying87 jcg rfl z_int rfl g rfl
    have es : jbI s (f + 1) p n = if ((bys s).length - p < (bys own).length) ∨ midS s p (p + (bys own).length) ≠ own then (false, 0) else jbI s f (p + w) (n + 1) := by
     rw [jbI, if_pos hlt, ← hw]
     rw [show Utf8.encode (((Utf8.decode s p).1 : Nat) : Int) = own from by rw [hown, hc]; rfl]
    rw [es]
    by_cases t1 : (bys s).length - p < (bys own).length
    ·have e1 : ilt (.ofNat ((bys s).length - p)) (.ofNat (bys own).length) = true := dT (jao _ _) t1
     rw [if_pos (.inl t1)]
     refine jah ?_
     repeat ((first | refine jab rfl ?_ | refine jam rfl ?_); (try simp only [go_sem, h0, h4, h11, hnx, jcw, q1, hbr, ← hμ2, hcp, jfo, jfn, hst, lS, lO, jae, q2, e1]); fail_if_success refine stk ?_)
     refine jad ?_
     exact ⟨hO2.grow, _, rfl, .inr ⟨by trivial, by trivial, by simp only [go_sem], by simp only [go_sem]⟩⟩
    ·have e1 : ilt (.ofNat ((bys s).length - p)) (.ofNat (bys own).length) = false := dF (jao _ _) t1
     have hmid : ∀ r x y z, aev pZ r x = .string s → aev pZ r y = .int .i64 (.ofNat p) → aev pZ r z = .int .i64 (.ofNat (p + (bys own).length)) → ja0 pZ (aev pZ r) 9 x (some y) (some z) none = some (.string (midS s p (p + (bys own).length))) := fun r x y z g1 g2 g3 => jdR g1 g2 g3 (by omega) (by omega)
     obtain ⟨md, hmd⟩ := exq (midS s p (p + (bys own).length))
     rw [← hmd] at hmid
     rw [← hmd]
     have e2 := str_ne' md own
     by_cases t2 : md = own
     ·rw [rzU t2] at e2
      have e3 : aStr .neq md own = some (.bool false) := e2
      rw [if_neg (fun h => h.elim t1 (fun h => h t2))]
      refine jah ?_
      repeat ((first | refine jab rfl ?_ | refine jam rfl ?_); (try simp only [go_sem, h0, h4, h11, hnx, jcw, q1, hbr, ← hμ2, hcp, jfo, jfn, hst, lS, lO, jae, q2, e1, q3, hmid, e3, hbi, hap]); fail_if_success refine stk ?_)
      rw [(by omega : e + (f + 1) + 59 = e + f + 60)]
      exact ih (p + w) (n + 1) (by omega) (by omega) hq3 (by omega) hO3 (by rw [rzX, hx]; rfl) hv2 (by simp only [go_sem, h0]) (by simp only [go_sem]) (by simp only [go_sem, h11])
     ·rw [rzV t2] at e2
      have e3 : aStr .neq md own = some (.bool true) := e2
      rw [if_pos (.inr t2)]
      refine jah ?_
      repeat ((first | refine jab rfl ?_ | refine jam rfl ?_); (try simp only [go_sem, h0, h4, h11, hnx, jcw, q1, hbr, ← hμ2, hcp, jfo, jfn, hst, lS, lO, jae, q2, e1, q3, hmid, e3]); fail_if_success refine stk ?_)
      refine jad ?_
      exact ⟨hO2.grow, _, rfl, .inr ⟨by trivial, by trivial, by simp only [go_sem], by simp only [go_sem]⟩⟩
   ·exact done (f + 1) p n (by omega) ho hO hx h4 h11
theorem signs_eq {s : ByteArray} (hl : (bys s).length ≤ 2000000) {X : XT} {g : Nat} {μ : Mem} (hg : 2006000 ≤ g) : ∃ v μ', aFun pZ (jaj pZ X S0 g) 64 [.string s] μ = some (.tuple #[v, .bool (jbI s (bys s).length 0 0).1], μ') ∧ aLen pZ 87 v = some (jbI s (bys s).length 0 0).2 ∧ Grow μ μ' := by
 obtain ⟨k, hk, rfl⟩ : ∃ k, 2000000 ≤ k ∧ g = k + 6000 := ⟨g - 6000, by omega, by omega⟩
 obtain ⟨μ1, hμ1⟩ := exq (⟨μ.obs.set μ.next obI0, μ.next + 1⟩ : Mem)
 have hG1 : Grow μ μ1 := by rw [hμ1]; exact ja5 _ _
 have n1 : μ1.next = μ.next + 1 := by rw [hμ1]
 obtain ⟨μ2, hμ2⟩ := exq (⟨μ1.obs.set μ1.next (.siter s 0), μ1.next + 1⟩ : Mem)
 have hG2 : Grow μ1 μ2 := by rw [hμ2]; exact ja5 _ _
 have n2 : μ2.next = μ1.next + 1 := by rw [hμ2]
 have hat : ∀ i, SlAt (.slice (some ⟨μ.next, 0, none⟩) 0 0) i → i = μ.next := fun i hi => by
  obtain ⟨l, c, hv⟩ := hi
  injection hv with e1
  injection e1 with e2
  injection e2 with e3
  exact e3.symm
 have hO : Own 3 μ μ1 (.slice (some ⟨μ.next, 0, none⟩) 0 0) [] := ⟨.inr ⟨μ.next, 0, #[], .e, false, false, 0, rfl, by rw [hμ1]; show T.get _ _ = _; rw [T.get_set, if_pos rfl]; rfl, rzN _, fun k hk => absurd hk (Nat.not_lt_zero _), .inl ⟨rfl, rfl⟩⟩, hG1, fun i hi => by rw [hat i hi]; omega⟩
 have hq : μ2.obs.get μ1.next = some (.siter s 0) := by rw [hμ2]; show T.get _ _ = _; rw [T.get_set, if_pos rfl]
 have key : EndsF (aFun pZ (jaj pZ X S0 (k + 6000)) 64 [.string s] μ) fun r μ' => ∃ v, r = .tuple #[v, .bool (jbI s (bys s).length 0 0).1] ∧ aLen pZ 87 v = some (jbI s (bys s).length 0 0).2 ∧ Grow μ μ' := by
  refine jaf Tryz.func64 rfl rfl (nbl rfl) ?_
  simp only [go_sem, Tryz.ntmps64]
  repeat ((first | refine jab rfl ?_ | refine jam rfl ?_); (try simp only [go_sem, bsI0, ← hμ1, rngS, ← hμ2]); fail_if_success refine stk ?_)
  rw [(by omega : k + 5995 = (k + 5935 - (bys s).length) + (bys s).length + 60)]
  refine rzM (jjO hl (μ0 := μ) (q := μ1.next) (by omega) (bys s).length 0 0 (by omega) (rzN _) hq (by omega) (hO.keep hG2) rfl (fun h => by have := hat _ h; omega) (by simp only [go_sem]) (by simp only [go_sem]) (by simp only [go_sem])) ?_
  rintro x r μ' ⟨g1, tm', rfl, ⟨rfl, w, h4, h1, h2⟩ | ⟨rfl, h1, h2, h3⟩⟩
  ·simp only [go_sem]
   repeat ((first | refine jab rfl ?_ | refine jam rfl ?_); (try simp only [go_sem, h4]); fail_if_success refine stk ?_)
   refine jad ?_
   refine ⟨rfl, .tuple #[w, .bool true], ?_, w, by rw [h1], h2, g1⟩
   simp only [go_sem, Tryz.results64]
  ·simp only [jbi]
   refine ⟨rfl, .tuple #[.slice none 0 0, .bool false], ?_, .slice none 0 0, by rw [h1], by rw [h1]; rfl, g1⟩
   simp only [go_sem, Tryz.results64]
   rw [h2, h3]
 obtain ⟨r, μ', h1, v, rfl, h2, h3⟩ := key
 exact ⟨v, μ', h1, h2, h3⟩
@[go_sem] def gg46 {X ev} := gC X ev Tryz.func46 rfl rfl
def jhq (s : ByteArray) : Bool := by
 classical exact if Head s ∧ jem s then jio s else false
theorem name5_eq (s : ByteArray) {X : XT} {g : Nat} {μ : Mem} (h1 : jbc X) (h2 : ja7 X) (h3 : Lay μ) (hg : 100000 ≤ g) : ∃ μ', aFun pZ (jaj pZ X S0 g) 65 [.string s] μ = some (.bool (jhq s), μ') ∧ Grow μ μ' := by
 by_cases h : Head s ∧ jem s
 ·rw [show jhq s = jio s from if_pos h]
  exact rn_yes h h1 h2 h3 hg
 ·rw [show jhq s = false from if_neg h]
  exact ⟨_, rn_no h (by omega), Grow.refl _⟩
def Dat.kind : Dat → Int
 | .mk k _ _ _ _ _ _ _ => k
def jka (l : List Dat) : Int := match l[l.length - 1]? with
 | some d => d.kind
 | none => 0
def kindB (k0 k1 k2 k3 k4 k5 k6 k7 r4 n0 n1 sg ok sn nm t2 a5 a6 vc : Bool) : Bool := if k0 then r4 else if k1 then n0 || n1 else if k2 then sg else if k3 then ok && !sn else if k4 then nm else if k5 then true else if k6 then !t2 && (!a5 && !a6) else if k7 then !vc else false
def jhw : Dat → Bool
 | .mk k n fl f neg ls s l => kindB (ieq k 0) (ieq k 1) (ieq k 2) (ieq k 3) (ieq k 4) (ieq k 5) (ieq k 6) (ieq k 7) (jcU fl f neg ls) (ieq n 0) (ieq n 1) (signB n) (jbI s (bys s).length 0 0).1 (ilt 400 (.ofNat (jbI s (bys s).length 0 0).2)) (jhq s) (ilt (.ofNat l.length) 2) (ieq (jka l) 5) (ieq (jka l) 6) (ilt 200 (.ofNat l.length))
theorem kind_eq {n : Nat} {d : Dat} {cs : List Value} {X : XT} {g : Nat} {μ : Mem} (hX0 : jbc X) (hX2 : ja7 X) (hY : Lay μ) (hX : jb1 X) (hS : Sm n d) (hD : IsD μ d cs) (hg : 2200100 ≤ g) :
  ∃ μ', aFun pZ (jaj pZ X S0 g) 46 [.agg cs.toArray] μ = some (.bool (jhw d), μ') ∧ Grow μ μ' := by
 obtain ⟨k, hk, rfl⟩ : ∃ k, 2100000 ≤ k ∧ g = k + 100100 := ⟨g - 100100, by omega, by omega⟩
 cases n with
 | zero => exact hS.elim
 | succ n =>
 obtain ⟨kd, m, fl, f, neg, ls, s, l⟩ := d
 obtain ⟨hls, hsl, hll, _⟩ : ls.length ≤ 2000000 ∧ (bys s).length ≤ 2000000 ∧ l.length ≤ 2000000 ∧ ∀ x ∈ l, Sm n x := hS
 obtain ⟨vl, vi, rfl, ⟨_, _, hwf, _⟩, hU, hL⟩ := jdh.1 hD
 have h1 := jey μ 44 [.int .i64 kd, .int .i64 m, .bool fl, .float .f64 f, .bool neg, vl, .string s, vi]
 have hG := ja5 μ (obL 44 [.int .i64 kd, .int .i64 m, .bool fl, .float .f64 f, .bool neg, vl, .string s, vi])
 have hN := has_N h1
 have lL := (hL.grow hG).len
 obtain ⟨c0, c1, c2, c3, c4, c5, c6, c7⟩ := Has.c8 h1
 obtain ⟨μa, ra, Ga⟩ := jhe (X := X) (g := k + 100091) (fl := fl) (neg := neg) hX (wf_f64 hwf) (hU.grow hG) hls (by omega)
 have rb : ∀ μ', aFun pZ (jaj pZ X S0 (k + 100087)) 63 [.int .i64 m] μ' = some (.bool (signB m), μ') := fun μ' => sign5_eq (by omega)
 obtain ⟨vs, μc, rc, lc, Gc⟩ := signs_eq hsl (X := X) (g := k + 100085) (μ := ⟨μ.obs.set μ.next (obL 44 [.int .i64 kd, .int .i64 m, .bool fl, .float .f64 f, .bool neg, vl, .string s, vi]), μ.next + 1⟩) (by omega)
 obtain ⟨μd, rd, Gd⟩ := name5_eq s (X := X) (g := k + 100083) hX0 hX2 (hY.grow hG) (by omega)
 obtain ⟨ok, e10⟩ := eqx ((jbI s (bys s).length 0 0).1)
 obtain ⟨cn, e11⟩ := eqx ((jbI s (bys s).length 0 0).2)
 rw [e10] at rc
 rw [e11] at lc
 have key : EndsF (aFun pZ (jaj pZ X S0 (k + 100100)) 46 [.agg #[.int .i64 kd, .int .i64 m, .bool fl, .float .f64 f, .bool neg, vl, .string s, vi]] μ) fun r μ' => r = .bool (jhw (.mk kd m fl f neg ls s l)) ∧ Grow μ μ' := by
  simp only [jhw, e10, e11]
  obtain ⟨k0, e0⟩ := eqx (ieq kd 0)
  obtain ⟨k1, e1⟩ := eqx (ieq kd 1)
  obtain ⟨k2, e2⟩ := eqx (ieq kd 2)
  obtain ⟨k3, e3⟩ := eqx (ieq kd 3)
  obtain ⟨k4, e4⟩ := eqx (ieq kd 4)
  obtain ⟨k5, e5⟩ := eqx (ieq kd 5)
  obtain ⟨k6, e6⟩ := eqx (ieq kd 6)
  obtain ⟨k7, e7⟩ := eqx (ieq kd 7)
  obtain ⟨n0, e8⟩ := eqx (ieq m 0)
  obtain ⟨n1, e9⟩ := eqx (ieq m 1)
  obtain ⟨sn, e12⟩ := eqx (ilt 400 (.ofNat cn))
  obtain ⟨t2, e13⟩ := eqx (ilt (.ofNat l.length) 2)
  obtain ⟨vc, e14⟩ := eqx (ilt 200 (.ofNat l.length))
  rw [e0, e1, e2, e3, e4, e5, e6, e7, e8, e9, e12, e13, e14]
  cases k0
  cases k1
  cases k2
  cases k3
  cases k4
  cases k5
  cases k6
  cases k7
  rotate_left 2
  cases t2
  ·skip
   have hl2 : 2 ≤ l.length := by
    rw [jaZ, decide_eq_false_iff_not] at e13
    have : ¬ ((l.length : Int) < 2) := e13
    omega
   obtain ⟨dl, hdl⟩ : ∃ d, l[l.length - 1]? = some d := ⟨_, rzK (by omega)⟩
   obtain ⟨bi, bo, bc, es, hbv, hbi, hH, hE⟩ := (hL.grow hG).at hdl
   have hlk : jka l = dl.kind := by unfold jka; rw [hdl]
   obtain ⟨x0, x1, x2, x3, x4, x5, x6, x7⟩ := dl
   obtain ⟨w1, w2, rfl, _⟩ := jdh.1 hE
   have hlc := Has.cell hH 0 (by simp)
   have hlc : jal _ bi (bo + 8 * (l.length - 1)) = some (.int .i64 x0) := hlc
   have q1 : jak .i64 (Int.sub (.ofNat l.length) 1) = .ofNat (l.length - 1) := jaV l.length 1 (by omega) (by omega)
   have hix : ∀ r x y, aev pZ r x = vi → aev pZ r y = .int .i64 (.ofNat (l.length - 1)) → jan pZ (aev pZ r) 25 x y = some (.pointer (some ⟨bi, bo + 8 * (l.length - 1), none⟩)) := fun r x y g1 g2 => ix_D (by omega) (g1.trans hbv) g2
   rw [hlk]
   show EndsF _ fun r μ' => r = .bool (kindB _ _ _ _ _ _ _ _ _ _ _ _ _ _ _ _ (ieq x0 5) (ieq x0 6) _) ∧ Grow μ μ'
   obtain ⟨a5, e15⟩ := eqx (ieq x0 5)
   obtain ⟨a6, e16⟩ := eqx (ieq x0 6)
   rw [e15, e16]
   cases a5
   all_goals
    refine jaf Tryz.func46 rfl rfl (nbl rfl) ?_
    simp only [go_sem, Tryz.ntmps46]
    repeat ((first | refine jab rfl ?_ | refine jam rfl ?_); (try simp only [go_sem, jf5, hN, c0, c1, c6, c7, lL, jae, e0, e1, e2, e3, e4, e5, e6, e7, e8, e9, e12, e13, e14, q1, hix, hlc, e15, e16]); fail_if_success refine stk ?_)
    refine jad ?_
    refine ⟨rfl, .bool _, ?_, rfl, hG⟩
    simp only [go_sem, Tryz.results46]
    try rfl
  rotate_left 3
  cases ok
  rotate_left 3
  cases n0
  all_goals
   generalize ieq (jka l) 5 = a5
   generalize ieq (jka l) 6 = a6
   refine jaf Tryz.func46 rfl rfl (nbl rfl) ?_
   simp only [go_sem, Tryz.ntmps46]
   repeat ((first | refine jab rfl ?_ | refine jam rfl ?_); (try simp only [go_sem, jf5, hN, c0, c1, c6, c7, lL, jae, e0, e1, e2, e3, e4, e5, e6, e7, e8, e9, e12, e13, e14, ra, rb, rc, lc, rd]); fail_if_success refine stk ?_)
   refine jad ?_
   refine ⟨rfl, .bool _, ?_, rfl, (by first | exact hG | exact hG.trans Ga | exact hG.trans Gc | exact hG.trans Gd)⟩
   simp only [go_sem, Tryz.results46]
   try rfl
 obtain ⟨r, μ', h1, rfl, h2⟩ := key
 exact ⟨μ', h1, h2⟩
@[go_sem] def gg29 {X ev} := gC X ev Tryz.func29 rfl rfl
@[go_sem] def gg13 {X ev} := gC X ev Tryz.func13 rfl rfl
def goR (F : Dat → Int → Int) : List Dat → Int → Int
 | [], m => m
 | d :: r, m => if F d m < 0 then -1 else goR F r (F d m)
def badB (b1 b2 b3 b4 r o k : Bool) : Bool := b1 || b2 || (b3 && b4) || !r || !o || !k
def jby : Nat → Nat → Dat → Int → Int
 | 0, _, _, _ => -1
 | n + 1, deep, .mk k m fl f neg ls s l, left => if badB (ilt left 1) (ilt 60 (.ofNat deep)) (ilt 4 k) (ilt 59 (.ofNat deep)) (jcU fl f neg ls) (onlyD (.mk k m fl f neg ls s l)) (jhw (.mk k m fl f neg ls s l)) = true then -1 else goR (jby n (deep + 1)) l (left - 1)
theorem goR_le {F : Dat → Int → Int} (hF : ∀ d m, -1 ≤ m → -1 ≤ F d m ∧ F d m ≤ m) : ∀ (l : List Dat) (m : Int), -1 ≤ m → -1 ≤ goR F l m ∧ goR F l m ≤ m
 | [], m, h => ⟨h, Int.le_refl _⟩
 | d :: r, m, h => by
   unfold goR
   have h1 := hF d m h
   split
   ·omega
   ·have := goR_le hF r (F d m) h1.1
    omega
theorem jdZ : ∀ (n deep : Nat) (d : Dat) (m : Int), -1 ≤ m → -1 ≤ jby n deep d m ∧ jby n deep d m ≤ m
 | 0, _, _, m, h => ⟨Int.le_refl _, h⟩
 | n + 1, deep, .mk k m' fl f neg ls s l, m, h => by
   unfold jby
   split
   ·omega
   ·rename_i hb
    have h1 : ¬ m < 1 := fun h1 => hb (by rw [show ilt m 1 = true from dT (jaZ _ _) h1]; rfl)
    have := goR_le (jdZ n (deep + 1)) l (m - 1) (by omega)
    omega
theorem jjS {n deep : Nat} (hdn : deep ≤ 2000000) {l : List Dat} {v : Value} (hl : l.length ≤ 2000000) (ih : ∀ {d : Dat} {cs : List Value} {m : Int} {X : XT} {g : Nat} {μ : Mem}, d ∈ l → jbc X → ja7 X → Lay μ → jb1 X → IsD μ d cs → -1 ≤ m → m ≤ 3000 → fu n ≤ g →
  ∃ (μ' : Mem), aFun pZ (jaj pZ X S0 g) 29 [.agg cs.toArray, .int .i64 m, .int .i64 (.ofNat (deep + 1))] μ = some (.int .i64 (jby n (deep + 1) d m), μ') ∧ Grow μ μ') :
  ∀ (j i : Nat), i + j = l.length → ∀ {X : XT} {e : Nat} {tm : T Value} {μ : Mem} {m : Int}, jbc X → ja7 X → Lay μ → jb1 X → IsL μ l v → -1 ≤ m → m ≤ 3000 → fu n ≤ e →
  jac tm 1 = .int .i64 m → jac tm 2 = .int .i64 (.ofNat deep) → jac tm 43 = v → jac tm 44 = .int .i64 (.ofNat l.length) → jac tm 45 = .int .i64 (.ofNat i) →
  LpC X (e + j + 30) Tryz.f29 0 58 tm μ fun x r μ' => Grow μ μ' ∧ ∃ tm', r = ⟨58, tm', [], none⟩ ∧
   ((x = .exit 0 ∧ jac tm' 1 = .int .i64 (goR (jby n (deep + 1)) (l.drop i) m)) ∨ (x = .ret ∧ goR (jby n (deep + 1)) (l.drop i) m = -1 ∧ jac tm' 6 = .int .i64 (-1))) := by
 intro j
 induction j with
 | zero =>
   intro i hi X e tm μ m hX1 hX2 hY hX hL hm hm2 he h1 h2 h43 h44 h45
   have hi : i = l.length := hi
   have e1 : ilt (.ofNat i) (.ofNat l.length) = false := dF (jao _ _) (by omega)
   refine jah ?_
   repeat ((first | refine jab rfl ?_ | refine jam rfl ?_); (try simp only [go_sem, h44, h45, e1]); fail_if_success refine stk ?_)
   refine ⟨Grow.refl _, _, rfl, .inl ⟨by trivial, ?_⟩⟩
   rw [hi, List.drop_length]
   simp only [go_sem, h1, goR]
 | succ j ihj =>
   intro i hi X e tm μ m hX1 hX2 hY hX hL hm hm2 he h1 h2 h43 h44 h45
   have hlt : i < l.length := by omega
   have hdr : l.drop i = l[i]'hlt :: l.drop (i + 1) := List.drop_eq_getElem_cons hlt
   have e1 : ilt (.ofNat i) (.ofNat l.length) = true := dT (jao _ _) hlt
   have a1 : jak .i64 (Int.add (.ofNat i) 1) = .ofNat (i + 1) := jaE i 1 (by omega)
   have a2 : jak .i64 (Int.add (.ofNat deep) 1) = .ofNat (deep + 1) := jaE deep 1 (by omega)
   obtain ⟨bi, bo, bc, cs, hv, hb, hH, hD⟩ := hL.at (rzK hlt)
   have hix : ∀ r x y, aev pZ r x = v → aev pZ r y = .int .i64 (.ofNat i) → jan pZ (aev pZ r) 25 x y = some (.pointer (some ⟨bi, bo + 8 * i, none⟩)) := fun r x y g1 g2 => ix_D hlt (g1.trans hv) g2
   have hl1 := Has.ld_D hH hD.eight.1
   obtain ⟨μ1, hμ1⟩ := exq (putL ⟨μ.obs.set μ.next (obDt zD8), μ.next + 1⟩ μ.next 0 cs : Mem)
   have hst := st_D (o := 0) (jkn (μ := μ) (l := zD8)) (by omega) hD.eight.1 hD.eight.2
   have hG1 : Grow μ μ1 := by rw [hμ1]; exact (ja5 μ _).put_new (rzN _)
   have hl2 : jcq pZ μ1 44 (.pointer (some ⟨μ.next, 0, none⟩)) = some (.agg cs.toArray) := by
    rw [hμ1]
    exact Has.ld_D (Has.of_put (vs := cs) jkn (by rw [hD.eight.1]; omega)) hD.eight.1
   rw [← hμ1] at hst
   obtain ⟨μ2, hr, hG2⟩ := ih (X := X) (g := e + (j + 1) + 22) (List.getElem_mem hlt) hX1 hX2 (hY.grow hG1) hX (hD.grow hG1) hm hm2 (by omega)
   obtain ⟨hr1, hr2⟩ := jdZ n (deep + 1) (l[i]'hlt) m hm
   have hG : Grow μ μ2 := hG1.trans hG2
   rw [hdr]
   obtain ⟨r, hre⟩ := exq (jby n (deep + 1) (l[i]'hlt) m)
   have hgo : goR (jby n (deep + 1)) (l[i]'hlt :: l.drop (i + 1)) m = if r < 0 then -1 else goR (jby n (deep + 1)) (l.drop (i + 1)) r := by rw [goR, hre]
   rw [hgo]
   rw [← hre] at hr hr1 hr2
   by_cases hneg : r < 0
   ·have e2 : ilt r 0 = true := dT (jaZ _ _) hneg
    rw [if_pos hneg]
    refine jah ?_
    repeat ((first | refine jab rfl ?_ | refine jam rfl ?_); (try simp only [go_sem, h1, h2, h43, h44, h45, e1, hix, hl1, hst, hl2, a2, hr, e2]); fail_if_success refine stk ?_)
    refine jad ?_
    exact ⟨hG, _, rfl, .inr ⟨by trivial, by trivial, by simp only [go_sem]⟩⟩
   ·have e2 : ilt r 0 = false := dF (jaZ _ _) hneg
    rw [if_neg hneg]
    refine jah ?_
    repeat ((first | refine jab rfl ?_ | refine jam rfl ?_); (try simp only [go_sem, h1, h2, h43, h44, h45, e1, hix, hl1, hst, hl2, a2, hr, e2, a1]); fail_if_success refine stk ?_)
    rw [(by omega : e + (j + 1) + 29 = e + j + 30)]
    refine rzM (ihj (i + 1) (by omega) hX1 hX2 (hY.grow hG) hX (hL.grow hG) hr1 (by omega) he (by simp only [go_sem]) (by simp only [go_sem, h2]) (by simp only [go_sem, h43]) (by simp only [go_sem, h44]) (by simp only [go_sem])) ?_
    rintro x r' μ' ⟨g1, g2⟩
    exact ⟨hG.trans g1, g2⟩
theorem right_eq : ∀ (n : Nat) {deep : Nat}, deep + n ≤ 2000000 → ∀ {d : Dat} {cs : List Value} {m : Int} {X : XT} {g : Nat} {μ : Mem}, Sm n d → jbc X → ja7 X → Lay μ → jb1 X → IsD μ d cs → -1 ≤ m → m ≤ 3000 → fu n ≤ g →
  ∃ (μ' : Mem), aFun pZ (jaj pZ X S0 g) 29 [.agg cs.toArray, .int .i64 m, .int .i64 (.ofNat deep)] μ = some (.int .i64 (jby n deep d m), μ') ∧ Grow μ μ' := by
 intro n
 induction n with
 | zero => intro deep hdn d cs m X g μ hS; exact hS.elim
 | succ n ih =>
   intro deep hdn d cs m X g μ hS hX1 hX2 hY hX hD hm hm2 hg
   rw [fu_succ] at hg
   obtain ⟨k, hk, rfl⟩ : ∃ k, fu n + 3999900 ≤ k ∧ g = k + 100 := ⟨g - 100, by omega, by omega⟩
   have hS0 := hS
   obtain ⟨kd, n', fl, f, neg, ls, s, l⟩ := d
   obtain ⟨hls, _, hll, hsub⟩ : ls.length ≤ 2000000 ∧ (bys s).length ≤ 2000000 ∧ l.length ≤ 2000000 ∧ ∀ x ∈ l, Sm n x := hS
   have hf := bits_lt hD rfl
   have hD0 := hD
   obtain ⟨vl, vi, rfl, _, hU, hL⟩ := jdh.1 hD
   have h1 := jey μ 44 [.int .i64 kd, .int .i64 n', .bool fl, .float .f64 f, .bool neg, vl, .string s, vi]
   have hG1 := ja5 μ (obL 44 [.int .i64 kd, .int .i64 n', .bool fl, .float .f64 f, .bool neg, vl, .string s, vi])
   obtain ⟨μ1, hμ1⟩ := exq (⟨μ.obs.set μ.next (obL 44 [.int .i64 kd, .int .i64 n', .bool fl, .float .f64 f, .bool neg, vl, .string s, vi]), μ.next + 1⟩ : Mem)
   rw [← hμ1] at h1 hG1
   have n1 : μ1.next = μ.next + 1 := by rw [hμ1]
   obtain ⟨c0, _, _, _, _, _, _, _⟩ := Has.c8 h1
   have hN := has_N h1
   obtain ⟨μ2, r1, G2⟩ := jhe (X := X) (g := k + 96) (fl := fl) (neg := neg) hX hf (hU.grow hG1) hls (by omega)
   have h2 : Has μ2 μ.next 0 _ := h1.keep (G2.2 _ (by omega))
   have hl2 := Has.ld_D h2 rfl
   obtain ⟨μ3, r2, G3⟩ := only_eq (X := X) (g := k + 96) hX ((hD0.grow hG1).grow G2) (by intro _ _ _ _ _ _ _ _ e; cases e; exact hls) (by omega)
   have h3 : Has μ3 μ.next 0 _ := h2.keep (G3.2 _ (by have := G2.1; omega))
   have hl3 := Has.ld_D h3 rfl
   have G13 := (hG1.trans G2).trans G3
   obtain ⟨μ4, r3, G4⟩ := kind_eq (X := X) (g := k + 96) hX1 hX2 (hY.grow G13) hX hS0 (hD0.grow G13) (by omega)
   have h4 : Has μ4 μ.next 0 _ := h3.keep (G4.2 _ (by have := G2.1; have := G3.1; omega))
   obtain ⟨_, _, _, _, _, _, _, c7⟩ := Has.c8 h4
   have G14 := G13.trans G4
   have lL := (hL.grow G14).len
   obtain ⟨b1, t1⟩ := eqx (ilt m 1)
   obtain ⟨b2, t2⟩ := eqx (ilt 60 (.ofNat deep))
   obtain ⟨b3, t3⟩ := eqx (ilt 4 kd)
   obtain ⟨b4, t4⟩ := eqx (ilt 59 (.ofNat deep))
   obtain ⟨b5, t5⟩ := eqx (jcU fl f neg ls)
   obtain ⟨b6, t6⟩ := eqx (onlyD (.mk kd n' fl f neg ls s l))
   obtain ⟨b7, t7⟩ := eqx (jhw (.mk kd n' fl f neg ls s l))
   have hR : jby (n + 1) deep (.mk kd n' fl f neg ls s l) m = if badB b1 b2 b3 b4 b5 b6 b7 = true then -1 else goR (jby n (deep + 1)) l (m - 1) := by
    rw [jby, t1, t2, t3, t4, t5, t6, t7]
   rw [hR]
   rw [t5] at r1
   rw [t6] at r2
   rw [t7] at r3
   have key : EndsF (aFun pZ (jaj pZ X S0 (k + 100)) 29 [.agg #[.int .i64 kd, .int .i64 n', .bool fl, .float .f64 f, .bool neg, vl, .string s, vi], .int .i64 m, .int .i64 (.ofNat deep)] μ) fun w μ' => w = .int .i64 (if badB b1 b2 b3 b4 b5 b6 b7 = true then -1 else goR (jby n (deep + 1)) l (m - 1)) ∧ Grow μ μ' := by
    have cc : (b1 = true) ∨ (b1 = false ∧ b2 = true) ∨ (b1 = false ∧ b2 = false ∧ b3 = true ∧ b4 = true) ∨
      (b1 = false ∧ b2 = false ∧ b3 = true ∧ b4 = false ∧ b5 = false) ∨ (b1 = false ∧ b2 = false ∧ b3 = false ∧ b5 = false) ∨
      (b1 = false ∧ b2 = false ∧ b3 = true ∧ b4 = false ∧ b5 = true ∧ b6 = false) ∨ (b1 = false ∧ b2 = false ∧ b3 = false ∧ b5 = true ∧ b6 = false) ∨
      (b1 = false ∧ b2 = false ∧ b3 = true ∧ b4 = false ∧ b5 = true ∧ b6 = true ∧ b7 = false) ∨ (b1 = false ∧ b2 = false ∧ b3 = false ∧ b5 = true ∧ b6 = true ∧ b7 = false) ∨
      (b1 = false ∧ b2 = false ∧ b3 = true ∧ b4 = false ∧ b5 = true ∧ b6 = true ∧ b7 = true) ∨ (b1 = false ∧ b2 = false ∧ b3 = false ∧ b5 = true ∧ b6 = true ∧ b7 = true) := by
     cases b1 <;> cases b2 <;> cases b3 <;> cases b4 <;> cases b5 <;> cases b6 <;> cases b7 <;> simp
    rcases cc with rfl | ⟨rfl, rfl⟩ | ⟨rfl, rfl, rfl, rfl⟩ | ⟨rfl, rfl, rfl, rfl, rfl⟩ | ⟨rfl, rfl, rfl, rfl⟩ | ⟨rfl, rfl, rfl, rfl, rfl, rfl⟩ | ⟨rfl, rfl, rfl, rfl, rfl⟩ | ⟨rfl, rfl, rfl, rfl, rfl, rfl, rfl⟩ | ⟨rfl, rfl, rfl, rfl, rfl, rfl⟩ | ⟨rfl, rfl, rfl, rfl, rfl, rfl, rfl⟩ | ⟨rfl, rfl, rfl, rfl, rfl, rfl⟩
    rotate_left 9
    iterate 2
     ·have hm1 : ¬ m < 1 := by rw [jaZ, decide_eq_false_iff_not] at t1; exact t1
      have a1 : jak .i64 (Int.sub m 1) = m - 1 := jbU m 1 (by omega) (by omega)
      refine jaf Tryz.func29 rfl rfl (nbl rfl) ?_
      simp only [go_sem, Tryz.ntmps29]
      refine jaa rfl ?_
      refine jaa rfl ?_
      simp only [go_sem, jf5, ← hμ1]
      repeat ((first | refine jab rfl ?_ | refine jam rfl ?_); (try simp only [go_sem, c0, hN, hl2, hl3, c7, lL, jae, t1, t2, t3, t4, r1, r2, r3, a1]); fail_if_success refine stk ?_)
      rw [(by omega : k + 94 = (k + 64 - l.length) + l.length + 30)]
      refine rzM (jjS (n := n) (deep := deep) (by omega) hll (fun hm hX1 hX2 hY hX hD h1 h2 hg => ih (by omega) (hsub _ hm) hX1 hX2 hY hX hD h1 h2 hg) l.length 0 (rzT _) (m := m - 1) hX1 hX2 (hY.grow G14) hX (hL.grow G14) (by omega) (by omega) (by omega) (by simp only [go_sem]) (by simp only [go_sem]) (by simp only [go_sem]) (by simp only [go_sem]) (by simp only [go_sem]; try rfl)) ?_
      rintro x r μ' ⟨g1, tm', rfl, ⟨rfl, q1⟩ | ⟨rfl, q0, q1⟩⟩
      ·simp only [go_sem]
       rw [List.drop_zero] at q1
       repeat ((first | refine jab rfl ?_ | refine jam rfl ?_); (try simp only [go_sem, q1]); fail_if_success refine stk ?_)
       exact jad ⟨rfl, .int .i64 (goR (jby n (deep + 1)) l (m - 1)), by simp only [go_sem, Tryz.results29], rfl, G14.trans g1⟩
      ·simp only [jbi]
       rw [List.drop_zero] at q0
       refine ⟨rfl, .int .i64 (-1), ?_, ?_, G14.trans g1⟩
       ·skip
        simp only [go_sem, Tryz.results29]
        rw [q1]
       ·rw [← q0]
        rfl
    all_goals
     refine jaf Tryz.func29 rfl rfl (nbl rfl) ?_
     simp only [go_sem, Tryz.ntmps29]
     refine jaa rfl ?_
     refine jaa rfl ?_
     simp only [go_sem, jf5, ← hμ1]
     repeat ((first | refine jab rfl ?_ | refine jam rfl ?_); (try simp only [go_sem, c0, hN, hl2, hl3, c7, lL, jae, t1, t2, t3, t4, r1, r2, r3]); fail_if_success refine stk ?_)
     refine jad ?_
     refine ⟨rfl, .int .i64 (-1), ?_, rfl, by first | exact hG1 | exact hG1.trans G2 | exact G13 | exact G14⟩
     simp only [go_sem, Tryz.results29]
   obtain ⟨w, μ', h1, rfl, h2⟩ := key
   exact ⟨μ', h1, h2⟩
theorem Right_eq {n : Nat} (hn : n ≤ 2000000) {d : Dat} {cs : List Value} {X : XT} {g : Nat} {μ : Mem} (hS : Sm n d) (hX1 : jbc X) (hX2 : ja7 X) (hY : Lay μ) (hX : jb1 X) (hD : IsD μ d cs) (hg : fu n + 1000 ≤ g) :
  ∃ (μ' : Mem), aFun pZ (jaj pZ X S0 g) 13 [.agg cs.toArray] μ = some (.bool (!ilt (jby n 0 d 3000) 0), μ') ∧ Grow μ μ' := by
 obtain ⟨k, hk, rfl⟩ : ∃ k, fu n + 900 ≤ k ∧ g = k + 100 := ⟨g - 100, by omega, by omega⟩
 obtain ⟨h8, h1⟩ := hD.eight
 obtain ⟨μ1, hμ1⟩ := exq (⟨μ.obs.set μ.next (obL 44 cs), μ.next + 1⟩ : Mem)
 have hH := jey μ 44 cs
 have hG1 := ja5 μ (obL 44 cs)
 rw [← hμ1] at hH hG1
 have hl := Has.ld_D hH h8
 have hbx : aBox 44 (.agg cs.toArray) = some (obL 44 cs, fun id => .pointer (some ⟨id, 0, none⟩)) := box_agg _ _
 obtain ⟨μ2, r1, G2⟩ := right_eq n (deep := 0) (by omega) (m := 3000) (X := X) (g := k + 97) hS hX1 hX2 (hY.grow hG1) hX (hD.grow hG1) (by decide) (by decide) (by omega)
 have key : EndsF (aFun pZ (jaj pZ X S0 (k + 100)) 13 [.agg cs.toArray] μ) fun w μ' => w = .bool (!ilt (jby n 0 d 3000) 0) ∧ Grow μ μ' := by
  obtain ⟨b, e⟩ := eqx (ilt (jby n 0 d 3000) 0)
  rw [e]
  have z : (Value.int .i64 (.ofNat 0)) = .int .i64 0 := rfl
  rw [z] at r1
  refine jaf Tryz.func13 rfl rfl (nbl rfl) ?_
  simp only [go_sem, Tryz.ntmps13]
  repeat ((first | refine jab rfl ?_ | refine jam rfl ?_); (try simp only [go_sem, hbx, ← hμ1, hl, r1, e]); fail_if_success refine stk ?_)
  exact jad ⟨rfl, .bool (!b), by simp only [go_sem, Tryz.results13], rfl, hG1.trans G2⟩
 obtain ⟨w, μ', h1, rfl, h2⟩ := key
 exact ⟨μ', h1, h2⟩
end
end Go.Proofs.YtlkenchibdeinaaGreatDoor.ce
