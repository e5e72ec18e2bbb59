/-
  distafflaw18.ValueNums, part Ql: its walk and its law. No conditions.
-/
import Derived.Test.YtdmfakpngnlokaaGreatDoorDwQk
set_option linter.all false
set_option maxRecDepth 20000
set_option maxHeartbeats 8000000
namespace Go.Proofs.YtdmfakpngnlokaaGreatDoor.nu
open YtdmfakpngnlokaaGreatDoor.Ev
noncomputable section
variable {X : XT}
def rgL (x : Nat → Nat) (n : Nat) : List Nat := (List.range n).map x
theorem jgu (x : Nat → Nat) (n : Nat) : rgL x (n + 1) = rgL x n ++ [x n] := by simp [rgL, List.range_succ]
theorem jdw (x : Nat → Nat) (n : Nat) : (rgL x n).length = n := by simp [rgL]
def yw (x : Nat → Nat) (n k : Nat) : Nat := pw x 2 32 n (1 + k)
theorem yw_lt {x : Nat → Nat} {n : Nat} (hx : ∀ t, x t < 2 ^ 32) (k : Nat) : yw x n k < 18446744073709551616 := by
 have := pw_lt x 2 32 (by decide) hx n (1 + k)
 rw [show (2 : Nat) ^ (2 * 32) = 18446744073709551616 from rfl] at this
 exact this
theorem yw_lo {x : Nat → Nat} {n k : Nat} (hx : ∀ t, x t < 2 ^ 32) (h : 2 * k < n) : yw x n k % 4294967296 = x (2 * k) := by
 have := pw_read x 2 32 (by decide) hx n (2 * k) h
 rw [show 2 * k / 2 = k from by omega, show 2 * k % 2 = 0 from by omega, Nat.zero_mul, Nat.pow_zero, Nat.div_one, p32] at this
 exact this
theorem yw_hi {x : Nat → Nat} {n k : Nat} (hx : ∀ t, x t < 2 ^ 32) (h : 2 * k + 1 < n) : yw x n k / 4294967296 = x (2 * k + 1) := by
 have := pw_read x 2 32 (by decide) hx n (2 * k + 1) h
 rw [show (2 * k + 1) / 2 = k from by omega, show (2 * k + 1) % 2 = 1 from by omega, Nat.one_mul, p32] at this
 have hl := yw_lt (n := n) hx k
 unfold yw at hl ⊢
 rw [Nat.mod_eq_of_lt (by omega)] at this
 exact this
theorem yw_end {x : Nat → Nat} {k : Nat} (hx : ∀ t, x t < 2 ^ 32) : yw x (2 * k + 1) k / 4294967296 = 0 := by
 have := (jd2 x 2 32 (by decide) hx (2 * k + 1)).1
 rw [show (2 * k + 1) / 2 = k from by omega, show (2 * k + 1) % 2 = 1 from by omega, Nat.one_mul, p32] at this
 exact Nat.div_eq_of_lt this
theorem lm_rg {x : Nat → Nat} {n : Nat} (hx : ∀ t, x t < 2 ^ 32) : ∀ j, 2 * j ≤ n → lmL (yw x n) j = rgL x (2 * j)
 | 0, _ => rfl
 | j + 1, h => by
   rw [lmL, lm_rg hx j (by omega), yw_lo hx (by omega), yw_hi hx (by omega), show 2 * (j + 1) = 2 * j + 1 + 1 from by omega, jgu, jgu, List.append_assoc]
   rfl
theorem lm_odd {x : Nat → Nat} {j : Nat} (hx : ∀ t, x t < 2 ^ 32) : lmL (yw x (2 * j + 1)) (j + 1) = rgL x (2 * j + 1) ++ [0] := by
 rw [lmL, lm_rg hx j (by omega), yw_lo hx (by omega), yw_end hx, jgu, List.append_assoc]
 rfl
theorem nw_two (n : Nat) : nwH 2 n = 1 + (n + 1) / 2 := by
 cases n with
 | zero => rfl
 | succ n => rw [jgx 2 (by decide)]; omega
theorem IsU.takeA {μ : Mem} {v : Value} {ls : List Nat} {k : Nat} (h : IsU μ ls v) (hk : k ≤ ls.length) : ∃ v', (∀ (ρ : Operand → Value) (x y : Operand), ρ x = v → ρ y = .int .i64 (.ofNat k) → jaJ pZ ρ 23 x none (some y) none = some v') ∧ Ev.one v' = true ∧ ∀ μ', IsU μ' ls v → IsU μ' (ls.take k) v' := by
 obtain ⟨v', e, i1⟩ := h.take hk
 refine ⟨v', e, ?_, fun μ' h' => ?_⟩
 ·rcases i1.2.2 with ⟨h, _⟩ | ⟨i, o, c, h, _⟩ <;> rw [h] <;> rfl
 ·obtain ⟨v2, e2, i2⟩ := h'.take hk
  have a := (e (fun o => match o with | .tmp 0 => v | _ => .int .i64 (.ofNat k)) (.tmp 0) (.tmp 1) rfl rfl).symm.trans (e2 _ _ _ rfl rfl)
  rw [Option.some.inj a]
  exact i2
theorem build_I1 {ρ : Operand → Value} {a : Operand} {p : Value} (ha : ρ a = p) (hp : one p = true) : jbF pZ ρ 25 #[(0, a)] = some (.agg #[p, .slice none 0 0]) := by
 have hpl : ∃ f, pZ.underlying 25 = some (.struct f) ∧ jcO pZ f.toList = some [(0, 1), (1, 1)] := ⟨_, Tryz.underlying25, by kernel_rfl⟩
 obtain ⟨f, h1, h2⟩ := hpl
 refine jba (cs := [p, .slice none 0 0]) z_I h1 h2 ?_
 simp only [List.map_cons, List.map_nil, ha]
 show jcC _ [.bool false, .slice none 0 0] [(0, p)] = _
 rw [jbK (off := 0) rfl hp (by decide)]
 rfl
set_option maxHeartbeats 16000000 in
theorem asNum_big {sp hp ap wb lb N L q s n : Nat} {neg : Bool} {x ws : Nat → Nat} {p : Pos} {μ : Mem} (h : SP μ sp hp ap wb lb N L ws p) (hq : q + nwH 2 n < N) (hw : ws q = headW 17 0 (nwH 2 n)) (hws : ∀ k, k < nwH 2 n → ws (q + 1 + k) = pf x 2 32 s n k) (hn : 1 ≤ n) (hn2 : n ≤ 64) (hx : ∀ t, x t < 2 ^ 32) (h0 : x (n - 1) ≠ 0) (hs : s = if neg then 1 else 0) {g : Nat} (hg : 1000 ≤ g) :
  ∃ v μ', aFun pZ (jai pZ X S0 g) 8 [.pointer (some ⟨sp, 0, none⟩), .int .u64 (.ofNat (jaI q))] μ = some (.tuple #[.agg #[.bool false, .float .f64 0, .bool neg, v], .bool true], μ') ∧ IsU μ' (rgL x n) v ∧ Grow μ μ' := by
 obtain ⟨k, rfl⟩ := gle hg
 have hN := h.hs.ab.N1
 have hG := jbc μ obN
 obtain ⟨μa, hμa⟩ := exq (⟨μ.obs.set μ.next obN, μ.next + 1⟩ : Mem)
 rw [← hμa] at hG
 have hAn : μ.next < μa.next := by rw [hμa]; exact rzQ _
 have hBA : Blk μa μ.next 4 27 := by rw [hμa]; exact blkN
 have hS0 := h.grow hG
 have hnw := nw_two n
 obtain ⟨m, hm⟩ := exq ((n + 1) / 2)
 rw [← hm] at hnw
 have r1 := je1 (X := X) (g := k + 996) (μ := μa) (m := jaI q) (by omega) (by unfold jaI; omega)
 rw [show jaI q % 8 = 1 from by unfold jaI; omega] at r1
 obtain ⟨v1, μ1, r2, hv1, G1⟩ := fields_no (X := X) (g := k + 995) (kd' := 16) (by omega) hS0.sp0 hS0.hs.at (by omega) hN hw (by decide) (by decide) (by omega) (by decide)
 subst hv1
 have r2 : aFun pZ (jai pZ X S0 (k + 995)) 29 [.pointer (some ⟨sp, 0, none⟩), .int .i64 16, .int .u64 (.ofNat (jaI q))] μa = some (.tuple #[.slice none 0 0, .bool false], μ1) := r2
 have hS1 := hS0.grow G1
 obtain ⟨v2, μ2, r3, ⟨oi, rfl, G2, o1, o2, hc⟩⟩ := jgb (X := X) (g := k + 995) (by omega) hS1.sp0 hS1.spn hS1.hs.at hq hN hw (by decide) (by omega)
 have r3 : aFun pZ (jai pZ X S0 (k + 995)) 29 [.pointer (some ⟨sp, 0, none⟩), .int .i64 17, .int .u64 (.ofNat (jaI q))] μ1 = some (.tuple #[.slice (some ⟨oi, 0, none⟩) (nwH 2 n) (2 * nwH 2 n), .bool true], μ2) := r3
 rw [hnw] at r3 hc hws
 have hc0 : jad μ2 oi 0 = some (.int .u64 (.ofNat s)) := by
  rw [hc 0 (by omega), hws 0 (by omega)]
  rfl
 have hcy : ∀ k, k < m → jad μ2 oi (1 + k) = some (.int .u64 (.ofNat (yw x n k))) := fun k hk => by
  rw [hc (1 + k) (by omega), hws (1 + k) (by omega)]
  unfold pf yw
  rw [if_neg (by omega)]
 have hG2 := (hG.trans G1).trans G2
 obtain ⟨wi, hwi⟩ := exq (.ofNat (jaI q) : Int)
 obtain ⟨ki, hki⟩ := exq (.ofNat 1 : Int)
 have e1 : ieq ki 0 = false := by rw [hki]; rfl
 rw [← hki, ← hwi] at r1
 rw [← hwi] at r2 r3 ⊢
 obtain ⟨si, hsi⟩ := exq (.ofNat s : Int)
 have e2 : ieq si 1 = neg := by
  rw [hsi, hs]
  cases neg <;> rfl
 rw [← hsi] at hc0
 obtain ⟨mi, hmi⟩ := exq (1 + m : Nat)
 rw [← hmi] at r3
 have e3 : ilt (.ofNat mi) 2 = false := dF (jcV _ 2 2 rfl) (by omega)
 have lW : aLen pZ 69 (.slice (some ⟨oi, 0, none⟩) mi (2 * mi)) = some mi := by
  unfold aLen
  simp only [Tryz.underlying69]
 have hix : ∀ rg a, aev pZ rg a = .slice (some ⟨oi, 0, none⟩) mi (2 * mi) → jal pZ (aev pZ rg) 69 a (.const (.int .i64 0)) = some (.pointer (some ⟨oi, 0, none⟩)) := fun rg a g1 =>
  jaF (P := pZ) (y := .const (.int .i64 0)) (m := 0) (kd := .i64) Tryz.underlying69 iW rfl g1 rfl (by omega)
 have hsl : ∀ rg a, aev pZ rg a = .slice (some ⟨oi, 0, none⟩) mi (2 * mi) → jaJ pZ (aev pZ rg) 69 a (some (.const (.int .i64 1))) none none = some (.slice (some ⟨oi, 1, none⟩) m (2 * m)) := fun rg a g1 => by
  have := slice_lo (P := pZ) (y := .const (.int .i64 1)) (l := 1) (kd := .i64) Tryz.underlying69 iW rfl g1 rfl (by omega) (rzN _) (by omega)
  rw [this, rzT, (by omega : mi - 1 = m)]
 have lW2 : aLen pZ 69 (.slice (some ⟨oi, 1, none⟩) m (2 * m)) = some m := by
  unfold aLen
  simp only [Tryz.underlying69]
 have bd1 := fun (r : Rg) (a : Operand) (ha : aev pZ r a = .bool neg) => build_I1 (ρ := aev pZ r) ha rfl
 have hst1 := st_I (μ := ⟨μ2.obs.set μ2.next obI, μ2.next + 1⟩) (x := .bool neg) (y := .slice none 0 0) blkI rfl rfl
 obtain ⟨μ3, hμ3⟩ := exq (putL ⟨μ2.obs.set μ2.next obI, μ2.next + 1⟩ μ2.next 0 [.bool neg, .slice none 0 0] : Mem)
 have G3 : Grow μ2 μ3 := by rw [hμ3]; exact (jbc μ2 obI).put_new (rzN _)
 have hB3 : Blk μ3 μ2.next 2 25 := by rw [hμ3]; exact blkI.put _ _
 have hH3 : Has μ3 μ2.next 0 [.bool neg, .slice none 0 0] := by rw [hμ3]; exact Has.of_put (vs := [.bool neg, .slice none 0 0]) blkI (rzN _)
 have hn3 : μ2.next < μ3.next := by rw [hμ3, jaE]; exact rzQ _
 have hA2 : μ.next < μ2.next := rzO hAn (rzS G1.1 G2.1)
 rw [← hμ3] at hst1
 have hlen2 : (lmL (yw x n) m).length = 2 * m := jf8 _ _
 have key : EndsF (aFun pZ (jai pZ X S0 (k + 1000)) 8 [.pointer (some ⟨sp, 0, none⟩), .int .u64 wi] μ) fun r μ' => ∃ v, r = .tuple #[.agg #[.bool false, .float .f64 0, .bool neg, v], .bool true] ∧ IsU μ' (rgL x n) v ∧ Grow μ μ' := by
  refine jac Tryz.func8 rfl rfl (nbl rfl) ?_
  simp only [go_sem, Tryz.ntmps8]
  repeat ((first | refine jaa rfl ?_ | refine jaj rfl ?_); (try simp only [go_sem, ← hμa, r1, e1, r2, r3, lW, jao, e3, hix, ldW, hc0, e2, bd1, hst1, hsl, lW2]); fail_if_success refine stk ?_)
  rw [(by omega : k + 991 = (k + 931 - m) + m + 60)]
  refine rzM (jkZ (B := μ2.next) (A := μ.next) (neg := neg) (y := yw x n) (μ0 := μ2) (fun k => yw_lt hx k) o2 (rzN _) (by omega) hcy (k + 931 - m) m 0 _ (.slice none 0 0) μ3 (rzT _) ⟨.nil _ _ _ _, G3, fun i h => by obtain ⟨l, c, h⟩ := h; cases h⟩ hH3 hB3 hn3 (fun h => by obtain ⟨l, c, h⟩ := h; cases h) (by simp only [go_sem]) (by simp only [go_sem]) (by simp only [go_sem]) (by simp only [go_sem]) (by simp only [go_sem]; try rfl)) ?_
  rintro x' r' μ4 ⟨rfl, tm', v, rfl, hO, hH4, hB4, hn4, hnB, _, y4, y10⟩
  have G4 : Grow μ μ4 := hG2.trans hO.grow
  have hA4 : Blk μ4 μ.next 4 27 := hBA.of_get (((G1.trans G2).trans hO.grow).2 _ hAn)
  have hAB : μ.next ≠ μ2.next := by omega
  have hO' : OwnK 73 1 none μ2 μ4 v (lmL (yw x n) m).length (uc (lmL (yw x n) m)) := by rw [hlen2]; exact hO
  have hU := jeX hO' (jjE (fun k => yw_lt hx k) m) (by rw [hlen2]; omega)
  have ovv : one v = true := by
   rcases hU.2.2 with ⟨h, _⟩ | ⟨i, o, c, h, _⟩ <;> rw [h] <;> rfl
  have lv := hU.len
  rw [hlen2] at lv
  obtain ⟨b0, b1⟩ := Has.c2 hH4
  have q1 : jak .i64 (Int.sub (.ofNat (2 * m)) 1) = .ofNat (2 * m - 1) := jaZ (2 * m) 1 (by omega) (by omega)
  simp only [go_sem]
  have hnA : ¬ SlAt v μ.next := fun h => by have := (hO.above _ h).1; omega
  obtain ⟨a, ha⟩ : ∃ a, (lmL (yw x n) m)[2 * m - 1]? = some a := ⟨_, rzK (by omega)⟩
  obtain ⟨_, bi, bo, bc, hv, _, hca⟩ := hU.at ha
  have hixa : ∀ rg x y, aev pZ rg x = v → aev pZ rg y = .int .i64 (.ofNat (2 * m - 1)) → jal pZ (aev pZ rg) 23 x y = some (.pointer (some ⟨bi, bo + (2 * m - 1), none⟩)) := fun rg x y g1 g2 => ix_U (by omega) (g1.trans hv) g2
  by_cases hodd : n % 2 = 1
  ·have hL : lmL (yw x n) m = rgL x n ++ [0] := by
    obtain ⟨j, rfl⟩ : ∃ j, n = 2 * j + 1 := ⟨n / 2, by omega⟩
    rw [(by omega : m = j + 1)]
    exact lm_odd hx
   have ha0 : a = 0 := by
    rw [hL, List.getElem?_append_right (by rw [jdw]; omega), jdw, (by omega : 2 * m - 1 - n = 0)] at ha
    exact (Option.some.inj ha).symm
   have e5 : ieq (.ofNat a) 0 = true := dT (jbo _ 0 0 rfl) ha0
   obtain ⟨w, hsw, ovw, hUw⟩ := hU.takeA (k := 2 * m - 1) (by omega)
   rw [hL, show 2 * m - 1 = (rgL x n).length from by rw [jdw]; omega, List.take_left] at hUw
   have hsw : ∀ r x y, aev pZ r x = v → aev pZ r y = .int .i64 (.ofNat (2 * m - 1)) → jaJ pZ (aev pZ r) 23 x none (some y) none = some w := fun r x y g1 g2 => hsw _ x y g1 g2
   have hst2 := jaW (t := 23) (v := w) (o := 1) i_Ls rfl ovw hB4 (by decide)
   have hH5 : Has (putL μ4 μ2.next 1 [w]) μ2.next 0 [.bool neg, w] := hH4.set (k := 1) hB4 (by show 1 < 2; decide)
   have hl5 := hH5.load Tryz.underlying25 jiE rfl
   have hA5 : Blk (putL μ4 μ2.next 1 [w]) μ.next 4 27 := hA4.put _ _
   have bd2 := fun (r : Rg) (a : Operand) (ha : aev pZ r a = .agg #[.bool neg, w]) => jgO (ρ := aev pZ r) ha
   have hst3 := st_N (a := .bool false) (b := .float .f64 0) (x := .bool neg) (y := w) hA5 rfl rfl rfl ovw
   have hO6 : OwnK 73 1 none μ (putL (putL μ4 μ2.next 1 [w]) μ.next 0 [.bool false, .float .f64 0, .bool neg, w]) v (lmL (yw x n) m).length (uc (lmL (yw x n) m)) :=
    OwnK.poke (OwnK.poke (hO'.from hG2) (q := μ2.next) (by omega) hnB (jaE _ _ _ _) (fun i hi => jaX _ _ _ _ hi)) (q := μ.next) (rzN _) hnA (jaE _ _ _ _) (fun i hi => jaX _ _ _ _ hi)
   have hU6 := jeX hO6 (jjE (fun k => yw_lt hx k) m) (by rw [hlen2]; omega)
   rw [hL] at hU6
   have hU7 := hUw _ hU6
   have G6 : Grow μ (putL (putL μ4 μ2.next 1 [w]) μ.next 0 [.bool false, .float .f64 0, .bool neg, w]) := (G4.put_new (by omega)).put_new (rzN _)
   repeat ((first | refine jaa rfl ?_ | refine jaj rfl ?_); (try simp only [go_sem, y4, y10, b1, lv, jao, q1, hixa, hca, e5, hsw, hst2, hl5, bd2, hst3]); fail_if_success refine stk ?_)
   refine jae ?_
   refine ⟨rfl, .tuple #[.agg #[.bool false, .float .f64 0, .bool neg, w], .bool true], ?_, w, rfl, hU7, G6⟩
   simp only [go_sem, Tryz.results8]
   rw [y4]
   rw [ld_N hA5]
  ·have hL : lmL (yw x n) m = rgL x n := by
    rw [lm_rg hx m (by omega), (by omega : 2 * m = n)]
   have ha0 : a ≠ 0 := by
    rw [hL, (by omega : 2 * m - 1 = n - 1)] at ha
    unfold rgL at ha
    rw [List.getElem?_map, List.getElem?_range (by omega)] at ha
    have : x (n - 1) = a := Option.some.inj ha
    rw [← this]
    exact h0
   have e5 : ieq (.ofNat a) 0 = false := dF (jbo _ 0 0 rfl) ha0
   have hl5 := hH4.load Tryz.underlying25 jiE rfl
   have bd2 := fun (r : Rg) (a : Operand) (ha : aev pZ r a = .agg #[.bool neg, v]) => jgO (ρ := aev pZ r) ha
   have hst3 := st_N (a := .bool false) (b := .float .f64 0) (x := .bool neg) (y := v) hA4 rfl rfl rfl ovv
   have hO6 : OwnK 73 1 none μ (putL μ4 μ.next 0 [.bool false, .float .f64 0, .bool neg, v]) v (lmL (yw x n) m).length (uc (lmL (yw x n) m)) :=
    OwnK.poke (hO'.from hG2) (q := μ.next) (rzN _) hnA (jaE _ _ _ _) (fun i hi => jaX _ _ _ _ hi)
   have hU6 := jeX hO6 (jjE (fun k => yw_lt hx k) m) (by rw [hlen2]; omega)
   rw [hL] at hU6
   have G6 : Grow μ (putL μ4 μ.next 0 [.bool false, .float .f64 0, .bool neg, v]) := G4.put_new (rzN _)
   repeat ((first | refine jaa rfl ?_ | refine jaj rfl ?_); (try simp only [go_sem, y4, y10, b1, lv, jao, q1, hixa, hca, e5, hl5, bd2, hst3]); fail_if_success refine stk ?_)
   refine jae ?_
   refine ⟨rfl, .tuple #[.agg #[.bool false, .float .f64 0, .bool neg, v], .bool true], ?_, v, rfl, hU6, G6⟩
   simp only [go_sem, Tryz.results8]
   rw [y4]
   rw [ld_N hA4]
 obtain ⟨r, μ', h1, v, rfl, h2⟩ := key
 exact ⟨v, μ', h1, h2⟩
end
noncomputable section
variable {X : XT}
theorem fne_nan {f : Nat} (h : 9218868437227405312 < f % 9223372036854775808) : fne f f = true := by
 unfold fne Ieee.Format.order
 rw [jdx (by omega), if_neg (by omega)]
 rfl
theorem jkH {f : Nat} (hf : f < 18446744073709551616) (hX : jcB X) {g : Nat} {μ : Mem} (hg : 20 ≤ g) : aFun pZ (jai pZ X S0 g) 23 [.float .f64 f] μ = some (.int .u64 (.ofNat (nb f)), μ) := by
 obtain ⟨k, rfl⟩ := gle hg
 have pn : ∀ (r : Rg) (d : Option Tmp) (t yt ty : TypeId) (x y : Operand) (ps : String) (af : Array Edge) (gd : Option (Nat × Bool)), aev pZ r x = .float .f64 f → aev pZ r y = .float .f64 f → jaC pZ (aev pZ r) ⟨d, .binOp .neq t x y yt, ty, ps, af, gd⟩ = some (.bool (fne f f)) := fun r d t yt ty x y ps af gd h1 h2 => jhu h1 h2
 rw [nb_eq hf]
 refine jau ?_
 by_cases h : 9218868437227405312 < f % 9223372036854775808
 ·rw [if_pos h]
  rw [fne_nan h] at pn
  refine jac Tryz.func23 rfl rfl (nbl rfl) ?_
  simp only [go_sem, Tryz.ntmps23]
  repeat ((first | refine jaa rfl ?_ | refine jaj rfl ?_); (try simp only [go_sem, pn]); fail_if_success refine stk ?_)
  exact jae ⟨rfl, .int .u64 9221120237041090561, by simp only [go_sem, Tryz.results23], rfl, rfl⟩
 ·rw [if_neg h]
  rw [jgI (by omega)] at pn
  have r1 : ∀ {ev} (m : Mem), aGo pZ X (jbs pZ ev S0) 19 [.float .f64 f] m = some (.int .u64 (.ofNat f), m) := fun m => (go_bits _ _).trans (hX f m)
  refine jac Tryz.func23 rfl rfl (nbl rfl) ?_
  simp only [go_sem, Tryz.ntmps23]
  repeat ((first | refine jaa rfl ?_ | refine jaj rfl ?_); (try simp only [go_sem, pn, r1]); fail_if_success refine stk ?_)
  exact jae ⟨rfl, .int .u64 (.ofNat f), by simp only [go_sem, Tryz.results23], rfl, rfl⟩
theorem nb_nb {f : Nat} (hf : f < 18446744073709551616) : nb (nb f) = nb f := by
 rw [nb_eq (nb_lt hf), nb_eq hf]
 split
 ·rw [if_pos (by decide)]
 ·rfl
theorem floT_nb {f : Nat} (hf : f < 18446744073709551616) : floT (nb f) = floT f := by
 rw [nb_eq hf]
 split
 ·rename_i h
  unfold floT
  rw [jgy h, jgy (f := 9221120237041090561) (by decide)]
  rw [if_pos (by decide), if_pos (by decide)]
 ·rfl
def lx (ls : List Nat) (t : Nat) : Nat := ls.getD t 0
theorem lx_lt {ls : List Nat} (h : ∀ x ∈ ls, x < 4294967296) (t : Nat) : lx ls t < 2 ^ 32 := by rw [p32]; exact jev h t
theorem rgL_lx (ls : List Nat) : rgL (lx ls) ls.length = ls := by
 refine List.ext_getElem (by rw [jdw]) fun i h1 h2 => ?_
 simp only [rgL, lx, List.getElem_map, List.getElem_range]
 rw [List.getD_eq_getElem?_getD, rzK h2]
 rfl
theorem own_1 (e : TypeId) (μ : Mem) (x : Value) : Own e μ ⟨μ.obs.set μ.next (.cells 1 e #[x] .e 0 0 false false), μ.next + 1⟩ (.slice (some ⟨μ.next, 0, none⟩) 1 2) [x] :=
 ⟨.inr ⟨μ.next, 1, #[x], .e, false, false, 2, rfl, by show T.get _ _ = _; rw [T.get_set, if_pos rfl], rzN _, fun k hk => ja3 [x] k hk, .inl ⟨rfl, rfl⟩⟩, jbc _ _, fun i hi => by
  obtain ⟨l, c, hv⟩ := hi
  injection hv with e1
  injection e1 with e2
  injection e2 with e3
  subst e3
  exact ⟨rzN _, rzQ _⟩⟩
theorem cv4W (n : Int) : jay pZ 73 33 (.int .u32 n) = some (.int .u64 (jak .u64 n)) := by
 simp only [jay, Tryz.underlying73, Tryz.underlying33]
set_option maxHeartbeats 16000000 in
theorem num_loop {ls : List Nat} {v P : Value} {s : Nat} {μ0 : Mem} (hU : IsU μ0 ls v) (hl : ls.length ≤ 64) :
  ∀ (e m j : Nat) (tm : T Value) (w : Value) (μ : Mem), j + m = ls.length → Own 33 μ0 μ w (wl .u64 (pf (lx ls) 2 32 s j) (nwH 2 j)) → jah tm 0 = P → jah tm 10 = w → jah tm 45 = v → jah tm 46 = .int .i64 (.ofNat ls.length) → jah tm 47 = .int .i64 (.ofNat j) →
   LpC X (e + m + 60) Tryz.f7 0 78 tm μ fun a r μ' => a = .exit 0 ∧ ∃ tm' w', r = ⟨78, tm', [], none⟩ ∧ Own 33 μ0 μ' w' (wl .u64 (pf (lx ls) 2 32 s ls.length) (nwH 2 ls.length)) ∧ jah tm' 0 = P ∧ jah tm' 10 = w' := by
 have hx := lx_lt hU.1
 intro e m
 induction m with
 | zero =>
   intro j tm w μ hj hO r0 r10 r45 r46 r47
   obtain rfl : j = ls.length := hj
   have e1 : ilt (.ofNat ls.length) (.ofNat ls.length) = false := dF (jap _ _) (Nat.lt_irrefl _)
   refine jam ?_
   repeat ((first | refine jaa rfl ?_ | refine jaj rfl ?_); (try simp only [go_sem, r46, r47, e1]); fail_if_success refine stk ?_)
   exact ⟨by trivial, _, w, rfl, hO, by simp only [go_sem, r0], by simp only [go_sem, r10]⟩
 | succ m ih =>
   intro j tm w μ hj hO r0 r10 r45 r46 r47
   have hlt : j < ls.length := by omega
   have e1 : ilt (.ofNat j) (.ofNat ls.length) = true := dT (jap _ _) hlt
   have q0 : jak .i64 (Int.add (.ofNat j) 1) = .ofNat (j + 1) := jaT j 1 (by omega)
   obtain ⟨ha, bi, bo, bc, hv, hbn, hc⟩ := hU.at (rzK hlt)
   obtain ⟨a, haj⟩ := exq (ls[j]'hlt)
   rw [← haj] at ha hc
   have hlx : lx ls j = a := by unfold lx; rw [List.getD_eq_getElem?_getD, rzK hlt, haj]; rfl
   have hc' : jad μ bi (bo + j) = some (.int .u32 (.ofNat a)) := by rw [← hc]; unfold jad; rw [hO.grow.2 bi hbn]
   have hix : ∀ rg x y, aev pZ rg x = v → aev pZ rg y = .int .i64 (.ofNat j) → jal pZ (aev pZ rg) 23 x y = some (.pointer (some ⟨bi, bo + j, none⟩)) := fun rg x y g1 g2 => ix_U hlt (g1.trans hv) g2
   have q1 : jak .u64 (.ofNat a) = .ofNat a := nw (by omega)
   obtain ⟨rj, hrj⟩ := exq (j % 2)
   obtain ⟨dj, hdj⟩ := exq (j / 2)
   have e2 : aDiv true .i64 .i64 (.ofNat j) 2 = some (.int .i64 (.ofNat rj)) := by rw [hrj]; rfl
   have hnw : nwH 2 (j + 1) = 2 + dj := by rw [hdj]; exact jgx 2 (by decide) j
   obtain ⟨d1, hd1⟩ : ∃ d, d = 1 + dj := ⟨_, rfl⟩
   obtain ⟨d2, hd2⟩ : ∃ d, d = 2 + dj := ⟨_, rfl⟩
   obtain ⟨sj, hsj⟩ := exq (rj * 32)
   obtain ⟨w0, hw0⟩ := exq (pw (lx ls) 2 32 j d1)
   obtain ⟨w1, hw1⟩ := exq (pw (lx ls) 2 32 (j + 1) d1)
   obtain ⟨ys, hys⟩ := exq (a * 2 ^ sj)
   have hor : w0 ||| ys = w1 := by rw [hw0, hw1, hys, hsj, hrj, hd1, hdj, ← hlx]; exact pw_or (lx ls) 2 32 (by decide) hx j
   have hsum : w1 = w0 + ys := by
    rw [hw0, hw1, hys, hsj, hrj, hd1, hdj, ← hlx]
    conv => lhs; unfold pw
    rw [if_pos rfl]
   have hb1 : w1 < 18446744073709551616 := by rw [hw1]; have := pw_lt (lx ls) 2 32 (by decide) hx (j + 1) d1; rw [show (2 : Nat) ^ (2 * 32) = 18446744073709551616 from rfl] at this; exact this
   have s1 : jak .i64 (Int.sub (.ofNat d2) 1) = .ofNat d1 := by rw [(by omega : d1 = d2 - 1)]; exact jaZ d2 1 (by omega) (by omega)
   have e4 : jak .i64 (Int.mul (.ofNat rj) 32) = .ofNat sj := by rw [hsj]; exact jc7 rj 32 (by omega)
   have e5 : jaH true .u64 (.ofNat a) (.ofNat sj) = some (.int .u64 (.ofNat ys)) := shl_u a sj ys (by omega) hys (by omega)
   have e6 : jbm Nat.lor .u64 .u64 (.ofNat w0) (.ofNat ys) = some (.int .u64 (.ofNat w1)) := jkC w0 ys w1 hor.symm (by omega) (by omega)
   have hlen : (wl .u64 (pf (lx ls) 2 32 s j) (nwH 2 j)).length < 2000000 := by rw [jbv]; have := nw_le 2 (by decide) j; omega
   obtain ⟨ai, hai⟩ := exq (.ofNat a : Int)
   obtain ⟨si, hsi⟩ := exq (.ofNat sj : Int)
   rw [← hai] at hc' q1 e5
   rw [← hsi] at e4 e5
   have fin : ∀ (w7 : Value) (μ7 : Mem) (tm7 : T Value), Own 33 μ0 μ7 w7 (wl .u64 (pf (lx ls) 2 32 s j) d2) → ∃ b7 c7, w7 = .slice (some ⟨b7, 0, none⟩) d2 c7 ∧ b7 < μ7.next ∧
     (∀ y, jad ⟨μ7.obs, y⟩ b7 d1 = some (.int .u64 (.ofNat w0))) ∧ (∃ M7, Blk ⟨μ7.obs, μ7.next + 15⟩ b7 M7 33 ∧ d1 < M7) ∧ Own 33 μ0 (putL ⟨μ7.obs, μ7.next + 15⟩ b7 d1 [.int .u64 (.ofNat w1)]) w7 (wl .u64 (pf (lx ls) 2 32 s (j + 1)) d2) := fun w7 μ7 tm7 hO7 => by
    obtain ⟨b7, c7, hv7, hb7⟩ : ∃ b7 c7, w7 = .slice (some ⟨b7, 0, none⟩) d2 c7 ∧ b7 < μ7.next := by
     obtain ⟨a7, c7, h7, ha7⟩ := jjJ hO7.good
     rw [jbv] at h7 ha7
     obtain ⟨b7, rfl⟩ := ha7 (by omega)
     exact ⟨b7, c7, h7, (hO7.above b7 ⟨_, _, h7⟩).2⟩
    subst hv7
    have hO8 := hO7.keep (jcu μ7 15)
    obtain ⟨M7, hB7, hM7⟩ := hO8.blk
    rw [jbv] at hM7
    have hO9 := hO8.set (g := pf (lx ls) 2 32 s (j + 1)) (i := d1) (by omega) (fun k hk hne => by
     unfold pf
     by_cases hk0 : k = 0
     ·rw [if_pos hk0, if_pos hk0]
     ·rw [if_neg hk0, if_neg hk0]
      show (if k = 1 + j / 2 then _ else _) = _
      rw [if_neg (by omega)])
    rw [show pf (lx ls) 2 32 s (j + 1) d1 = w1 from by unfold pf; rw [if_neg (by omega), hw1]] at hO9
    refine ⟨b7, c7, rfl, hb7, fun y => ?_, ⟨M7, hB7, by omega⟩, hO9⟩
    have := GoodSl.cell hO7.good rfl (show d1 < d2 by omega)
    rw [show pf (lx ls) 2 32 s j d1 = w0 from by unfold pf; rw [if_neg (by omega), hw0]] at this
    exact this
   by_cases hr0 : rj = 0
   ·have e3 : ieq (.ofNat rj) 0 = true := dT (jbo _ 0 0 rfl) hr0
    obtain ⟨w7, μ7, hap, hO7⟩ := hO.push (st := 69) (x := .int .u64 (.ofNat 0)) Tryz.underlying69 iW rfl rfl zW rfl hlen rfl
    have hap : jaM pZ ⟨μ.obs.set μ.next (.cells 1 33 #[.int .u64 0] .e 0 0 false false), μ.next + 1⟩ 69 69 w (.slice (some ⟨μ.next, 0, none⟩) 1 2) = some (w7, μ7) := hap
    have hO7 : Own 33 μ0 μ7 w7 (wl .u64 (pf (lx ls) 2 32 s j) d2) := by
     have h1 : nwH 2 j = d1 := by rw [nw_zero 2 (by decide) j (by omega)]; omega
     rw [h1, show Value.int .u64 (.ofNat 0) = .int .u64 (.ofNat (pf (lx ls) 2 32 s j d1)) from by
      unfold pf
      rw [if_neg (by omega), ← hw0]
      have hz := (jd2 (lx ls) 2 32 (by decide) hx j).1
      rw [show j % 2 = 0 from by omega, Nat.zero_mul] at hz
      have : w0 < 1 := by rw [hw0, hd1, hdj]; exact hz
      rw [(by omega : w0 = 0)], ← wl_succ, (by omega : d1 + 1 = d2)] at hO7
     exact hO7
    obtain ⟨b7, c7, hv7, hb7, hc7, ⟨M7, hB7, hM7⟩, hO9⟩ := fin w7 μ7 .e hO7
    have hia7 : ∀ rg x y, aev pZ rg x = w7 → aev pZ rg y = .int .i64 (.ofNat d1) → jal pZ (aev pZ rg) 69 x y = some (.pointer (some ⟨b7, d1, none⟩)) := fun rg x y g1 g2 => by
     rw [jaF (P := pZ) Tryz.underlying69 iW rfl (g1.trans hv7) g2 (by omega), rzT]
    have lW7 : aLen pZ 69 w7 = some d2 := by
     rw [hv7]
     unfold aLen
     simp only [Tryz.underlying69]
    have hst := jaW (t := 33) (v := .int .u64 (.ofNat w1)) iW rfl rfl hB7 hM7
    refine jam ?_
    repeat ((first | refine jaa rfl ?_ | refine jaj rfl ?_); (try simp only [go_sem, r10, r45, r46, r47, e1, hix, hc', e2, e3, bsW0, hap]); fail_if_success refine stk ?_)
    have zz := (⟨@r10, @r47, @lW7, @jao, @s1, @hia7, @ldW, @hc7, @cv4W, @q1, @e2, @e4, @e5, @e6, @hst⟩ : _ ∧ _ ∧ _ ∧ _ ∧ _ ∧ _ ∧ _ ∧ _ ∧ _ ∧ _ ∧ _ ∧ _ ∧ _ ∧ _ ∧ _)
    refine jaY (n := 15) (ms := [0, 0, 2, 6, 15, 31, 0, 64, 0, 256, 768, 1984, 4095, 8191, 16383]) (ord := [0, 1, 2, 3, 4, 5, 6, 7, 8, 9, 10, 11, 12, 13, 14]) (ds := ?_) ?_ ?_ ?_ ?_ ?_ ?_
    rotate_left
    ·kernel_rfl
    ·kernel_rfl
    ·kernel_rfl
    ·rfl
    ·rfl
    repeat (first | (refine ja0 ?_ rfl ?_; (solve | simp only [go_sem, zz])) | (refine ja5 (v := ?_) (μ' := ?_) (sn' := ?_) ?_ ?_ rfl ?_; rotate_left 3; (solve | rfl | simp only [go_sem, zz]); (solve | simp only [jaV, heavy, jbg, jaQ, go_sem, zz]; try exact rfl)))
    clear zz
    simp only [dRun, jaK, jag]
    repeat ((first | refine jaa rfl ?_ | refine jaj rfl ?_); (try simp only [go_sem, r47, q0]); fail_if_success refine stk ?_)
    rw [(by omega : e + (m + 1) + 59 = e + m + 60)]
    refine ih (j + 1) _ w7 _ (by omega) (hnw ▸ hd2 ▸ hO9) ?_ ?_ ?_ ?_ ?_ <;> simp only [go_sem, r0, r10, r45, r46]
   ·have e3 : ieq (.ofNat rj) 0 = false := dF (jbo _ 0 0 rfl) hr0
    have hO7 : Own 33 μ0 μ w (wl .u64 (pf (lx ls) 2 32 s j) d2) := by
     have h1 : nwH 2 (j + 1) = nwH 2 j := if_neg (by omega)
     rw [← h1, hnw, ← hd2] at hO
     exact hO
    obtain ⟨b7, c7, hv7, hb7, hc7, ⟨M7, hB7, hM7⟩, hO9⟩ := fin w μ .e hO7
    have hia7 : ∀ rg x y, aev pZ rg x = w → aev pZ rg y = .int .i64 (.ofNat d1) → jal pZ (aev pZ rg) 69 x y = some (.pointer (some ⟨b7, d1, none⟩)) := fun rg x y g1 g2 => by
     rw [jaF (P := pZ) Tryz.underlying69 iW rfl (g1.trans hv7) g2 (by omega), rzT]
    have lW7 : aLen pZ 69 w = some d2 := by
     rw [hv7]
     unfold aLen
     simp only [Tryz.underlying69]
    have hst := jaW (t := 33) (v := .int .u64 (.ofNat w1)) iW rfl rfl hB7 hM7
    refine jam ?_
    repeat ((first | refine jaa rfl ?_ | refine jaj rfl ?_); (try simp only [go_sem, r10, r45, r46, r47, e1, hix, hc', e2, e3, bsW0]); fail_if_success refine stk ?_)
    have zz := (⟨@r10, @r47, @lW7, @jao, @s1, @hia7, @ldW, @hc7, @cv4W, @q1, @e2, @e4, @e5, @e6, @hst⟩ : _ ∧ _ ∧ _ ∧ _ ∧ _ ∧ _ ∧ _ ∧ _ ∧ _ ∧ _ ∧ _ ∧ _ ∧ _ ∧ _ ∧ _)
    refine jaY (n := 15) (ms := [0, 0, 2, 6, 15, 31, 0, 64, 0, 256, 768, 1984, 4095, 8191, 16383]) (ord := [0, 1, 2, 3, 4, 5, 6, 7, 8, 9, 10, 11, 12, 13, 14]) (ds := ?_) ?_ ?_ ?_ ?_ ?_ ?_
    rotate_left
    ·kernel_rfl
    ·kernel_rfl
    ·kernel_rfl
    ·rfl
    ·rfl
    repeat (first | (refine ja0 ?_ rfl ?_; (solve | simp only [go_sem, zz])) | (refine ja5 (v := ?_) (μ' := ?_) (sn' := ?_) ?_ ?_ rfl ?_; rotate_left 3; (solve | rfl | simp only [go_sem, zz]); (solve | simp only [jaV, heavy, jbg, jaQ, go_sem, zz]; try exact rfl)))
    clear zz
    simp only [dRun, jaK, jag]
    repeat ((first | refine jaa rfl ?_ | refine jaj rfl ?_); (try simp only [go_sem, r47, q0]); fail_if_success refine stk ?_)
    rw [(by omega : e + (m + 1) + 59 = e + m + 60)]
    refine ih (j + 1) _ w _ (by omega) (hnw ▸ hd2 ▸ hO9) ?_ ?_ ?_ ?_ ?_ <;> simp only [go_sem, r0, r10, r45, r46]
end
noncomputable section
variable {X : XT}
structure NumR (X : XT) (μ : Mem) (sp hp w : Nat) (κ : Int) (fl : Bool) (f : Nat) (neg : Bool) (ls : List Nat) : Prop where
 kd : KD X μ hp w κ
 k0 : κ ≠ 0
 k1 : κ ≠ 1
 k18 : κ ≠ 18
 sm : fl = false → ls.length ≤ 1 → κ = -1
 sp0 : jad μ sp 0 = some (.pointer (some ⟨hp, 0, none⟩))
 spn : sp < μ.next
 an : ∀ (g : Nat) (μ2 : Mem), 6200 ≤ g → Grow μ μ2 → ∃ v μ3, aFun pZ (jai pZ X S0 g) 8 [.pointer (some ⟨sp, 0, none⟩), .int .u64 (.ofNat w)] μ2 = some (.tuple #[.agg #[.bool fl, .float .f64 f, .bool neg, v], .bool true], μ3) ∧ IsU μ3 ls v ∧ Grow μ2 μ3
theorem jkD {μ0 μ μ' : Mem} {ap wb lb : Nat} (h : Keeps μ μ' ap wb lb) (g : Grow μ0 μ) (h1 : μ0.next ≤ ap) (h2 : μ0.next ≤ wb) (h3 : μ0.next ≤ lb) : Grow μ0 μ' :=
 ⟨rzS g.1 h.1, fun i hi => (h.2 i (rzO hi g.1) (by omega) (by omega) (by omega)).trans (g.2 i hi)⟩
theorem num_float {sp hp ap wb lb f : Nat} {ws : Nat → Nat} {v : Value} {μ : Mem} (hX : jcB X) (hX2 : jbC X) (hf : f < 18446744073709551616) (h : SP μ sp hp ap wb lb 256 16 ws P0) {g : Nat} (hg : 6300 ≤ g) :
  ∃ w κ μ', aFun pZ (jai pZ X S0 g) 7 [.pointer (some ⟨sp, 0, none⟩), .agg #[.bool true, .float .f64 f, .bool false, v]] μ = some (.tuple #[.int .u64 (.ofNat w), .bool true], μ') ∧ NumR X μ' sp hp w κ true (nb f) false [] ∧ Keeps μ μ' ap wb lb := by
 obtain ⟨k, rfl⟩ := gle hg
 have h1 := jdP μ 27 [.bool true, .float .f64 f, .bool false, v]
 have hG := jbc μ (obL 27 [.bool true, .float .f64 f, .bool false, v])
 obtain ⟨c0, c1, c2, c3⟩ := Has.c4 h1
 obtain ⟨μ1, hμ1⟩ := exq (⟨μ.obs.set μ.next (obL 27 [.bool true, .float .f64 f, .bool false, v]), μ.next + 1⟩ : Mem)
 rw [← hμ1] at hG c0 c1 c2 c3
 have n1 : μ1.next = μ.next + 1 := by rw [hμ1]
 have r1 := jkH (X := X) (g := k + 6294) (μ := μ1) hf hX (by omega)
 have hO := own_1 33 μ1 (.int .u64 (.ofNat (nb f)))
 obtain ⟨μ2, hμ2⟩ := exq (⟨μ1.obs.set μ1.next (.cells 1 33 #[.int .u64 (.ofNat (nb f))] .e 0 0 false false), μ1.next + 1⟩ : Mem)
 rw [← hμ2] at hO
 have hS2 := h.grow (hG.trans hO.grow)
 have hlt : μ1.next < μ2.next := by rw [hμ2]; exact rzQ _
 have a1 := h.hs.ab.n1
 have a2 := h.hs.ab.n2
 have a3 := h.hs.ab.n3
 obtain ⟨p', hal⟩ := al_one (X := X) (n := 2) (by decide) (by decide)
 obtain ⟨v3, μ3, r2, rfl, hS3, hK⟩ := raw_al (X := X) (g := k + 6294) (c := 2) (kd := 16) (n := 1) (q := 0) (li := μ1.next) (f := fun _ => nb f) (by omega) hS2 (fun k hk => by
  have := Has.cell (μ := μ2) (i := μ1.next) (o := 0) (l := [.int .u64 (.ofNat (nb f))]) (by rw [hμ2]; exact jdP μ1 33 [.int .u64 (.ofNat (nb f))]) k hk
  rw [rzT] at this
  rw [this]
  obtain rfl : k = 0 := by omega
  rfl) hlt (by omega) (by omega) (by omega) (by decide) (by decide) (by decide) hal
 have r2 : aFun pZ (jai pZ X S0 (k + 6294)) 22 [.pointer (some ⟨sp, 0, none⟩), .int .i64 16, .slice (some ⟨μ1.next, 0, none⟩) 1 2] μ2 = some (.tuple #[.int .u64 (.ofNat (jaI 0)), .bool true], μ3) := r2
 have hKa : Keeps μ μ3 ap wb lb := (Keeps.grow (hG.trans hO.grow)).trans hK
 refine ⟨jaI 0, 16, μ3, ?_, ⟨kd_obj hS3 (by decide) (jeY _ _ _ _ _) (by decide) (by decide) (by decide), by decide, by decide, by decide, fun h => (by cases h), hS3.sp0, hS3.spn, fun g2 μ4 hg2 hG4 => ?_⟩, hKa⟩
 ·obtain ⟨bi, hbi⟩ := exq (.ofNat (nb f) : Int)
  obtain ⟨wi, hwi⟩ := exq (.ofNat (jaI 0) : Int)
  rw [← hwi] at r2 ⊢
  rw [← hbi] at r1 hμ2
  have bs := fun (r : Rg) (x : Operand) (hx : aev pZ r x = .int .u64 bi) => (bsW (aev pZ r) x (by rw [hx]; rfl)).trans (by rw [hx])
  refine (?_ : EndsF _ fun r μ' => r = _ ∧ μ' = μ3) |> jau
  refine jac Tryz.func7 rfl rfl (nbl rfl) ?_
  simp only [go_sem, Tryz.ntmps7]
  repeat ((first | refine jaa rfl ?_ | refine jaj rfl ?_); (try simp only [go_sem, jbW, ← hμ1, c0, c1, r1, bs, ← hμ2, r2]); fail_if_success refine stk ?_)
  exact jae ⟨rfl, .tuple #[.int .u64 wi, .bool true], by simp only [go_sem, Tryz.results7], rfl, rfl⟩
 ·obtain ⟨μ5, r3, hG5⟩ := jiX (X := X) hX2 (hS3.grow hG4) (q := 0) (by decide) (jeY _ _ _ _ _) (obj_in ws 0 16 1 (fun _ => nb f) 0 (by decide)) (nb_lt hf) (g := g2) (by omega)
  exact ⟨_, μ5, r3, ⟨(by intro x h; cases h), rzY _, .inl ⟨rfl, rfl⟩⟩, hG5⟩
end
noncomputable section
variable {X : XT}
theorem jek {ls : List Nat} (h : ja6 ls = ls) : jdT ls := by rw [← h]; exact jcD ls
theorem jhE {ls : List Nat} (hx : ∀ x ∈ ls, x < 4294967296) (h : ja6 ls = ls) (h0 : lval ls = 0) : ls = [] :=
 je0 hx (fun x hx => by cases hx) (jek h) (fun x hx => by cases hx) h0
theorem jke {neg : Bool} {ls : List Nat} {k : Int} (hx : ∀ x ∈ ls, x < 4294967296) (ht : ja6 ls = ls) (hn : neg = true → ls ≠ []) (h : jdh neg ls = some k) (hk : jcq k = true) : ja6 (two k.natAbs) = ls ∧ decide (k < 0) = neg := by
 unfold jdh at h
 unfold jcq at hk
 rw [Bool.and_eq_true, decide_eq_true_eq, decide_eq_true_eq] at hk
 by_cases h2 : ls.length ≤ 2
 ·rw [if_pos h2] at h
  have hpos : neg = true → 0 < lval ls := fun hh => Nat.pos_of_ne_zero fun h0 => hn hh (jhE hx ht h0)
  have key : k.natAbs = lval ls ∧ decide (k < 0) = neg := by
   cases neg with
   | true =>
     rw [if_pos rfl] at h
     have := hpos rfl
     split at h
     ·have h := Option.some.inj h
      exact ⟨by omega, rzU (by omega)⟩
     ·cases h
   | false =>
     rw [if_neg (by decide)] at h
     split at h
     ·have h : (lval ls : Int) = k := Option.some.inj h
      exact ⟨by omega, rzV (by omega)⟩
     ·cases h
  refine ⟨?_, key.2⟩
  refine je0 (fun x hx => two_lt (by omega) x (jeT hx)) hx (jcD _) (jek ht) ?_
  rw [jct, two_val, key.1]
 ·rw [if_neg h2] at h
  cases h
theorem big_two {neg : Bool} {ls : List Nat} (hx : ∀ x ∈ ls, x < 4294967296) (h : ∀ k, jdh neg ls = some k → jcq k = false) : 2 ≤ ls.length := by
 rcases Nat.lt_or_ge ls.length 2 with h1 | h1
 ·exfalso
  have hv : lval ls < 4294967296 := by
   have := jev hx 0
   rw [jgA (by omega), show ls.getD 1 0 = 0 from by rw [List.getD_eq_getElem?_getD, List.getElem?_eq_none (by omega)]; rfl]
   omega
  unfold jdh at h
  rw [if_pos (by omega)] at h
  cases neg with
  | true =>
    have := h (-(lval ls : Int)) (by rw [if_pos rfl, if_pos (by omega)])
    unfold jcq at this
    rw [rzU (by omega), rzU (by omega)] at this
    cases this
  | false =>
    have := h (.ofNat (lval ls)) (by rw [if_neg (by decide), if_pos (by omega)])
    unfold jcq at this
    have e : (Int.ofNat (lval ls) : Int) = (lval ls : Int) := rfl
    rw [e, rzU (by omega), rzU (by omega)] at this
    cases this
 ·exact h1
theorem num_small {sp hp ap wb lb : Nat} {neg : Bool} {ls : List Nat} {kk : Int} {ws : Nat → Nat} {v : Value} {μ : Mem} (hU : IsU μ ls v) (hl : ls.length ≤ 64) (ht : ja6 ls = ls) (hn : neg = true → ls ≠ []) (hk : jdh neg ls = some kk) (hs : jcq kk = true) (h : SP μ sp hp ap wb lb 256 16 ws P0) {g : Nat} (hg : 6300 ≤ g) :
  ∃ w κ μ', aFun pZ (jai pZ X S0 g) 7 [.pointer (some ⟨sp, 0, none⟩), .agg #[.bool false, .float .f64 0, .bool neg, v]] μ = some (.tuple #[.int .u64 (.ofNat w), .bool true], μ') ∧ NumR X μ' sp hp w κ false 0 neg ls ∧ Keeps μ μ' ap wb lb := by
 obtain ⟨k, rfl⟩ := gle hg
 have h1 := jdP μ 27 [.bool false, .float .f64 0, .bool neg, v]
 have hG := jbc μ (obL 27 [.bool false, .float .f64 0, .bool neg, v])
 obtain ⟨c0, c1, c2, c3⟩ := Has.c4 h1
 have lI := jiG h1
 obtain ⟨μ1, hμ1⟩ := exq (⟨μ.obs.set μ.next (obL 27 [.bool false, .float .f64 0, .bool neg, v]), μ.next + 1⟩ : Mem)
 rw [← hμ1] at hG c0 c1 c2 c3 lI
 obtain ⟨μ2, r1, G1⟩ := jd6 (X := X) (g := k + 6295) (neg := neg) (hU.grow hG) ht hl (by omega)
 rw [hk] at r1
 have r1 : aFun pZ (jai pZ X S0 (k + 6295)) 24 [.agg #[.bool neg, v]] μ1 = some (.tuple #[.int .i64 kk, .bool true], μ2) := r1
 have r2 := jeG (X := X) (n := kk) (g := k + 6292) (μ := μ2) (by omega)
 rw [if_pos hs] at r2
 have hGa := hG.trans G1
 have hS2 := h.grow hGa
 obtain ⟨e1, e2⟩ := jke hU.1 ht hn hk hs
 refine ⟨smW kk, -1, μ2, ?_, ⟨kd_no (jjk kk) (by rw [smW_8]; decide), by decide, by decide, by decide, fun _ _ => rfl, hS2.sp0, hS2.spn, fun g2 μ4 hg2 hG4 => ?_⟩, Keeps.grow hGa⟩
 ·obtain ⟨wi, hwi⟩ := exq (.ofNat (smW kk) : Int)
  rw [← hwi] at r2 ⊢
  refine jau (?_ : EndsF _ fun r μ' => r = _ ∧ μ' = μ2)
  refine jac Tryz.func7 rfl rfl (nbl rfl) ?_
  simp only [go_sem, Tryz.ntmps7]
  repeat ((first | refine jaa rfl ?_ | refine jaj rfl ?_); (try simp only [go_sem, jbW, ← hμ1, c0, lI, r1, r2]); fail_if_success refine stk ?_)
  exact jae ⟨rfl, .tuple #[.int .u64 wi, .bool true], by simp only [go_sem, Tryz.results7], rfl, rfl⟩
 ·obtain ⟨v', μ5, r3, hL, hG5⟩ := jiW (X := X) hs (s := .pointer (some ⟨sp, 0, none⟩)) (g := g2) (μ := μ4) hg2
  rw [e1] at hL
  rw [e2] at r3
  exact ⟨v', μ5, r3, hL.isU hU.2.1, hG5⟩
set_option maxHeartbeats 16000000 in
theorem num_big {sp hp ap wb lb : Nat} {neg : Bool} {ls : List Nat} {ws : Nat → Nat} {v : Value} {μ : Mem} (hU : IsU μ ls v) (hl : ls.length ≤ 64) (ht : ja6 ls = ls) (hk : ∀ kk, jdh neg ls = some kk → jcq kk = false) (h : SP μ sp hp ap wb lb 256 16 ws P0) {g : Nat} (hg : 6300 ≤ g) :
  ∃ w κ μ', aFun pZ (jai pZ X S0 g) 7 [.pointer (some ⟨sp, 0, none⟩), .agg #[.bool false, .float .f64 0, .bool neg, v]] μ = some (.tuple #[.int .u64 (.ofNat w), .bool true], μ') ∧ NumR X μ' sp hp w κ false 0 neg ls ∧ Keeps μ μ' ap wb lb := by
 obtain ⟨k, rfl⟩ := gle hg
 have h1 := jdP μ 27 [.bool false, .float .f64 0, .bool neg, v]
 have hG := jbc μ (obL 27 [.bool false, .float .f64 0, .bool neg, v])
 obtain ⟨μ1, hμ1⟩ := exq (⟨μ.obs.set μ.next (obL 27 [.bool false, .float .f64 0, .bool neg, v]), μ.next + 1⟩ : Mem)
 have lI := jiG h1
 have h1' := h1
 have rs : ∃ (k1 : Int) (t1 : Bool) (x2 : Int) (t2 : Bool), smallV (jdh neg ls) = .tuple #[.int .i64 k1, .bool t1] ∧ (∀ m, aFun pZ (jai pZ X S0 (k + 6292)) 25 [.int .i64 k1] m = some (.tuple #[.int .u64 x2, .bool t2], m)) ∧ (t1 = true → t2 = false) := by
  have r2 := fun (kk : Int) (m : Mem) => jeG (X := X) (n := kk) (g := k + 6292) (μ := m) (by omega)
  cases hsm : jdh neg ls with
  | none => exact ⟨0, false, _, true, rfl, fun m => r2 0 m, fun h => by cases h⟩
  | some kk =>
    refine ⟨kk, true, 0, false, rfl, fun m => ?_, fun _ => rfl⟩
    rw [r2, hk kk hsm]
    rfl
 obtain ⟨k1, t1, x2, t2, hsv, r2, ht2⟩ := rs
 obtain ⟨c0, _, _, _⟩ := Has.c4 h1
 rw [← hμ1] at hG c0 lI h1'
 have n1 : μ1.next = μ.next + 1 := by rw [hμ1]
 obtain ⟨μ2, r1, G1⟩ := jd6 (X := X) (g := k + 6295) (neg := neg) (hU.grow hG) ht hl (by omega)
 rw [hsv] at r1
 have hGa := hG.trans G1
 have h2 := h1'.keep (G1.2 μ.next (by omega))
 obtain ⟨_, _, d2, d3⟩ := Has.c4 h2
 have hlen2 := big_two hU.1 hk
 obtain ⟨μ3, hμ3⟩ := exq (⟨μ2.obs.set μ2.next (.cells 1 33 #[.int .u64 0] .e 0 0 false false), μ2.next + 1⟩ : Mem)
 have hO3 := own_1 33 μ2 (.int .u64 0)
 rw [← hμ3] at hO3
 have hB3 : Blk μ3 μ2.next 1 33 := by rw [hμ3]; exact ⟨_, _, _, _, by show T.get _ _ = _; rw [T.get_set, if_pos rfl]⟩
 have hst := jaW (t := 33) (v := .int .u64 1) (o := 0) iW rfl rfl hB3 (by decide)
 have hix : ∀ rg a, aev pZ rg a = .slice (some ⟨μ2.next, 0, none⟩) 1 2 → jal pZ (aev pZ rg) 69 a (.const (.int .i64 0)) = some (.pointer (some ⟨μ2.next, 0, none⟩)) := fun rg a g1 =>
  jaF (P := pZ) (y := .const (.int .i64 0)) (m := 0) (kd := .i64) Tryz.underlying69 iW rfl g1 rfl (by decide)
 obtain ⟨s, hs⟩ := exq (if neg then 1 else 0 : Nat)
 obtain ⟨μs, e4⟩ := eqx (putL μ3 μ2.next 0 [.int .u64 1] : Mem)
 rw [e4] at hst
 obtain ⟨μ4, hμ4⟩ := exq (if neg then μs else μ3 : Mem)
 have hO4 : Own 33 μ2 μ4 (.slice (some ⟨μ2.next, 0, none⟩) 1 2) (wl .u64 (pf (lx ls) 2 32 s 0) 1) := by
  cases neg with
  | true =>
    rw [if_pos rfl] at hμ4 hs
    have := hO3
    rw [show [Value.int .u64 0] = wl .u64 (fun _ => 0) 1 from rfl] at this
    have := this.set (g := fun _ => 1) (i := 0) (by decide) (fun j h1 h2 => by omega)
    rw [hμ4, hs, ← e4]
    exact this
  | false =>
    rw [if_neg (by decide)] at hμ4 hs
    rw [hμ4, hs]
    exact hO3
 have hU4 : IsU μ2 ls v := hU.grow hGa
 have lv := (hU4.grow hO4.grow).len
 have hH4 : Has μ4 μ.next 0 [.bool false, .float .f64 0, .bool neg, v] := h2.keep (hO4.grow.2 μ.next (by have := G1.1; omega))
 obtain ⟨_, _, f2, f3⟩ := Has.c4 hH4
 have h3 := h2.keep (hO3.grow.2 μ.next (by have := G1.1; omega))
 obtain ⟨_, _, b2, b3⟩ := Has.c4 h3
 have a1 := h.hs.ab.n1
 have a2 := h.hs.ab.n2
 have a3 := h.hs.ab.n3
 have hnw := nw_two ls.length
 obtain ⟨m, hm⟩ := exq (nwH 2 ls.length)
 obtain ⟨p', hal⟩ := al_one (X := X) (n := m + 1) (by omega) (by omega)
 have key : EndsF (aFun pZ (jai pZ X S0 (k + 6300)) 7 [.pointer (some ⟨sp, 0, none⟩), .agg #[.bool false, .float .f64 0, .bool neg, v]] μ) fun r μ' => r = .tuple #[.int .u64 (.ofNat (jaI 0)), .bool true] ∧ SP μ' sp hp ap wb lb 256 16 (obj ws 0 17 m (pf (lx ls) 2 32 s ls.length)) p' ∧ Keeps μ μ' ap wb lb := by
  cases neg <;> simp only [reduceIte, Bool.false_eq_true] at hμ4 <;> subst hμ4 <;> cases t1 <;> cases t2
  all_goals first | (cases ht2 rfl; done) | clear ht2
  all_goals
   refine jac Tryz.func7 rfl rfl (nbl rfl) ?_
   simp only [go_sem, Tryz.ntmps7]
   repeat ((first | refine jaa rfl ?_ | refine jaj rfl ?_); (try simp only [go_sem, jbW, ← hμ1, c0, lI, r1, r2, bsW0, ← hμ3, b2, b3, hix, hst, f3, lv, jao]); fail_if_success refine stk ?_)
   rw [(by omega : k + 6292 = (k + 6232 - ls.length) + ls.length + 60)]
   refine rzM (num_loop (P := .pointer (some ⟨sp, 0, none⟩)) (s := s) hU4 hl (k + 6232 - ls.length) ls.length 0 _ _ _ (rzT _) hO4 (by simp only [go_sem]) (by simp only [go_sem]) (by simp only [go_sem]) (by simp only [go_sem]) (by simp only [go_sem]; try rfl)) ?_
   rintro x' r' μ5 ⟨rfl, tm', w', rfl, hO5, y0, y10⟩
   obtain ⟨ad, c5, h5, ha5⟩ := jjJ hO5.good
   rw [jbv, ← hm] at h5 ha5
   obtain ⟨b5, rfl⟩ := ha5 (by omega)
   subst h5
   have hb5 := hO5.above b5 ⟨_, _, rfl⟩
   have g1' := G1.1
   have hG5 := hGa.trans hO5.grow
   obtain ⟨v6, μ6, r6, rfl, hS6, hK6⟩ := raw_al (X := X) (g := k + 6292) (c := c5) (kd := 17) (n := m) (q := 0) (li := b5) (f := pf (lx ls) 2 32 s ls.length) (by omega) (h.grow hG5) (fun j hj => by
    have h0 := hO5.good
    rw [← hm] at h0
    exact GoodSl.cell h0 rfl hj) hb5.2 (by omega) (by omega) (by omega) (by decide) (by omega) (by omega) hal
   have r6 : aFun pZ (jai pZ X S0 (k + 6292)) 22 [.pointer (some ⟨sp, 0, none⟩), .int .i64 17, .slice (some ⟨b5, 0, none⟩) m c5] μ5 = some (.tuple #[.int .u64 (.ofNat (jaI 0)), .bool true], μ6) := r6
   obtain ⟨wi, hwi⟩ := exq (.ofNat (jaI 0) : Int)
   rw [← hwi] at r6 ⊢
   simp only [go_sem]
   repeat ((first | refine jaa rfl ?_ | refine jaj rfl ?_); (try simp only [go_sem, y0, y10, r6]); fail_if_success refine stk ?_)
   exact jae ⟨rfl, .tuple #[.int .u64 wi, .bool true], by simp only [go_sem, Tryz.results7], rfl, hS6, (Keeps.grow hG5).trans hK6⟩
 obtain ⟨v7, μ7, r7, rfl, hS7, hK7⟩ := key
 refine ⟨jaI 0, 17, μ7, r7, ⟨kd_obj hS7 (by decide) (jeY _ _ _ _ _) (by decide) (by decide) (by omega), by decide, by decide, by decide, fun _ h1 => by omega, hS7.sp0, hS7.spn, fun g2 μ8 hg2 hG8 => ?_⟩, hK7⟩
 have hlast : lx ls (ls.length - 1) ≠ 0 := by
  have ht2 := jek ht (lx ls (ls.length - 1))
  refine ht2 ?_
  unfold lx
  rw [List.getLast?_eq_getElem?, List.getD_eq_getElem?_getD, rzK (by omega)]
  rfl
 obtain ⟨v', μ9, r9, hU9, hG9⟩ := asNum_big (X := X) (neg := neg) (s := s) (n := ls.length) (x := lx ls) (hS7.grow hG8) (q := 0) (by omega) (by rw [← hm]; exact jeY _ _ _ _ _) (fun j hj => by rw [hm]; exact obj_in ws 0 17 _ _ j hj) (by omega) hl (lx_lt hU.1) hlast hs (g := g2) (by omega)
 rw [rgL_lx] at hU9
 exact ⟨v', μ9, r9, hU9, hG9⟩
end
noncomputable section
@[go_sem] def gg105 {X ev} := gC X ev Tryz.func105 rfl rfl
@[go_sem] def gg67 {X ev} := gC X ev Tryz.func67 rfl rfl
@[go_sem] def gg33 {X ev} := gC X ev Tryz.func33 rfl rfl
@[go_sem] def gg66 {X ev} := gC X ev Tryz.func66 rfl rfl
@[go_sem] def gg70 {X ev} := gC X ev Tryz.func70 rfl rfl
@[go_sem] def gg32 {X ev} := gC X ev Tryz.func32 rfl rfl
@[go_sem] def gg9 {X ev} := gC X ev Tryz.func9 rfl rfl
variable {X : XT}
theorem kB1 : pZ.info? 81 = some Tryz.t81 := by kernel_rfl
theorem kB2 : pZ.info? 83 = some Tryz.t83 := by kernel_rfl
theorem kB3 : pZ.info? 54 = some Tryz.t54 := by kernel_rfl
theorem kSp : pZ.info? 30 = some Tryz.t30 := by kernel_rfl
theorem faX0 (ρ : Operand → Value) (x : Operand) : jaL pZ ρ 85 x 0 = (match ρ x with | .pointer (some a) => some (.pointer (some (a.add 0))) | _ => none) := jax (ft := 30) (off := 0) Tryz.underlying85 rfl kSp rfl ρ x
theorem faX2 (ρ : Operand → Value) (x : Operand) : jaL pZ ρ 85 x 2 = (match ρ x with | .pointer (some a) => some (.pointer (some (a.add 2))) | _ => none) := jax (ft := 3) (off := 2) Tryz.underlying85 rfl i3 rfl ρ x
theorem faX3 (ρ : Operand → Value) (x : Operand) : jaL pZ ρ 85 x 3 = (match ρ x with | .pointer (some a) => some (.pointer (some (a.add 3))) | _ => none) := jax (ft := 83) (off := 3) Tryz.underlying85 rfl kB2 rfl ρ x
theorem faB0 (ρ : Operand → Value) (x : Operand) : jaL pZ ρ 83 x 0 = (match ρ x with | .pointer (some a) => some (.pointer (some (a.add 0))) | _ => none) := jax (ft := 81) (off := 0) Tryz.underlying83 rfl kB1 rfl ρ x
theorem faB1 (ρ : Operand → Value) (x : Operand) : jaL pZ ρ 83 x 1 = (match ρ x with | .pointer (some a) => some (.pointer (some (a.add 1))) | _ => none) := jax (ft := 54) (off := 1) Tryz.underlying83 rfl kB3 rfl ρ x
theorem ldBp (μ : Mem) (i o : Nat) : jbZ pZ μ 81 (.pointer (some ⟨i, o, none⟩)) = jad μ i o := jbx Tryz.underlying81 rfl μ i o
theorem ldBs (μ : Mem) (i o : Nat) : jbZ pZ μ 54 (.pointer (some ⟨i, o, none⟩)) = jad μ i o := jbx Tryz.underlying54 rfl μ i o
theorem ldSpp (μ : Mem) (i o : Nat) : jbZ pZ μ 30 (.pointer (some ⟨i, o, none⟩)) = jad μ i o := jbx Tryz.underlying30 rfl μ i o
def Esc (X : XT) : Prop := ∀ (v : Value) (μ : Mem), X 140 [v] μ = some (v, μ)
theorem goEsc (hX : Esc X) {cf : XT} (v : Value) (μ : Mem) : aGo pZ X cf 140 [v] μ = some (v, μ) := by
 unfold aGo
 rw [Tryz.func140]
 exact hX v μ
theorem cp_plain {ρ : Operand → Value} {d : Option Tmp} {ty : TypeId} {y : Operand} {ps : String} {af : Array Edge} {gd : Option (Nat × Bool)} (a : Addr) (h : ρ y = .pointer (some a)) : jaC pZ ρ ⟨d, .convert 81 207 y, ty, ps, af, gd⟩ = none := by
 unfold jaC
 simp only [opsOf, jbn, h, execOp]
 kernel_rfl
theorem cq_plain {ρ : Operand → Value} {d : Option Tmp} {ty : TypeId} {y : Operand} {ps : String} {af : Array Edge} {gd : Option (Nat × Bool)} (a : Addr) (h : ρ y = .pointer (some a)) : jaC pZ ρ ⟨d, .convert 207 81 y, ty, ps, af, gd⟩ = none := by
 unfold jaC
 simp only [opsOf, jbn, h, execOp]
 kernel_rfl
theorem cp_int (a : Addr) : jay pZ 81 207 (.pointer (some a)) = none := by kernel_rfl
theorem cq_int (a : Addr) : jay pZ 207 81 (.pointer (some a)) = none := by kernel_rfl
def BdB (μ : Mem) (xi : Nat) : Prop := ∃ z ov sh, μ.obs.get xi = some (.cells 5 85 z ov 0 0 false sh)
theorem BdB.blk {μ : Mem} {xi : Nat} (h : BdB μ xi) : Blk μ xi 5 85 := by
 obtain ⟨z, ov, sh, h⟩ := h
 exact ⟨z, ov, false, sh, h⟩
theorem BdB.put {μ : Mem} {xi o : Nat} {vs : List Value} (h : BdB μ xi) : BdB (putL μ xi o vs) xi := by
 obtain ⟨z, ov, sh, h⟩ := h
 exact ⟨z, ov.lay o vs, sh, jdK h⟩
theorem BdB.keep {μ μ' : Mem} {xi : Nat} (h : BdB μ xi) (e : μ'.obs.get xi = μ.obs.get xi) : BdB μ' xi := by
 unfold BdB
 rw [e]
 exact h
theorem cp_uns {μ : Mem} {xi : Nat} (h : BdB μ xi) : jcN pZ μ 81 207 (.pointer (some ⟨xi, 3, none⟩)) = some (.pointer (some ⟨xi, 3, none⟩)) := by
 obtain ⟨z, ov, sh, h⟩ := h
 unfold jcN
 simp only [h, Tryz.underlying81, Tryz.underlying207, kB2]
 rfl
theorem cq_uns {μ : Mem} {xi : Nat} (h : BdB μ xi) : jcN pZ μ 207 81 (.pointer (some ⟨xi, 3, none⟩)) = some (.pointer (some ⟨xi, 3, none⟩)) := by
 obtain ⟨z, ov, sh, h⟩ := h
 have e : liesAt pZ pZ.depth 85 (Nat.div 5 (pZ.cellsOf 85)) 3 83 1 = true := by kernel_rfl
 unfold jcN
 simp only [h, Tryz.underlying81, Tryz.underlying207, kB2, e]
 rfl
def shL (sp left : Nat) (ad buf : Value) : List Value := [.pointer (some ⟨sp, 0, none⟩), .bool true, .int .i64 (.ofNat left), ad, buf]
theorem pt_nil {r : Rg} {x : Operand} {dst : Option Nat} {ty : TypeId} {pos : String} {af : Array Edge} {gd : Option (Nat × Bool)} (hx : aev pZ r x = .pointer none) : jaC pZ (aev pZ r) ⟨dst, .binOp .eql 81 x (.const (.pointer none)) 81, ty, pos, af, gd⟩ = some (.bool true) := by
 unfold jaC
 simp only [opsOf, jbn, hx, execOp]
 kernel_rfl
theorem an0 : aNil pZ 81 (.pointer none) (.pointer none) = false := by kernel_rfl
set_option maxHeartbeats 4000000 in
theorem part_ex {g xi sp left : Nat} {ad buf : Value} {μ : Mem} (hg : 20 ≤ g) (hS : BdB μ xi) (hH : Has μ xi 0 (shL sp (left + 1) ad buf)) (hl : left < 100000) :
  aFun pZ (jai pZ X S0 g) 66 [.pointer (some ⟨xi, 0, none⟩)] μ = some (.bool true, putL μ xi 2 [.int .i64 (.ofNat left)]) ∧ Has (putL μ xi 2 [.int .i64 (.ofNat left)]) xi 0 (shL sp left ad buf) := by
 obtain ⟨k, rfl⟩ := gle hg
 have hb := hS.blk
 obtain ⟨l1, hl1⟩ := exq (left + 1)
 have c2 : jad μ xi 2 = some (.int .i64 (.ofNat l1)) := by rw [hl1]; exact hH.cell 2 (by simp [shL])
 have e1 : jak .i64 (Int.sub (.ofNat l1) 1) = .ofNat left := by rw [hl1]; exact jaZ (left + 1) 1 (by omega) (by omega)
 have hst := jaW (P := pZ) (t := 3) (v := .int .i64 (.ofNat left)) i3 rfl rfl hb (show 2 < 5 by decide)
 have hh : Has (putL μ xi 2 [.int .i64 (.ofNat left)]) xi 0 (shL sp left ad buf) := hH.set hb (k := 2) (v := .int .i64 (.ofNat left)) (by simp [shL])
 have c2' : jad (putL μ xi 2 [.int .i64 (.ofNat left)]) xi 2 = some (.int .i64 (.ofNat left)) := hh.cell 2 (by simp [shL])
 have e2 : ilt (.ofNat left) 0 = false := rfl
 refine ⟨?_, hh⟩
 refine jau ?_
 refine jac Tryz.func66 rfl rfl (nbl rfl) ?_
 simp only [go_sem, Tryz.ntmps66]
 repeat ((first | refine jaa rfl ?_ | refine jaj rfl ?_); (try simp only [go_sem, faX2, ld3, c2, e1, hst, c2', e2]); fail_if_success refine stk ?_)
 exact jae ⟨rfl, .bool true, by simp only [go_sem, Tryz.results66], rfl, rfl⟩
set_option maxHeartbeats 4000000 in
theorem check_ex {g xi sp left : Nat} {buf : Value} {μ : Mem} (hX : Esc X) (hg : 40 ≤ g) (hS : BdB μ xi) (hH : Has μ xi 0 (shL sp left (.pointer none) buf)) :
  ∃ v, aFun pZ (jai pZ X S0 g) 105 [.pointer (some ⟨xi, 3, none⟩)] μ = some (v, putL μ xi 3 [.pointer (some ⟨xi, 3, none⟩)]) ∧ Has (putL μ xi 3 [.pointer (some ⟨xi, 3, none⟩)]) xi 0 (shL sp left (.pointer (some ⟨xi, 3, none⟩)) buf) := by
 obtain ⟨k, rfl⟩ := gle hg
 have hb := hS.blk
 have c3 : jad μ xi 3 = some (.pointer none) := hH.cell 3 (by simp [shL])
 have hst := jaW (P := pZ) (t := 81) (v := .pointer (some ⟨xi, 3, none⟩)) kB1 rfl rfl hb (show 3 < 5 by decide)
 have hh : Has (putL μ xi 3 [.pointer (some ⟨xi, 3, none⟩)]) xi 0 (shL sp left (.pointer (some ⟨xi, 3, none⟩)) buf) := hH.set hb (k := 3) (v := .pointer (some ⟨xi, 3, none⟩)) (by simp [shL])
 have u1 := cp_uns hS
 have u2 := cq_uns hS
 have key : EndsF (aFun pZ (jai pZ X S0 (k + 40)) 105 [.pointer (some ⟨xi, 3, none⟩)] μ) fun v μ' => μ' = putL μ xi 3 [.pointer (some ⟨xi, 3, none⟩)] := by
  refine jac Tryz.func105 rfl rfl (nbl rfl) ?_
  simp only [go_sem, Tryz.ntmps105]
  repeat ((first | refine jaa rfl ?_ | refine jaj rfl ?_); (try simp only [go_sem, faB0, ldBp, c3, an0, pt_nil, cp_plain ⟨xi, 3, none⟩, cq_plain ⟨xi, 3, none⟩, cp_int, cq_int, u1, u2, goEsc hX, hst]); fail_if_success refine stk ?_)
  exact ⟨rfl, _, rfl, rfl⟩
 obtain ⟨v, μ', h1, rfl⟩ := key
 exact ⟨v, h1, hh⟩
end
noncomputable section
variable {X : XT}
theorem aApp_to {P : Program} {st xt e : TypeId} {inf : TypeInfo} {z0 : Value} {k : Nat} (hu : P.underlying st = some (.slice e)) (hi : P.info? e = some inf) (hsz : inf.size = k) (hby : Nat.ble inf.bytes 4096 = true) (hz : jaO P e = some z0) (hzl : (jaS z0).length = k)
  (hx : (match P.underlying xt with | some (.slice _) => true | some .string => true | _ => false) = true) {μ : Mem} {v x : Value} {ys : List Value} {n : Nat} (hl : lenV x = some n) (hsrc : jaU μ k n x = some ys) (hyl : ys.length = n * k) (hn : n ≤ 67108864) :
  jaM P μ st xt v x = ja8 P μ e k n ys v := by
 unfold jaM
 have h1 : Nat.ble n 67108864 = true := rzP hn
 have h2 : Nat.beq ys.length (Nat.mul n k) = true := by rw [hyl]; simp
 have h3 : Nat.beq (jaS z0).length k = true := by rw [hzl]; simp
 simp only [hu, hi, hby, hz, hsz, h3, hl, h1, hsrc, h2]
 exact (congrArg (fun b => match b with | false => none | true => ja8 P μ e k n ys v) hx :)
def obT (s : ByteArray) : Ob := .cells (bysV s).length 5 (bysV s).toArray .e 0 0 true false
theorem app_str {μ : Mem} {s : ByteArray} (h0 : 0 < (bys s).length) (h1 : (bys s).length ≤ 100000) : jaM pZ μ 54 9 (.slice none 0 0) (.string s) = some (.slice (some ⟨μ.next, 0, none⟩) (bys s).length 3, ⟨μ.obs.set μ.next (obT s), μ.next + 1⟩) := by
 have hb : (bys s).length = s.data.toList.length := by unfold bys; rw [List.length_map]
 have hA := aApp_to (P := pZ) (st := 54) (xt := 9) (k := 1) (μ := μ) (v := .slice none 0 0) (x := .string s) (n := s.data.toList.length) (ys := (s.data.toList.take s.data.toList.length).map fun b => .int .u8 (.ofNat b.toNat)) Tryz.underlying54 i_u8 rfl rfl z_u8 rfl (by rw [Tryz.underlying9]) rfl rfl (by rw [List.length_map, List.length_take, Nat.min_self, Nat.mul_one]) (by omega)
 rw [hA, List.take_length, ← hb]
 obtain ⟨n, hn⟩ : ∃ n, (bys s).length = n + 1 := ⟨(bys s).length - 1, by omega⟩
 rw [hn]
 rfl
theorem us_t {μ : Mem} {s : ByteArray} {i : Nat} (h0 : 0 < (bys s).length) (hl : (bys s).length ≤ 100000) (hg : μ.obs.get i = some (obT s)) : ∃ o, jbY pZ μ 147 (.pointer (some ⟨i, 0, none⟩)) (.int .i64 (.ofNat (bys s).length)) = some (.string s, ⟨μ.obs.set i o, μ.next⟩) := by
 unfold jbY
 unfold obT at hg
 rw [jjU] at hg
 obtain ⟨m, hm⟩ : ∃ m, (bys s).length = m + 1 := ⟨(bys s).length - 1, by omega⟩
 have ec : jat (bysV s).toArray .e 0 (bys s).length = bysV s := jbe _ _ _ (jjU s) fun k hk => by
  rw [rzT]
  exact ja3 _ k hk
 have e1 : Nat.ble (bys s).length (bys s).length = true := rzP (rzN _)
 have e2 : Nat.ble (bys s).length 1073741824 = true := rzP (by omega)
 have e3 : jdd (bysV s) = some s.data.toList := jhV _
 have e4 : Nat.beq (pZ.cellsOf 5) 1 = true := by kernel_rfl
 rw [← ec] at e3
 rw [hm] at e1 e2 e3 hg ⊢
 simp only [hg, Tryz.underlying147, Nat.beq_refl, e4, e1, e2, e3]
 exact ⟨_, rfl⟩
set_option maxHeartbeats 4000000 in
theorem wstr_ex {g xi sp left : Nat} {s : ByteArray} {μ : Mem} (hX : Esc X) (hg : 80 ≤ g) (hS : BdB μ xi) (hxi : xi < μ.next) (hH : Has μ xi 0 (shL sp left (.pointer none) (.slice none 0 0))) (h0 : 0 < (bys s).length) (h1 : (bys s).length ≤ 100000) :
  ∃ v μ', aFun pZ (jai pZ X S0 g) 67 [.pointer (some ⟨xi, 3, none⟩), .string s] μ = some (v, μ') ∧ BdB μ' xi ∧ Has μ' xi 0 (shL sp left (.pointer (some ⟨xi, 3, none⟩)) (.slice (some ⟨μ.next, 0, none⟩) (bys s).length 3)) ∧ μ'.obs.get μ.next = some (obT s) ∧ μ'.next = μ.next + 1 ∧ ∀ i, i < μ.next → i ≠ xi → μ'.obs.get i = μ.obs.get i := by
 obtain ⟨k, rfl⟩ := gle hg
 obtain ⟨v1, r1, hH1⟩ := check_ex (X := X) (g := k + 77) hX (by omega) hS hH
 obtain ⟨μ1, hμ1⟩ := exq (putL μ xi 3 [.pointer (some ⟨xi, 3, none⟩)] : Mem)
 have hS1 : BdB μ1 xi := by rw [hμ1]; exact hS.put
 have hn1 : μ1.next = μ.next := by rw [hμ1]; exact jaE _ _ _ _
 have hk1 : ∀ i, i ≠ xi → μ1.obs.get i = μ.obs.get i := fun i hi => by rw [hμ1]; exact jaX _ _ _ _ hi
 rw [← hμ1] at r1 hH1
 have c4 : jad μ1 xi 4 = some (.slice none 0 0) := hH1.cell 4 (by simp [shL])
 have hap := app_str (μ := μ1) (s := s) h0 h1
 obtain ⟨μ2, hμ2⟩ := exq (⟨μ1.obs.set μ1.next (obT s), μ1.next + 1⟩ : Mem)
 rw [← hμ2] at hap
 have hxe : μ2.obs.get xi = μ1.obs.get xi := by rw [hμ2]; show T.get _ _ = _; rw [T.get_set, if_neg (by omega)]
 have hS2 := hS1.keep hxe
 have hH2 := hH1.keep hxe
 have hb2 : μ2.obs.get μ1.next = some (obT s) := by rw [hμ2]; show T.get _ _ = _; rw [T.get_set, if_pos rfl]
 have hst := jaW (P := pZ) (t := 54) (v := .slice (some ⟨μ1.next, 0, none⟩) (bys s).length 3) kB3 rfl rfl hS2.blk (show 4 < 5 by decide)
 have hH3 : Has (putL μ2 xi 4 [.slice (some ⟨μ1.next, 0, none⟩) (bys s).length 3]) xi 0 (shL sp left (.pointer (some ⟨xi, 3, none⟩)) (.slice (some ⟨μ1.next, 0, none⟩) (bys s).length 3)) := hH2.set hS2.blk (k := 4) (v := .slice (some ⟨μ1.next, 0, none⟩) (bys s).length 3) (by simp [shL])
 have ls := jbU s
 have key : EndsF (aFun pZ (jai pZ X S0 (k + 80)) 67 [.pointer (some ⟨xi, 3, none⟩), .string s] μ) fun v μ' => μ' = putL μ2 xi 4 [.slice (some ⟨μ1.next, 0, none⟩) (bys s).length 3] := by
  refine jac Tryz.func67 rfl rfl (nbl rfl) ?_
  simp only [go_sem, Tryz.ntmps67]
  repeat ((first | refine jaa rfl ?_ | refine jaj rfl ?_); (try simp only [go_sem, r1, faB1, ldBs, c4, hap, hst, ls, jao]); fail_if_success refine stk ?_)
  refine jae ?_
  exact ⟨rfl, _, rfl, rfl⟩
 obtain ⟨v, μ', h, rfl⟩ := key
 rw [← hn1]
 refine ⟨v, _, h, hS2.put, hH3, (jaX _ _ _ _ (by omega)).trans hb2, ?_, fun i hi hix => ?_⟩
 ·rw [jaE, hμ2]
 ·rw [jaX _ _ _ _ hix, hμ2]
  show T.get _ _ = _
  rw [T.get_set, if_neg (by omega)]
  exact hk1 i hix
set_option maxHeartbeats 4000000 in
theorem bstr_ex {g xi sp left b : Nat} {s : ByteArray} {ad : Value} {μ : Mem} (hg : 40 ≤ g) (hH : Has μ xi 0 (shL sp left ad (.slice (some ⟨b, 0, none⟩) (bys s).length 3))) (hb : μ.obs.get b = some (obT s)) (h0 : 0 < (bys s).length) (h1 : (bys s).length ≤ 100000) :
  ∃ μ', aFun pZ (jai pZ X S0 g) 33 [.pointer (some ⟨xi, 3, none⟩)] μ = some (.string s, μ') ∧ μ.next ≤ μ'.next ∧ ∀ i, i ≠ b → μ'.obs.get i = μ.obs.get i := by
 obtain ⟨k, rfl⟩ := gle hg
 have c4 : ∀ m, jad ⟨μ.obs, m⟩ xi 4 = some (.slice (some ⟨b, 0, none⟩) (bys s).length 3) := fun m => Has.cell (μ := ⟨μ.obs, m⟩) hH 4 (by simp [shL])
 obtain ⟨o, hus⟩ := us_t (μ := ⟨μ.obs, μ.next + 12⟩) (i := b) h0 h1 hb
 obtain ⟨n, hn⟩ := exq ((bys s).length)
 rw [← hn] at c4 hus
 have e1 : Nat.beq n 0 = false := by
  cases hb : Nat.beq n 0 with
  | false => rfl
  | true => have := Nat.eq_of_beq_eq_true hb; omega
 have lb : aLen pZ 54 (.slice (some ⟨b, 0, none⟩) n 3) = some n := by
  unfold aLen
  simp only [Tryz.underlying54]
 have key : EndsF (aFun pZ (jai pZ X S0 (k + 40)) 33 [.pointer (some ⟨xi, 3, none⟩)] μ) fun v μ' => v = .string s ∧ μ.next ≤ μ'.next ∧ ∀ i, i ≠ b → μ'.obs.get i = μ.obs.get i := by
  refine jac Tryz.func33 rfl rfl (nbl rfl) ?_
  simp only [go_sem, Tryz.ntmps33]
  repeat ((first | refine jaa rfl ?_ | refine jaj rfl ?_); (try simp only [go_sem]); fail_if_success refine stk ?_)
  refine jaY (n := 12) (ms := [0, 1, 3, 7, 15, 0, 32, 96, 224, 480, 1023, 2047]) (ord := [0, 1, 2, 3, 4, 5, 6, 7, 8, 9, 10, 11]) (ds := ?_) ?_ ?_ ?_ ?_ ?_ ?_
  rotate_left
  ·kernel_rfl
  ·kernel_rfl
  ·kernel_rfl
  ·rfl
  ·rfl
  repeat (first | (refine ja0 ?_ rfl ?_; (solve | simp only [go_sem, faB1, ldBs, c4, lb, jao, e1, hus])) | (refine ja5 (v := ?_) (μ' := ?_) (sn' := ?_) ?_ ?_ rfl ?_; rotate_left 3; (solve | rfl | simp only [go_sem, faB1, ldBs, c4, lb, jao, e1, hus]); (solve | simp only [jaV, heavy, jbg, jaQ, go_sem, faB1, ldBs, c4, lb, jao, e1, hus]; try exact rfl)))
  simp only [dRun, jaK, jag]
  repeat ((first | refine jaa rfl ?_ | refine jaj rfl ?_); (try simp only [go_sem]); fail_if_success refine stk ?_)
  refine jae ?_
  refine ⟨rfl, .string s, ?_, rfl, Nat.le_add_right _ _, fun i hi => ?_⟩
  ·skip
   simp only [go_sem, Tryz.results33]
  ·show T.get _ _ = _
   rw [T.get_set, if_neg hi]
 obtain ⟨v, μ', h, rfl, h2⟩ := key
 exact ⟨μ', h, h2⟩
end
noncomputable section
variable {X : XT}
def TxtOk (X : XT) (μ0 : Mem) (G : Nat) (fl : Bool) (f : Nat) (neg : Bool) (ls : List Nat) (s : ByteArray) : Prop :=
 ∀ (g : Nat) (μ : Mem) (v : Value), G ≤ g → Grow μ0 μ → IsU μ ls v → ∃ μ', aFun pZ (jai pZ X S0 g) 106 [.agg #[.bool fl, .float .f64 f, .bool neg, v]] μ = some (.string s, μ') ∧ Grow μ μ'
theorem jiB {μ : Mem} {ls : List Nat} {v : Value} (h : IsU μ ls v) : Ev.one v = true := by
 rcases h.2.2 with ⟨h, _⟩ | ⟨i, o, c, h, _⟩ <;> rw [h] <;> rfl
set_option maxHeartbeats 4000000 in
theorem single_ex {μ0 μ : Mem} {G sp hp w f xi left : Nat} {κ : Int} {fl neg : Bool} {ls : List Nat} {s : ByteArray} {ad buf : Value} (hR : NumR X μ0 sp hp w κ fl f neg ls) (hT : TxtOk X μ0 G fl f neg ls s) (hG : Grow μ0 μ) (hH : Has μ xi 0 (shL sp left ad buf)) {g : Nat} (hg : 6300 + G ≤ g) :
  ∃ μ', aFun pZ (jai pZ X S0 g) 70 [.pointer (some ⟨xi, 0, none⟩), .int .u64 (.ofNat w)] μ = some (.string s, μ') ∧ Grow μ μ' := by
 obtain ⟨k, hk, rfl⟩ : ∃ k, G ≤ k ∧ g = k + 6300 := ⟨g - 6300, by omega, by omega⟩
 have c0 : jad μ xi 0 = some (.pointer (some ⟨sp, 0, none⟩)) := hH.cell 0 (by simp [shL])
 obtain ⟨v, μ1, r1, hU, G1⟩ := hR.an (k + 6296) μ (by omega) hG
 have ov := jiB hU
 have hG2 := jbc μ1 obN
 have hst := st_N (μ := ⟨μ1.obs.set μ1.next obN, μ1.next + 1⟩) (a := .bool fl) (b := .float .f64 f) (x := .bool neg) (y := v) blkN rfl rfl rfl ov
 have hld := ld_N (μ := ⟨μ1.obs.set μ1.next obN, μ1.next + 1⟩) (a := .bool fl) (b := .float .f64 f) (x := .bool neg) (y := v) blkN
 obtain ⟨μ2, hμ2⟩ := exq (putL ⟨μ1.obs.set μ1.next obN, μ1.next + 1⟩ μ1.next 0 [.bool fl, .float .f64 f, .bool neg, v] : Mem)
 rw [← hμ2] at hst hld
 have G2 : Grow μ1 μ2 := by rw [hμ2]; exact hG2.put_new (rzN _)
 obtain ⟨μ3, r2, G3⟩ := hT (k + 6293) μ2 v (by omega) ((hG.trans G1).trans G2) (hU.grow G2)
 obtain ⟨wi, hwi⟩ := exq (.ofNat w : Int)
 rw [← hwi] at r1 ⊢
 refine jbt ?_
 refine jac Tryz.func70 rfl rfl (nbl rfl) ?_
 simp only [go_sem, Tryz.ntmps70]
 repeat ((first | refine jaa rfl ?_ | refine jaj rfl ?_); (try simp only [go_sem, faX0, ldSpp, c0, r1, hst, hld, r2]); fail_if_success refine stk ?_)
 exact jae ⟨rfl, .string s, by simp only [go_sem, Tryz.results70], rfl, (G1.trans G2).trans G3⟩
set_option maxHeartbeats 4000000 in
theorem show_ex {μ0 μb μ : Mem} {G sp hp w f xi left : Nat} {κ : Int} {fl neg : Bool} {ls : List Nat} {s : ByteArray} (hX : Esc X) (hR : NumR X μ0 sp hp w κ fl f neg ls) (hT : TxtOk X μ0 G fl f neg ls s) (hb0 : Grow μ0 μb) (hG : Grow μb μ) (hx0 : μb.next ≤ xi) (hxn : xi < μ.next) (hS : BdB μ xi) (hH : Has μ xi 0 (shL sp (left + 1) (.pointer none) (.slice none 0 0))) (hl : left < 100000) (h0 : 0 < (bys s).length) (h1 : (bys s).length ≤ 100000) {g : Nat} (hg : 6400 + G ≤ g) :
  ∃ b μ', aFun pZ (jai pZ X S0 g) 32 [.pointer (some ⟨xi, 0, none⟩), .int .u64 (.ofNat w)] μ = some (.bool true, μ') ∧ μ.next ≤ b ∧ Has μ' xi 0 (shL sp left (.pointer (some ⟨xi, 3, none⟩)) (.slice (some ⟨b, 0, none⟩) (bys s).length 3)) ∧ μ'.obs.get b = some (obT s) ∧ Grow μb μ' := by
 obtain ⟨k, hk, rfl⟩ : ∃ k, G ≤ k ∧ g = k + 6400 := ⟨g - 6400, by omega, by omega⟩
 obtain ⟨r1, hH1⟩ := part_ex (X := X) (g := k + 6396) (by omega) hS hH hl
 obtain ⟨μ1, hμ1⟩ := exq (putL μ xi 2 [.int .i64 (.ofNat left)] : Mem)
 have hS1 : BdB μ1 xi := by rw [hμ1]; exact hS.put
 have n1 : μ1.next = μ.next := by rw [hμ1]; exact jaE _ _ _ _
 have hG1 : Grow μb μ1 := by rw [hμ1]; exact hG.put_new hx0
 rw [← hμ1] at r1 hH1
 have c0 : jad μ1 xi 0 = some (.pointer (some ⟨sp, 0, none⟩)) := hH1.cell 0 (by simp [shL])
 have sp1 : ∀ {m : Mem}, Grow μ0 m → jad m sp 0 = some (.pointer (some ⟨hp, 0, none⟩)) := fun {m} g => by rw [← hR.sp0]; unfold jad; rw [g.2 sp hR.spn]
 obtain ⟨μ2, r2, G2⟩ := jhP (X := X) (g := k + 6395) (kd := 1) hR.kd (hb0.trans hG1) (sp1 (hb0.trans hG1)) hR.k1 (by omega)
 have r2 : aFun pZ (jai pZ X S0 (k + 6395)) 29 [.pointer (some ⟨sp, 0, none⟩), .int .i64 1, .int .u64 (.ofNat w)] μ1 = some (.tuple #[.slice none 0 0, .bool false], μ2) := r2
 have hG2 := hG1.trans G2
 have hx1 : xi < μ1.next := by omega
 have hH2 := hH1.keep (G2.2 xi hx1)
 have hS2 := hS1.keep (G2.2 xi hx1)
 have c0' : jad μ2 xi 0 = some (.pointer (some ⟨sp, 0, none⟩)) := hH2.cell 0 (by simp [shL])
 have cs2 := sp1 (hb0.trans hG2)
 obtain ⟨μ3, r3, G3⟩ := hR.kd (k + 6394) μ2 (by omega) (hb0.trans hG2)
 have e3 : ieq κ 0 = false := (jhH _ _).trans (beq_eq_false_iff_ne.2 hR.k0)
 have hG3 := hG2.trans G3
 have hx2 : xi < μ2.next := rzO hx1 G2.1
 have hH3 := hH2.keep (G3.2 xi hx2)
 have hS3 := hS2.keep (G3.2 xi hx2)
 have hx3 : xi < μ3.next := rzO hx2 G3.1
 have hup := jcu μ3 7
 have hG3' := hG3.trans hup
 have hH3' : Has ⟨μ3.obs, μ3.next + 7⟩ xi 0 (shL sp left (.pointer none) (.slice none 0 0)) := hH3.keep rfl
 obtain ⟨μ4, r4, G4⟩ := single_ex (X := X) (g := k + 6394) hR hT (hb0.trans hG3') hH3' (by omega)
 have hx3' : xi < (⟨μ3.obs, μ3.next + 7⟩ : Mem).next := by show xi < μ3.next + 7; omega
 have hH4 := hH3'.keep (G4.2 xi hx3')
 have hS4 : BdB μ4 xi := BdB.keep (μ := ⟨μ3.obs, μ3.next + 7⟩) (hS3.keep rfl) (G4.2 xi hx3')
 have hx4 : xi < μ4.next := rzO hx3' G4.1
 obtain ⟨v5, μ5, r5, hS5, hH5, hb5, hn5, hk5⟩ := wstr_ex (X := X) (g := k + 6394) hX (by omega) hS4 hx4 hH4 h0 h1
 have hG4 := hG3'.trans G4
 have hG5 : Grow μb μ5 := ⟨by have := hG4.1; omega, fun i hi => (hk5 i (rzO hi hG4.1) (by omega)).trans (hG4.2 i hi)⟩
 obtain ⟨wi, hwi⟩ := exq (.ofNat w : Int)
 rw [← hwi] at r2 r3 r4 ⊢
 have key : EndsF (aFun pZ (jai pZ X S0 (k + 6400)) 32 [.pointer (some ⟨xi, 0, none⟩), .int .u64 wi] μ) fun v μ' => v = .bool true ∧ μ' = μ5 := by
  refine jac Tryz.func32 rfl rfl (nbl rfl) ?_
  simp only [go_sem, Tryz.ntmps32]
  repeat ((first | refine jaa rfl ?_ | refine jaj rfl ?_); (try simp only [go_sem, r1, faX0, ldSpp, c0, r2, c0', faS0, ldHp, cs2, r3, e3]); fail_if_success refine stk ?_)
  skip
  refine jaY (n := 7) (ms := [0, 1, 3, 0, 0, 24, 63]) (ord := [3, 4, 5, 0, 1, 2, 6]) (ds := ?_) ?_ ?_ ?_ ?_ ?_ ?_
  rotate_left
  ·kernel_rfl
  ·kernel_rfl
  ·kernel_rfl
  ·rfl
  ·rfl
  repeat (first | (refine ja0 ?_ rfl ?_; (solve | simp only [go_sem, faX3, r4, r5])) | (refine ja5 (v := ?_) (μ' := ?_) (sn' := ?_) ?_ ?_ rfl ?_; rotate_left 3; (solve | rfl | simp only [go_sem, faX3, r4, r5]); (solve | simp only [jaV, heavy, jbg, jaQ, go_sem, faX3, r4, r5]; try exact rfl)))
  simp only [dRun, jaK, jag]
  repeat ((first | refine jaa rfl ?_ | refine jaj rfl ?_); (try simp only [go_sem]); fail_if_success refine stk ?_)
  exact jae ⟨rfl, .bool true, by simp only [go_sem, Tryz.results32], rfl, rfl⟩
 obtain ⟨v, μ', h, rfl, rfl⟩ := key
 exact ⟨μ4.next, _, h, by have := G4.1; have h7 : (⟨μ3.obs, μ3.next + 7⟩ : Mem).next = μ3.next + 7 := rfl; have := G2.1; have := G3.1; omega, hH5, hb5, hG5⟩
theorem zSh : jaO pZ 85 = some (.agg #[.pointer none, .bool false, .int .i64 0, .pointer none, .slice none 0 0]) := by kernel_rfl
theorem bdSh (r : Rg) (x y : Operand) (sp : Nat) (h1 : aev pZ r x = .pointer (some ⟨sp, 0, none⟩)) (h2 : aev pZ r y = .bool true) : jbF pZ (aev pZ r) 85 #[(0, x), (1, y), (2, .const (.int .i64 2000))] = some (.agg (shL sp 2000 (.pointer none) (.slice none 0 0)).toArray) := by
 refine jba (pl := [(0, 1), (1, 1), (2, 1), (3, 2)]) (cs := shL sp 2000 (.pointer none) (.slice none 0 0)) zSh Tryz.underlying85 (by kernel_rfl) ?_
 simp only [List.map_cons, List.map_nil, h1, h2]
 rfl
theorem bxSh (l : List Value) : aBox 85 (.agg l.toArray) = some (.cells l.length 85 l.toArray .e 0 0 false false, fun id => .pointer (some ⟨id, 0, none⟩)) := rfl
set_option maxHeartbeats 4000000 in
theorem Show_ex {μ0 μ : Mem} {G sp hp w f : Nat} {κ : Int} {fl neg : Bool} {ls : List Nat} {s : ByteArray} (hX : Esc X) (hR : NumR X μ0 sp hp w κ fl f neg ls) (hT : TxtOk X μ0 G fl f neg ls s) (hG : Grow μ0 μ) (h0 : 0 < (bys s).length) (h1 : (bys s).length ≤ 100000) {g : Nat} (hg : 6500 + G ≤ g) :
  ∃ μ', aFun pZ (jai pZ X S0 g) 9 [.pointer (some ⟨sp, 0, none⟩), .int .u64 (.ofNat w), .bool true] μ = some (.tuple #[.string s, .int .i64 0], μ') ∧ Grow μ μ' := by
 obtain ⟨k, hk, rfl⟩ : ∃ k, G ≤ k ∧ g = k + 6500 := ⟨g - 6500, by omega, by omega⟩
 obtain ⟨L, hL⟩ := exq (shL sp 2000 (.pointer none) (.slice none 0 0))
 have hLl : L.length = 5 := by rw [hL]; rfl
 have bd := fun (r : Rg) (x y : Operand) (g1 : aev pZ r x = .pointer (some ⟨sp, 0, none⟩)) (g2 : aev pZ r y = .bool true) => (bdSh r x y sp g1 g2).trans (by rw [← hL])
 have bx := bxSh L
 obtain ⟨μ1, hμ1⟩ := exq (⟨μ.obs.set μ.next (.cells L.length 85 L.toArray .e 0 0 false false), μ.next + 1⟩ : Mem)
 have G1 : Grow μ μ1 := by rw [hμ1]; exact jbc μ _
 have hg1 : μ1.obs.get μ.next = some (.cells L.length 85 L.toArray .e 0 0 false false) := by rw [hμ1]; show T.get _ _ = _; rw [T.get_set, if_pos rfl]
 have hS1 : BdB μ1 μ.next := by rw [hLl] at hg1; exact ⟨_, _, _, hg1⟩
 have hH1 : Has μ1 μ.next 0 (shL sp 2000 (.pointer none) (.slice none 0 0)) := by
  rw [← hL]
  exact ⟨_, _, _, by rw [hg1]; rfl, by omega, fun j hj => by rw [rzT]; exact ja3 L j hj⟩
 have hn1 : μ1.next = μ.next + 1 := by rw [hμ1]
 obtain ⟨b, μ2, r2, hb, hH2, ho2, hG2⟩ := show_ex (X := X) (left := 1999) (g := k + 6495) hX (hR := hR) (hT := hT) (hb0 := hG) (hG := G1) (rzN _) (by omega) hS1 hH1 (by decide) h0 h1 (by omega)
 have hn2 := hG2.1
 obtain ⟨μ3, r3, hn3, hk3⟩ := bstr_ex (X := X) (g := k + 6495) (by omega) hH2 ho2 h0 h1
 have hG3 : Grow μ μ3 := ⟨by omega, fun i hi => (hk3 i (by omega)).trans (hG2.2 i hi)⟩
 obtain ⟨wi, hwi⟩ := exq (.ofNat w : Int)
 rw [← hwi] at r2 ⊢
 refine jbt ?_
 refine jac Tryz.func9 rfl rfl (nbl rfl) ?_
 simp only [go_sem, Tryz.ntmps9]
 repeat ((first | refine jaa rfl ?_ | refine jaj rfl ?_); (try simp only [go_sem, bd, bx, ← hμ1, r2, faX3, r3]); fail_if_success refine stk ?_)
 exact jae ⟨rfl, .tuple #[.string s, .int .i64 0], by simp only [go_sem, Tryz.results9], rfl, hG3⟩
end
end Go.Proofs.YtdmfakpngnlokaaGreatDoor.nu
