/-
  distafflaw18.ValueNums, part Qb: its walk and its law. No conditions.
-/
import Derived.Test.YtdmfakpngnlokaaGreatDoorDwQa
set_option linter.all false
set_option maxRecDepth 20000
set_option maxHeartbeats 8000000
namespace Go.Proofs.YtdmfakpngnlokaaGreatDoor.nu
open YtdmfakpngnlokaaGreatDoor.Ev
noncomputable section
variable {X : XT}
structure AB (μ : Mem) (ap wb lb N L : Nat) (ws : Nat → Nat) (ln : Nat → Bool) : Prop where
 arena : Arena μ ap wb N ws
 lines : Lines μ ap lb L ln
 blk : Blk μ ap 9 176
 n1 : ap < μ.next
 n2 : wb < μ.next
 n3 : lb < μ.next
 d1 : ap ≠ lb
 d2 : wb ≠ lb
 N1 : N < 1000000
 L1 : L < 1000000
structure AC (μ : Mem) (ap sf st gf gt nx : Nat) : Prop where
 c2 : jad μ ap 2 = some (.int .i64 (.ofNat sf))
 c3 : jad μ ap 3 = some (.int .i64 (.ofNat st))
 c4 : jad μ ap 4 = some (.int .i64 (.ofNat gf))
 c5 : jad μ ap 5 = some (.int .i64 (.ofNat gt))
 c8 : jad μ ap 8 = some (.int .i64 (.ofNat nx))
theorem AB.put {μ : Mem} {ap wb lb N L : Nat} {ws : Nat → Nat} {ln : Nat → Bool} (h : AB μ ap wb lb N L ws ln) {o : Nat} {vs : List Value} (ho : 2 ≤ o) (hl : o + vs.length ≤ 9) : AB (putL μ ap o vs) ap wb lb N L ws ln := by
 have e0 : jad (putL μ ap o vs) ap 0 = jad μ ap 0 := by rw [jaP h.blk hl, dif_neg (by rintro ⟨_, g, _⟩; omega)]
 have e1 : jad (putL μ ap o vs) ap 1 = jad μ ap 1 := by rw [jaP h.blk hl, dif_neg (by rintro ⟨_, g, _⟩; omega)]
 obtain ⟨c, hc⟩ := h.arena.head
 obtain ⟨z, ov, fx, sh, hwb, hws⟩ := h.arena.words
 exact ⟨⟨⟨c, e0.trans hc⟩, ⟨z, ov, fx, sh, (jaX _ _ _ _ (Ne.symm h.arena.apart)).trans hwb, hws⟩, h.arena.apart⟩, h.lines.keep e1 (jaX _ _ _ _ (Ne.symm h.d1)), h.blk.put _ _,
  by rw [jaE]; exact h.n1, by rw [jaE]; exact h.n2, by rw [jaE]; exact h.n3, h.d1, h.d2, h.N1, h.L1⟩
theorem AB.grow {μ μ' : Mem} {ap wb lb N L : Nat} {ws : Nat → Nat} {ln : Nat → Bool} (h : AB μ ap wb lb N L ws ln) (hg : Grow μ μ') : AB μ' ap wb lb N L ws ln :=
 ⟨h.arena.grow hg h.n1 h.n2, h.lines.grow hg h.n1 h.n3, by unfold Blk; rw [hg.2 ap h.n1]; exact h.blk, rzO h.n1 hg.1, rzO h.n2 hg.1, rzO h.n3 hg.1, h.d1, h.d2, h.N1, h.L1⟩
theorem AC.grow {μ μ' : Mem} {ap sf st gf gt nx : Nat} (h : AC μ ap sf st gf gt nx) (hg : Grow μ μ') (hn : ap < μ.next) : AC μ' ap sf st gf gt nx := by
 have e : ∀ p, jad μ' ap p = jad μ ap p := fun p => by unfold jad; rw [hg.2 ap hn]
 exact ⟨(e _).trans h.c2, (e _).trans h.c3, (e _).trans h.c4, (e _).trans h.c5, (e _).trans h.c8⟩
def Kept (μ μ' : Mem) (ap lb : Nat) : Prop := μ.next ≤ μ'.next ∧ ∀ i, i < μ.next → i ≠ ap → i ≠ lb → μ'.obs.get i = μ.obs.get i
theorem Kept.of {μ μ' : Mem} {ap lb : Nat} (h : Grow μ μ') : Kept μ μ' ap lb := ⟨h.1, fun i hi _ _ => h.2 i hi⟩
theorem Kept.trans {a b c : Mem} {ap lb : Nat} (h : Kept a b ap lb) (g : Kept b c ap lb) : Kept a c ap lb := ⟨rzS h.1 g.1, fun i hi h1 h2 => (g.2 i (rzO hi h.1) h1 h2).trans (h.2 i hi h1 h2)⟩
theorem Kept.put (μ : Mem) (ap lb o : Nat) (vs : List Value) : Kept μ (putL μ ap o vs) ap lb := ⟨by rw [jaE]; exact rzN _, fun i _ h1 _ => jaX _ _ _ _ h1⟩
theorem put2 {μ : Mem} {ap sf st gf gt nx f' t : Nat} (hb : Blk μ ap 9 t) (h : AC μ ap sf st gf gt nx) : AC (putL μ ap 2 [.int .i64 (.ofNat f')]) ap f' st gf gt nx := by
 have e : ∀ p, p ≠ 2 → jad (putL μ ap 2 [.int .i64 (.ofNat f')]) ap p = jad μ ap p := fun p hp => by
  rw [jaP hb (by show 2 + 1 ≤ 9; decide), dif_neg (by rintro ⟨_, g1, g2⟩; simp only [List.length_cons, List.length_nil] at g2; omega)]
 exact ⟨by rw [jaP hb (by show 2 + 1 ≤ 9; decide), dif_pos ⟨rfl, rzN _, rzE rfl⟩]; rfl, (e _ (by decide)).trans h.c3, (e _ (by decide)).trans h.c4, (e _ (by decide)).trans h.c5, (e _ (by decide)).trans h.c8⟩
theorem put4 {μ : Mem} {ap sf st gf gt nx f' t : Nat} (hb : Blk μ ap 9 t) (h : AC μ ap sf st gf gt nx) : AC (putL μ ap 4 [.int .i64 (.ofNat f')]) ap sf st f' gt nx := by
 have e : ∀ p, p ≠ 4 → jad (putL μ ap 4 [.int .i64 (.ofNat f')]) ap p = jad μ ap p := fun p hp => by
  rw [jaP hb (by show 4 + 1 ≤ 9; decide), dif_neg (by rintro ⟨_, g1, g2⟩; simp only [List.length_cons, List.length_nil] at g2; omega)]
 exact ⟨(e _ (by decide)).trans h.c2, (e _ (by decide)).trans h.c3, by rw [jaP hb (by show 4 + 1 ≤ 9; decide), dif_pos ⟨rfl, rzN _, rzE rfl⟩]; rfl, (e _ (by decide)).trans h.c5, (e _ (by decide)).trans h.c8⟩
theorem put8 {μ : Mem} {ap sf st gf gt nx f' t : Nat} (hb : Blk μ ap 9 t) (h : AC μ ap sf st gf gt nx) : AC (putL μ ap 8 [.int .i64 (.ofNat f')]) ap sf st gf gt f' := by
 have e : ∀ p, p ≠ 8 → jad (putL μ ap 8 [.int .i64 (.ofNat f')]) ap p = jad μ ap p := fun p hp => by
  rw [jaP hb (by show 8 + 1 ≤ 9; decide), dif_neg (by rintro ⟨_, g1, g2⟩; simp only [List.length_cons, List.length_nil] at g2; omega)]
 exact ⟨(e _ (by decide)).trans h.c2, (e _ (by decide)).trans h.c3, (e _ (by decide)).trans h.c4, (e _ (by decide)).trans h.c5, by rw [jaP hb (by show 8 + 1 ≤ 9; decide), dif_pos ⟨rfl, rzN _, rzE rfl⟩]; rfl⟩
theorem put22 {μ : Mem} {ap sf st gf gt nx f' t' t : Nat} (hb : Blk μ ap 9 t) (h : AC μ ap sf st gf gt nx) : AC (putL μ ap 2 [.int .i64 (.ofNat f'), .int .i64 (.ofNat t')]) ap f' t' gf gt nx := by
 have e : ∀ p, p ≠ 2 → p ≠ 3 → jad (putL μ ap 2 [.int .i64 (.ofNat f'), .int .i64 (.ofNat t')]) ap p = jad μ ap p := fun p hp hq => by
  rw [jaP hb (by show 2 + 2 ≤ 9; decide), dif_neg (by rintro ⟨_, g1, g2⟩; simp only [List.length_cons, List.length_nil] at g2; omega)]
 exact ⟨by rw [jaP hb (by show 2 + 2 ≤ 9; decide), dif_pos ⟨rfl, by decide, rzE rfl⟩]; rfl, by rw [jaP hb (by show 2 + 2 ≤ 9; decide), dif_pos ⟨rfl, by decide, rzE rfl⟩]; rfl,
  (e _ (by decide) (by decide)).trans h.c4, (e _ (by decide) (by decide)).trans h.c5, (e _ (by decide) (by decide)).trans h.c8⟩
theorem put42 {μ : Mem} {ap sf st gf gt nx f' t' t : Nat} (hb : Blk μ ap 9 t) (h : AC μ ap sf st gf gt nx) : AC (putL μ ap 4 [.int .i64 (.ofNat f'), .int .i64 (.ofNat t')]) ap sf st f' t' nx := by
 have e : ∀ p, p ≠ 4 → p ≠ 5 → jad (putL μ ap 4 [.int .i64 (.ofNat f'), .int .i64 (.ofNat t')]) ap p = jad μ ap p := fun p hp hq => by
  rw [jaP hb (by show 4 + 2 ≤ 9; decide), dif_neg (by rintro ⟨_, g1, g2⟩; simp only [List.length_cons, List.length_nil] at g2; omega)]
 exact ⟨(e _ (by decide) (by decide)).trans h.c2, (e _ (by decide) (by decide)).trans h.c3, by rw [jaP hb (by show 4 + 2 ≤ 9; decide), dif_pos ⟨rfl, by decide, rzE rfl⟩]; rfl, by rw [jaP hb (by show 4 + 2 ≤ 9; decide), dif_pos ⟨rfl, by decide, rzE rfl⟩]; rfl,
  (e _ (by decide) (by decide)).trans h.c8⟩
end
noncomputable section
variable {X : XT}
theorem jhc {g ap o f t n : Nat} {μ : Mem} (hg : 20 ≤ g) (hf : jad μ ap o = some (.int .i64 (.ofNat f))) (ht : jad μ ap (o + 1) = some (.int .i64 (.ofNat t))) (hft : f ≤ t) (hT : t < 4611686018427387904) (hn : t - f < n) :
  aFun pZ (jai pZ X S0 g) 136 [.pointer (some ⟨ap, o, none⟩), .int .i64 (.ofNat n)] μ = some (.tuple #[.int .i64 0, .bool false], ⟨μ.obs, μ.next + 11⟩) := by
 obtain ⟨k, rfl⟩ := gle hg
 exact jau (take_no hf ht hft hT hn)
theorem jhb {g ap o f t n c te : Nat} {μ : Mem} (hg : 20 ≤ g) (hb : Blk μ ap c te) (ho : o < c) (hf : jad μ ap o = some (.int .i64 (.ofNat f))) (ht : jad μ ap (o + 1) = some (.int .i64 (.ofNat t))) (hft : f ≤ t) (hT : t < 4611686018427387904) (hn : f + n ≤ t) :
  aFun pZ (jai pZ X S0 g) 136 [.pointer (some ⟨ap, o, none⟩), .int .i64 (.ofNat n)] μ = some (.tuple #[.int .i64 (.ofNat f), .bool true], putL ⟨μ.obs, μ.next + 11⟩ ap o [.int .i64 (.ofNat (f + n))]) := by
 obtain ⟨k, rfl⟩ := gle hg
 exact jau (take_ok hb ho hf ht hft hT hn)
theorem faA2 (ρ : Operand → Value) (x : Operand) : jaL pZ ρ 176 x 2 = (match ρ x with | .pointer (some a) => some (.pointer (some (a.add 2))) | _ => none) := jax (ft := 174) (off := 2) Tryz.underlying176 rfl iR rfl ρ x
theorem faA3 (ρ : Operand → Value) (x : Operand) : jaL pZ ρ 176 x 3 = (match ρ x with | .pointer (some a) => some (.pointer (some (a.add 4))) | _ => none) := jax (ft := 174) (off := 4) Tryz.underlying176 rfl iR rfl ρ x
theorem faA5 (ρ : Operand → Value) (x : Operand) : jaL pZ ρ 176 x 5 = (match ρ x with | .pointer (some a) => some (.pointer (some (a.add 8))) | _ => none) := jax (ft := 3) (off := 8) Tryz.underlying176 rfl i3 rfl ρ x
set_option maxHeartbeats 4000000 in
theorem great_new {g ap wb lb N L n sf st gf gt nx nb d a t fa ta : Nat} {ws : Nat → Nat} {ln : Nat → Bool} {μ : Mem} (hg : 300 ≤ g) (hB : AB μ ap wb lb N L ws ln) (hC : AC μ ap sf st gf gt nx) (hgt : gf ≤ gt) (hgT : gt < 1000000) (hn : gt - gf < n) (hn2 : n ≤ 256)
  (hnb : nb = N / 256) (hnL : nb * 16 ≤ L) (ha : a = d * 16) (ht : t = (d + 1) * 16) (hd : cnt ln a 16 = 16) (hdn : d < nb) (hdn2 : nb ≤ d + 20) (hx : ∀ x, d < x → x < nb → cnt ln (x * 16) 16 ≠ 16) (hfa : fa = a * 16) (hta : ta = t * 16) :
  EndsF (aFun pZ (jai pZ X S0 g) 135 [.pointer (some ⟨ap, 0, none⟩), .int .i64 (.ofNat n)] μ) fun v μ' => v = .tuple #[.int .i64 (.ofNat fa), .bool true] ∧ AB μ' ap wb lb N L ws (fill ln a t) ∧ AC μ' ap sf st (fa + n) ta nx ∧ Kept μ μ' ap lb := by
 obtain ⟨k, rfl⟩ := gle hg
 have htk : ∀ g, 20 ≤ g → aFun pZ (jai pZ X S0 g) 136 [.pointer (some ⟨ap, 4, none⟩), .int .i64 (.ofNat n)] μ = some (.tuple #[.int .i64 0, .bool false], ⟨μ.obs, μ.next + 11⟩) := fun g hg =>
  jhc hg hC.c4 hC.c5 hgt (by omega) hn
 have hg1 := jcu μ 11
 have hB1 := hB.grow hg1
 have hC1 := hC.grow hg1 hB.n1
 have hN1 := hB.N1
 have hL1 := hB.L1
 obtain ⟨v2, μ2, hbl, hv2, hg2⟩ := jkY (X := X) (f := k + 296) (by omega) hB1.arena hB1.lines hB1.n1 hB1.n3 hB1.n2 hnb hnL hN1 hL1 ha ht hd hdn hdn2 hx
 subst hv2
 have hB2 := hB1.grow hg2
 have hC2 := hC1.grow hg2 hB1.n1
 obtain ⟨v3, μ3, hcl, hv3, hL3, hn3, hk3⟩ := claim (X := X) (f := k + 293) (a := a) (t := t) (by omega) hB2.lines hB2.d1 hB2.n1 hB2.n3 (by omega) (by omega) (by omega) hL1
 rw [← hfa, ← hta] at hv3
 subst hv3
 have e3 : ∀ p, jad μ3 ap p = jad μ2 ap p := fun p => by unfold jad; rw [hk3 ap hB2.n1 hB2.d1]
 have hB3 : AB μ3 ap wb lb N L ws (fill ln a t) := ⟨hB2.arena.keep (hk3 ap hB2.n1 hB2.d1) (hk3 wb hB2.n2 hB2.d2), hL3, by unfold Blk; rw [hk3 ap hB2.n1 hB2.d1]; exact hB2.blk,
  by rw [hn3]; exact Nat.lt_succ_of_lt hB2.n1, by rw [hn3]; exact Nat.lt_succ_of_lt hB2.n2, by rw [hn3]; exact Nat.lt_succ_of_lt hB2.n3, hB2.d1, hB2.d2, hN1, hL1⟩
 have hC3 : AC μ3 ap sf st gf gt nx := ⟨(e3 _).trans hC2.c2, (e3 _).trans hC2.c3, (e3 _).trans hC2.c4, (e3 _).trans hC2.c5, (e3 _).trans hC2.c8⟩
 have hst : jbu pZ μ3 174 (.pointer (some ⟨ap, 4, none⟩)) (.agg #[.int .i64 (.ofNat fa), .int .i64 (.ofNat ta)]) = some (undef, putL μ3 ap 4 [.int .i64 (.ofNat fa), .int .i64 (.ofNat ta)]) := jcR (t := 174) (o := 4) (vs := [.int .i64 (.ofNat fa), .int .i64 (.ofNat ta)]) iR rfl rfl hB3.blk (by show 4 + 2 ≤ 9; decide)
 have hB4 := hB3.put (o := 4) (vs := [.int .i64 (.ofNat fa), .int .i64 (.ofNat ta)]) (by decide) (by show 4 + 2 ≤ 9; decide)
 have hC4 := put42 (f' := fa) (t' := ta) hB3.blk hC3
 obtain ⟨μ4, hμ4⟩ := exq (putL μ3 ap 4 [.int .i64 (.ofNat fa), .int .i64 (.ofNat ta)])
 rw [← hμ4] at hst hB4 hC4
 have ht2 : ∀ g, 20 ≤ g → aFun pZ (jai pZ X S0 g) 136 [.pointer (some ⟨ap, 4, none⟩), .int .i64 (.ofNat n)] μ4 = some (.tuple #[.int .i64 (.ofNat fa), .bool true], putL ⟨μ4.obs, μ4.next + 11⟩ ap 4 [.int .i64 (.ofNat (fa + n))]) := fun g hg =>
  jhb hg hB4.blk (by decide) hC4.c4 hC4.c5 (by omega) (by omega) (by omega)
 have hg5 := jcu μ4 11
 have hk : Kept μ μ4 ap lb := by
  refine (Kept.of (hg1.trans hg2)).trans ⟨?_, fun i hi h1 h2 => ?_⟩
  ·rw [hμ4, jaE, hn3]; exact Nat.le_succ _
  ·rw [hμ4, jaX _ _ _ _ h1]; exact hk3 i hi h2
 refine jac Tryz.func135 rfl rfl (nbl rfl) ?_
 simp only [go_sem, Tryz.ntmps135]
 refine jaf ?_
 refine jab ?_ ?_
 ·rfl
 simp only [go_sem]
 refine jaf ?_
 refine jaf ?_
 refine jab ?_ ?_
 ·rfl
 simp only [go_sem, faA3, gg136, htk, Nat.reduceLeDiff]
 refine jaf ?_
 refine jab ?_ ?_
 ·rfl
 simp only [go_sem]
 refine jan ?_ ?_
 ·simp only [go_sem]
 refine jaD ?_
 simp only [jag]
 refine jaf ?_
 refine jab ?_ ?_
 ·rfl
 simp only [go_sem, gg161, hbl]
 refine jaf ?_
 refine jaf ?_
 refine jab ?_ ?_
 ·rfl
 simp only [go_sem]
 refine jan ?_ ?_
 ·simp only [go_sem]
 refine jaD ?_
 simp only [jag]
 refine jaf ?_
 refine jaf ?_
 refine jab ?_ ?_
 ·rfl
 simp only [go_sem]
 refine jan ?_ ?_
 ·simp only [go_sem]
 refine jaD ?_
 simp only [jag]
 refine jaf ?_
 refine jab ?_ ?_
 ·rfl
 simp only [go_sem, gg138, hcl, faA3, hst]
 refine jaf ?_
 refine jab ?_ ?_
 ·rfl
 simp only [go_sem, gg136, ht2, faA3, Nat.reduceLeDiff]
 refine jae ?_
 refine ⟨rfl, _, ?_, rfl, (hB4.grow hg5).put (by decide) (nbl rfl), put4 (hB4.grow hg5).blk (hC4.grow hg5 hB4.n1), (hk.trans (Kept.of hg5)).trans (Kept.put _ _ _ _ _)⟩
 simp only [go_sem, Tryz.results135]
end
noncomputable section
variable {X : XT}
set_option maxHeartbeats 4000000 in
theorem jiZ {g ap n : Nat} {μ μ2 : Mem} {v : Value} (h1 : 16 < n) (h2 : n ≤ 256) (hv : aFun pZ (jai pZ X S0 g) 135 [.pointer (some ⟨ap, 0, none⟩), .int .i64 (.ofNat n)] μ = some (.tuple #[v, .bool true], μ2)) :
  aFun pZ (jai pZ X S0 (g + 9)) 97 [.pointer (some ⟨ap, 0, none⟩), .int .i64 (.ofNat n)] μ = some (.tuple #[v, .bool true], μ2) := by
 refine jau ?_
 have w1 : ilt (.ofNat n) 1 = false := dF (jap n 1) (by omega)
 have w2 : ilt 256 (.ofNat n) = false := dF (jap 256 n) (by omega)
 have w3 : ilt 16 (.ofNat n) = true := dT (jap 16 n) h1
 refine jac Tryz.func97 rfl rfl (nbl rfl) ?_
 simp only [go_sem, Tryz.ntmps97]
 refine jaf ?_
 refine jab ?_ ?_
 ·rfl
 simp only [go_sem]
 refine jaf ?_
 refine jaR ?_
 refine jaf ?_
 refine jaa rfl ?_
 repeat (refine jaj rfl ?_; (try simp only [go_sem, w1, w2]); fail_if_success refine stk ?_)
 refine jan ?_ ?_
 ·simp only [go_sem]
 refine jaf ?_
 refine jab ?_ ?_
 ·rfl
 simp only [go_sem, w3]
 refine jaG ?_ ?_
 ·simp only [go_sem]
 refine jaf ?_
 refine jab ?_ ?_
 ·rfl
 simp only [go_sem, gg135, hv]
 refine jae ?_
 try simp only [jbI, jgo]
 refine ⟨rfl, _, ?_, rfl, rfl⟩
 simp only [go_sem, Tryz.results97]
set_option maxHeartbeats 4000000 in
theorem small_new {g ap wb lb N L n sf st gf gt nx t fa ta : Nat} {ws : Nat → Nat} {ln : Nat → Bool} {μ : Mem} (hg : 300 ≤ g) (hB : AB μ ap wb lb N L ws ln) (hC : AC μ ap sf st gf gt nx) (hst : sf ≤ st) (hsT : st < 1000000) (hn : st - sf < n) (h1 : 1 ≤ n) (h2 : n ≤ 16)
  (h16 : nx % 16 = 0) (ht : t = nx + 16) (htL : t ≤ L) (hln : ∀ k, nx ≤ k → k < t → ln k = false) (hfa : fa = nx * 16) (hta : ta = t * 16) :
  EndsF (aFun pZ (jai pZ X S0 g) 97 [.pointer (some ⟨ap, 0, none⟩), .int .i64 (.ofNat n)] μ) fun v μ' => v = .tuple #[.int .i64 (.ofNat fa), .bool true] ∧ AB μ' ap wb lb N L ws (fill ln nx t) ∧ AC μ' ap (fa + n) ta gf gt t ∧ Kept μ μ' ap lb := by
 obtain ⟨k, rfl⟩ := gle hg
 have htk : ∀ g, 20 ≤ g → aFun pZ (jai pZ X S0 g) 136 [.pointer (some ⟨ap, 2, none⟩), .int .i64 (.ofNat n)] μ = some (.tuple #[.int .i64 0, .bool false], ⟨μ.obs, μ.next + 11⟩) := fun g hg =>
  jhc hg hC.c2 hC.c3 hst (by omega) hn
 have w1 : ilt (.ofNat n) 1 = false := dF (jap n 1) (by omega)
 have w2 : ilt 256 (.ofNat n) = false := dF (jap 256 n) (by omega)
 have w3 : ilt 16 (.ofNat n) = false := dF (jap 16 n) (by omega)
 have hg1 := jcu μ 11
 have hB1 := hB.grow hg1
 have hC1 := hC.grow hg1 hB.n1
 have hN1 := hB.N1
 have hL1 := hB.L1
 have hfd : ∀ g, 90 ≤ g → aFun pZ (jai pZ X S0 g) 137 [.pointer (some ⟨ap, 0, none⟩), .int .i64 (.ofNat nx), .int .i64 1] ⟨μ.obs, μ.next + 11⟩ = some (.tuple #[.int .i64 (.ofNat nx), .int .i64 (.ofNat t), .bool true], ⟨μ.obs, μ.next + 11⟩) := fun g hg =>
  find_eq hg hB1.lines h16 ht htL hL1 hln
 have hc8 := hC1.c8
 obtain ⟨v3, μ3, hcl, hv3, hL3, hn3, hk3⟩ := claim (X := X) (f := k + 293) (a := nx) (t := t) (by omega) hB1.lines hB1.d1 hB1.n1 hB1.n3 (by omega) (by omega) (by omega) hL1
 rw [← hfa, ← hta] at hv3
 subst hv3
 have e3 : ∀ p, jad μ3 ap p = jad ⟨μ.obs, μ.next + 11⟩ ap p := fun p => by unfold jad; rw [hk3 ap hB1.n1 hB1.d1]
 have hB3 : AB μ3 ap wb lb N L ws (fill ln nx t) := ⟨hB1.arena.keep (hk3 ap hB1.n1 hB1.d1) (hk3 wb hB1.n2 hB1.d2), hL3, by unfold Blk; rw [hk3 ap hB1.n1 hB1.d1]; exact hB1.blk,
  by rw [hn3]; exact Nat.lt_succ_of_lt hB1.n1, by rw [hn3]; exact Nat.lt_succ_of_lt hB1.n2, by rw [hn3]; exact Nat.lt_succ_of_lt hB1.n3, hB1.d1, hB1.d2, hN1, hL1⟩
 have hC3 : AC μ3 ap sf st gf gt nx := ⟨(e3 _).trans hC1.c2, (e3 _).trans hC1.c3, (e3 _).trans hC1.c4, (e3 _).trans hC1.c5, (e3 _).trans hC1.c8⟩
 have hs1 : jbu pZ μ3 174 (.pointer (some ⟨ap, 2, none⟩)) (.agg #[.int .i64 (.ofNat fa), .int .i64 (.ofNat ta)]) = some (undef, putL μ3 ap 2 [.int .i64 (.ofNat fa), .int .i64 (.ofNat ta)]) := jcR (t := 174) (o := 2) (vs := [.int .i64 (.ofNat fa), .int .i64 (.ofNat ta)]) iR rfl rfl hB3.blk (by show 2 + 2 ≤ 9; decide)
 have hB4 := hB3.put (o := 2) (vs := [.int .i64 (.ofNat fa), .int .i64 (.ofNat ta)]) (by decide) (by show 2 + 2 ≤ 9; decide)
 have hC4 := put22 (f' := fa) (t' := ta) hB3.blk hC3
 obtain ⟨μ4, hμ4⟩ := exq (putL μ3 ap 2 [.int .i64 (.ofNat fa), .int .i64 (.ofNat ta)])
 rw [← hμ4] at hs1 hB4 hC4
 have hs2 := jaW (t := 3) (v := .int .i64 (.ofNat t)) i3 rfl rfl hB4.blk (show 8 < 9 by decide)
 have hB5 := hB4.put (o := 8) (vs := [.int .i64 (.ofNat t)]) (by decide) (by show 8 + 1 ≤ 9; decide)
 have hC5 := put8 (f' := t) hB4.blk hC4
 obtain ⟨μ5, hμ5⟩ := exq (putL μ4 ap 8 [.int .i64 (.ofNat t)])
 rw [← hμ5] at hs2 hB5 hC5
 have ht2 : ∀ g, 20 ≤ g → aFun pZ (jai pZ X S0 g) 136 [.pointer (some ⟨ap, 2, none⟩), .int .i64 (.ofNat n)] μ5 = some (.tuple #[.int .i64 (.ofNat fa), .bool true], putL ⟨μ5.obs, μ5.next + 11⟩ ap 2 [.int .i64 (.ofNat (fa + n))]) := fun g hg =>
  jhb hg hB5.blk (by decide) hC5.c2 hC5.c3 (by omega) (by omega) (by omega)
 have hg5 := jcu μ5 11
 have hk : Kept μ μ5 ap lb := by
  refine (Kept.of hg1).trans ⟨?_, fun i hi h1 h2 => ?_⟩
  ·rw [hμ5, jaE, hμ4, jaE, hn3]; exact Nat.le_succ _
  ·rw [hμ5, jaX _ _ _ _ h1, hμ4, jaX _ _ _ _ h1]; exact hk3 i hi h2
 refine jac Tryz.func97 rfl rfl (nbl rfl) ?_
 simp only [go_sem, Tryz.ntmps97]
 refine jaf ?_
 refine jab ?_ ?_
 ·rfl
 simp only [go_sem]
 refine jaf ?_
 refine jaR ?_
 refine jaf ?_
 refine jaa rfl ?_
 repeat (refine jaj rfl ?_; (try simp only [go_sem, w1, w2]); fail_if_success refine stk ?_)
 refine jan ?_ ?_
 ·simp only [go_sem]
 refine jaf ?_
 refine jab ?_ ?_
 ·rfl
 simp only [go_sem, w3]
 refine jan ?_ ?_
 ·simp only [go_sem]
 refine jaD ?_
 try simp only [jbI, jag]
 refine jaf ?_
 refine jaf ?_
 refine jab ?_ ?_
 ·rfl
 simp only [go_sem, faA2, gg136, htk, Nat.reduceLeDiff]
 refine jaf ?_
 refine jab ?_ ?_
 ·rfl
 simp only [go_sem]
 refine jan ?_ ?_
 ·simp only [go_sem]
 refine jaD ?_
 simp only [jag]
 refine jaf ?_
 refine jab ?_ ?_
 ·rfl
 simp only [go_sem, faA5, ld3, hc8, gg137, hfd, Nat.reduceLeDiff]
 refine jaf ?_
 refine jaf ?_
 refine jab ?_ ?_
 ·rfl
 simp only [go_sem]
 refine jan ?_ ?_
 ·simp only [go_sem]
 refine jaD ?_
 simp only [jag]
 refine jaf ?_
 refine jab ?_ ?_
 ·rfl
 simp only [go_sem, gg138, hcl, faA2, hs1]
 refine jaf ?_
 refine jab ?_ ?_
 ·rfl
 simp only [go_sem, faA5, hs2]
 refine jaf ?_
 refine jab ?_ ?_
 ·rfl
 simp only [go_sem, gg136, ht2, faA2, Nat.reduceLeDiff]
 refine jae ?_
 refine ⟨rfl, _, ?_, rfl, (hB5.grow hg5).put (by decide) (nbl rfl), put2 (hB5.grow hg5).blk (hC5.grow hg5 hB5.n1), (hk.trans (Kept.of hg5)).trans (Kept.put _ _ _ _ _)⟩
 simp only [go_sem, Tryz.results97]
end
noncomputable section
variable {X : XT}
theorem shl_u (m y r : Nat) (hy : y ≤ 64) (hr : r = m * 2 ^ y) (h : r < 18446744073709551616) : jaH true .u64 (.ofNat m) (.ofNat y) = some (.int .u64 (.ofNat r)) := by
 unfold jaH
 try simp only [jbH, show Nat.ble y 64 = true from rzP hy]
 rw [show Nat.mul m (Nat.pow 2 y) = r from hr.symm, qu64 r h]
theorem shl_i (m y r : Nat) (hy : y ≤ 64) (hr : r = m * 2 ^ y) (h : r < 9223372036854775808) : jaH true .i64 (.ofNat m) (.ofNat y) = some (.int .i64 (.ofNat r)) := by
 unfold jaH
 try simp only [jbH, show Nat.ble y 64 = true from rzP hy]
 rw [show Nat.mul m (Nat.pow 2 y) = r from hr.symm, q64 r h]
theorem jkC (a b r : Nat) (hr : r = a ||| b) (ha : a < 18446744073709551616) (hb : b < 18446744073709551616) : jbm Nat.lor .u64 .u64 (.ofNat a) (.ofNat b) = some (.int .u64 (.ofNat r)) := by
 have h1 : Nat.blt a 18446744073709551616 = true := by simpa using ha
 have h2 : Nat.blt b 18446744073709551616 = true := by simpa using hb
 have h3 : r < 18446744073709551616 := by rw [hr]; exact Nat.or_lt_two_pow (n := 64) ha hb
 unfold jbm
 try simp only [decide_true, jbH, h1, h2]
 rw [show Nat.lor a b = r from hr.symm, qu64 r h3]
theorem lor_i (a b r : Nat) (hr : r = a ||| b) (ha : a < 9223372036854775808) (hb : b < 9223372036854775808) : jbm Nat.lor .i64 .i64 (.ofNat a) (.ofNat b) = some (.int .i64 (.ofNat r)) := by
 have h1 : Nat.blt a 18446744073709551616 = true := by
  have : a < 18446744073709551616 := by omega
  simpa using this
 have h2 : Nat.blt b 18446744073709551616 = true := by
  have : b < 18446744073709551616 := by omega
  simpa using this
 have h3 : r < 9223372036854775808 := by rw [hr]; exact Nat.or_lt_two_pow (n := 63) ha hb
 unfold jbm
 try simp only [decide_true, jbH, h1, h2]
 rw [show Nat.lor a b = r from hr.symm, q64 r h3]
theorem jf5 (a b i : Nat) (h : b < 2 ^ i) : a * 2 ^ i ||| b = a * 2 ^ i + b := by
 rw [Nat.mul_comm]; exact (Nat.two_pow_add_eq_or_of_lt h a).symm
set_option maxHeartbeats 4000000 in
theorem jjB {g tag n r : Nat} {μ : Mem} (hg : 20 ≤ g) (ht : tag < 8) (hn : n < 1000000000) (hr : r = n * 8 + tag) : aFun pZ (jai pZ X S0 g) 61 [.int .u64 (.ofNat tag), .int .i64 (.ofNat n)] μ = some (.int .u64 (.ofNat r), μ) := by
 obtain ⟨k, rfl⟩ := gle hg
 refine jau ?_
 obtain ⟨n8, hn8⟩ := exq (n * 8)
 have e1 : jaH true .u64 (.ofNat n) 3 = some (.int .u64 (.ofNat n8)) := shl_u n 3 n8 (by decide) hn8 (by omega)
 have e2 : jbm Nat.lor .u64 .u64 (.ofNat n8) (.ofNat tag) = some (.int .u64 (.ofNat r)) := jkC n8 tag r (by rw [hn8, hr]; exact (jf5 n tag 3 ht).symm) (by omega) (by omega)
 have e0 := qu64 n (by omega)
 refine jac Tryz.func61 rfl rfl (nbl rfl) ?_
 simp only [go_sem, Tryz.ntmps61]
 refine jaf ?_
 refine jab ?_ ?_
 ·rfl
 simp only [go_sem]
 refine jaf ?_
 refine jab ?_ ?_
 ·rfl
 simp only [go_sem, cviW, e0, e1, e2]
 exact jae ⟨rfl, _, by simp only [go_sem, Tryz.results61], rfl, rfl⟩
set_option maxHeartbeats 4000000 in
theorem jju {g n : Nat} {μ : Mem} (hg : 40 ≤ g) (hn : n < 1000000000) : aFun pZ (jai pZ X S0 g) 100 [.int .i64 (.ofNat n)] μ = some (.int .u64 (.ofNat (jaI n)), μ) := by
 obtain ⟨k, rfl⟩ := gle hg
 refine jau ?_
 have hm : ∀ g, 20 ≤ g → aFun pZ (jai pZ X S0 g) 61 [.int .u64 1, .int .i64 (.ofNat n)] μ = some (.int .u64 (.ofNat (jaI n)), μ) := fun g hg => jjB (tag := 1) hg (by decide) hn (by unfold jaI; omega)
 refine jac Tryz.func100 rfl rfl (nbl rfl) ?_
 simp only [go_sem, Tryz.ntmps100]
 refine jaf ?_
 refine jab ?_ ?_
 ·rfl
 simp only [go_sem]
 refine jaf ?_
 refine jab ?_ ?_
 ·rfl
 simp only [go_sem, gg61, hm, Nat.reduceLeDiff]
 exact jae ⟨rfl, _, by simp only [go_sem, Tryz.results100], rfl, rfl⟩
set_option maxHeartbeats 4000000 in
theorem jkf {g : Nat} {μ : Mem} (hg : 40 ≤ g) : aFun pZ (jai pZ X S0 g) 50 [.int .i64 5] μ = some (.int .u64 45, μ) := by
 obtain ⟨k, rfl⟩ := gle hg
 refine jau ?_
 have hm : ∀ g, 20 ≤ g → aFun pZ (jai pZ X S0 g) 61 [.int .u64 5, .int .i64 5] μ = some (.int .u64 45, μ) := fun g hg => jjB (tag := 5) (n := 5) (r := 45) hg (by decide) (by decide) rfl
 refine jac Tryz.func50 rfl rfl (nbl rfl) ?_
 simp only [go_sem, Tryz.ntmps50]
 refine jaf ?_
 refine jab ?_ ?_
 ·rfl
 simp only [go_sem]
 refine jaf ?_
 refine jab ?_ ?_
 ·rfl
 simp only [go_sem, gg61, hm, Nat.reduceLeDiff]
 exact jae ⟨rfl, _, by simp only [go_sem, Tryz.results50], rfl, rfl⟩
set_option maxHeartbeats 4000000 in
theorem raw_eq {g kd : Nat} {μ : Mem} (hg : 20 ≤ g) (h1 : 16 ≤ kd) (h2 : kd < 32) : aFun pZ (jai pZ X S0 g) 88 [.int .i64 (.ofNat kd)] μ = some (.bool true, μ) := by
 obtain ⟨k, rfl⟩ := gle hg
 refine jau ?_
 have w1 : ilt (.ofNat kd) 16 = false := dF (jap kd 16) (by omega)
 have w2 : ilt (.ofNat kd) 32 = true := dT (jap kd 32) h2
 refine jac Tryz.func88 rfl rfl (nbl rfl) ?_
 simp only [go_sem, Tryz.ntmps88]
 refine jaf ?_
 refine jab ?_ ?_
 ·rfl
 simp only [go_sem]
 refine jaf ?_
 refine jaa rfl ?_
 repeat (refine jaj rfl ?_; (try simp only [go_sem, w1, w2]); fail_if_success refine stk ?_)
 exact jae ⟨rfl, _, by simp only [go_sem, Tryz.results88], rfl, rfl⟩
theorem bxH (x y z : Value) : aBox 94 (.agg #[x, y, z]) = some (.cells 3 94 #[x, y, z] .e 0 0 false false, fun id => .pointer (some ⟨id, 0, none⟩)) := rfl
theorem faD1 (ρ : Operand → Value) (x : Operand) : jaL pZ ρ 94 x 1 = (match ρ x with | .pointer (some a) => some (.pointer (some (a.add 1))) | _ => none) := jax (ft := 3) (off := 1) Tryz.underlying94 rfl i3 rfl ρ x
set_option maxHeartbeats 4000000 in
theorem jhJ {g kd n r : Nat} {μ : Mem} (hg : 20 ≤ g) (h1 : kd < 32) (hn : n < 1000000) (hr : r = headW kd 0 n) : EndsF (aFun pZ (jai pZ X S0 g) 99 [.agg #[.int .i64 (.ofNat kd), .int .i64 0, .int .i64 (.ofNat n)]] μ) fun v μ' => v = .int .u64 (.ofNat r) ∧ μ' = ⟨μ.obs.set μ.next (.cells 3 94 #[.int .i64 (.ofNat kd), .int .i64 0, .int .i64 (.ofNat n)] .e 0 0 false false), μ.next + 1⟩ := by
 obtain ⟨k, rfl⟩ := gle hg
 obtain ⟨a1, ha1⟩ := exq (n * 256)
 obtain ⟨a2, ha2⟩ := exq (n * 256 + kd)
 obtain ⟨a3, ha3⟩ := exq (a2 * 8)
 have hcl : ∀ p, p < 3 → ∀ x, jad ⟨μ.obs.set μ.next (.cells 3 94 #[.int .i64 (.ofNat kd), .int .i64 0, .int .i64 (.ofNat n)] .e 0 0 false false), x⟩ μ.next p = some (cellAt #[.int .i64 (.ofNat kd), .int .i64 0, .int .i64 (.ofNat n)] .e p) := fun p hp x => jbw (by show jbk (T.get _ μ.next) = _; rw [T.get_set, if_pos rfl]; rfl) hp
 have c0 : ∀ x, jad ⟨μ.obs.set μ.next (.cells 3 94 #[.int .i64 (.ofNat kd), .int .i64 0, .int .i64 (.ofNat n)] .e 0 0 false false), x⟩ μ.next 0 = some (.int .i64 (.ofNat kd)) := fun x => (hcl 0 (by decide) x).trans rfl
 have c1 : ∀ x, jad ⟨μ.obs.set μ.next (.cells 3 94 #[.int .i64 (.ofNat kd), .int .i64 0, .int .i64 (.ofNat n)] .e 0 0 false false), x⟩ μ.next 1 = some (.int .i64 0) := fun x => (hcl 1 (by decide) x).trans rfl
 have c2 : ∀ x, jad ⟨μ.obs.set μ.next (.cells 3 94 #[.int .i64 (.ofNat kd), .int .i64 0, .int .i64 (.ofNat n)] .e 0 0 false false), x⟩ μ.next 2 = some (.int .i64 (.ofNat n)) := fun x => (hcl 2 (by decide) x).trans rfl
 have e1 : jaH true .i64 (.ofNat n) 8 = some (.int .i64 (.ofNat a1)) := shl_i n 8 a1 (by decide) ha1 (by omega)
 have e2 : jaH true .i64 0 5 = some (.int .i64 0) := shl_i 0 5 0 (by decide) rfl (by decide)
 have e3 : jbm Nat.lor .i64 .i64 (.ofNat a1) 0 = some (.int .i64 (.ofNat a1)) := lor_i a1 0 a1 (Nat.or_zero a1).symm (by omega) (by decide)
 have e4 : jbm Nat.lor .i64 .i64 (.ofNat a1) (.ofNat kd) = some (.int .i64 (.ofNat a2)) := lor_i a1 kd a2 (by rw [ha1, ha2]; exact (jf5 n kd 8 (by omega)).symm) (by omega) (by omega)
 have e5 := qu64 a2 (by omega)
 have e6 : jaH true .u64 (.ofNat a2) 3 = some (.int .u64 (.ofNat a3)) := shl_u a2 3 a3 (by decide) ha3 (by omega)
 have e7 : jbm Nat.lor .u64 .u64 (.ofNat a3) 6 = some (.int .u64 (.ofNat r)) := jkC a3 6 r (by rw [hr, ha3]; unfold headW; rw [(by omega : (n * 256 + 0 * 32 + kd) = a2)]; exact (jf5 a2 6 3 (by decide)).symm) (by omega) (by decide)
 refine jac Tryz.func99 rfl rfl (nbl rfl) ?_
 simp only [go_sem, Tryz.ntmps99]
 refine jaf ?_
 refine jab ?_ ?_
 ·rfl
 simp only [go_sem, bxH]
 refine jaf ?_
 refine jab ?_ ?_
 ·rfl
 simp only [go_sem, faD0, faD1, faD2, ld3, c0, c1, c2, e1, e2, e3, e4, e5, e6, e7, cviW, Nat.add_zero]
 exact jae ⟨rfl, _, by simp only [go_sem, Tryz.results99], rfl, rfl⟩
end
noncomputable section
variable {X : XT}
theorem bdH2 (ρ : Operand → Value) (a c : Operand) (o1 : one (ρ a) = true) (o3 : one (ρ c) = true) : jbF pZ ρ 94 #[(0, a), (2, c)] = some (.agg #[ρ a, .int .i64 0, ρ c]) := by
 refine jba (pl := [(0, 1), (1, 1), (2, 1)]) zH Tryz.underlying94 (by kernel_rfl) ?_
 show jcC _ [.int .i64 0, .int .i64 0, .int .i64 0] [(0, ρ a), (2, ρ c)] = some [ρ a, .int .i64 0, ρ c]
 rw [jbK (off := 0) rfl o1 (by simp), jbK (off := 2) rfl o3 (by simp)]
 rfl
def OnlyH (μ μ' : Mem) (wb : Nat) : Prop := μ'.next = μ.next ∧ ∀ i, i ≠ wb → μ'.obs.get i = μ.obs.get i
theorem OnlyH.refl (μ : Mem) (wb : Nat) : OnlyH μ μ wb := ⟨rfl, fun _ _ => rfl⟩
theorem OnlyH.trans {a b c : Mem} {wb : Nat} (h : OnlyH a b wb) (g : OnlyH b c wb) : OnlyH a c wb := ⟨g.1.trans h.1, fun i hi => (g.2 i hi).trans (h.2 i hi)⟩
theorem OnlyH.cell {μ μ' : Mem} {wb i p : Nat} (h : OnlyH μ μ' wb) (hi : i ≠ wb) : jad μ' i p = jad μ i p := by unfold jad; rw [h.2 i hi]
theorem AB.only {μ μ' : Mem} {ap wb lb N L : Nat} {ws ws' : Nat → Nat} {ln : Nat → Bool} (h : AB μ ap wb lb N L ws ln) (g : OnlyH μ μ' wb) (hA : Arena μ' ap wb N ws') : AB μ' ap wb lb N L ws' ln :=
 ⟨hA, h.lines.keep (g.cell h.arena.apart) (g.2 lb (Ne.symm h.d2)), by unfold Blk; rw [g.2 ap h.arena.apart]; exact h.blk, by rw [g.1]; exact h.n1, by rw [g.1]; exact h.n2, by rw [g.1]; exact h.n3, h.d1, h.d2, h.N1, h.L1⟩
theorem AC.only {μ μ' : Mem} {ap wb sf st gf gt nx : Nat} (h : AC μ ap sf st gf gt nx) (g : OnlyH μ μ' wb) (hw : ap ≠ wb) : AC μ' ap sf st gf gt nx :=
 ⟨(g.cell hw).trans h.c2, (g.cell hw).trans h.c3, (g.cell hw).trans h.c4, (g.cell hw).trans h.c5, (g.cell hw).trans h.c8⟩
def zeros (fw : Nat) (ws : Nat → Nat) (q j : Nat) : Nat → Nat := fun k => if q < k ∧ k ≤ q + j then fw else ws k
theorem jfW (fw : Nat) (ws : Nat → Nat) (q : Nat) : zeros fw ws q 0 = ws := by funext k; unfold zeros; rw [if_neg (by omega)]
theorem jj3 (fw : Nat) (ws : Nat → Nat) (q j : Nat) : put (zeros fw ws q j) (q + 1 + j) fw = zeros fw ws q (j + 1) := by
 funext k; unfold put zeros
 by_cases h : k = q + 1 + j
 ·rw [if_pos h, if_pos (by omega)]
 ·rw [if_neg h]
  by_cases h2 : q < k ∧ k ≤ q + j
  ·rw [if_pos h2, if_pos (by omega)]
  ·rw [if_neg h2, if_neg (by omega)]
set_option maxHeartbeats 4000000 in
theorem jhD {hp ap wb N q n fw : Nat} {ws : Nat → Nat} {μ0 : Mem} (hH : jad μ0 hp 0 = some (.pointer (some ⟨ap, 0, none⟩))) (hw : hp ≠ wb) (hq : q + n < N) (hN : N < 1000000) :
  ∀ (e m j : Nat) (tm : T Value) (μ : Mem), j + m = n → OnlyH μ0 μ wb → Arena μ ap wb N (zeros fw ws q j) → jah tm 0 = .pointer (some ⟨hp, 0, none⟩) → jah tm 8 = .int .i64 (.ofNat q) → jah tm 10 = .int .u64 (.ofNat fw) → jah tm 51 = .int .i64 (.ofNat n) → jah tm 52 = .int .i64 (.ofNat j) →
   LpC X (e + m + 60) Tryz.f58 0 68 tm μ fun x r μ' => x = .exit 0 ∧ OnlyH μ0 μ' wb ∧ Arena μ' ap wb N (zeros fw ws q n) ∧ ∃ tm', r = ⟨68, tm', [], none⟩ ∧ jah tm' 8 = .int .i64 (.ofNat q) := by
 intro e m
 induction m with
 | zero =>
   intro j tm μ hj hO hA r0 r8 r10 r51 r52
   obtain rfl : j = n := hj
   refine jam ?_
   refine jaf ?_
   refine jab ?_ ?_
   ·rfl
   simp only [go_sem, r52, r51, jap, Nat.lt_irrefl]
   refine jaf ?_
   refine jan ?_ ?_
   ·simp only [go_sem]
   refine jcZ ?_
   simp only [jcp]
   exact ⟨trivial, hO, hA, _, rfl, by simp only [go_sem, r8]⟩
 | succ m ih =>
   intro j tm μ hj hO hA r0 r8 r10 r51 r52
   have hlt : j < n := by omega
   have hH' := (hO.cell (p := 0) hw).trans hH
   obtain ⟨q1, hq1⟩ := exq (q + 1)
   obtain ⟨qj, hqj⟩ := exq (q1 + j)
   have a1 : jak .i64 (Int.add (.ofNat q) 1) = .ofNat q1 := hq1 ▸ jaT q 1 (by omega)
   have a2 : jak .i64 (Int.add (.ofNat q1) (.ofNat j)) = .ofNat qj := hqj ▸ jaT q1 j (by omega)
   have a3 : jak .i64 (Int.add (.ofNat j) 1) = .ofNat (j + 1) := jaT j 1 (by omega)
   obtain ⟨v1, μ1, hS, hv1, hA1, hn1, hk1⟩ := jfD (X := X) (S := S0) (k := e + (m + 1) + 33) (w := fw) hA (q := qj) (by omega)
   subst hv1
   have hS : aFun pZ (jai pZ X S0 (e + (m + 1) + 53)) 98 [.pointer (some ⟨ap, 0, none⟩),   .int .i64 (.ofNat qj), .int .u64 (.ofNat fw)] μ = some (.int .i64 0, μ1) := hS
   rw [show qj = q + 1 + j from by omega, jj3] at hA1
   refine jam ?_
   refine jaf ?_
   refine jab ?_ ?_
   ·rfl
   simp only [go_sem, r52, r51, jap, hlt]
   refine jaf ?_
   refine jaG ?_ ?_
   ·simp only [go_sem]
   refine jaD ?_
   simp only [jag]
   refine jaf ?_
   refine jaR ?_
   refine jaf ?_
   refine jab ?_ ?_
   ·rfl
   simp only [go_sem, r52]
   refine jab ?_ ?_
   ·rfl
   simp only [go_sem, r0, r8, r10, faH0, ldA, hH', a1, a2, gg98, hS]
   try simp only [jbI, jag]
   refine jab ?_ ?_
   ·rfl
   simp only [go_sem, r52, a3]
   rw [(by omega : e + (m + 1) + 59 = e + m + 60)]
   refine ih (j + 1) _ _ (by omega) (hO.trans ⟨hn1, hk1⟩) hA1 ?_ ?_ ?_ ?_ ?_ <;> simp only [go_sem, r0, r8, r10, r51]
structure HS (μ : Mem) (hp ap wb lb N L : Nat) (ws : Nat → Nat) (ln : Nat → Bool) : Prop where
 head : jad μ hp 0 = some (.pointer (some ⟨ap, 0, none⟩))
 ab : AB μ ap wb lb N L ws ln
 hn : hp < μ.next
 ha : hp ≠ ap
 hw : hp ≠ wb
 hl : hp ≠ lb
def Keeps (μ μ' : Mem) (ap wb lb : Nat) : Prop := μ.next ≤ μ'.next ∧ ∀ i, i < μ.next → i ≠ ap → i ≠ wb → i ≠ lb → μ'.obs.get i = μ.obs.get i
theorem Keeps.trans {a b c : Mem} {ap wb lb : Nat} (h : Keeps a b ap wb lb) (g : Keeps b c ap wb lb) : Keeps a c ap wb lb := ⟨rzS h.1 g.1, fun i hi h1 h2 h3 => (g.2 i (rzO hi h.1) h1 h2 h3).trans (h.2 i hi h1 h2 h3)⟩
theorem Keeps.grow {a b : Mem} {ap wb lb : Nat} (h : Grow a b) : Keeps a b ap wb lb := ⟨h.1, fun i hi _ _ _ => h.2 i hi⟩
theorem Keeps.kept {a b : Mem} {ap wb lb : Nat} (h : Kept a b ap lb) : Keeps a b ap wb lb := ⟨h.1, fun i hi h1 _ h3 => h.2 i hi h1 h3⟩
theorem Keeps.only {a b : Mem} {ap wb lb : Nat} (h : OnlyH a b wb) : Keeps a b ap wb lb := ⟨Nat.le_of_eq h.1.symm, fun i hi _ h2 _ => h.2 i h2⟩
theorem HS.keeps {μ μ' : Mem} {hp ap wb lb N L : Nat} {ws ws' : Nat → Nat} {ln ln' : Nat → Bool} (h : HS μ hp ap wb lb N L ws ln) (g : Keeps μ μ' ap wb lb) (hB : AB μ' ap wb lb N L ws' ln') : HS μ' hp ap wb lb N L ws' ln' :=
 ⟨by rw [← h.head]; unfold jad; rw [g.2 hp h.hn h.ha h.hw h.hl], hB, rzO h.hn g.1, h.ha, h.hw, h.hl⟩
theorem HS.grow {μ μ' : Mem} {hp ap wb lb N L : Nat} {ws : Nat → Nat} {ln : Nat → Bool} (h : HS μ hp ap wb lb N L ws ln) (g : Grow μ μ') : HS μ' hp ap wb lb N L ws ln := h.keeps (Keeps.grow g) (h.ab.grow g)
theorem HS.at {μ : Mem} {hp ap wb lb N L : Nat} {ws : Nat → Nat} {ln : Nat → Bool} (h : HS μ hp ap wb lb N L ws ln) : HeapAt μ hp ap wb N ws := ⟨h.head, h.ab.arena, h.hn, h.ab.n1, h.ab.n2, h.hw⟩
def jkI (kd : Nat) : Nat := if 16 ≤ kd then 0 else 45
theorem rawb_eq {g kd : Nat} {μ : Mem} (hg : 20 ≤ g) (h2 : kd < 32) : aFun pZ (jai pZ X S0 g) 88 [.int .i64 (.ofNat kd)] μ = some (.bool (decide (16 ≤ kd)), μ) := by
 by_cases h1 : 16 ≤ kd
 ·rw [raw_eq hg h1 h2, rzU h1]
 obtain ⟨k, rfl⟩ := gle hg
 refine jau ?_
 have w1 : ilt (.ofNat kd) 16 = true := dT (jap kd 16) (by omega)
 rw [rzV h1]
 refine jac Tryz.func88 rfl rfl (nbl rfl) ?_
 simp only [go_sem, Tryz.ntmps88]
 repeat (refine jaz rfl ?_; (try simp only [go_sem, w1]); fail_if_success refine stk ?_)
 exact jae ⟨rfl, _, by simp only [go_sem, Tryz.results88], rfl, rfl⟩
theorem befM : bef [0, 1, 3, 7, 0, 0, 0, 96, 224, 511] 8 3 = false := by kernel_rfl
set_option maxHeartbeats 4000000 in
theorem heap_make {g hp ap wb lb N L q kd n sf' st' gf' gt' nx' : Nat} {ws : Nat → Nat} {ln ln' : Nat → Bool} {μ μ1 : Mem} (hg : 400 ≤ g) (hH : HS μ hp ap wb lb N L ws ln) (h2 : kd < 32) (hn : n ≤ 240) (hq : q + n < N)
  (hal : aFun pZ (jai pZ X S0 (g - 4)) 97 [.pointer (some ⟨ap, 0, none⟩), .int .i64 (.ofNat (n + 1))] μ = some (.tuple #[.int .i64 (.ofNat q), .bool true], μ1)) (hB1 : AB μ1 ap wb lb N L ws ln') (hC1 : AC μ1 ap sf' st' gf' gt' nx') (hK1 : Kept μ μ1 ap lb) :
  EndsF (aFun pZ (jai pZ X S0 g) 58 [.pointer (some ⟨hp, 0, none⟩), .int .i64 (.ofNat kd), .int .i64 (.ofNat n)] μ) fun v μ' => v = .tuple #[.int .u64 (.ofNat (jaI q)), .bool true] ∧ HS μ' hp ap wb lb N L (zeros (jkI kd) (put ws q (headW kd 0 n)) q n) ln' ∧ AC μ' ap sf' st' gf' gt' nx' ∧ Keeps μ μ' ap wb lb := by
 obtain ⟨k, rfl⟩ := gle hg
 have hN := hH.ab.N1
 obtain ⟨n1, hn1⟩ := exq (n + 1)
 rw [← hn1, show k + 400 - 4 = k + 396 from rfl] at hal
 have a0 : jak .i64 (Int.add (.ofNat n) 1) = .ofNat n1 := hn1 ▸ jaT n 1 (by omega)
 have z1 : ilt (.ofNat kd) 0 = false := rfl
 have z2 : ilt (.ofNat kd) 32 = true := dT (jap kd 32) h2
 have z3 : ilt (.ofNat n) 0 = false := rfl
 have z4 : ilt 240 (.ofNat n) = false := dF (jap 240 n) (by omega)
 have hd0 := hH.head
 have hH1 := hH.keeps (Keeps.kept hK1) hB1
 have hd1 := hH1.head
 obtain ⟨hwd, hhw⟩ := exq (headW kd 0 n)
 obtain ⟨v2, μ2, hwe, hv2, hm2⟩ := jhJ (X := X) (g := k + 394) (kd := kd) (n := n) (r := hwd) (μ := ⟨μ1.obs, μ1.next + 10⟩) (by omega) h2 (by omega) hhw
 subst hv2
 have hg2 : Grow μ1 μ2 := by
  rw [hm2]
  exact (jcu μ1 10).trans (jbc ⟨μ1.obs, μ1.next + 10⟩ _)
 have hH2 := hH1.grow hg2
 have hC2 := hC1.grow hg2 hB1.n1
 have hd1' : ∀ x, jad ⟨μ1.obs, x⟩ hp 0 = some (.pointer (some ⟨ap, 0, none⟩)) := fun x => hd1
 have hd2 := hH2.head
 obtain ⟨v3, μ3, hS, hv3, hA3, hn3, hk3⟩ := jfD (X := X) (S := S0) (k := k + 374) (w := hwd) hH2.ab.arena (q := q) (by omega)
 subst hv3
 have hS : aFun pZ (jai pZ X S0 (k + 394)) 98 [.pointer (some ⟨ap, 0, none⟩), .int .i64 (.ofNat q), .int .u64 (.ofNat hwd)] μ2 = some (.int .i64 0, μ3) := hS
 have hO3 : OnlyH μ2 μ3 wb := ⟨hn3, hk3⟩
 have hB3 := hH2.ab.only hO3 hA3
 have hC3 := hC2.only hO3 hH2.ab.arena.apart
 have hH3 := hH2.keeps (Keeps.only hO3) hB3
 have hraw : ∀ g (μ : Mem), 20 ≤ g → aFun pZ (jai pZ X S0 g) 88 [.int .i64 (.ofNat kd)] μ = some (.bool (decide (16 ≤ kd)), μ) := fun g μ hg => rawb_eq hg h2
 refine jac Tryz.func58 rfl rfl (nbl rfl) ?_
 simp only [go_sem, Tryz.ntmps58]
 refine jaf ?_
 refine jab ?_ ?_
 ·rfl
 simp only [go_sem]
 refine jaf ?_
 refine jaf ?_
 refine jaa rfl ?_
 repeat (refine jaj rfl ?_; (try simp only [go_sem, z1, z2, z3, z4]); fail_if_success refine stk ?_)
 refine jan ?_ ?_
 ·simp only [go_sem]
 refine jaD ?_
 simp only [jag]
 refine jaf ?_
 refine jab ?_ ?_
 ·rfl
 simp only [go_sem, faH0, ldA, hd0, a0, gg97, hal]
 refine jaf ?_
 refine jaf ?_
 refine jab ?_ ?_
 ·rfl
 simp only [go_sem]
 refine jan ?_ ?_
 ·simp only [go_sem]
 refine jaD ?_
 simp only [jag]
 refine jaf ?_
 refine jaY (n := 10) (ms := [0, 1, 3, 7, 0, 0, 0, 96, 224, 511]) (ord := [5, 6, 7, 8, 0, 1, 2, 3, 4, 9]) (ds := ?_) ?_ ?_ ?_ ?_ ?_ ?_
 rotate_left
 ·kernel_rfl
 ·kernel_rfl
 ·kernel_rfl
 ·rfl
 ·rfl
 try simp only [dRun, wanted, jaV, heavy, aP, jbg, aR, aT, jb2, jbz, aev, jaq, jaN, jbX, jbj, faH0, ldA, hd1', hd2, bdH2, one, Addr.add, Nat.add_zero, rzT, befM, jaQ, gg99, gg98, hwe, hS, jaK, Nat.reduceLT, if_true, jag, Nat.reduceEqDiff, if_false, reduceIte, decide_true, List.map_cons, List.map_nil, List.nil_append, List.append_nil]
 refine jaf ?_
 refine jab ?_ ?_
 ·rfl
 simp only [go_sem, gg50, jkf, Nat.reduceLeDiff]
 refine jaf ?_
 by_cases h16 : 16 ≤ kd
 ·have hf : jkI kd = 0 := if_pos h16
  rw [hf]
  have hdd : decide (16 ≤ kd) = true := rzU h16
  refine jaf ?_
  refine jab ?_ ?_
  ·rfl
  simp only [go_sem, gg88, hraw, hdd, Nat.reduceLeDiff]
  refine jaG ?_ ?_
  ·simp only [go_sem]
  refine jab ?_ ?_
  ·rfl
  simp only [go_sem]
  refine jaf ?_
  refine jaf ?_
  refine jab ?_ ?_
  ·rfl
  simp only [go_sem]
  refine jaR ?_
  rw [(by omega : k + 390 = (k + 330 - n) + n + 60)]
  refine rzM (jhD (q := q) (n := n) (fw := 0) (ws := put ws q hwd) hH3.head hH3.hw hq hN (k + 330 - n) n 0 _ μ3 (by omega) (OnlyH.refl _ _) (by rw [jfW]; exact hB3.arena) ?_ ?_ ?_ ?_ ?_) ?_
  ·try simp only [go_sem] <;> rfl
  ·try simp only [go_sem] <;> rfl
  ·try simp only [go_sem] <;> rfl
  ·try simp only [go_sem] <;> rfl
  ·try simp only [go_sem]; rfl
  rintro x' r' μ' ⟨rfl, hO4, hA4, tm', rfl, g8⟩
  try simp only [go_sem]
  have hB4 := hB3.only hO4 hA4
  have hC4 := hC3.only hO4 hB3.arena.apart
  have hpl : ∀ g, 40 ≤ g → aFun pZ (jai pZ X S0 g) 100 [.int .i64 (.ofNat q)] μ' = some (.int .u64 (.ofNat (jaI q)), μ') := fun g hg => jju hg (by omega)
  refine jaf ?_
  refine jab ?_ ?_
  ·rfl
  simp only [go_sem, g8, gg100, hpl, Nat.reduceLeDiff]
  exact jae ⟨rfl, _, by simp only [go_sem, Tryz.results58], rfl, hH3.keeps (Keeps.only hO4) (hhw ▸ hB4), hC4, (((Keeps.kept hK1).trans (Keeps.grow hg2)).trans (Keeps.only hO3)).trans (Keeps.only hO4)⟩
 ·have hf : jkI kd = 45 := if_neg h16
  rw [hf]
  have hdd : decide (16 ≤ kd) = false := rzV h16
  refine jaf ?_
  refine jab ?_ ?_
  ·rfl
  simp only [go_sem, gg88, hraw, hdd, Nat.reduceLeDiff]
  refine jan ?_ ?_
  ·simp only [go_sem]
  refine jaD ?_
  simp only [jag]
  refine jaf ?_
  refine jaf ?_
  refine jab ?_ ?_
  ·rfl
  simp only [go_sem]
  refine jaR ?_
  rw [(by omega : k + 390 = (k + 330 - n) + n + 60)]
  refine rzM (jhD (q := q) (n := n) (fw := 45) (ws := put ws q hwd) hH3.head hH3.hw hq hN (k + 330 - n) n 0 _ μ3 (by omega) (OnlyH.refl _ _) (by rw [jfW]; exact hB3.arena) ?_ ?_ ?_ ?_ ?_) ?_
  ·try simp only [go_sem] <;> rfl
  ·try simp only [go_sem] <;> rfl
  ·try simp only [go_sem] <;> rfl
  ·try simp only [go_sem] <;> rfl
  ·try simp only [go_sem]; rfl
  rintro x' r' μ' ⟨rfl, hO4, hA4, tm', rfl, g8⟩
  try simp only [go_sem]
  have hB4 := hB3.only hO4 hA4
  have hC4 := hC3.only hO4 hB3.arena.apart
  have hpl : ∀ g, 40 ≤ g → aFun pZ (jai pZ X S0 g) 100 [.int .i64 (.ofNat q)] μ' = some (.int .u64 (.ofNat (jaI q)), μ') := fun g hg => jju hg (by omega)
  refine jaf ?_
  refine jab ?_ ?_
  ·rfl
  simp only [go_sem, g8, gg100, hpl, Nat.reduceLeDiff]
  exact jae ⟨rfl, _, by simp only [go_sem, Tryz.results58], rfl, hH3.keeps (Keeps.only hO4) (hhw ▸ hB4), hC4, (((Keeps.kept hK1).trans (Keeps.grow hg2)).trans (Keeps.only hO3)).trans (Keeps.only hO4)⟩
end
noncomputable section
variable {X : XT}
theorem iHp : pZ.info? 46 = some Tryz.t46 := by kernel_rfl
theorem faS0 (ρ : Operand → Value) (x : Operand) : jaL pZ ρ 67 x 0 = (match ρ x with | .pointer (some a) => some (.pointer (some (a.add 0))) | _ => none) := jax (ft := 46) (off := 0) Tryz.underlying67 rfl iHp rfl ρ x
theorem ldHp (μ : Mem) (i o : Nat) : jbZ pZ μ 46 (.pointer (some ⟨i, o, none⟩)) = jad μ i o := jbx Tryz.underlying46 rfl μ i o
theorem AB.setw {μ μ' : Mem} {ap wb lb N L : Nat} {ws ws' : Nat → Nat} {ln : Nat → Bool} (h : AB μ ap wb lb N L ws ln) (hA : Arena μ' ap wb N ws') (hle : μ.next ≤ μ'.next) (hk : ∀ j, j < μ.next → j ≠ wb → μ'.obs.get j = μ.obs.get j) : AB μ' ap wb lb N L ws' ln :=
 ⟨hA, h.lines.keep (by unfold jad; rw [hk ap h.n1 h.arena.apart]) (hk lb h.n3 (Ne.symm h.d2)), by unfold Blk; rw [hk ap h.n1 h.arena.apart]; exact h.blk, rzO h.n1 hle, rzO h.n2 hle, rzO h.n3 hle, h.d1, h.d2, h.N1, h.L1⟩
theorem AC.keeps {μ μ' : Mem} {ap sf st gf gt nx : Nat} (h : AC μ ap sf st gf gt nx) (g : μ'.obs.get ap = μ.obs.get ap) : AC μ' ap sf st gf gt nx := by
 have e : ∀ p, jad μ' ap p = jad μ ap p := fun p => by unfold jad; rw [g]
 exact ⟨(e _).trans h.c2, (e _).trans h.c3, (e _).trans h.c4, (e _).trans h.c5, (e _).trans h.c8⟩
theorem Keeps.of {μ μ' : Mem} {ap wb lb : Nat} (hle : μ.next ≤ μ'.next) (hk : ∀ j, j < μ.next → j ≠ wb → μ'.obs.get j = μ.obs.get j) : Keeps μ μ' ap wb lb := ⟨hle, fun i hi _ h2 _ => hk i hi h2⟩
theorem Keeps.cell {μ μ' : Mem} {ap wb lb i p : Nat} (h : Keeps μ μ' ap wb lb) (hi : i < μ.next) (h1 : i ≠ ap) (h2 : i ≠ wb) (h3 : i ≠ lb) : jad μ' i p = jad μ i p := by unfold jad; rw [h.2 i hi h1 h2 h3]
def wr (ws : Nat → Nat) (q : Nat) (f : Nat → Nat) (j : Nat) : Nat → Nat := fun k => if q < k ∧ k ≤ q + j then f (k - q - 1) else ws k
theorem wr_zero (ws : Nat → Nat) (q : Nat) (f : Nat → Nat) : wr ws q f 0 = ws := by funext k; unfold wr; rw [if_neg (by omega)]
theorem wr_succ (ws : Nat → Nat) (q : Nat) (f : Nat → Nat) (j : Nat) : put (wr ws q f j) (q + 1 + j) (f j) = wr ws q f (j + 1) := by
 funext k; unfold put wr
 by_cases h : k = q + 1 + j
 ·rw [if_pos h, if_pos (by omega), (by omega : k - q - 1 = j)]
 ·rw [if_neg h]
  by_cases h2 : q < k ∧ k ≤ q + j
  ·rw [if_pos h2, if_pos (by omega)]
  ·rw [if_neg h2, if_neg (by omega)]
set_option maxHeartbeats 4000000 in
theorem raw_loop {sp hp ap wb lb N L q kd n li c : Nat} {f : Nat → Nat} {ws : Nat → Nat} {ln : Nat → Bool} {μ0 : Mem} (hsp : jad μ0 sp 0 = some (.pointer (some ⟨hp, 0, none⟩))) (hsn : sp < μ0.next) (s1 : sp ≠ ap) (s2 : sp ≠ wb) (s3 : sp ≠ lb)
  (hli : ∀ k, k < n → jad μ0 li k = some (.int .u64 (.ofNat (f k)))) (hln : li < μ0.next) (l1 : li ≠ ap) (l2 : li ≠ wb) (l3 : li ≠ lb) (hq : q + n < N) (hw : ws q = headW kd 0 n) (hkd : kd < 32) :
  ∀ (e m j : Nat) (tm : T Value) (μ : Mem), j + m = n → HS μ hp ap wb lb N L (wr ws q f j) ln → Keeps μ0 μ ap wb lb → μ.obs.get ap = μ0.obs.get ap → jah tm 0 = .pointer (some ⟨sp, 0, none⟩) → jah tm 8 = .int .u64 (.ofNat (jaI q)) → jah tm 25 = .slice (some ⟨li, 0, none⟩) n c → jah tm 26 = .int .i64 (.ofNat n) → jah tm 27 = .int .i64 (.ofNat j) →
   LpC X (e + m + 100) Tryz.f22 0 42 tm μ fun x r μ' => x = .exit 0 ∧ HS μ' hp ap wb lb N L (wr ws q f n) ln ∧ Keeps μ0 μ' ap wb lb ∧ μ'.obs.get ap = μ0.obs.get ap ∧ ∃ tm', r = ⟨42, tm', [], none⟩ ∧ jah tm' 8 = .int .u64 (.ofNat (jaI q)) := by
 intro e m
 induction m with
 | zero =>
   intro j tm μ hj hH hK hap r0 r8 r25 r26 r27
   obtain rfl : j = n := hj
   refine jam ?_
   refine jaf ?_
   refine jab ?_ ?_
   ·rfl
   simp only [go_sem, r27, r26, jap, Nat.lt_irrefl]
   refine jaf ?_
   refine jan ?_ ?_
   ·simp only [go_sem]
   refine jcZ ?_
   simp only [jcp]
   exact ⟨trivial, hH, hK, hap, _, rfl, by simp only [go_sem, r8]⟩
 | succ m ih =>
   intro j tm μ hj hH hK hap r0 r8 r25 r26 r27
   have hlt : j < n := by omega
   have hsp' := (hK.cell (p := 0) hsn s1 s2 s3).trans hsp
   have hli' := (hK.cell (p := j) hln l1 l2 l3).trans (hli j hlt)
   have hia : ∀ ρ : Operand → Value, ∀ a b', ρ a = .slice (some ⟨li, 0, none⟩) n c → ρ b' = .int .i64 (.ofNat j) → jal pZ ρ 69 a b' = some (.pointer (some ⟨li, j, none⟩)) := fun ρ a b' g1 g2 => by
    rw [jaF (P := pZ) Tryz.underlying69 iW rfl g1 g2 hlt, rzT]
   have a3 : jak .i64 (Int.add (.ofNat j) 1) = .ofNat (j + 1) := jaT j 1 (by have := hH.ab.N1; omega)
   have hwq : wr ws q f j q = headW kd 0 n := by unfold wr; rw [if_neg (by omega)]; exact hw
   obtain ⟨v1, μ1, hS, hv1, hA1, hn1, hk1⟩ := heap_set (X := X) (k := e + (m + 1) + 13) (w := f j) (i := j) hH.at hq hH.ab.N1 hwq hkd (by decide) hlt
   subst hv1
   have hS : aFun pZ (jai pZ X S0 (e + (m + 1) + 93)) 59 [.pointer (some ⟨hp, 0, none⟩), .int .u64 (.ofNat (jaI q)), .int .i64 (.ofNat j), .int .u64 (.ofNat (f j))] μ = some (.int .i64 0, μ1) := hS
   rw [wr_succ] at hA1
   have hK1 : Keeps μ μ1 ap wb lb := Keeps.of hn1 hk1
   have hH1 := hH.keeps hK1 (hH.ab.setw hA1.arena hn1 hk1)
   refine jam ?_
   refine jaf ?_
   refine jab ?_ ?_
   ·rfl
   simp only [go_sem, r27, r26, jap, hlt]
   refine jaf ?_
   refine jaG ?_ ?_
   ·simp only [go_sem]
   refine jaD ?_
   simp only [jag]
   refine jaf ?_
   refine jaR ?_
   refine jaf ?_
   refine jab ?_ ?_
   ·rfl
   simp only [go_sem, r25, r27, hia, ldW, hli']
   refine jab ?_ ?_
   ·rfl
   simp only [go_sem, r0, r8, faS0, ldHp, hsp', gg59, hS]
   try simp only [jbI, jag]
   refine jab ?_ ?_
   ·rfl
   simp only [go_sem, r27, a3]
   rw [(by omega : e + (m + 1) + 99 = e + m + 100)]
   refine ih (j + 1) _ _ (by omega) hH1 (hK.trans hK1) ((hk1 ap hH.ab.n1 hH.ab.arena.apart).trans hap) ?_ ?_ ?_ ?_ ?_ <;> simp only [go_sem, r0, r8, r25, r26]
set_option maxHeartbeats 4000000 in
theorem raw_ends {g sp hp ap wb lb N L q kd n li c sf' st' gf' gt' nx' : Nat} {f : Nat → Nat} {ws : Nat → Nat} {ln ln' : Nat → Bool} {μ μ1 : Mem} (hg : 500 ≤ g) (hsp : jad μ sp 0 = some (.pointer (some ⟨hp, 0, none⟩))) (hsn : sp < μ.next) (s1 : sp ≠ ap) (s2 : sp ≠ wb) (s3 : sp ≠ lb)
  (hli : ∀ k, k < n → jad μ li k = some (.int .u64 (.ofNat (f k)))) (hln : li < μ.next) (l1 : li ≠ ap) (l2 : li ≠ wb) (l3 : li ≠ lb) (hH : HS μ hp ap wb lb N L ws ln) (h2 : kd < 32) (hn : n ≤ 240) (hq : q + n < N)
  (hal : aFun pZ (jai pZ X S0 (g - 7)) 97 [.pointer (some ⟨ap, 0, none⟩), .int .i64 (.ofNat (n + 1))] μ = some (.tuple #[.int .i64 (.ofNat q), .bool true], μ1)) (hB1 : AB μ1 ap wb lb N L ws ln') (hC1 : AC μ1 ap sf' st' gf' gt' nx') (hK1 : Kept μ μ1 ap lb) :
  EndsF (aFun pZ (jai pZ X S0 g) 22 [.pointer (some ⟨sp, 0, none⟩), .int .i64 (.ofNat kd), .slice (some ⟨li, 0, none⟩) n c] μ) fun v μ' => v = .tuple #[.int .u64 (.ofNat (jaI q)), .bool true] ∧ HS μ' hp ap wb lb N L (wr (zeros (jkI kd) (put ws q (headW kd 0 n)) q n) q f n) ln' ∧ AC μ' ap sf' st' gf' gt' nx' ∧ Keeps μ μ' ap wb lb := by
 obtain ⟨k, rfl⟩ := gle hg
 obtain ⟨v2, μ2, hmk, hv2, hH2, hC2, hK2⟩ := heap_make (X := X) (g := k + 497) (by omega) hH h2 hn hq hal hB1 hC1 hK1
 subst hv2
 have hsp2 := (hK2.cell (p := 0) hsn s1 s2 s3).trans hsp
 have hli2 : ∀ k, k < n → jad μ2 li k = some (.int .u64 (.ofNat (f k))) := fun k hk => (hK2.cell hln l1 l2 l3).trans (hli k hk)
 refine jac Tryz.func22 rfl rfl (nbl rfl) ?_
 simp only [go_sem, Tryz.ntmps22]
 refine jaf ?_
 refine jab ?_ ?_
 ·rfl
 simp only [go_sem]
 refine jaf ?_
 refine jab ?_ ?_
 ·rfl
 simp only [go_sem, faS0, ldHp, hsp, jbE, aLen, Tryz.underlying69, jao, gg58, hmk]
 refine jaf ?_
 refine jaf ?_
 refine jab ?_ ?_
 ·rfl
 simp only [go_sem]
 refine jan ?_ ?_
 ·simp only [go_sem]
 refine jaD ?_
 simp only [jag]
 refine jaf ?_
 refine jaf ?_
 refine jab ?_ ?_
 ·rfl
 simp only [go_sem, jbE, aLen, Tryz.underlying69, jao]
 refine jaR ?_
 rw [(by omega : k + 494 = (k + 394 - n) + n + 100)]
 refine rzM (raw_loop (c := c) (f := f) (ws := zeros (jkI kd) (put ws q (headW kd 0 n)) q n) (ln := ln') hsp2 (rzO hsn hK2.1) s1 s2 s3 hli2 (rzO hln hK2.1) l1 l2 l3 hq (by unfold zeros; rw [if_neg (by omega)]; unfold put; rw [if_pos rfl]) h2 (k + 394 - n) n 0 _ μ2 (by omega) (by rw [wr_zero]; exact hH2) ⟨rzN _, fun _ _ _ _ _ => rfl⟩ rfl ?_ ?_ ?_ ?_ ?_) ?_
 ·try simp only [go_sem]
 ·try simp only [go_sem]
 ·try simp only [go_sem]
 ·try simp only [go_sem]
 ·try simp only [go_sem]; rfl
 rintro x' r' μ' ⟨rfl, hH3, hK3, hap3, tm', rfl, g8⟩
 try simp only [go_sem]
 refine jaf ?_
 refine jab ?_ ?_
 ·rfl
 simp only [go_sem, g8]
 exact jae ⟨rfl, _, by simp only [go_sem, Tryz.results22], rfl, hH3, hC2.keeps hap3, hK2.trans hK3⟩
end
noncomputable section
variable {X : XT}
def wsO (n : Nat) : Ob := .cells n 33 #[.int .u64 0] .e 0 0 false false
theorem zW : jaO pZ 33 = some (.int .u64 0) := by unfold jaO; rw [iW]; rfl
theorem msW (n : Nat) (h : n < 1000000) : jbh pZ 69 (.int .i64 (.ofNat n)) (.int .i64 (.ofNat n)) = some (wsO n, fun id => .slice (some ⟨id, 0, none⟩) n (2 * n)) := by
 have e1 : Nat.ble n n = true := rzP (rzN _)
 have e2 : Nat.ble n 1073741824 = true := rzP (by omega)
 have e3 : Nat.ble (Nat.mul n Tryz.t33.bytes) 1099511627776 = true := rzP (by show n * 8 ≤ 1099511627776; omega)
 have e4 : Nat.mul n Tryz.t33.size = n := Nat.mul_one n
 have e5 : Nat.beq (jaS (.int .u64 0)).length Tryz.t33.size = true := rfl
 unfold jbh
 try simp only [Tryz.underlying69, iW, e1, e2, e3, zW, e5, e4]
 rfl
set_option maxHeartbeats 4000000 in
theorem fields_no {g sp hp ap wb N q kd kd' pn n : Nat} {ws : Nat → Nat} {μ : Mem} (hg : 150 ≤ g) (hsp : jad μ sp 0 = some (.pointer (some ⟨hp, 0, none⟩))) (hH : HeapAt μ hp ap wb N ws) (hq : q < N) (hN : N < 1000000) (hw : ws q = headW kd pn n) (h1 : kd < 32) (h2 : pn < 8) (h3 : n < 1000000) (hne : kd ≠ kd') :
  EndsF (aFun pZ (jai pZ X S0 g) 29 [.pointer (some ⟨sp, 0, none⟩), .int .i64 (.ofNat kd'), .int .u64 (.ofNat (jaI q))] μ) fun v μ' => v = .tuple #[.slice none 0 0, .bool false] ∧ Grow μ μ' := by
 obtain ⟨k, rfl⟩ := gle hg
 obtain ⟨v1, μ1, hk, hv1, hg1⟩ := jfp (X := X) (k := k + 66) hH hq hN hw h1 h2 h3
 subst hv1
 have hk : aFun pZ (jai pZ X S0 (k + 146)) 14 [.pointer (some ⟨hp, 0, none⟩), .int .u64 (.ofNat (jaI q))] μ = some (.int .i64 (.ofNat kd), μ1) := hk
 have hd : decide (kd = kd') = false := rzV hne
 refine jac Tryz.func29 rfl rfl (nbl rfl) ?_
 simp only [go_sem, Tryz.ntmps29]
 refine jaf ?_
 refine jab ?_ ?_
 ·rfl
 simp only [go_sem]
 refine jaf ?_
 refine jaf ?_
 refine jab ?_ ?_
 ·rfl
 simp only [go_sem, faS0, ldHp, hsp, gg14, hk, jbG, hd]
 refine jaG ?_ ?_
 ·simp only [go_sem]
 refine jaf ?_
 refine jab ?_ ?_
 ·rfl
 simp only [go_sem]
 exact jae ⟨rfl, _, by simp only [go_sem, Tryz.results29], rfl, hg1⟩
set_option maxHeartbeats 4000000 in
theorem jiM {sp hp ap wb N q kd n oi c : Nat} {ws : Nat → Nat} {μ0 : Mem} (hsp : jad μ0 sp 0 = some (.pointer (some ⟨hp, 0, none⟩))) (hsn : sp < μ0.next) (hH0 : HeapAt μ0 hp ap wb N ws) (hq : q + n < N) (hN : N < 1000000) (hw : ws q = headW kd 0 n) (hkd : kd < 32) (hoi : μ0.next ≤ oi) :
  ∀ (e m j : Nat) (tm : T Value) (μ : Mem), j + m = n → Grow μ0 μ → oi < μ.next → Blk μ oi n 33 → (∀ i, i < j → jad μ oi i = some (.int .u64 (.ofNat (ws (q + 1 + i))))) → jah tm 0 = .pointer (some ⟨sp, 0, none⟩) → jah tm 2 = .int .u64 (.ofNat (jaI q)) → jah tm 8 = .slice (some ⟨oi, 0, none⟩) n c → jah tm 26 = .int .i64 (.ofNat n) → jah tm 27 = .int .i64 (.ofNat j) →
   LpC X (e + m + 100) Tryz.f29 0 45 tm μ fun x r μ' => x = .exit 0 ∧ Grow μ0 μ' ∧ oi < μ'.next ∧ Blk μ' oi n 33 ∧ (∀ i, i < n → jad μ' oi i = some (.int .u64 (.ofNat (ws (q + 1 + i))))) ∧ ∃ tm', r = ⟨45, tm', [], none⟩ ∧ jah tm' 8 = .slice (some ⟨oi, 0, none⟩) n c := by
 intro e m
 induction m with
 | zero =>
   intro j tm μ hj hG hon hb hc r0 r2 r8 r26 r27
   obtain rfl : j = n := hj
   refine jam ?_
   refine jaf ?_
   refine jab ?_ ?_
   ·rfl
   simp only [go_sem, r27, r26, jap, Nat.lt_irrefl]
   refine jaf ?_
   refine jan ?_ ?_
   ·simp only [go_sem]
   refine jcZ ?_
   simp only [jcp]
   exact ⟨trivial, hG, hon, hb, hc, _, rfl, by simp only [go_sem, r8]⟩
 | succ m ih =>
   intro j tm μ hj hG hon hb hc r0 r2 r8 r26 r27
   have hlt : j < n := by omega
   have hsp' : jad μ sp 0 = some (.pointer (some ⟨hp, 0, none⟩)) := by rw [← hsp]; unfold jad; rw [hG.2 sp hsn]
   have hH := hH0.keep hG
   have a3 : jak .i64 (Int.add (.ofNat j) 1) = .ofNat (j + 1) := jaT j 1 (by omega)
   obtain ⟨v1, μ1, hS, hv1, hg1⟩ := heap_get (X := X) (k := e + (m + 1) + 13) (i := j) hH hq hN hw hkd (by decide) hlt
   subst hv1
   obtain ⟨w, hwd⟩ := exq (ws (q + 1 + j))
   rw [← hwd] at hS
   have hS : aFun pZ (jai pZ X S0 (e + (m + 1) + 93)) 65 [.pointer (some ⟨hp, 0, none⟩), .int .u64 (.ofNat (jaI q)), .int .i64 (.ofNat j)] μ = some (.tuple #[.int .u64 (.ofNat w), .int .i64 0], μ1) := hS
   have hia : ∀ ρ : Operand → Value, ∀ a b', ρ a = .slice (some ⟨oi, 0, none⟩) n c → ρ b' = .int .i64 (.ofNat j) → jal pZ ρ 69 a b' = some (.pointer (some ⟨oi, j, none⟩)) := fun ρ a b' g1 g2 => by
    rw [jaF (P := pZ) Tryz.underlying69 iW rfl g1 g2 hlt, rzT]
   have hb1 : Blk μ1 oi n 33 := by unfold Blk; rw [hg1.2 oi hon]; exact hb
   have hst := jaW (t := 33) (v := .int .u64 (.ofNat w)) iW rfl rfl hb1 hlt
   have hG1 := hG.trans hg1
   have hG2 : Grow μ0 (putL μ1 oi j [.int .u64 (.ofNat w)]) := ⟨by rw [jaE]; exact hG1.1, fun i hi => by rw [jaX _ _ _ _ (by omega)]; exact hG1.2 i hi⟩
   refine jam ?_
   refine jaf ?_
   refine jab ?_ ?_
   ·rfl
   simp only [go_sem, r27, r26, jap, hlt]
   refine jaf ?_
   refine jaG ?_ ?_
   ·simp only [go_sem]
   refine jaD ?_
   simp only [jag]
   refine jaf ?_
   refine jaR ?_
   refine jaf ?_
   refine jab ?_ ?_
   ·rfl
   simp only [go_sem, r27]
   refine jab ?_ ?_
   ·rfl
   simp only [go_sem, r0, r2, r8, faS0, ldHp, hsp', gg65, hS, hia, hst]
   try simp only [jbI, jag]
   refine jab ?_ ?_
   ·rfl
   simp only [go_sem, r27, a3]
   rw [(by omega : e + (m + 1) + 99 = e + m + 100)]
   refine ih (j + 1) _ _ (by omega) hG2 (by rw [jaE]; exact rzO hon hg1.1) (hb1.put _ _) (fun i hi => ?_) ?_ ?_ ?_ ?_ ?_
   ·rw [jaP hb1 (by show j + 1 ≤ n; omega)]
    by_cases hij : i = j
    ·subst hij
     rw [dif_pos ⟨rfl, rzN _, by show i < i + 1; omega⟩, ← hwd]
     simp
    ·rw [dif_neg (by rintro ⟨_, g1, g2⟩; simp only [List.length_cons, List.length_nil] at g2; omega)]
     rw [← hc i (by omega)]; unfold jad; rw [hg1.2 oi hon]
   all_goals simp only [go_sem, r0, r2, r8, r26]
set_option maxHeartbeats 4000000 in
theorem jgb {g sp hp ap wb N q kd n : Nat} {ws : Nat → Nat} {μ : Mem} (hg : 400 ≤ g) (hsp : jad μ sp 0 = some (.pointer (some ⟨hp, 0, none⟩))) (hsn : sp < μ.next) (hH : HeapAt μ hp ap wb N ws) (hq : q + n < N) (hN : N < 1000000) (hw : ws q = headW kd 0 n) (h1 : kd < 32) (hn : n ≤ 240) :
  EndsF (aFun pZ (jai pZ X S0 g) 29 [.pointer (some ⟨sp, 0, none⟩), .int .i64 (.ofNat kd), .int .u64 (.ofNat (jaI q))] μ) fun v μ' => ∃ oi, v = .tuple #[.slice (some ⟨oi, 0, none⟩) n (2 * n), .bool true] ∧ Grow μ μ' ∧ μ.next ≤ oi ∧ oi < μ'.next ∧ ∀ i, i < n → jad μ' oi i = some (.int .u64 (.ofNat (ws (q + 1 + i)))) := by
 obtain ⟨k, rfl⟩ := gle hg
 obtain ⟨v1, μ1, hk, hv1, hg1⟩ := jfp (X := X) (k := k + 316) hH (by omega) hN hw h1 (by decide) (by omega)
 subst hv1
 have hk : aFun pZ (jai pZ X S0 (k + 396)) 14 [.pointer (some ⟨hp, 0, none⟩), .int .u64 (.ofNat (jaI q))] μ = some (.int .i64 (.ofNat kd), μ1) := hk
 have hH1 := hH.keep hg1
 have hsp1 : jad μ1 sp 0 = some (.pointer (some ⟨hp, 0, none⟩)) := by rw [← hsp]; unfold jad; rw [hg1.2 sp hsn]
 obtain ⟨v2, μ2, hs, hv2, hg2⟩ := heap_size (X := X) (k := k + 316) hH1 (by omega) hN hw h1 (by decide) (by omega)
 subst hv2
 have hs : aFun pZ (jai pZ X S0 (k + 396)) 64 [.pointer (some ⟨hp, 0, none⟩), .int .u64 (.ofNat (jaI q))] μ1 = some (.int .i64 (.ofNat n), μ2) := hs
 have hg12 := hg1.trans hg2
 have hsn2 := rzO hsn hg12.1
 have hH2 := hH.keep hg12
 have hsp2 : jad μ2 sp 0 = some (.pointer (some ⟨hp, 0, none⟩)) := by rw [← hsp]; unfold jad; rw [hg12.2 sp hsn]
 have hgn := jbc μ2 (wsO n)
 have hd : decide (kd = kd) = true := rzU rfl
 have hms := msW n (by omega)
 refine jac Tryz.func29 rfl rfl (nbl rfl) ?_
 simp only [go_sem, Tryz.ntmps29]
 refine jaf ?_
 refine jab ?_ ?_
 ·rfl
 simp only [go_sem]
 refine jaf ?_
 refine jaf ?_
 refine jab ?_ ?_
 ·rfl
 simp only [go_sem, faS0, ldHp, hsp, gg14, hk, jbG, hd]
 refine jan ?_ ?_
 ·simp only [go_sem]
 refine jaD ?_
 simp only [jag]
 refine jaf ?_
 refine jab ?_ ?_
 ·rfl
 simp only [go_sem, faS0, ldHp, hsp1, gg64, hs, hms]
 refine jaf ?_
 refine jaf ?_
 refine jab ?_ ?_
 ·rfl
 simp only [go_sem, jbE, aLen, Tryz.underlying69, jao]
 refine jaR ?_
 rw [(by omega : k + 394 = (k + 294 - n) + n + 100)]
 refine rzM (jiM (c := 2 * n) (oi := μ2.next) hsp2 hsn2 hH2 hq hN hw h1 (rzN _) (k + 294 - n) n 0 _ ⟨μ2.obs.set μ2.next (wsO n), μ2.next + 1⟩ (by omega) hgn (rzQ _) ⟨_, _, _, _, by show T.get _ _ = _; rw [T.get_set, if_pos rfl]; rfl⟩ (fun i hi => absurd hi (Nat.not_lt_zero i)) ?_ ?_ ?_ ?_ ?_) ?_
 ·try simp only [go_sem]
 ·try simp only [go_sem]
 ·try simp only [go_sem]
 ·try simp only [go_sem]
 ·try simp only [go_sem]; rfl
 rintro x' r' μ' ⟨rfl, hG, hon, hb, hc, tm', rfl, g8⟩
 try simp only [go_sem]
 refine jaf ?_
 refine jab ?_ ?_
 ·rfl
 simp only [go_sem, g8]
 exact jae ⟨rfl, _, by simp only [go_sem, Tryz.results29], μ2.next, rfl, hg12.trans hG, hg12.1, hon, hc⟩
end
noncomputable section
variable {X : XT}
structure Pos where
 ln : Nat → Bool
 sf : Nat
 st : Nat
 gf : Nat
 gt : Nat
 nx : Nat
structure SP (μ : Mem) (sp hp ap wb lb N L : Nat) (ws : Nat → Nat) (p : Pos) : Prop where
 sp0 : jad μ sp 0 = some (.pointer (some ⟨hp, 0, none⟩))
 spn : sp < μ.next
 s1 : sp ≠ ap
 s2 : sp ≠ wb
 s3 : sp ≠ lb
 hs : HS μ hp ap wb lb N L ws p.ln
 ac : AC μ ap p.sf p.st p.gf p.gt p.nx
theorem SP.grow {μ μ' : Mem} {sp hp ap wb lb N L : Nat} {ws : Nat → Nat} {p : Pos} (h : SP μ sp hp ap wb lb N L ws p) (g : Grow μ μ') : SP μ' sp hp ap wb lb N L ws p :=
 ⟨by rw [← h.sp0]; unfold jad; rw [g.2 sp h.spn], rzO h.spn g.1, h.s1, h.s2, h.s3, h.hs.grow g, h.ac.grow g h.hs.ab.n1⟩
def Al (X : XT) (N L n q : Nat) (p p' : Pos) : Prop :=
 ∀ (g ap wb lb : Nat) (ws : Nat → Nat) (μ : Mem), 400 ≤ g → AB μ ap wb lb N L ws p.ln → AC μ ap p.sf p.st p.gf p.gt p.nx →
  EndsF (aFun pZ (jai pZ X S0 g) 97 [.pointer (some ⟨ap, 0, none⟩), .int .i64 (.ofNat n)] μ) fun v μ' => v = .tuple #[.int .i64 (.ofNat q), .bool true] ∧ AB μ' ap wb lb N L ws p'.ln ∧ AC μ' ap p'.sf p'.st p'.gf p'.gt p'.nx ∧ Kept μ μ' ap lb
def obj (ws : Nat → Nat) (q kd m : Nat) (f : Nat → Nat) : Nat → Nat := wr (zeros (jkI kd) (put ws q (headW kd 0 m)) q m) q f m
theorem jeY (ws : Nat → Nat) (q kd m : Nat) (f : Nat → Nat) : obj ws q kd m f q = headW kd 0 m := by
 unfold obj wr zeros put
 rw [if_neg (by omega), if_neg (by omega), if_pos rfl]
theorem obj_in (ws : Nat → Nat) (q kd m : Nat) (f : Nat → Nat) (k : Nat) (hk : k < m) : obj ws q kd m f (q + 1 + k) = f k := by
 unfold obj wr
 rw [if_pos (by omega), (by omega : q + 1 + k - q - 1 = k)]
set_option maxHeartbeats 4000000 in
theorem raw_al {g sp hp ap wb lb N L q kd n li c : Nat} {f : Nat → Nat} {ws : Nat → Nat} {p p' : Pos} {μ : Mem} (hg : 500 ≤ g) (h : SP μ sp hp ap wb lb N L ws p)
  (hli : ∀ k, k < n → jad μ li k = some (.int .u64 (.ofNat (f k)))) (hln : li < μ.next) (l1 : li ≠ ap) (l2 : li ≠ wb) (l3 : li ≠ lb) (h2 : kd < 32) (hn : n ≤ 240) (hq : q + n < N) (hal : Al X N L (n + 1) q p p') :
  EndsF (aFun pZ (jai pZ X S0 g) 22 [.pointer (some ⟨sp, 0, none⟩), .int .i64 (.ofNat kd), .slice (some ⟨li, 0, none⟩) n c] μ) fun v μ' => v = .tuple #[.int .u64 (.ofNat (jaI q)), .bool true] ∧ SP μ' sp hp ap wb lb N L (obj ws q kd n f) p' ∧ Keeps μ μ' ap wb lb := by
 obtain ⟨v1, μ1, ha, hv, hB1, hC1, hK1⟩ := hal (g - 7) ap wb lb ws μ (by omega) h.hs.ab h.ac
 subst hv
 obtain ⟨v2, μ2, hr, hv2, hH2, hC2, hK2⟩ := raw_ends (X := X) (c := c) hg h.sp0 h.spn h.s1 h.s2 h.s3 hli hln l1 l2 l3 h.hs h2 hn hq ha hB1 hC1 hK1
 exact ⟨v2, μ2, hr, hv2, ⟨by rw [← h.sp0]; exact hK2.cell h.spn h.s1 h.s2 h.s3, rzO h.spn hK2.1, h.s1, h.s2, h.s3, hH2, hC2⟩, hK2⟩
theorem cnt_false {ln : Nat → Bool} {a n : Nat} (h : ∀ k, a ≤ k → k < a + n → ln k = false) : cnt ln a n = n := by
 induction n with
 | zero => rfl
 | succ n ih => unfold cnt; rw [ih fun k h1 h2 => h k h1 (by omega), h (a + n) (by omega) (by omega)]; rfl
@[go_sem] theorem al_great {n q N L : Nat} {p p' : Pos} (h1 : 16 < n) (h2 : n ≤ 256) (h : ∀ (g ap wb lb : Nat) (ws : Nat → Nat) (μ : Mem), 300 ≤ g → AB μ ap wb lb N L ws p.ln → AC μ ap p.sf p.st p.gf p.gt p.nx →
  EndsF (aFun pZ (jai pZ X S0 g) 135 [.pointer (some ⟨ap, 0, none⟩), .int .i64 (.ofNat n)] μ) fun v μ' => v = .tuple #[.int .i64 (.ofNat q), .bool true] ∧ AB μ' ap wb lb N L ws p'.ln ∧ AC μ' ap p'.sf p'.st p'.gf p'.gt p'.nx ∧ Kept μ μ' ap lb) : Al X N L n q p p' := by
 intro g ap wb lb ws μ hg hB hC
 obtain ⟨v1, μ1, ha, hv, hR⟩ := h (g - 9) ap wb lb ws μ (by omega) hB hC
 subst hv
 have := jiZ (X := X) h1 h2 ha
 rw [Nat.sub_add_cancel (by omega)] at this
 exact ⟨_, μ1, this, rfl, hR⟩
def P0 : Pos := ⟨fun _ => false, 0, 0, 0, 0, 0⟩
@[go_sem] theorem al_one {n : Nat} (h1 : 1 ≤ n) (h2 : n ≤ 241) : ∃ p', Al X 256 16 n 0 P0 p' := by
 by_cases h : n ≤ 16
 ·refine ⟨⟨fill (fun _ => false) 0 16, 0 + n, 256, 0, 0, 16⟩, fun g ap wb lb ws μ hg hB hC => ?_⟩
  exact small_new (X := X) (g := g) (n := n) (t := 16) (fa := 0) (ta := 256) (by omega) hB hC (by decide) (by decide) (by show 0 - 0 < n; omega) h1 h (by decide) (by decide) (by decide) (fun k _ k2 => rfl) (by decide) rfl
 ·refine ⟨⟨fill (fun _ => false) 0 16, 0, 0, 0 + n, 256, 0⟩, al_great (by omega) (by omega) fun g ap wb lb ws μ hg hB hC => ?_⟩
  exact great_new (X := X) (nb := 1) (d := 0) (a := 0) (t := 16) (fa := 0) (ta := 256) hg hB hC (by decide) (by decide) (by show 0 - 0 < n; omega) (by omega) rfl (by decide) (by decide) (by decide) (cnt_false fun k k1 k2 => rfl) (by decide) (by decide) (fun x x1 x2 => by omega) (by decide) (by decide)
end
end Go.Proofs.YtdmfakpngnlokaaGreatDoor.nu
