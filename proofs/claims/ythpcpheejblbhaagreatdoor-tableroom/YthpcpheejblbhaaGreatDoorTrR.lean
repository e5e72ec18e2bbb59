/-
  distafflaw19.TableRoom, part R: its walk and its law. No conditions.
-/
import Derived.Test.YthpcpheejblbhaaGreatDoorTrQ
set_option linter.unusedSimpArgs false
set_option linter.unusedVariables false
set_option linter.unusedSectionVars false
namespace Go.Proofs.YthpcpheejblbhaaGreatDoor.tr
open Go Go.Proofs Go.Proofs.YthpcpheejblbhaaGreatDoor.Ev
noncomputable section
variable {X : FuncId → List Value → Mem → Option (Value × Mem)}
def hd0L : List Value := [.int .i64 0, .int .i64 0, .int .i64 0]
set_option maxRecDepth 20000 in
set_option maxHeartbeats 4000000 in
theorem at_small {g hp : Nat} {n : Int} {μ : Mem} (hg : 40 ≤ g) :
  EndsF (aFun Tryz.prog (aCode Tryz.prog X S0 g) 63 [.pointer (some ⟨hp, 0, none⟩), .int .u64 (.ofNat (sw n))] μ) fun v μ' => v = .tuple #[.int .i64 0, .agg hd0L.toArray, .bool false] ∧ Grow μ μ' := by
 obtain ⟨k, rfl⟩ := Nat.exists_eq_add_of_le' hg
 have hk : ∀ (μ : Mem) g, 20 ≤ g → aFun Tryz.prog (aCode Tryz.prog X S0 g) 51 [.int .u64 (.ofNat (sw n))] μ = some (.int .i64 0, μ) := fun μ g hg => kind_small hg
 have e1 : ieq 0 1 = false := rfl
 have hbd : ∀ ρ : Operand → Value, aBuild Tryz.prog ρ 122 #[] = some (.agg hd0L.toArray) := fun ρ => by
  refine build_struct (pl := [(0, 1), (1, 1), (2, 1)]) zH Tryz.underlying122 (by kernel_rfl) ?_
  rfl
 have hb : Blk ⟨μ.obs.set μ.next (.cells 3 122 #[.int .i64 0, .int .i64 0, .int .i64 0] .e 0 0 false false), μ.next + 1⟩ μ.next 3 122 := fresh_blk (Grow.refl _)
 have hst := store_puts (P := Tryz.prog) (t := 122) (vs := hd0L) iH rfl rfl hb (show 0 + hd0L.length ≤ 3 by decide)
 have hg : Grow μ (putL ⟨μ.obs.set μ.next (.cells 3 122 #[.int .i64 0, .int .i64 0, .int .i64 0] .e 0 0 false false), μ.next + 1⟩ μ.next 0 hd0L) := (grow1 μ _).put_new (Nat.le_refl _)
 have hh : Has (putL ⟨μ.obs.set μ.next (.cells 3 122 #[.int .i64 0, .int .i64 0, .int .i64 0] .e 0 0 false false), μ.next + 1⟩ μ.next 0 hd0L) μ.next 0 hd0L := Has.of_put hb (by decide)
 have hld := hh.load (P := Tryz.prog) (t := 122) Tryz.underlying122 iH rfl
 refine fun_enter Tryz.func63 rfl rfl (Nat.le_of_ble_eq_true rfl) ?_
 simp only [T.lay, Nat.zero_add, Tryz.ntmps63, Nat.reduceAdd]
 repeat (first | refine code_seq ?_ | ((first | (refine code_region ?_ ?_; (focus rfl)) | (refine code_guards (gs := ?_) ?_ ?_; rotate_left; (focus rfl))); simp only [run1, run2, wanted, go_sem, Nat.reduceLT, Nat.reduceAdd, Nat.reduceEqDiff, reduceIte, reduceCtorEq, alH, Nat.add_eq, gg51, hk, Nat.reduceLeDiff, e1, hbd, hst]) | (refine code_cond_true ?_ ?_; (focus (simp only [aev, regAt_set, Nat.reduceEqDiff, reduceIte, alH, Nat.add_eq, gg51, hk, Nat.reduceLeDiff, e1, hbd, hst]; done))) | (refine code_cond_false ?_ ?_; (focus (simp only [aev, regAt_set, Nat.reduceEqDiff, reduceIte, alH, Nat.add_eq, gg51, hk, Nat.reduceLeDiff, e1, hbd, hst]; done))) | ((first | refine code_skip ?_ | refine code_label ?_ | refine code_exit ?_); try simp only [then_exit, then_normal, blockC, Nat.reduceEqDiff, reduceIte]) | refine code_block ?_)
 refine code_ret ?_
 refine ⟨rfl, _, ?_, rfl, hg⟩
 simp only [aResults, Tryz.results63, aRes, regAt_set, Nat.reduceEqDiff, reduceIte]
 simp only [hld]
set_option maxRecDepth 20000 in
set_option maxHeartbeats 4000000 in
theorem hkind_small {g hp : Nat} {n : Int} {μ : Mem} (hg : 60 ≤ g) :
  EndsF (aFun Tryz.prog (aCode Tryz.prog X S0 g) 43 [.pointer (some ⟨hp, 0, none⟩), .int .u64 (.ofNat (sw n))] μ) fun v μ' => v = .int .i64 (-1) ∧ Grow μ μ' := by
 obtain ⟨k, rfl⟩ := Nat.exists_eq_add_of_le' hg
 obtain ⟨v1, μ1, h1, rfl, g1⟩ := at_small (X := X) (g := k + 57) (hp := hp) (n := n) (μ := μ) (by omega)
 have hb : Blk ⟨μ1.obs.set μ1.next (.cells 3 122 #[.int .i64 0, .int .i64 0, .int .i64 0] .e 0 0 false false), μ1.next + 1⟩ μ1.next 3 122 := fresh_blk (Grow.refl _)
 have hst := store_puts (P := Tryz.prog) (t := 122) (vs := hd0L) iH rfl rfl hb (show 0 + hd0L.length ≤ 3 by decide)
 have hg : Grow μ1 (putL ⟨μ1.obs.set μ1.next (.cells 3 122 #[.int .i64 0, .int .i64 0, .int .i64 0] .e 0 0 false false), μ1.next + 1⟩ μ1.next 0 hd0L) := (grow1 μ1 _).put_new (Nat.le_refl _)
 refine fun_enter Tryz.func43 rfl rfl (Nat.le_of_ble_eq_true rfl) ?_
 simp only [T.lay, Nat.zero_add, Tryz.ntmps43, Nat.reduceAdd]
 repeat (first | refine code_seq ?_ | ((first | (refine code_region ?_ ?_; (focus rfl)) | (refine code_guards (gs := ?_) ?_ ?_; rotate_left; (focus rfl))); simp only [run1, run2, wanted, go_sem, Nat.reduceLT, Nat.reduceAdd, Nat.reduceEqDiff, reduceIte, reduceCtorEq, gg63, h1, alH, Nat.add_eq, hst]) | (refine code_cond_true ?_ ?_; (focus (simp only [aev, regAt_set, Nat.reduceEqDiff, reduceIte, gg63, h1, alH, Nat.add_eq, hst]; done))) | (refine code_cond_false ?_ ?_; (focus (simp only [aev, regAt_set, Nat.reduceEqDiff, reduceIte, gg63, h1, alH, Nat.add_eq, hst]; done))) | ((first | refine code_skip ?_ | refine code_label ?_ | refine code_exit ?_); try simp only [then_exit, then_normal, blockC, Nat.reduceEqDiff, reduceIte]) | refine code_block ?_)
 refine code_ret ?_
 refine ⟨rfl, _, ?_, rfl, g1.trans hg⟩
 simp only [aResults, Tryz.results43, aRes, regAt_set, Nat.reduceEqDiff, reduceIte]
theorem load_grow {μ μ' : Mem} {t : TypeId} {i o : Nat} (g : Grow μ μ') (hi : i < μ.next) : aLoad Tryz.prog μ' t (.pointer (some ⟨i, o, none⟩)) = aLoad Tryz.prog μ t (.pointer (some ⟨i, o, none⟩)) := by
 unfold aLoad
 simp only [g.2 i hi]
theorem store_next {μ μ' : Mem} {t : TypeId} {a v u : Value} (h : aStore Tryz.prog μ t a v = some (u, μ')) : μ'.next = μ.next := by
 unfold aStore at h
 repeat' split at h
 all_goals first | (cases h; done) | (cases h; rfl)
theorem num_store {μ μ1 : Mem} {l : List Value} (h : l.all one = true) (hl : l.length = 4) (hg : Grow ⟨μ.obs.set μ.next ob36, μ.next + 1⟩ μ1) :
  ∃ μ2, aStore Tryz.prog μ1 46 (.pointer (some ⟨μ.next, 0, none⟩)) (.agg l.toArray) = some (undef, μ2) ∧ aLoad Tryz.prog μ2 46 (.pointer (some ⟨μ.next, 0, none⟩)) = some (.agg l.toArray) ∧ Grow μ μ2 ∧ ∀ i, i ≠ μ.next → μ2.obs.get i = μ1.obs.get i := by
 have hb := blkN hg
 exact ⟨_, store_puts (P := Tryz.prog) (t := 46) (vs := l) j36 (by rw [hl]; rfl) h hb (by omega), lds36 (Has.of_put hb (by omega)) (by rw [hl]; rfl), ((grow1 μ _).trans hg).put_new (Nat.le_refl _), fun i hi => putL_get _ _ _ _ hi⟩
set_option maxRecDepth 20000 in
set_option maxHeartbeats 4000000 in
theorem eqv_same {g sp w : Nat} {μ : Mem} (hg : 20 ≤ g) : aFun Tryz.prog (aCode Tryz.prog X S0 g) 116 [.pointer (some ⟨sp, 0, none⟩), .int .u64 (.ofNat w), .int .u64 (.ofNat w)] μ = some (.bool true, μ) := by
 obtain ⟨k, rfl⟩ := Nat.exists_eq_add_of_le' hg
 refine ends_eq ?_
 have e1 : ieq (.ofNat w) (.ofNat w) = true := (ieq_nat w w).trans (decide_eq_true rfl)
 refine fun_enter Tryz.func116 rfl rfl (Nat.le_of_ble_eq_true rfl) ?_
 simp only [T.lay, Nat.zero_add, Tryz.ntmps116, Nat.reduceAdd]
 repeat (first | refine code_seq ?_ | ((first | (refine code_region ?_ ?_; (focus rfl)) | (refine code_guards (gs := ?_) ?_ ?_; rotate_left; (focus rfl))); simp only [run1, run2, wanted, go_sem, Nat.reduceLT, Nat.reduceAdd, Nat.reduceEqDiff, reduceIte, reduceCtorEq, e1]) | (refine code_cond_true ?_ ?_; (focus (simp only [aev, regAt_set, Nat.reduceEqDiff, reduceIte, e1]; done))) | (refine code_cond_false ?_ ?_; (focus (simp only [aev, regAt_set, Nat.reduceEqDiff, reduceIte, e1]; done))) | ((first | refine code_skip ?_ | refine code_label ?_ | refine code_exit ?_); try simp only [then_exit, then_normal, blockC, Nat.reduceEqDiff, reduceIte]) | refine code_block ?_)
 refine code_ret ?_
 refine ⟨rfl, _, ?_, rfl, rfl⟩
 simp only [aResults, Tryz.results116, aRes, regAt_set, Nat.reduceEqDiff, reduceIte]
set_option maxRecDepth 20000 in
set_option maxHeartbeats 4000000 in
theorem eqv_small {g sp : Nat} {a b : Int} {μ : Mem} (hg : 400 ≤ g) (ha : Sm a) (hb : Sm b) (h : a ≠ b) :
  EndsF (aFun Tryz.prog (aCode Tryz.prog X S0 g) 116 [.pointer (some ⟨sp, 0, none⟩), .int .u64 (.ofNat (sw a)), .int .u64 (.ofNat (sw b))] μ) fun v μ' => v = .bool false ∧ Grow μ μ' := by
 obtain ⟨k, rfl⟩ := Nat.exists_eq_add_of_le' hg
 have hw : sw a ≠ sw b := fun e => h (sw_inj ha hb e)
 have e1 : ieq (.ofNat (sw a)) (.ofNat (sw b)) = false := (ieq_nat _ _).trans (decide_eq_false hw)
 obtain ⟨v1, μ1, h1, g1, w1, rfl, l1⟩ := asnum_small (X := X) (g := k + 396) (sp := sp) (n := a) (μ := μ) (by omega) ha
 obtain ⟨μ2, s2, d2, g2, l2⟩ := tell36 (μ := μ1) (Grow.refl _) (l1.grow (grow1 μ1 ob36))
 obtain ⟨v3, μ3, h3, g3, w3, rfl, l3⟩ := asnum_small (X := X) (g := k + 395) (sp := sp) (n := b) (μ := μ2) (by omega) hb
 obtain ⟨μ4, s4, d4, g4, l4⟩ := tell36 (μ := μ3) (Grow.refl _) (l3.grow (grow1 μ3 ob36))
 have n2 : μ1.next < μ2.next := by
  have h := g2.1
  have := store_next s2
  rw [this]; exact Nat.lt_succ_self _
 have d2' : aLoad Tryz.prog μ4 46 (.pointer (some ⟨μ1.next, 0, none⟩)) = some w1 := by rw [load_grow (g3.trans g4) n2]; exact d2
 obtain ⟨v5, μ5, h5, rfl, g5⟩ := tsame_no (X := X) (g := k + 394) (μ := μ4) (by omega) h (l2.grow (g3.trans g4)) l4
 refine fun_enter Tryz.func116 rfl rfl (Nat.le_of_ble_eq_true rfl) ?_
 simp only [T.lay, Nat.zero_add, Tryz.ntmps116, Nat.reduceAdd]
 repeat (first | refine code_seq ?_ | ((first | (refine code_region ?_ ?_; (focus rfl)) | (refine code_guards (gs := ?_) ?_ ?_; rotate_left; (focus rfl))); simp only [run1, run2, wanted, go_sem, Nat.reduceLT, Nat.reduceAdd, Nat.reduceEqDiff, reduceIte, reduceCtorEq, e1, gg47, h1, al36, Nat.add_eq, s2, h3, s4, d2', d4, gg138, h5]) | (refine code_cond_true ?_ ?_; (focus (simp only [aev, regAt_set, Nat.reduceEqDiff, reduceIte, e1, gg47, h1, al36, Nat.add_eq, s2, h3, s4, d2', d4, gg138, h5]; done))) | (refine code_cond_false ?_ ?_; (focus (simp only [aev, regAt_set, Nat.reduceEqDiff, reduceIte, e1, gg47, h1, al36, Nat.add_eq, s2, h3, s4, d2', d4, gg138, h5]; done))) | ((first | refine code_skip ?_ | refine code_label ?_ | refine code_exit ?_); try simp only [then_exit, then_normal, blockC, Nat.reduceEqDiff, reduceIte]) | refine code_block ?_)
 refine code_ret ?_
 refine ⟨rfl, _, ?_, rfl, g1.trans (g2.trans (g3.trans (g4.trans g5)))⟩
 simp only [aResults, Tryz.results116, aRes, regAt_set, Nat.reduceEqDiff, reduceIte]
end
noncomputable section
variable {X : FuncId → List Value → Mem → Option (Value × Mem)}
set_option maxRecDepth 20000 in
set_option maxHeartbeats 4000000 in
theorem eqv_obj {g sp hp ap wb lb N L q kd m : Nat} {ws : Nat → Nat} {p : Pos} {a : Int} {μ : Mem} (hg : 500 ≤ g) (ha : Sm a) (h : SP μ sp hp ap wb lb N L ws p) (hq : q < N) (hw : ws q = headW kd 0 m) (h1 : kd < 32) (h3 : m < 1000000) (n1 : kd ≠ 16) (n2 : kd ≠ 17) :
  EndsF (aFun Tryz.prog (aCode Tryz.prog X S0 g) 116 [.pointer (some ⟨sp, 0, none⟩), .int .u64 (.ofNat (sw a)), .int .u64 (.ofNat (placeW q))] μ) fun v μ' => v = .bool false ∧ Grow μ μ' := by
 obtain ⟨k, rfl⟩ := Nat.exists_eq_add_of_le' hg
 have hne : sw a ≠ placeW q := by have := sw_mod a; unfold placeW; omega
 have e1 : ieq (.ofNat (sw a)) (.ofNat (placeW q)) = false := (ieq_nat _ _).trans (decide_eq_false hne)
 obtain ⟨v1, μ1, t1, g1, w1, rfl, l1⟩ := asnum_small (X := X) (g := k + 496) (sp := sp) (n := a) (μ := μ) (by omega) ha
 obtain ⟨μ2, s2, d2, g2, l2⟩ := tell36 (μ := μ1) (Grow.refl _) (l1.grow (grow1 μ1 ob36))
 obtain ⟨v3, μ3, t3, ⟨l, rfl, o3, e3⟩, g3⟩ := asnum_no (X := X) (g := k + 495) (μ := μ2) (by omega) (h.grow (g1.trans g2)) hq hw h1 (by decide) h3 n1 n2
 obtain ⟨μ4, s4, d4, g4, k4⟩ := num_store (μ := μ3) o3 e3 (Grow.refl _)
 refine fun_enter Tryz.func116 rfl rfl (Nat.le_of_ble_eq_true rfl) ?_
 simp only [T.lay, Nat.zero_add, Tryz.ntmps116, Nat.reduceAdd]
 repeat (first | refine code_seq ?_ | ((first | (refine code_region ?_ ?_; (focus rfl)) | (refine code_guards (gs := ?_) ?_ ?_; rotate_left; (focus rfl))); simp only [run1, run2, wanted, go_sem, Nat.reduceLT, Nat.reduceAdd, Nat.reduceEqDiff, reduceIte, reduceCtorEq, e1, gg47, t1, al36, Nat.add_eq, s2, t3, s4]) | (refine code_cond_true ?_ ?_; (focus (simp only [aev, regAt_set, Nat.reduceEqDiff, reduceIte, e1, gg47, t1, al36, Nat.add_eq, s2, t3, s4]; done))) | (refine code_cond_false ?_ ?_; (focus (simp only [aev, regAt_set, Nat.reduceEqDiff, reduceIte, e1, gg47, t1, al36, Nat.add_eq, s2, t3, s4]; done))) | ((first | refine code_skip ?_ | refine code_label ?_ | refine code_exit ?_); try simp only [then_exit, then_normal, blockC, Nat.reduceEqDiff, reduceIte]) | refine code_block ?_)
 refine code_ret ?_
 refine ⟨rfl, _, ?_, rfl, g1.trans (g2.trans (g3.trans g4))⟩
 simp only [aResults, Tryz.results116, aRes, regAt_set, Nat.reduceEqDiff, reduceIte]
def twoL (a b : Nat) : List Value := [.int .u64 (.ofNat a), .int .u64 (.ofNat b)]
theorem j158b (a b : Nat) : aBox 154 (.agg (twoL a b).toArray) = some (.cells (twoL a b).length 154 (twoL a b).toArray .e 0 0 false false, fun id => .pointer (some ⟨id, 0, none⟩)) := rfl
set_option maxRecDepth 20000 in
set_option maxHeartbeats 4000000 in
theorem alike_same {g sp w : Nat} {μ : Mem} (hg : 60 ≤ g) :
  EndsF (aFun Tryz.prog (aCode Tryz.prog X S0 g) 93 [.pointer (some ⟨sp, 0, none⟩), .agg (twoL w w).toArray] μ) fun v μ' => v = .tuple #[.slice none 0 0, .bool true] ∧ Grow μ μ' := by
 obtain ⟨k, rfl⟩ := Nat.exists_eq_add_of_le' hg
 obtain ⟨μ1, h1⟩ : ∃ M : Mem, M = ⟨μ.obs.set μ.next (.cells (twoL w w).length 154 (twoL w w).toArray .e 0 0 false false), μ.next + 1⟩ := ⟨_, rfl⟩
 have g1 : Grow μ μ1 := by rw [h1]; exact grow1 μ _
 have f1 : Has μ1 μ.next 0 (twoL w w) := Has.new (t := 154) (fx := false) (sh := false) (by rw [h1]; show T.get _ _ = _; rw [T.get_set, if_pos rfl])
 have c0 : cellsAt μ1 μ.next 0 = some (.int .u64 (.ofNat w)) := f1.cell 0 (by simp [twoL])
 have c1 : cellsAt μ1 μ.next 1 = some (.int .u64 (.ofNat w)) := f1.cell 1 (by simp [twoL])
 have he : ∀ g, 20 ≤ g → aFun Tryz.prog (aCode Tryz.prog X S0 g) 116 [.pointer (some ⟨sp, 0, none⟩), .int .u64 (.ofNat w), .int .u64 (.ofNat w)] μ1 = some (.bool true, μ1) := fun g hg => eqv_same hg
 refine fun_enter Tryz.func93 rfl rfl (Nat.le_of_ble_eq_true rfl) ?_
 simp only [T.lay, Nat.zero_add, Tryz.ntmps93, Nat.reduceAdd]
 repeat (first | refine code_seq ?_ | ((first | (refine code_region ?_ ?_; (focus rfl)) | (refine code_guards (gs := ?_) ?_ ?_; rotate_left; (focus rfl))); simp only [run1, run2, wanted, go_sem, Nat.reduceLT, Nat.reduceAdd, Nat.reduceEqDiff, reduceIte, reduceCtorEq, j158b, Nat.add_eq, h1.symm, fa158_0, fa158_1, ldW, c0, c1, gg116, he, Nat.reduceLeDiff]) | (refine code_cond_true ?_ ?_; (focus (simp only [aev, regAt_set, Nat.reduceEqDiff, reduceIte, j158b, Nat.add_eq, h1.symm, fa158_0, fa158_1, ldW, c0, c1, gg116, he, Nat.reduceLeDiff]; done))) | (refine code_cond_false ?_ ?_; (focus (simp only [aev, regAt_set, Nat.reduceEqDiff, reduceIte, j158b, Nat.add_eq, h1.symm, fa158_0, fa158_1, ldW, c0, c1, gg116, he, Nat.reduceLeDiff]; done))) | ((first | refine code_skip ?_ | refine code_label ?_ | refine code_exit ?_); try simp only [then_exit, then_normal, blockC, Nat.reduceEqDiff, reduceIte]) | refine code_block ?_)
 refine code_ret ?_
 refine ⟨rfl, _, ?_, rfl, g1⟩
 simp only [aResults, Tryz.results93, aRes, regAt_set, Nat.reduceEqDiff, reduceIte]
set_option maxRecDepth 20000 in
set_option maxHeartbeats 4000000 in
theorem alike_no {g sp hp b : Nat} {a : Int} {μ : Mem} (hg : 600 ≤ g) (hsp : cellsAt μ sp 0 = some (.pointer (some ⟨hp, 0, none⟩))) (hsn : sp < μ.next)
  (he : ∀ μ1, Grow μ μ1 → EndsF (aFun Tryz.prog (aCode Tryz.prog X S0 (g - 4)) 116 [.pointer (some ⟨sp, 0, none⟩), .int .u64 (.ofNat (sw a)), .int .u64 (.ofNat b)] μ1) fun v μ' => v = .bool false ∧ Grow μ1 μ') :
  EndsF (aFun Tryz.prog (aCode Tryz.prog X S0 g) 93 [.pointer (some ⟨sp, 0, none⟩), .agg (twoL (sw a) b).toArray] μ) fun v μ' => v = .tuple #[.slice none 0 0, .bool false] ∧ Grow μ μ' := by
 obtain ⟨k, rfl⟩ := Nat.exists_eq_add_of_le' hg
 obtain ⟨w, hw⟩ : ∃ w, w = sw a := ⟨_, rfl⟩
 obtain ⟨μ1, h1⟩ : ∃ M : Mem, M = ⟨μ.obs.set μ.next (.cells (twoL (sw a) b).length 154 (twoL (sw a) b).toArray .e 0 0 false false), μ.next + 1⟩ := ⟨_, rfl⟩
 have g1 : Grow μ μ1 := by rw [h1]; exact grow1 μ _
 have n1 : μ1.next = μ.next + 1 := by rw [h1]
 have f1 : Has μ1 μ.next 0 (twoL (sw a) b) := Has.new (t := 154) (fx := false) (sh := false) (by rw [h1]; show T.get _ _ = _; rw [T.get_set, if_pos rfl])
 have c0 : cellsAt μ1 μ.next 0 = some (.int .u64 (.ofNat (sw a))) := f1.cell 0 (by simp [twoL])
 have c1 : cellsAt μ1 μ.next 1 = some (.int .u64 (.ofNat b)) := f1.cell 1 (by simp [twoL])
 obtain ⟨v2, μ2, h2, rfl, g2⟩ := he μ1 g1
 have h2 : aFun Tryz.prog (aCode Tryz.prog X S0 (k + 596)) 116 [.pointer (some ⟨sp, 0, none⟩), .int .u64 (.ofNat (sw a)), .int .u64 (.ofNat b)] μ1 = some (.bool false, μ2) := h2
 have p2 : ∀ m, cellsAt ⟨μ2.obs, m⟩ sp 0 = some (.pointer (some ⟨hp, 0, none⟩)) := fun m => by show cellsAt μ2 sp 0 = _; rw [gcell (g1.trans g2) hsn]; exact hsp
 have c2 : ∀ m, cellsAt ⟨μ2.obs, m⟩ μ.next 0 = some (.int .u64 (.ofNat (sw a))) := fun m => by show cellsAt μ2 μ.next 0 = _; rw [gcell g2 (by omega)]; exact c0
 obtain ⟨v3, μ3, h3, rfl, g3⟩ := hkind_small (X := X) (g := k + 596) (hp := hp) (n := a) (μ := ⟨μ2.obs, μ2.next + 8⟩) (by omega)
 have e1 : ilt (-1) 0 = true := rfl
 have gf : Grow μ ⟨μ3.obs, μ3.next + 13⟩ := (g1.trans g2).trans ((grow_up μ2 8).trans (g3.trans (grow_up μ3 13)))
 rw [← hw] at h1 h2 c2 h3 ⊢
 refine fun_enter Tryz.func93 rfl rfl (Nat.le_of_ble_eq_true rfl) ?_
 simp only [T.lay, Nat.zero_add, Tryz.ntmps93, Nat.reduceAdd]
 repeat (first | refine code_seq ?_ | ((first | (refine code_region ?_ ?_; (focus rfl)) | (refine code_guards (gs := ?_) ?_ ?_; rotate_left; (focus rfl))); simp only [run1, run2, wanted, go_sem, Nat.reduceLT, Nat.reduceAdd, Nat.reduceEqDiff, reduceIte, reduceCtorEq, j158b, Nat.add_eq, h1.symm, fa158_0, fa158_1, ldW, hw ▸ c0, c1, gg116, h2]) | (refine code_cond_true ?_ ?_; (focus (simp only [aev, regAt_set, Nat.reduceEqDiff, reduceIte, j158b, Nat.add_eq, h1.symm, fa158_0, fa158_1, ldW, hw ▸ c0, c1, gg116, h2]; done))) | (refine code_cond_false ?_ ?_; (focus (simp only [aev, regAt_set, Nat.reduceEqDiff, reduceIte, j158b, Nat.add_eq, h1.symm, fa158_0, fa158_1, ldW, hw ▸ c0, c1, gg116, h2]; done))) | ((first | refine code_skip ?_ | refine code_label ?_ | refine code_exit ?_); try simp only [then_exit, then_normal, blockC, Nat.reduceEqDiff, reduceIte]) | refine code_block ?_)
 refine code_draw (n := 8) (ms := [0, 1, 3, 7, 0, 16, 63, 127]) (ord := [0, 1, 2, 3, 4, 5, 6, 7]) (ds := ?_) ?_ ?_ ?_ ?_ ?_ ?_
 rotate_left
 ·kernel_rfl
 ·kernel_rfl
 ·kernel_rfl
 ·rfl
 ·rfl
 iterate 8 (refine drun_true (by first | rfl | (simp only [wanted, go_sem, Nat.reduceLT, Nat.reduceAdd, Nat.reduceEqDiff, reduceIte, reduceCtorEq, faS0, fa158_0, Nat.add_zero, ldHp, ldW, p2, c2, gg43, h3])) (by simp only [aDrawOne, heavy, aReads, eqVal_self, go_sem, Nat.reduceLT, Nat.reduceAdd, Nat.reduceEqDiff, reduceIte, reduceCtorEq, faS0, fa158_0, Nat.add_zero, ldHp, ldW, p2, c2, gg43, h3]; try exact rfl) rfl ?_)
 simp only [dRun, endsD_some, then_normal]
 refine code_seq ?_
 refine code_seq ?_
 refine code_draw (n := 13) (ms := [0, 1, 3, 7, 15, 31, 63, 7, 135, 511, 7, 2047, 4095]) (ord := [0, 1, 2, 3, 4, 5, 6, 7, 8, 9, 10, 11, 12]) (ds := ?_) ?_ ?_ ?_ ?_ ?_ ?_
 rotate_left
 ·kernel_rfl
 ·kernel_rfl
 ·kernel_rfl
 ·rfl
 ·rfl
 iterate 3 (refine drun_true (by first | rfl | (simp only [wanted, go_sem, Nat.reduceLT, Nat.reduceAdd, Nat.reduceEqDiff, reduceIte, reduceCtorEq, e1])) (by simp only [aDrawOne, heavy, aReads, eqVal_self, go_sem, Nat.reduceLT, Nat.reduceAdd, Nat.reduceEqDiff, reduceIte, reduceCtorEq, e1]; try exact rfl) rfl ?_)
 iterate 9 (refine drun_false (by simp only [wanted, go_sem, Nat.reduceLT, Nat.reduceAdd, Nat.reduceEqDiff, reduceIte, reduceCtorEq, e1]) rfl ?_)
 refine drun_true (by first | rfl | (simp only [wanted, go_sem, Nat.reduceLT, Nat.reduceAdd, Nat.reduceEqDiff, reduceIte, reduceCtorEq, e1])) (by simp only [aDrawOne, heavy, aReads, eqVal_self, go_sem, Nat.reduceLT, Nat.reduceAdd, Nat.reduceEqDiff, reduceIte, reduceCtorEq, e1]; try exact rfl) rfl ?_
 simp only [dRun, endsD_some, then_normal]
 repeat (first | refine code_seq ?_ | ((first | (refine code_region ?_ ?_; (focus rfl)) | (refine code_guards (gs := ?_) ?_ ?_; rotate_left; (focus rfl))); simp only [run1, run2, wanted, go_sem, Nat.reduceLT, Nat.reduceAdd, Nat.reduceEqDiff, reduceIte, reduceCtorEq]) | (refine code_cond_true ?_ ?_; (focus (simp only [aev, regAt_set, Nat.reduceEqDiff, reduceIte]; done))) | (refine code_cond_false ?_ ?_; (focus (simp only [aev, regAt_set, Nat.reduceEqDiff, reduceIte]; done))) | ((first | refine code_skip ?_ | refine code_label ?_ | refine code_exit ?_); try simp only [then_exit, then_normal, blockC, Nat.reduceEqDiff, reduceIte]) | refine code_block ?_)
 refine code_ret ?_
 refine ⟨rfl, _, ?_, rfl, gf⟩
 simp only [aResults, Tryz.results93, aRes, regAt_set, Nat.reduceEqDiff, reduceIte]
end
noncomputable section
variable {X : FuncId → List Value → Mem → Option (Value × Mem)}
theorem z158 : aZeroOf Tryz.prog 154 = some (.agg (twoL 0 0).toArray) := by unfold aZeroOf; rw [j158]; rfl
theorem bd158 (ρ : Operand → Value) (x y : Operand) (a b : Nat) (h1 : ρ x = .int .u64 (.ofNat a)) (h2 : ρ y = .int .u64 (.ofNat b)) : aBuild Tryz.prog ρ 154 #[(0, x), (1, y)] = some (.agg (twoL a b).toArray) := by
 refine build_struct (pl := [(0, 1), (1, 1)]) z158 Tryz.underlying154 (by kernel_rfl) ?_
 show aFill _ (twoL 0 0) [(0, ρ x), (1, ρ y)] = some (twoL a b)
 rw [h1, h2]
 rfl
theorem bs159 (ρ : Operand → Value) (x : Operand) (a b : Nat) (h : ρ x = .agg (twoL a b).toArray) : aBuildSlice Tryz.prog ρ 155 1 #[(0, x)] = some (.cells (twoL a b).length 154 (twoL a b).toArray .e 0 0 false false, fun id => .slice (some ⟨id, 0, none⟩) 1 2) := by
 unfold aBuildSlice
 simp only [Tryz.underlying155, j158, z158]
 show (match aFill _ (tile (cellsL (.agg (twoL 0 0).toArray)) 2) [(0, ρ x)] with | some cs => _ | none => none) = _
 rw [h]
 rfl
set_option maxRecDepth 20000 in
set_option maxHeartbeats 4000000 in
theorem rev_nil {g : Nat} {μ : Mem} (hg : 20 ≤ g) : ∃ v, aFun Tryz.prog (aCode Tryz.prog X S0 g) 94 [.slice none 0 0] μ = some (v, μ) := by
 obtain ⟨k, rfl⟩ := Nat.exists_eq_add_of_le' hg
 have e : EndsF (aFun Tryz.prog (aCode Tryz.prog X S0 (k + 20)) 94 [.slice none 0 0] μ) fun _ m => m = μ := by
  have e1 : qwrap .i64 (Int.sub (.ofNat 0) 1) = -1 := rfl
  have e2 : ilt 0 (-1) = false := rfl
  refine fun_enter Tryz.func94 rfl rfl (Nat.le_of_ble_eq_true rfl) ?_
  simp only [T.lay, Nat.zero_add, Tryz.ntmps94, Nat.reduceAdd]
  repeat (first | refine code_seq ?_ | ((first | (refine code_region ?_ ?_; (focus rfl)) | (refine code_guards (gs := ?_) ?_ ?_; rotate_left; (focus rfl))); simp only [run1, run2, wanted, go_sem, Nat.reduceLT, Nat.reduceAdd, Nat.reduceEqDiff, reduceIte, reduceCtorEq, aBuiltin, aLen, Tryz.underlying155, cast_nat, e1, e2]) | (refine code_cond_true ?_ ?_; (focus (simp only [aev, regAt_set, Nat.reduceEqDiff, reduceIte, aBuiltin, aLen, Tryz.underlying155, cast_nat, e1, e2]; done))) | (refine code_cond_false ?_ ?_; (focus (simp only [aev, regAt_set, Nat.reduceEqDiff, reduceIte, aBuiltin, aLen, Tryz.underlying155, cast_nat, e1, e2]; done))) | ((first | refine code_skip ?_ | refine code_label ?_ | refine code_exit ?_); try simp only [then_exit, then_normal, blockC, Nat.reduceEqDiff, reduceIte]) | refine code_block ?_ | refine code_loop ?_)
  exact ⟨rfl, _, rfl, rfl⟩
 obtain ⟨v, m, h1, h2⟩ := e
 exact ⟨v, by rw [h1, h2]⟩
theorem app_none {μ : Mem} {i : Nat} : aAppend Tryz.prog μ 155 155 (.slice (some ⟨i, 0, none⟩) 0 2) (.slice none 0 0) = some (.slice (some ⟨i, 0, none⟩) 0 2, μ) := by
 unfold aAppend
 simp only [Tryz.underlying155, j158, z158, lenV, srcCells]
 rfl
theorem slice159 {ρ : Operand → Value} {x y : Operand} {i : Nat} (h1 : ρ x = .slice (some ⟨i, 0, none⟩) 1 2) (h2 : ρ y = .int .i64 (.ofNat 0)) : aSlice Tryz.prog ρ 155 x none (some y) none = some (.slice (some ⟨i, 0, none⟩) 0 2) := by
 unfold aSlice
 simp only [h1, Tryz.underlying155, j158, aBounds, aBound, h2]
 rfl
set_option maxRecDepth 20000 in
set_option maxHeartbeats 4000000 in
theorem equal_same {g sp w : Nat} {μ : Mem} (hg : 100 ≤ g) :
  EndsF (aFun Tryz.prog (aCode Tryz.prog X S0 g) 72 [.pointer (some ⟨sp, 0, none⟩), .int .u64 (.ofNat w), .int .u64 (.ofNat w)] μ) fun v μ' => v = .tuple #[.bool true, .int .i64 0] ∧ Grow μ μ' := by
 obtain ⟨k, rfl⟩ := Nat.exists_eq_add_of_le' hg
 obtain ⟨μ1, h1⟩ : ∃ M : Mem, M = ⟨μ.obs.set μ.next (.cells (twoL w w).length 154 (twoL w w).toArray .e 0 0 false false), μ.next + 1⟩ := ⟨_, rfl⟩
 have g1 : Grow μ μ1 := by rw [h1]; exact grow1 μ _
 have f1 : Has μ1 μ.next 0 (twoL w w) := Has.new (t := 154) (fx := false) (sh := false) (by rw [h1]; show T.get _ _ = _; rw [T.get_set, if_pos rfl])
 have hld := lds158 f1 rfl
 obtain ⟨v2, μ2, h2, rfl, g2⟩ := alike_same (X := X) (g := k + 87) (sp := sp) (w := w) (μ := μ1) (by omega)
 obtain ⟨v3, h3⟩ := rev_nil (X := X) (g := k + 85) (μ := μ2) (by omega)
 have e1 : ilt 0 (.ofNat 1) = true := rfl
 have e2 : ilt 0 10000 = true := rfl
 have e3 : qwrap .i64 (Int.sub (.ofNat 1) 1) = .ofNat 0 := rfl
 have e4 : qwrap .i64 (Int.add 0 1) = 1 := rfl
 have e5 : ilt 0 (.ofNat 0) = false := rfl
 have hix : ∀ (ρ : Operand → Value) (a b : Operand), ρ a = .slice (some ⟨μ.next, 0, none⟩) 1 2 → ρ b = .int .i64 (.ofNat 0) → aIndexAddr Tryz.prog ρ 155 a b = some (.pointer (some ⟨μ.next, 0, none⟩)) := fun ρ a b h1 h2 => by
  rw [indexAddr_sz (P := Tryz.prog) Tryz.underlying155 j158 h1 h2 (by decide), Nat.zero_mul]
 have hsl : ∀ (ρ : Operand → Value) (x y : Operand), ρ x = .slice (some ⟨μ.next, 0, none⟩) 1 2 → ρ y = .int .i64 (.ofNat 0) → aSlice Tryz.prog ρ 155 x none (some y) none = some (.slice (some ⟨μ.next, 0, none⟩) 0 2) := fun ρ x y h1 h2 => slice159 h1 h2
 have hbd : ∀ (ρ : Operand → Value) (x y : Operand), ρ x = .int .u64 (.ofNat w) → ρ y = .int .u64 (.ofNat w) → aBuild Tryz.prog ρ 154 #[(0, x), (1, y)] = some (.agg (twoL w w).toArray) := fun ρ x y h1 h2 => bd158 ρ x y w w h1 h2
 have hbs : ∀ (ρ : Operand → Value) (x : Operand), ρ x = .agg (twoL w w).toArray → aBuildSlice Tryz.prog ρ 155 1 #[(0, x)] = some (.cells (twoL w w).length 154 (twoL w w).toArray .e 0 0 false false, fun id => .slice (some ⟨id, 0, none⟩) 1 2) := fun ρ x h => bs159 ρ x w w h
 have hap := app_none (μ := μ2) (i := μ.next)
 refine fun_enter Tryz.func72 rfl rfl (Nat.le_of_ble_eq_true rfl) ?_
 simp only [T.lay, Nat.zero_add, Tryz.ntmps72, Nat.reduceAdd]
 repeat (first | refine code_seq ?_ | ((first | (refine code_region ?_ ?_; (focus rfl)) | (refine code_guards (gs := ?_) ?_ ?_; rotate_left; (focus rfl))); simp only [run1, run2, wanted, go_sem, Nat.reduceLT, Nat.reduceAdd, Nat.reduceEqDiff, reduceIte, reduceCtorEq, hbd, hbs, Nat.add_eq, h1.symm, aBuiltin, aLen, Tryz.underlying155, cast_nat, e1, e2, e3, hix, hld, gg93, h2, gg94, h3, hsl, hap, e4, e5]) | (refine code_cond_true ?_ ?_; (focus (simp only [aev, regAt_set, Nat.reduceEqDiff, reduceIte, hbd, hbs, Nat.add_eq, h1.symm, aBuiltin, aLen, Tryz.underlying155, cast_nat, e1, e2, e3, hix, hld, gg93, h2, gg94, h3, hsl, hap, e4, e5]; done))) | (refine code_cond_false ?_ ?_; (focus (simp only [aev, regAt_set, Nat.reduceEqDiff, reduceIte, hbd, hbs, Nat.add_eq, h1.symm, aBuiltin, aLen, Tryz.underlying155, cast_nat, e1, e2, e3, hix, hld, gg93, h2, gg94, h3, hsl, hap, e4, e5]; done))) | ((first | refine code_skip ?_ | refine code_label ?_ | refine code_exit ?_); try simp only [then_exit, then_normal, blockC, Nat.reduceEqDiff, reduceIte]) | refine code_block ?_ | refine code_loop ?_)
 refine code_ret ?_
 refine ⟨rfl, _, ?_, rfl, g1.trans g2⟩
 simp only [aResults, Tryz.results72, aRes, regAt_set, Nat.reduceEqDiff, reduceIte]
set_option maxRecDepth 20000 in
set_option maxHeartbeats 4000000 in
theorem equal_no {g sp hp b : Nat} {a : Int} {μ : Mem} (hg : 700 ≤ g) (hsp : cellsAt μ sp 0 = some (.pointer (some ⟨hp, 0, none⟩))) (hsn : sp < μ.next)
  (he : ∀ μ1, Grow μ μ1 → EndsF (aFun Tryz.prog (aCode Tryz.prog X S0 (g - 17)) 116 [.pointer (some ⟨sp, 0, none⟩), .int .u64 (.ofNat (sw a)), .int .u64 (.ofNat b)] μ1) fun v μ' => v = .bool false ∧ Grow μ1 μ') :
  EndsF (aFun Tryz.prog (aCode Tryz.prog X S0 g) 72 [.pointer (some ⟨sp, 0, none⟩), .int .u64 (.ofNat (sw a)), .int .u64 (.ofNat b)] μ) fun v μ' => v = .tuple #[.bool false, .int .i64 0] ∧ Grow μ μ' := by
 obtain ⟨k, rfl⟩ := Nat.exists_eq_add_of_le' hg
 obtain ⟨μ1, h1⟩ : ∃ M : Mem, M = ⟨μ.obs.set μ.next (.cells (twoL (sw a) b).length 154 (twoL (sw a) b).toArray .e 0 0 false false), μ.next + 1⟩ := ⟨_, rfl⟩
 have g1 : Grow μ μ1 := by rw [h1]; exact grow1 μ _
 have f1 : Has μ1 μ.next 0 (twoL (sw a) b) := Has.new (t := 154) (fx := false) (sh := false) (by rw [h1]; show T.get _ _ = _; rw [T.get_set, if_pos rfl])
 have hld := lds158 f1 rfl
 obtain ⟨v2, μ2, h2, rfl, g2⟩ := alike_no (X := X) (g := k + 687) (sp := sp) (hp := hp) (a := a) (b := b) (μ := μ1) (by omega) (by rw [gcell g1 hsn]; exact hsp) (Nat.lt_of_lt_of_le hsn g1.1) fun μ' g' => he μ' (g1.trans g')
 obtain ⟨w, hw⟩ : ∃ w, w = sw a := ⟨_, rfl⟩
 rw [← hw] at h1 hld h2 ⊢
 have e1 : ilt 0 (.ofNat 1) = true := rfl
 have e2 : ilt 0 10000 = true := rfl
 have e3 : qwrap .i64 (Int.sub (.ofNat 1) 1) = .ofNat 0 := rfl
 have hix : ∀ (ρ : Operand → Value) (a b : Operand), ρ a = .slice (some ⟨μ.next, 0, none⟩) 1 2 → ρ b = .int .i64 (.ofNat 0) → aIndexAddr Tryz.prog ρ 155 a b = some (.pointer (some ⟨μ.next, 0, none⟩)) := fun ρ a b h1 h2 => by
  rw [indexAddr_sz (P := Tryz.prog) Tryz.underlying155 j158 h1 h2 (by decide), Nat.zero_mul]
 have hbd : ∀ (ρ : Operand → Value) (x y : Operand), ρ x = .int .u64 (.ofNat w) → ρ y = .int .u64 (.ofNat b) → aBuild Tryz.prog ρ 154 #[(0, x), (1, y)] = some (.agg (twoL w b).toArray) := fun ρ x y h1 h2 => bd158 ρ x y w b h1 h2
 have hbs : ∀ (ρ : Operand → Value) (x : Operand), ρ x = .agg (twoL w b).toArray → aBuildSlice Tryz.prog ρ 155 1 #[(0, x)] = some (.cells (twoL w b).length 154 (twoL w b).toArray .e 0 0 false false, fun id => .slice (some ⟨id, 0, none⟩) 1 2) := fun ρ x h => bs159 ρ x w b h
 refine fun_enter Tryz.func72 rfl rfl (Nat.le_of_ble_eq_true rfl) ?_
 simp only [T.lay, Nat.zero_add, Tryz.ntmps72, Nat.reduceAdd]
 repeat (first | refine code_seq ?_ | ((first | (refine code_region ?_ ?_; (focus rfl)) | (refine code_guards (gs := ?_) ?_ ?_; rotate_left; (focus rfl))); simp only [run1, run2, wanted, go_sem, Nat.reduceLT, Nat.reduceAdd, Nat.reduceEqDiff, reduceIte, reduceCtorEq, hbd, hbs, Nat.add_eq, h1.symm, aBuiltin, aLen, Tryz.underlying155, cast_nat, e1, e2, e3, hix, hld, gg93, h2]) | (refine code_cond_true ?_ ?_; (focus (simp only [aev, regAt_set, Nat.reduceEqDiff, reduceIte, hbd, hbs, Nat.add_eq, h1.symm, aBuiltin, aLen, Tryz.underlying155, cast_nat, e1, e2, e3, hix, hld, gg93, h2]; done))) | (refine code_cond_false ?_ ?_; (focus (simp only [aev, regAt_set, Nat.reduceEqDiff, reduceIte, hbd, hbs, Nat.add_eq, h1.symm, aBuiltin, aLen, Tryz.underlying155, cast_nat, e1, e2, e3, hix, hld, gg93, h2]; done))) | ((first | refine code_skip ?_ | refine code_label ?_ | refine code_exit ?_); try simp only [then_exit, then_normal, blockC, Nat.reduceEqDiff, reduceIte]) | refine code_block ?_ | refine code_loop ?_)
 refine code_ret ?_
 refine ⟨rfl, _, ?_, rfl, g1.trans g2⟩
 simp only [aResults, Tryz.results72, aRes, regAt_set, Nat.reduceEqDiff, reduceIte]
set_option maxRecDepth 20000 in
set_option maxHeartbeats 4000000 in
theorem tsame_of {g sp a b : Nat} {r : Bool} {μ : Mem} (hg : 20 ≤ g) (h : EndsF (aFun Tryz.prog (aCode Tryz.prog X S0 (g - 3)) 72 [.pointer (some ⟨sp, 0, none⟩), .int .u64 (.ofNat a), .int .u64 (.ofNat b)] μ) fun v μ' => v = .tuple #[.bool r, .int .i64 0] ∧ Grow μ μ') :
  EndsF (aFun Tryz.prog (aCode Tryz.prog X S0 g) 53 [.pointer (some ⟨sp, 0, none⟩), .int .u64 (.ofNat a), .int .u64 (.ofNat b)] μ) fun v μ' => v = .bool r ∧ Grow μ μ' := by
 obtain ⟨k, rfl⟩ := Nat.exists_eq_add_of_le' hg
 obtain ⟨v1, μ1, h1, rfl, g1⟩ := h
 have h1 : aFun Tryz.prog (aCode Tryz.prog X S0 (k + 17)) 72 [.pointer (some ⟨sp, 0, none⟩), .int .u64 (.ofNat a), .int .u64 (.ofNat b)] μ = some (.tuple #[.bool r, .int .i64 0], μ1) := h1
 refine fun_enter Tryz.func53 rfl rfl (Nat.le_of_ble_eq_true rfl) ?_
 simp only [T.lay, Nat.zero_add, Tryz.ntmps53, Nat.reduceAdd]
 repeat (first | refine code_seq ?_ | ((first | (refine code_region ?_ ?_; (focus rfl)) | (refine code_guards (gs := ?_) ?_ ?_; rotate_left; (focus rfl))); simp only [run1, run2, wanted, go_sem, Nat.reduceLT, Nat.reduceAdd, Nat.reduceEqDiff, reduceIte, reduceCtorEq, gg72, h1]) | (refine code_cond_true ?_ ?_; (focus (simp only [aev, regAt_set, Nat.reduceEqDiff, reduceIte, gg72, h1]; done))) | (refine code_cond_false ?_ ?_; (focus (simp only [aev, regAt_set, Nat.reduceEqDiff, reduceIte, gg72, h1]; done))) | ((first | refine code_skip ?_ | refine code_label ?_ | refine code_exit ?_); try simp only [then_exit, then_normal, blockC, Nat.reduceEqDiff, reduceIte]) | refine code_block ?_)
 refine code_ret ?_
 refine ⟨rfl, _, ?_, rfl, g1⟩
 simp only [aResults, Tryz.results53, aRes, regAt_set, Nat.reduceEqDiff, reduceIte]
end
noncomputable section
variable {X : FuncId → List Value → Mem → Option (Value × Mem)}
structure TxtAt (ws : Nat → Nat) (q N : Nat) : Prop where
 head : ws q = headW 18 0 2
 many : ws (q + 1) = 1
 sign : ws (q + 2) = 120
 room : q + 2 < N
def hashX : Nat := mixF (seedK + 1) 120
theorem hashX_lt : hashX < 18446744073709551616 := mixF_lt _ _ (by decide) (by decide)
theorem seedC1 : (14695981039346656038 : Int) = .ofNat (seedK + 1) := rfl
theorem pf_x (k : Nat) (hk : k < 2) : pf (fun _ => 120) 2 32 1 1 k = if k = 0 then 1 else 120 := by
 have : k = 0 ∨ k = 1 := by omega
 rcases this with rfl | rfl <;> decide
set_option maxRecDepth 20000 in
set_option maxHeartbeats 4000000 in
theorem sum_text {g sp hp ap wb lb N L q : Nat} {ws : Nat → Nat} {p : Pos} {μ : Mem} (hg : 2500 ≤ g) (h : SP μ sp hp ap wb lb N L ws p) (ht : TxtAt ws q N) :
  EndsF (aFun Tryz.prog (aCode Tryz.prog X S0 g) 22 [.pointer (some ⟨sp, 0, none⟩), .int .u64 (.ofNat (placeW q))] μ) fun v μ' => v = .tuple #[.int .u64 (.ofNat hashX), .bool true] ∧ Grow μ μ' := by
 obtain ⟨k, rfl⟩ := Nat.exists_eq_add_of_le' hg
 have hq := ht.room
 obtain ⟨v1, μ1, t1, ⟨l, rfl, o1, e1⟩, g1⟩ := asnum_no (X := X) (g := k + 2496) (μ := μ) (by omega) h (by omega) ht.head (by decide) (by decide) (by decide) (by decide) (by decide)
 obtain ⟨μ2, s2, d2, g2, k2⟩ := num_store (μ := μ1) o1 e1 (Grow.refl _)
 obtain ⟨v3, μ3, t3, v4, rfl, hO⟩ := astext_ends (X := X) (g := k + 2495) (m := 2) (n := 1) (x := fun _ => 120) (μ := μ2) (by omega) (h.grow (g1.trans g2)) (by decide) (by omega) ht.head (fun k hk => by
  rw [pf_x k hk]
  have : k = 0 ∨ k = 1 := by omega
  rcases this with rfl | rfl
  ·exact ht.many
  ·exact ht.sign) (by decide) (fun _ => by decide)
 obtain ⟨i, c, rfl, hc⟩ : ∃ i c, v4 = .slice (some ⟨i, 0, none⟩) 1 c ∧ cellsAt μ3 i 0 = some (.int .i64 (.ofNat 120)) := by
  rcases hO.good with ⟨_, e⟩ | ⟨i, m, z, ov, fx, sh, c, e1, e2, e3, e4, e5⟩
  ·cases e
  ·exact ⟨i, c, e1, by
    rw [cellsAt_of (n := m) (z := z) (ov := ov) (by rw [e2]; rfl) (Nat.lt_of_lt_of_le Nat.zero_lt_one e3)]
    exact congrArg some (e4 0 (by simp [wl]))⟩
 have hm : ∀ g, 60 ≤ g → aFun Tryz.prog (aCode Tryz.prog X S0 g) 49 [.int .u64 (.ofNat (seedK + 1)), .int .u64 (.ofNat 120)] μ3 = some (.int .u64 (.ofNat hashX), μ3) := fun g hg => mixF_eq hg (by decide) (by decide)
 have f1 : ilt 0 (.ofNat 1) = true := rfl
 have f2 : qwrap .i64 (Int.add 0 1) = 1 := rfl
 have f3 : ilt 1 (.ofNat 1) = false := rfl
 have f4 : aConvInt Tryz.prog 3 26 (.int .i64 (.ofNat 120)) = some (.int .u64 (.ofNat 120)) := rfl
 have hix : ∀ (ρ : Operand → Value) (a b : Operand), ρ a = .slice (some ⟨i, 0, none⟩) 1 c → ρ b = .int .i64 0 → aIndexAddr Tryz.prog ρ 22 a b = some (.pointer (some ⟨i, 0, none⟩)) := fun ρ a b h1 h2 => indexAddr_slice (m := 0) Tryz.underlying22 i3 rfl h1 h2 (by decide)
 obtain ⟨hx, hxe⟩ : ∃ x, x = hashX := ⟨_, rfl⟩
 obtain ⟨sk, hsk⟩ : ∃ x, x = seedK + 1 := ⟨_, rfl⟩
 have sC : (14695981039346656038 : Int) = .ofNat sk := by rw [hsk]; exact seedC1
 rw [← hxe, ← hsk] at hm
 rw [← hxe]
 refine fun_enter Tryz.func22 rfl rfl (Nat.le_of_ble_eq_true rfl) ?_
 simp only [T.lay, Nat.zero_add, Tryz.ntmps22, Nat.reduceAdd]
 repeat (first | refine code_seq ?_ | ((first | (refine code_region ?_ ?_; (focus rfl)) | (refine code_guards (gs := ?_) ?_ ?_; rotate_left; (focus rfl))); simp only [run1, run2, wanted, go_sem, Nat.reduceLT, Nat.reduceAdd, Nat.reduceEqDiff, reduceIte, reduceCtorEq, gg47, t1, al36, Nat.add_eq, s2, gg50, t3, aBuiltin, aLen, Tryz.underlying22, cast_nat, sC, f1, hix, ld3, hc, f4, gg49, hm, Nat.reduceLeDiff, f2, f3]) | (refine code_cond_true ?_ ?_; (focus (simp only [aev, regAt_set, Nat.reduceEqDiff, reduceIte, gg47, t1, al36, Nat.add_eq, s2, gg50, t3, aBuiltin, aLen, Tryz.underlying22, cast_nat, sC, f1, hix, ld3, hc, f4, gg49, hm, Nat.reduceLeDiff, f2, f3]; done))) | (refine code_cond_false ?_ ?_; (focus (simp only [aev, regAt_set, Nat.reduceEqDiff, reduceIte, gg47, t1, al36, Nat.add_eq, s2, gg50, t3, aBuiltin, aLen, Tryz.underlying22, cast_nat, sC, f1, hix, ld3, hc, f4, gg49, hm, Nat.reduceLeDiff, f2, f3]; done))) | ((first | refine code_skip ?_ | refine code_label ?_ | refine code_exit ?_); try simp only [then_exit, then_normal, blockC, Nat.reduceEqDiff, reduceIte]) | refine code_block ?_ | refine code_loop ?_)
 refine code_ret ?_
 refine ⟨rfl, _, ?_, rfl, g1.trans (g2.trans hO.grow)⟩
 simp only [aResults, Tryz.results22, aRes, regAt_set, Nat.reduceEqDiff, reduceIte]
def Key (ws : Nat → Nat) (N w h : Nat) : Prop := (∃ n, Sm n ∧ w = sw n ∧ h = hashI n) ∨ ∃ q, TxtAt ws q N ∧ w = placeW q ∧ h = hashX
theorem Key.lt {ws : Nat → Nat} {N w h : Nat} (k : Key ws N w h) : h < 18446744073709551616 := by
 rcases k with ⟨n, _, _, rfl⟩ | ⟨q, _, _, rfl⟩
 ·exact hashI_lt n
 ·exact hashX_lt
theorem sum_key {g sp hp ap wb lb N L w h : Nat} {ws : Nat → Nat} {p : Pos} {μ : Mem} (hg : 2500 ≤ g) (hr : Rom μ) (hs : SP μ sp hp ap wb lb N L ws p) (hk : Key ws N w h) :
  EndsF (aFun Tryz.prog (aCode Tryz.prog X S0 g) 22 [.pointer (some ⟨sp, 0, none⟩), .int .u64 (.ofNat w)] μ) fun v μ' => v = .tuple #[.int .u64 (.ofNat h), .bool true] ∧ Grow μ μ' := by
 rcases hk with ⟨n, hn, rfl, rfl⟩ | ⟨q, hq, rfl, rfl⟩
 ·exact sum_small (by omega) hr hn
 ·exact sum_text hg hs hq
theorem same_key {g sp hp ap wb lb N L w h : Nat} {a : Int} {ws : Nat → Nat} {p : Pos} {μ : Mem} (hg : 800 ≤ g) (ha : Sm a) (hs : SP μ sp hp ap wb lb N L ws p) (hk : Key ws N w h) :
  EndsF (aFun Tryz.prog (aCode Tryz.prog X S0 g) 53 [.pointer (some ⟨sp, 0, none⟩), .int .u64 (.ofNat (sw a)), .int .u64 (.ofNat w)] μ) fun v μ' => v = .bool (decide (sw a = w)) ∧ Grow μ μ' := by
 rcases hk with ⟨n, hn, rfl, rfl⟩ | ⟨q, hq, rfl, rfl⟩
 ·by_cases e : a = n
  ·subst e
   rw [decide_eq_true rfl]
   exact tsame_of (by omega) (equal_same (by omega))
  ·rw [decide_eq_false fun h => e (sw_inj ha hn h)]
   exact tsame_of (by omega) (equal_no (by omega) hs.sp0 hs.spn fun μ1 g1 => eqv_small (by omega) ha hn e)
 ·rw [decide_eq_false (by have := sw_mod a; unfold placeW; omega)]
  exact tsame_of (by omega) (equal_no (by omega) hs.sp0 hs.spn fun μ1 g1 => eqv_obj (by omega) ha (hs.grow g1) (by have := hq.room; omega) hq.head (by decide) (by decide) (by decide) (by decide))
end
noncomputable section
variable {X : FuncId → List Value → Mem → Option (Value × Mem)}
variable [Z : Sz]
def vL (sp t cnt used e ix room places : Nat) : List Value := [.pointer (some ⟨sp, 0, none⟩), .int .u64 (.ofNat t), .int .i64 (.ofNat cnt), .int .i64 (.ofNat used), .int .u64 (.ofNat (placeW e)), .int .u64 (.ofNat (placeW ix)), .int .i64 (.ofNat room), .int .i64 (.ofNat places)]
set_option maxRecDepth 20000 in
set_option maxHeartbeats 4000000 in
theorem heap_of {g sp hp : Nat} {μ : Mem} (hg : 10 ≤ g) (h : cellsAt μ sp 0 = some (.pointer (some ⟨hp, 0, none⟩))) : aFun Tryz.prog (aCode Tryz.prog X S0 g) 42 [.pointer (some ⟨sp, 0, none⟩)] μ = some (.pointer (some ⟨hp, 0, none⟩), μ) := by
 obtain ⟨k, rfl⟩ := Nat.exists_eq_add_of_le' hg
 refine ends_eq ?_
 refine fun_enter Tryz.func42 rfl rfl (Nat.le_of_ble_eq_true rfl) ?_
 simp only [T.lay, Nat.zero_add, Tryz.ntmps42, Nat.reduceAdd]
 repeat (first | refine code_seq ?_ | ((first | (refine code_region ?_ ?_; (focus rfl)) | (refine code_guards (gs := ?_) ?_ ?_; rotate_left; (focus rfl))); simp only [run1, run2, wanted, go_sem, Nat.reduceLT, Nat.reduceAdd, Nat.reduceEqDiff, reduceIte, reduceCtorEq, faS0, Nat.add_zero, ldHp, h]) | (refine code_cond_true ?_ ?_; (focus (simp only [aev, regAt_set, Nat.reduceEqDiff, reduceIte, faS0, Nat.add_zero, ldHp, h]; done))) | (refine code_cond_false ?_ ?_; (focus (simp only [aev, regAt_set, Nat.reduceEqDiff, reduceIte, faS0, Nat.add_zero, ldHp, h]; done))) | ((first | refine code_skip ?_ | refine code_label ?_ | refine code_exit ?_); try simp only [then_exit, then_normal, blockC, Nat.reduceEqDiff, reduceIte]) | refine code_block ?_)
 refine code_ret ?_
 refine ⟨rfl, _, ?_, rfl, rfl⟩
 simp only [aResults, Tryz.results42, aRes, regAt_set, Nat.reduceEqDiff, reduceIte]
theorem hget {g hp ap wb N q kd pn n i : Nat} {ws : Nat → Nat} {μ : Mem} (hg : 80 ≤ g) (hH : HeapAt μ hp ap wb N ws) (hq : q + n < N) (hN : N < 1000000) (hw : ws q = headW kd pn n) (h1 : kd < 32) (h2 : pn < 8) (hi : i < n) :
  EndsF (aFun Tryz.prog (aCode Tryz.prog X S0 g) 45 [.pointer (some ⟨hp, 0, none⟩), .int .u64 (.ofNat (placeW q)), .int .i64 (.ofNat i)] μ) fun v μ' => v = .tuple #[.int .u64 (.ofNat (ws (q + 1 + i))), .int .i64 0] ∧ Grow μ μ' := by
 obtain ⟨k, rfl⟩ := Nat.exists_eq_add_of_le' hg
 exact heap_get hH hq hN hw h1 h2 hi
theorem hset {g hp ap wb N q kd pn n i w : Nat} {ws : Nat → Nat} {μ : Mem} (hg : 80 ≤ g) (hH : HeapAt μ hp ap wb N ws) (hq : q + n < N) (hN : N < 1000000) (hw : ws q = headW kd pn n) (h1 : kd < 32) (h2 : pn < 8) (hi : i < n) :
  EndsF (aFun Tryz.prog (aCode Tryz.prog X S0 g) 54 [.pointer (some ⟨hp, 0, none⟩), .int .u64 (.ofNat (placeW q)), .int .i64 (.ofNat i), .int .u64 (.ofNat w)] μ) fun v μ' => v = .int .i64 0 ∧ HeapAt μ' hp ap wb N (put ws (q + 1 + i) w) ∧ μ.next ≤ μ'.next ∧ ∀ j, j < μ.next → j ≠ wb → μ'.obs.get j = μ.obs.get j := by
 obtain ⟨k, rfl⟩ := Nat.exists_eq_add_of_le' hg
 exact heap_set hH hq hN hw h1 h2 hi
theorem hkind {g hp ap wb N q kd pn n : Nat} {ws : Nat → Nat} {μ : Mem} (hg : 80 ≤ g) (hH : HeapAt μ hp ap wb N ws) (hq : q < N) (hN : N < 1000000) (hw : ws q = headW kd pn n) (h1 : kd < 32) (h2 : pn < 8) (h3 : n < 1000000) :
  EndsF (aFun Tryz.prog (aCode Tryz.prog X S0 g) 43 [.pointer (some ⟨hp, 0, none⟩), .int .u64 (.ofNat (placeW q))] μ) fun v μ' => v = .int .i64 (.ofNat kd) ∧ Grow μ μ' := by
 obtain ⟨k, rfl⟩ := Nat.exists_eq_add_of_le' hg
 exact heap_kind hH hq hN hw h1 h2 h3
theorem hsize {g hp ap wb N q kd pn n : Nat} {ws : Nat → Nat} {μ : Mem} (hg : 80 ≤ g) (hH : HeapAt μ hp ap wb N ws) (hq : q < N) (hN : N < 1000000) (hw : ws q = headW kd pn n) (h1 : kd < 32) (h2 : pn < 8) (h3 : n < 1000000) :
  EndsF (aFun Tryz.prog (aCode Tryz.prog X S0 g) 44 [.pointer (some ⟨hp, 0, none⟩), .int .u64 (.ofNat (placeW q))] μ) fun v μ' => v = .int .i64 (.ofNat n) ∧ Grow μ μ' := by
 obtain ⟨k, rfl⟩ := Nat.exists_eq_add_of_le' hg
 exact heap_size hH hq hN hw h1 h2 h3
structure VW (μ : Mem) (vi sp hp ap wb lb : Nat) (ws : Nat → Nat) (p : Pos) (t cnt used e ix room places : Nat) : Prop where
 hs : SP μ sp hp ap wb lb Sz.N Sz.L ws p
 has : Has μ vi 0 (vL sp t cnt used e ix room places)
 blk : Blk μ vi 8 66
 vn : vi < μ.next
 v1 : vi ≠ ap
 v2 : vi ≠ wb
 v3 : vi ≠ lb
 v4 : vi ≠ sp
 v5 : vi ≠ hp
 dj : e + 2 * room < ix ∨ ix + places < e
 he : ws e = headW 1 0 (2 * room)
 hi : ws ix = headW 1 0 places
 re : e + 2 * room < Sz.N
 ri : ix + places < Sz.N
 r1 : room ≤ 100
 r2 : places ≤ 128
theorem VW.grow {μ μ' : Mem} {vi sp hp ap wb lb : Nat} {ws : Nat → Nat} {p : Pos} {t cnt used e ix room places : Nat} (h : VW μ vi sp hp ap wb lb ws p t cnt used e ix room places) (g : Grow μ μ') : VW μ' vi sp hp ap wb lb ws p t cnt used e ix room places :=
 ⟨h.hs.grow g, h.has.keep (g.2 _ h.vn), h.blk.of_get (g.2 _ h.vn), Nat.lt_of_lt_of_le h.vn g.1, h.v1, h.v2, h.v3, h.v4, h.v5, h.dj, h.he, h.hi, h.re, h.ri, h.r1, h.r2⟩
theorem VW.up {μ : Mem} {vi sp hp ap wb lb d : Nat} {ws : Nat → Nat} {p : Pos} {t cnt used e ix room places : Nat} (h : VW μ vi sp hp ap wb lb ws p t cnt used e ix room places) : VW ⟨μ.obs, μ.next + d⟩ vi sp hp ap wb lb ws p t cnt used e ix room places := h.grow (grow_up μ d)
set_option maxRecDepth 20000 in
set_option maxHeartbeats 4000000 in
theorem vat_eq {g vi sp hp ap wb lb t cnt used e ix room places q : Nat} {ws : Nat → Nat} {p : Pos} {n : Int} {μ : Mem} (hg : 120 ≤ g) (h : VW μ vi sp hp ap wb lb ws p t cnt used e ix room places) (hq : q < places) (hn : Sm n) (hw : ws (ix + 1 + q) = sw n) :
  EndsF (aFun Tryz.prog (aCode Tryz.prog X S0 g) 52 [.pointer (some ⟨vi, 0, none⟩), .int .i64 (.ofNat q)] μ) fun v μ' => v = .int .i64 n ∧ Grow μ μ' := by
 obtain ⟨k, rfl⟩ := Nat.exists_eq_add_of_le' hg
 have hU := h.up (d := 16)
 have c0 : cellsAt ⟨μ.obs, μ.next + 16⟩ vi 0 = some (.pointer (some ⟨sp, 0, none⟩)) := h.has.cell 0 (by simp [vL])
 have c5 : cellsAt ⟨μ.obs, μ.next + 16⟩ vi 5 = some (.int .u64 (.ofNat (placeW ix))) := h.has.cell 5 (by simp [vL])
 have hH : ∀ g, 10 ≤ g → aFun Tryz.prog (aCode Tryz.prog X S0 g) 42 [.pointer (some ⟨sp, 0, none⟩)] ⟨μ.obs, μ.next + 16⟩ = some (.pointer (some ⟨hp, 0, none⟩), ⟨μ.obs, μ.next + 16⟩) := fun g hg => heap_of hg hU.hs.sp0
 obtain ⟨v1, μ1, h1, rfl, g1⟩ := hget (X := X) (g := k + 117) (i := q) (by omega) hU.hs.hs.at (n := places) h.ri Sz.N1 h.hi (by decide) (by decide) hq
 rw [hw] at h1
 have hv : ∀ g, 20 ≤ g → aFun Tryz.prog (aCode Tryz.prog X S0 g) 46 [.int .u64 (.ofNat (sw n))] μ1 = some (.int .i64 n, μ1) := fun g hg => value_small hg hn
 refine fun_enter Tryz.func52 rfl rfl (Nat.le_of_ble_eq_true rfl) ?_
 simp only [T.lay, Nat.zero_add, Tryz.ntmps52, Nat.reduceAdd]
 refine code_seq ?_
 refine code_region ?_ ?_
 ·rfl
 simp only [run1, go_sem, Nat.reduceLT, Nat.reduceAdd, Nat.reduceEqDiff, reduceIte, reduceCtorEq]
 refine code_seq ?_
 refine code_draw (n := 16) (ms := [0, 1, 3, 7, 15, 0, 32, 96, 224, 0, 1023, 2047, 4095, 4095, 8191, 32767]) (ord := [0, 1, 2, 3, 4, 5, 6, 7, 8, 9, 10, 11, 12, 13, 14, 15]) (ds := ?_) ?_ ?_ ?_ ?_ ?_ ?_
 rotate_left
 ·kernel_rfl
 ·kernel_rfl
 ·kernel_rfl
 ·rfl
 ·rfl
 iterate 16 (refine drun_true (by first | rfl | (simp only [wanted, go_sem, Nat.reduceLT, Nat.reduceAdd, Nat.reduceEqDiff, reduceIte, reduceCtorEq, fa81_0, fa81_5, Nat.add_zero, ld24, ldW, c0, c5, gg42, hH, Nat.reduceLeDiff, gg45, h1])) (by simp only [aDrawOne, heavy, aReads, eqVal_self, go_sem, Nat.reduceLT, Nat.reduceAdd, Nat.reduceEqDiff, reduceIte, reduceCtorEq, fa81_0, fa81_5, Nat.add_zero, ld24, ldW, c0, c5, gg42, hH, Nat.reduceLeDiff, gg45, h1]; try exact rfl) rfl ?_)
 simp only [dRun, endsD_some, then_normal]
 repeat (first | refine code_seq ?_ | ((first | (refine code_region ?_ ?_; (focus rfl)) | (refine code_guards (gs := ?_) ?_ ?_; rotate_left; (focus rfl))); simp only [run1, run2, wanted, go_sem, Nat.reduceLT, Nat.reduceAdd, Nat.reduceEqDiff, reduceIte, reduceCtorEq, gg46, hv, Nat.reduceLeDiff]) | (refine code_cond_true ?_ ?_; (focus (simp only [aev, regAt_set, Nat.reduceEqDiff, reduceIte, gg46, hv, Nat.reduceLeDiff]; done))) | (refine code_cond_false ?_ ?_; (focus (simp only [aev, regAt_set, Nat.reduceEqDiff, reduceIte, gg46, hv, Nat.reduceLeDiff]; done))) | ((first | refine code_skip ?_ | refine code_label ?_ | refine code_exit ?_); try simp only [then_exit, then_normal, blockC, Nat.reduceEqDiff, reduceIte]) | refine code_block ?_)
 refine code_ret ?_
 refine ⟨rfl, _, ?_, rfl, (grow_up μ 16).trans g1⟩
 simp only [aResults, Tryz.results52, aRes, regAt_set, Nat.reduceEqDiff, reduceIte]
set_option maxRecDepth 20000 in
set_option maxHeartbeats 4000000 in
theorem entry_eq {g vi sp hp ap wb lb t cnt used e ix room places i : Nat} {ws : Nat → Nat} {p : Pos} {μ : Mem} (hg : 140 ≤ g) (h : VW μ vi sp hp ap wb lb ws p t cnt used e ix room places) (hi : i < room) :
  EndsF (aFun Tryz.prog (aCode Tryz.prog X S0 g) 24 [.pointer (some ⟨vi, 0, none⟩), .int .i64 (.ofNat i)] μ) fun v μ' => v = .tuple #[.int .u64 (.ofNat (ws (e + 1 + i * 2))), .int .u64 (.ofNat (ws (e + 1 + (i * 2 + 1))))] ∧ Grow μ μ' := by
 obtain ⟨k, rfl⟩ := Nat.exists_eq_add_of_le' hg
 have hr := h.r1
 have hU := h.up (d := 17)
 have c0 : cellsAt ⟨μ.obs, μ.next + 17⟩ vi 0 = some (.pointer (some ⟨sp, 0, none⟩)) := h.has.cell 0 (by simp [vL])
 have c4 : cellsAt ⟨μ.obs, μ.next + 17⟩ vi 4 = some (.int .u64 (.ofNat (placeW e))) := h.has.cell 4 (by simp [vL])
 have hH : ∀ g, 10 ≤ g → aFun Tryz.prog (aCode Tryz.prog X S0 g) 42 [.pointer (some ⟨sp, 0, none⟩)] ⟨μ.obs, μ.next + 17⟩ = some (.pointer (some ⟨hp, 0, none⟩), ⟨μ.obs, μ.next + 17⟩) := fun g hg => heap_of hg hU.hs.sp0
 obtain ⟨v1, μ1, h1, rfl, g1⟩ := hget (X := X) (g := k + 137) (i := i * 2) (by omega) hU.hs.hs.at (n := 2 * room) h.re Sz.N1 h.he (by decide) (by decide) (by omega)
 have hV := hU.grow g1
 have hV2 := hV.up (d := 18)
 have d0 : cellsAt ⟨μ1.obs, μ1.next + 18⟩ vi 0 = some (.pointer (some ⟨sp, 0, none⟩)) := hV.has.cell 0 (by simp [vL])
 have d4 : cellsAt ⟨μ1.obs, μ1.next + 18⟩ vi 4 = some (.int .u64 (.ofNat (placeW e))) := hV.has.cell 4 (by simp [vL])
 have hH2 : ∀ g, 10 ≤ g → aFun Tryz.prog (aCode Tryz.prog X S0 g) 42 [.pointer (some ⟨sp, 0, none⟩)] ⟨μ1.obs, μ1.next + 18⟩ = some (.pointer (some ⟨hp, 0, none⟩), ⟨μ1.obs, μ1.next + 18⟩) := fun g hg => heap_of hg hV2.hs.sp0
 obtain ⟨v2, μ2, h2, rfl, g2⟩ := hget (X := X) (g := k + 136) (i := i * 2 + 1) (by omega) hV2.hs.hs.at (n := 2 * room) h.re Sz.N1 h.he (by decide) (by decide) (by omega)
 have e1 : qwrap .i64 (Int.mul (.ofNat i) 2) = .ofNat (i * 2) := mul_nat i 2 (by omega)
 obtain ⟨y, hy⟩ : ∃ y, y = i * 2 := ⟨_, rfl⟩
 obtain ⟨z, hz⟩ : ∃ z, z = y + 1 := ⟨_, rfl⟩
 have e2 : qwrap .i64 (Int.add (.ofNat y) 1) = .ofNat z := hz ▸ add_nat y 1 (by omega)
 rw [← hy] at h1 e1 h2 ⊢
 rw [← hz] at h2 ⊢
 obtain ⟨a, ha⟩ : ∃ a, a = ws (e + 1 + y) := ⟨_, rfl⟩
 obtain ⟨b, hb⟩ : ∃ b, b = ws (e + 1 + z) := ⟨_, rfl⟩
 rw [← ha] at h1 ⊢
 rw [← hb] at h2 ⊢
 refine fun_enter Tryz.func24 rfl rfl (Nat.le_of_ble_eq_true rfl) ?_
 simp only [T.lay, Nat.zero_add, Tryz.ntmps24, Nat.reduceAdd]
 refine code_seq ?_
 refine code_region ?_ ?_
 ·rfl
 simp only [run1, go_sem, Nat.reduceLT, Nat.reduceAdd, Nat.reduceEqDiff, reduceIte, reduceCtorEq]
 refine code_seq ?_
 refine code_draw (n := 17) (ms := [0, 1, 3, 7, 15, 0, 32, 96, 224, 0, 512, 2047, 4095, 8191, 8191, 16383, 65535]) (ord := [0, 1, 2, 3, 4, 5, 6, 7, 8, 9, 10, 11, 12, 13, 14, 15, 16]) (ds := ?_) ?_ ?_ ?_ ?_ ?_ ?_
 rotate_left
 ·kernel_rfl
 ·kernel_rfl
 ·kernel_rfl
 ·rfl
 ·rfl
 iterate 17 (refine drun_true (by first | rfl | (simp only [wanted, go_sem, Nat.reduceLT, Nat.reduceAdd, Nat.reduceEqDiff, reduceIte, reduceCtorEq, fa81_0, fa81_4, Nat.add_zero, ld24, ldW, c0, c4, gg42, hH, Nat.reduceLeDiff, e1, gg45, h1])) (by simp only [aDrawOne, heavy, aReads, eqVal_self, go_sem, Nat.reduceLT, Nat.reduceAdd, Nat.reduceEqDiff, reduceIte, reduceCtorEq, fa81_0, fa81_4, Nat.add_zero, ld24, ldW, c0, c4, gg42, hH, Nat.reduceLeDiff, e1, gg45, h1]; try exact rfl) rfl ?_)
 simp only [dRun, endsD_some, then_normal]
 refine code_seq ?_
 refine code_draw (n := 18) (ms := [0, 1, 3, 7, 15, 0, 32, 96, 224, 0, 512, 1536, 4095, 8191, 16383, 16383, 32767, 131071]) (ord := [0, 1, 2, 3, 4, 5, 6, 7, 8, 9, 10, 11, 12, 13, 14, 15, 16, 17]) (ds := ?_) ?_ ?_ ?_ ?_ ?_ ?_
 rotate_left
 ·kernel_rfl
 ·kernel_rfl
 ·kernel_rfl
 ·rfl
 ·rfl
 iterate 18 (refine drun_true (by first | rfl | (simp only [wanted, go_sem, Nat.reduceLT, Nat.reduceAdd, Nat.reduceEqDiff, reduceIte, reduceCtorEq, fa81_0, fa81_4, Nat.add_zero, ld24, ldW, d0, d4, gg42, hH2, Nat.reduceLeDiff, e1, e2, gg45, h2])) (by simp only [aDrawOne, heavy, aReads, eqVal_self, go_sem, Nat.reduceLT, Nat.reduceAdd, Nat.reduceEqDiff, reduceIte, reduceCtorEq, fa81_0, fa81_4, Nat.add_zero, ld24, ldW, d0, d4, gg42, hH2, Nat.reduceLeDiff, e1, e2, gg45, h2]; try exact rfl) rfl ?_)
 simp only [dRun, endsD_some, then_normal]
 repeat (first | refine code_seq ?_ | ((first | (refine code_region ?_ ?_; (focus rfl)) | (refine code_guards (gs := ?_) ?_ ?_; rotate_left; (focus rfl))); simp only [run1, run2, wanted, go_sem, Nat.reduceLT, Nat.reduceAdd, Nat.reduceEqDiff, reduceIte, reduceCtorEq]) | (refine code_cond_true ?_ ?_; (focus (simp only [aev, regAt_set, Nat.reduceEqDiff, reduceIte]; done))) | (refine code_cond_false ?_ ?_; (focus (simp only [aev, regAt_set, Nat.reduceEqDiff, reduceIte]; done))) | ((first | refine code_skip ?_ | refine code_label ?_ | refine code_exit ?_); try simp only [then_exit, then_normal, blockC, Nat.reduceEqDiff, reduceIte]) | refine code_block ?_)
 refine code_ret ?_
 refine ⟨rfl, _, ?_, rfl, (grow_up μ 17).trans (g1.trans ((grow_up μ1 18).trans g2))⟩
 simp only [aResults, Tryz.results24, aRes, regAt_set, Nat.reduceEqDiff, reduceIte]
end
noncomputable section
variable {X : FuncId → List Value → Mem → Option (Value × Mem)}
variable [Z : Sz]
def occ (I : Nat → Int) : Nat → Nat
 | 0 => 0
 | m + 1 => occ I m + if I m = -1 then 0 else 1
theorem occ_free (I : Nat → Int) : ∀ m, occ I m < m → ∃ q, q < m ∧ I q = -1
 | 0, h => absurd h (Nat.lt_irrefl _)
 | m + 1, h => by
   by_cases e : I m = -1
   ·exact ⟨m, Nat.lt_succ_self _, e⟩
   ·unfold occ at h
    rw [if_neg e] at h
    obtain ⟨q, h1, h2⟩ := occ_free I m (by omega)
    exact ⟨q, by omega, h2⟩
def kwd : Option Int → Nat
 | none => 45
 | some n => sw n
structure TL (ws : Nat → Nat) (e ix room places used : Nat) (I : Nat → Int) (K : Nat → Option Int) : Prop where
 le : used ≤ room
 lt : used < places
 idx : ∀ q, q < places → ws (ix + 1 + q) = sw (I q)
 rng : ∀ q, q < places → I q = -1 ∨ (0 ≤ I q ∧ I q < used)
 key : ∀ i, i < used → ws (e + 1 + i * 2) = kwd (K i)
 ksm : ∀ i n, i < used → K i = some n → Sm n
 path : ∀ i n, i < used → K i = some n → ∃ d, d < places ∧ I ((hashI n % places + d) % places) = i ∧ ∀ d', d' < d → I ((hashI n % places + d') % places) ≠ -1
 cnt : occ I places = used
theorem TL.free {ws : Nat → Nat} {e ix room places used : Nat} {I : Nat → Int} {K : Nat → Option Int} (h : TL ws e ix room places used I K) (s : Nat) : ∃ f, f < places ∧ I ((s + f) % places) = -1 := by
 obtain ⟨q, hq, h1⟩ := occ_free I places (by rw [h.cnt]; exact h.lt)
 have h0 : 0 < places := by have := h.lt; omega
 obtain ⟨r, hr⟩ : ∃ r, r = s % places := ⟨_, rfl⟩
 have hr2 : r < places := by rw [hr]; exact Nat.mod_lt _ h0
 refine ⟨(q + places - r) % places, Nat.mod_lt _ h0, ?_⟩
 rw [Nat.add_mod_mod, show s + (q + places - r) = s / places * places + (q + places) from by have := Nat.div_add_mod s places; rw [Nat.mul_comm] at this; omega, Nat.add_comm, Nat.add_mul_mod_self_right, Nat.add_mod_right, Nat.mod_eq_of_lt hq]
 exact h1
theorem sw_ne45 (n : Int) : sw n ≠ 45 := by have := sw_mod n; omega
theorem key_small {ws : Nat → Nat} {N h : Nat} {n : Int} (hk : Key ws N (sw n) h) (hn : Sm n) : h = hashI n := by
 rcases hk with ⟨m, hm, e, rfl⟩ | ⟨q, hq, e, _⟩
 ·rw [sw_inj hn hm e]
 ·have := sw_mod n; unfold placeW at e; omega
set_option maxRecDepth 20000 in
set_option maxHeartbeats 4000000 in
theorem single_eq {g : Nat} {μ : Mem} (hg : 40 ≤ g) : aFun Tryz.prog (aCode Tryz.prog X S0 g) 17 [.int .i64 5] μ = some (.int .u64 (.ofNat 45), μ) := by
 obtain ⟨k, rfl⟩ := Nat.exists_eq_add_of_le' hg
 refine ends_eq ?_
 have hm : ∀ g, 20 ≤ g → aFun Tryz.prog (aCode Tryz.prog X S0 g) 38 [.int .u64 5, .int .i64 5] μ = some (.int .u64 (.ofNat 45), μ) := fun g hg => by
  obtain ⟨k, rfl⟩ := Nat.exists_eq_add_of_le' hg
  refine ends_eq ?_
  have e2 : aShift true .u64 5 3 = some (.int .u64 (.ofNat 40)) := rfl
  have e3 : aBits Nat.lor .u64 .u64 (.ofNat 40) 5 = some (.int .u64 (.ofNat 45)) := rfl
  have e4 : qwrap .u64 5 = 5 := rfl
  refine fun_enter Tryz.func38 rfl rfl (Nat.le_of_ble_eq_true rfl) ?_
  simp only [T.lay, Nat.zero_add, Tryz.ntmps38, Nat.reduceAdd]
  repeat (first | refine code_seq ?_ | ((first | (refine code_region ?_ ?_; (focus rfl)) | (refine code_guards (gs := ?_) ?_ ?_; rotate_left; (focus rfl))); simp only [run1, run2, wanted, go_sem, Nat.reduceLT, Nat.reduceAdd, Nat.reduceEqDiff, reduceIte, reduceCtorEq, cviW, e4, e2, e3]) | (refine code_cond_true ?_ ?_; (focus (simp only [aev, regAt_set, Nat.reduceEqDiff, reduceIte, cviW, e4, e2, e3]; done))) | (refine code_cond_false ?_ ?_; (focus (simp only [aev, regAt_set, Nat.reduceEqDiff, reduceIte, cviW, e4, e2, e3]; done))) | ((first | refine code_skip ?_ | refine code_label ?_ | refine code_exit ?_); try simp only [then_exit, then_normal, blockC, Nat.reduceEqDiff, reduceIte]) | refine code_block ?_)
  refine code_ret ?_
  refine ⟨rfl, _, ?_, rfl, rfl⟩
  simp only [aResults, Tryz.results38, aRes, regAt_set, Nat.reduceEqDiff, reduceIte]
 refine fun_enter Tryz.func17 rfl rfl (Nat.le_of_ble_eq_true rfl) ?_
 simp only [T.lay, Nat.zero_add, Tryz.ntmps17, Nat.reduceAdd]
 repeat (first | refine code_seq ?_ | ((first | (refine code_region ?_ ?_; (focus rfl)) | (refine code_guards (gs := ?_) ?_ ?_; rotate_left; (focus rfl))); simp only [run1, run2, wanted, go_sem, Nat.reduceLT, Nat.reduceAdd, Nat.reduceEqDiff, reduceIte, reduceCtorEq, gg38, hm, Nat.reduceLeDiff]) | (refine code_cond_true ?_ ?_; (focus (simp only [aev, regAt_set, Nat.reduceEqDiff, reduceIte, gg38, hm, Nat.reduceLeDiff]; done))) | (refine code_cond_false ?_ ?_; (focus (simp only [aev, regAt_set, Nat.reduceEqDiff, reduceIte, gg38, hm, Nat.reduceLeDiff]; done))) | ((first | refine code_skip ?_ | refine code_label ?_ | refine code_exit ?_); try simp only [then_exit, then_normal, blockC, Nat.reduceEqDiff, reduceIte]) | refine code_block ?_)
 refine code_ret ?_
 refine ⟨rfl, _, ?_, rfl, rfl⟩
 simp only [aResults, Tryz.results17, aRes, regAt_set, Nat.reduceEqDiff, reduceIte]
def Found (used places h w : Nat) (I : Nat → Int) (K : Nat → Option Int) (i pl : Int) : Prop :=
 (∃ j n, i = .ofNat j ∧ j < used ∧ K j = some n ∧ w = sw n) ∨
 (i = -1 ∧ (∀ j n, j < used → K j = some n → w ≠ sw n) ∧ ∃ d, d < places ∧ pl = .ofNat ((h % places + d) % places) ∧ I ((h % places + d) % places) = -1 ∧ ∀ d', d' < d → I ((h % places + d') % places) ≠ -1)
end
noncomputable section
variable {X : FuncId → List Value → Mem → Option (Value × Mem)}
variable [Z : Sz]
theorem ilt_neg1 : ilt (-1) 0 = true := rfl
theorem mod_step (s d m : Nat) : ((s + d) % m + 1) % m = (s + (d + 1)) % m := by rw [Nat.mod_add_mod, Nat.add_assoc]
set_option maxRecDepth 20000 in
set_option maxHeartbeats 4000000 in
theorem find_none {G vi sp hp ap wb lb t cnt used e ix room places w h s d : Nat} {ws : Nat → Nat} {I : Nat → Int} {K : Nat → Option Int} {p : Pos} {μ0 μ : Mem} {tm : T Value} (hG : 1000 ≤ G) (hV : VW μ0 vi sp hp ap wb lb ws p t cnt used e ix room places) (hT : TL ws e ix room places used I K) (hk : Key ws Sz.N w h)
  (hs : s = h % places) (hd : d < places) (hI : I ((s + d) % places) = -1) (hg : Grow μ0 μ) (h1 : ∀ d', d' < d → I ((s + d') % places) ≠ -1) (h2 : ∀ d', d' < d → ∀ j n, I ((s + d') % places) = .ofNat j → K j = some n → w ≠ sw n)
  (r0 : regAt tm 0 = .pointer (some ⟨vi, 0, none⟩)) (r8 : regAt tm 8 = .int .i64 (.ofNat ((s + d) % places))) (r23 : regAt tm 23 = .int .i64 (.ofNat places)) (r24 : regAt tm 24 = .int .i64 (.ofNat d)) :
  EndsC (aCode Tryz.prog X S0 G (.loop (loopBody Tryz.f23 0)) ⟨60, tm, [], none⟩ μ) fun a r μ' => a = .ret ∧ Grow μ0 μ' ∧ ∃ tm' i pl, r = ⟨60, tm', [], none⟩ ∧ regAt tm' 6 = .int .i64 i ∧ regAt tm' 7 = .int .i64 pl ∧ Found used places h w I K i pl := by
 obtain ⟨k, rfl⟩ := Nat.exists_eq_add_of_le' hG
 obtain ⟨pl, hpl⟩ : ∃ pl, pl = (s + d) % places := ⟨_, rfl⟩
 have hp2 : pl < places := by rw [hpl]; exact Nat.mod_lt _ (by omega)
 rw [← hpl] at hI r8
 have e1 : ilt (.ofNat d) (.ofNat places) = true := (ilt_nat d places).trans (decide_eq_true hd)
 obtain ⟨v1, μ1, t1, rfl, g1⟩ := vat_eq (X := X) (g := k + 993) (n := -1) (q := pl) (by omega) (hV.grow hg) hp2 ⟨by decide, by decide⟩ (by rw [hT.idx _ hp2, hI])
 have e2 := ilt_neg1
 have fin : Found used places h w I K (-1) (.ofNat pl) := by
  refine .inr ⟨rfl, fun j n hj hK hw => ?_, d, hd, by rw [hpl, hs], by rw [← hs, ← hpl]; exact hI, fun d' hd' => by rw [← hs]; exact h1 d' hd'⟩
  subst hw
  have hn := hT.ksm j n hj hK
  have hh := key_small hk hn
  obtain ⟨dj, hdj, hIj, hbj⟩ := hT.path j n hj hK
  rw [← hh, ← hs] at hIj
  rw [← hh, ← hs] at hbj
  rcases Nat.lt_trichotomy dj d with hlt | heq | hgt
  ·exact h2 dj hlt j n hIj hK rfl
  ·rw [heq, ← hpl, hI] at hIj
   have : (-1 : Int) = (j : Int) := hIj
   omega
  ·exact hbj d hgt (by rw [← hpl]; exact hI)
 refine code_loop ?_
 repeat (first | refine code_seq ?_ | ((first | (refine code_region ?_ ?_; (focus rfl)) | (refine code_guards (gs := ?_) ?_ ?_; rotate_left; (focus rfl))); simp only [run1, run2, wanted, go_sem, Nat.reduceLT, Nat.reduceAdd, Nat.reduceEqDiff, reduceIte, reduceCtorEq, r24, r23, e1, r0, r8, gg52, t1, e2]) | (refine code_cond_true ?_ ?_; (focus (simp only [aev, regAt_set, Nat.reduceEqDiff, reduceIte, r24, r23, e1, r0, r8, gg52, t1, e2]; done))) | (refine code_cond_false ?_ ?_; (focus (simp only [aev, regAt_set, Nat.reduceEqDiff, reduceIte, r24, r23, e1, r0, r8, gg52, t1, e2]; done))) | ((first | refine code_skip ?_ | refine code_label ?_ | refine code_exit ?_); try simp only [then_exit, then_normal, blockC, Nat.reduceEqDiff, reduceIte]) | refine code_block ?_)
 refine code_ret ?_
 refine ⟨rfl, hg.trans g1, _, -1, .ofNat pl, rfl, ?_, ?_, fin⟩
 ·simp only [regAt_set, Nat.reduceEqDiff, reduceIte]
 ·simp only [regAt_set, Nat.reduceEqDiff, reduceIte]
set_option maxRecDepth 20000 in
set_option maxHeartbeats 8000000 in
theorem find_loop {vi sp hp ap wb lb t cnt used e ix room places w h s f : Nat} {ws : Nat → Nat} {I : Nat → Int} {K : Nat → Option Int} {p : Pos} {μ0 : Mem} (hV : VW μ0 vi sp hp ap wb lb ws p t cnt used e ix room places) (hT : TL ws e ix room places used I K) (hk : Key ws Sz.N w h)
  (hs : s = h % places) (hf : f < places) (hff : I ((s + f) % places) = -1) :
  ∀ (m x d : Nat) (tm : T Value) (μ : Mem), d + m = f → Grow μ0 μ → (∀ d', d' < d → I ((s + d') % places) ≠ -1) → (∀ d', d' < d → ∀ j n, I ((s + d') % places) = .ofNat j → K j = some n → w ≠ sw n) →
   regAt tm 0 = .pointer (some ⟨vi, 0, none⟩) → regAt tm 1 = .int .u64 (.ofNat w) → regAt tm 8 = .int .i64 (.ofNat ((s + d) % places)) → regAt tm 23 = .int .i64 (.ofNat places) → regAt tm 24 = .int .i64 (.ofNat d) →
   EndsC (aCode Tryz.prog X S0 (x + m + 1000) (.loop (loopBody Tryz.f23 0)) ⟨60, tm, [], none⟩ μ) fun a r μ' => a = .ret ∧ Grow μ0 μ' ∧ ∃ tm' i pl, r = ⟨60, tm', [], none⟩ ∧ regAt tm' 6 = .int .i64 i ∧ regAt tm' 7 = .int .i64 pl ∧ Found used places h w I K i pl := by
 intro m
 induction m with
 | zero =>
   intro x d tm μ hd hg h1 h2 r0 r1 r8 r23 r24
   obtain rfl : d = f := hd
   exact find_none (by omega) hV hT hk hs hf hff hg h1 h2 r0 r8 r23 r24
 | succ m ih =>
   intro x d tm μ hd hg h1 h2 r0 r1 r8 r23 r24
   by_cases hI : I ((s + d) % places) = -1
   ·exact find_none (by omega) hV hT hk hs (by omega) hI hg h1 h2 r0 r8 r23 r24
   obtain ⟨pl, hpl⟩ : ∃ pl, pl = (s + d) % places := ⟨_, rfl⟩
   have hp2 : pl < places := by rw [hpl]; exact Nat.mod_lt _ (by omega)
   rw [← hpl] at hI r8
   obtain ⟨j, hj⟩ : ∃ j : Nat, I pl = .ofNat j := by
    rcases hT.rng pl hp2 with e | ⟨e1, _⟩
    ·exact absurd e hI
    ·exact ⟨(I pl).toNat, by show I pl = ((I pl).toNat : Int); omega⟩
   have hju : j < used := by
    rcases hT.rng pl hp2 with e | ⟨_, e2⟩
    ·exact absurd e hI
    ·rw [hj] at e2; have : (j : Int) < used := e2; omega
   have hjr := hT.le
   have hr1 := hV.r1
   have hr2 := hV.r2
   have e1 : ilt (.ofNat d) (.ofNat places) = true := (ilt_nat d places).trans (decide_eq_true (by omega))
   obtain ⟨v1, μ1, t1, rfl, g1⟩ := vat_eq (X := X) (g := x + m + 994) (n := .ofNat j) (q := pl) (by omega) (hV.grow hg) hp2 ⟨by show (-1000000 : Int) < (j : Int); omega, by show (j : Int) < 1000000; omega⟩ (by rw [hT.idx _ hp2, hj])
   have e2 : ilt (.ofNat j) 0 = false := rfl
   obtain ⟨v2, μ2, t2, rfl, g2⟩ := entry_eq (X := X) (g := x + m + 991) (i := j) (by omega) (hV.grow (hg.trans g1)) (by omega)
   rw [hT.key j hju] at t2
   have c0 : cellsAt μ2 vi 0 = some (.pointer (some ⟨sp, 0, none⟩)) := ((hV.grow (hg.trans (g1.trans g2))).has.cell 0 (by simp [vL]))
   have c7 : ∀ μ', Grow μ0 μ' → cellsAt μ' vi 7 = some (.int .i64 (.ofNat places)) := fun μ' g => (hV.grow g).has.cell 7 (by simp [vL])
   have hsi : ∀ g, 40 ≤ g → aFun Tryz.prog (aCode Tryz.prog X S0 g) 17 [.int .i64 5] μ2 = some (.int .u64 (.ofNat 45), μ2) := fun g hg => single_eq hg
   have hF : 40 ≤ x + m + 990 := by omega
   have e3 : qwrap .i64 (Int.add (.ofNat pl) 1) = .ofNat (pl + 1) := add_nat pl 1 (by omega)
   obtain ⟨q, hq⟩ : ∃ q, q = (pl + 1) % places := ⟨_, rfl⟩
   have hq2 : q = (s + (d + 1)) % places := by rw [hq, hpl]; exact mod_step s d places
   have e4 : aDiv true .i64 .i64 (.ofNat (pl + 1)) (.ofNat places) = some (.int .i64 (.ofNat q)) := rem_nat _ _ _ (by omega) hq
   have e5 : qwrap .i64 (Int.add (.ofNat d) 1) = .ofNat (d + 1) := add_nat d 1 (by omega)
   have go : ∀ (μ3 : Mem) (tm' : T Value), Grow μ0 μ3 → (∀ n, K j = some n → w ≠ sw n) → regAt tm' 0 = .pointer (some ⟨vi, 0, none⟩) → regAt tm' 1 = .int .u64 (.ofNat w) → regAt tm' 8 = .int .i64 (.ofNat q) → regAt tm' 23 = .int .i64 (.ofNat places) → regAt tm' 24 = .int .i64 (.ofNat (d + 1)) →
     EndsC (aCode Tryz.prog X S0 (x + m + 1000) (.loop (loopBody Tryz.f23 0)) ⟨60, tm', [], none⟩ μ3) fun a r μ' => a = .ret ∧ Grow μ0 μ' ∧ ∃ tm' i pl, r = ⟨60, tm', [], none⟩ ∧ regAt tm' 6 = .int .i64 i ∧ regAt tm' 7 = .int .i64 pl ∧ Found used places h w I K i pl := fun μ3 tm' gg hne q0 q1 q8 q23 q24 => by
    refine ih x (d + 1) tm' μ3 (by omega) gg (fun d' hd' => ?_) (fun d' hd' j' n' hj' hK' => ?_) q0 q1 (by rw [q8, hq2]) q23 q24
    ·rcases Nat.lt_succ_iff_lt_or_eq.1 hd' with e | rfl
     ·exact h1 d' e
     ·rw [← hpl]; exact hI
    ·rcases Nat.lt_succ_iff_lt_or_eq.1 hd' with e | rfl
     ·exact h2 d' e j' n' hj' hK'
     ·rw [← hpl, hj] at hj'
      have : j = j' := Int.ofNat.inj hj'
      subst this
      exact hne n' hK'
   cases hKj : K j with
   | none =>
     rw [hKj] at t2
     have t2 : aFun Tryz.prog (aCode Tryz.prog X S0 (x + m + 991)) 24 [.pointer (some ⟨vi, 0, none⟩), .int .i64 (.ofNat j)] μ1 = some (.tuple #[.int .u64 (.ofNat 45), .int .u64 (.ofNat (ws (e + 1 + (j * 2 + 1))))], μ2) := t2
     obtain ⟨y, hy⟩ : ∃ y, y = ws (e + 1 + (j * 2 + 1)) := ⟨_, rfl⟩
     rw [← hy] at t2
     have e6 : ieq (.ofNat 45) (.ofNat 45) = true := rfl
     have c7' := c7 μ2 (hg.trans (g1.trans g2))
     refine code_loop ?_
     rw [show x + (m + 1) + 999 = x + m + 1000 from by omega]
     repeat (first | refine code_seq ?_ | ((first | (refine code_region ?_ ?_; (focus rfl)) | (refine code_guards (gs := ?_) ?_ ?_; rotate_left; (focus rfl))); simp only [run1, run2, wanted, go_sem, Nat.reduceLT, Nat.reduceAdd, Nat.reduceEqDiff, reduceIte, reduceCtorEq, r24, r23, e1, r0, r8, gg52, t1, e2, gg24, t2, gg17, hsi, hF, e6, fa81_7, ld3, c7', e3, e4, e5]) | (refine code_cond_true ?_ ?_; (focus (simp only [aev, regAt_set, Nat.reduceEqDiff, reduceIte, r24, r23, e1, r0, r8, gg52, t1, e2, gg24, t2, gg17, hsi, hF, e6, fa81_7, ld3, c7', e3, e4, e5]; done))) | (refine code_cond_false ?_ ?_; (focus (simp only [aev, regAt_set, Nat.reduceEqDiff, reduceIte, r24, r23, e1, r0, r8, gg52, t1, e2, gg24, t2, gg17, hsi, hF, e6, fa81_7, ld3, c7', e3, e4, e5]; done))) | ((first | refine code_skip ?_ | refine code_label ?_ | refine code_exit ?_); try simp only [then_exit, then_normal, blockC, Nat.reduceEqDiff, reduceIte]) | refine code_block ?_)
     refine go μ2 _ (hg.trans (g1.trans g2)) (fun n hn => by rw [hKj] at hn; cases hn) ?_ ?_ ?_ ?_ ?_ <;> simp only [regAt_set, Nat.reduceEqDiff, reduceIte, r0, r1, r23]
   | some n =>
     rw [hKj] at t2
     have t2 : aFun Tryz.prog (aCode Tryz.prog X S0 (x + m + 991)) 24 [.pointer (some ⟨vi, 0, none⟩), .int .i64 (.ofNat j)] μ1 = some (.tuple #[.int .u64 (.ofNat (sw n)), .int .u64 (.ofNat (ws (e + 1 + (j * 2 + 1))))], μ2) := t2
     obtain ⟨y, hy⟩ : ∃ y, y = ws (e + 1 + (j * 2 + 1)) := ⟨_, rfl⟩
     have hn := hT.ksm j n hju hKj
     have e6 : ieq (.ofNat (sw n)) (.ofNat 45) = false := (ieq_nat _ _).trans (decide_eq_false (sw_ne45 n))
     obtain ⟨v3, μ3, t3, rfl, g3⟩ := same_key (X := X) (g := x + m + 990) (by omega) hn (hV.grow (hg.trans (g1.trans g2))).hs hk
     have c7' := c7 μ3 (hg.trans (g1.trans (g2.trans g3)))
     obtain ⟨z, hz⟩ : ∃ z, z = sw n := ⟨_, rfl⟩
     rw [← hy, ← hz] at t2
     rw [← hz] at t3 e6
     by_cases hzw : z = w
     ·rw [decide_eq_true hzw] at t3
      refine code_loop ?_
      rw [show x + (m + 1) + 999 = x + m + 1000 from by omega]
      repeat (first | refine code_seq ?_ | ((first | (refine code_region ?_ ?_; (focus rfl)) | (refine code_guards (gs := ?_) ?_ ?_; rotate_left; (focus rfl))); simp only [run1, run2, wanted, go_sem, Nat.reduceLT, Nat.reduceAdd, Nat.reduceEqDiff, reduceIte, reduceCtorEq, r24, r23, e1, r0, r1, r8, gg52, t1, e2, gg24, t2, gg17, hsi, hF, e6, fa81_0, Nat.add_zero, ld24, c0, gg53, t3]) | (refine code_cond_true ?_ ?_; (focus (simp only [aev, regAt_set, Nat.reduceEqDiff, reduceIte, r24, r23, e1, r0, r1, r8, gg52, t1, e2, gg24, t2, gg17, hsi, hF, e6, fa81_0, Nat.add_zero, ld24, c0, gg53, t3]; done))) | (refine code_cond_false ?_ ?_; (focus (simp only [aev, regAt_set, Nat.reduceEqDiff, reduceIte, r24, r23, e1, r0, r1, r8, gg52, t1, e2, gg24, t2, gg17, hsi, hF, e6, fa81_0, Nat.add_zero, ld24, c0, gg53, t3]; done))) | ((first | refine code_skip ?_ | refine code_label ?_ | refine code_exit ?_); try simp only [then_exit, then_normal, blockC, Nat.reduceEqDiff, reduceIte]) | refine code_block ?_)
      refine code_ret ?_
      refine ⟨rfl, hg.trans (g1.trans (g2.trans g3)), _, .ofNat j, .ofNat pl, rfl, ?_, ?_, .inl ⟨j, n, rfl, hju, hKj, hzw.symm.trans hz⟩⟩
      ·simp only [regAt_set, Nat.reduceEqDiff, reduceIte]
      ·simp only [regAt_set, Nat.reduceEqDiff, reduceIte]
     ·rw [decide_eq_false hzw] at t3
      refine code_loop ?_
      rw [show x + (m + 1) + 999 = x + m + 1000 from by omega]
      repeat (first | refine code_seq ?_ | ((first | (refine code_region ?_ ?_; (focus rfl)) | (refine code_guards (gs := ?_) ?_ ?_; rotate_left; (focus rfl))); simp only [run1, run2, wanted, go_sem, Nat.reduceLT, Nat.reduceAdd, Nat.reduceEqDiff, reduceIte, reduceCtorEq, r24, r23, e1, r0, r1, r8, gg52, t1, e2, gg24, t2, gg17, hsi, hF, e6, fa81_0, fa81_7, ld3, Nat.add_zero, ld24, c0, gg53, t3, c7', e3, e4, e5]) | (refine code_cond_true ?_ ?_; (focus (simp only [aev, regAt_set, Nat.reduceEqDiff, reduceIte, r24, r23, e1, r0, r1, r8, gg52, t1, e2, gg24, t2, gg17, hsi, hF, e6, fa81_0, fa81_7, ld3, Nat.add_zero, ld24, c0, gg53, t3, c7', e3, e4, e5]; done))) | (refine code_cond_false ?_ ?_; (focus (simp only [aev, regAt_set, Nat.reduceEqDiff, reduceIte, r24, r23, e1, r0, r1, r8, gg52, t1, e2, gg24, t2, gg17, hsi, hF, e6, fa81_0, fa81_7, ld3, Nat.add_zero, ld24, c0, gg53, t3, c7', e3, e4, e5]; done))) | ((first | refine code_skip ?_ | refine code_label ?_ | refine code_exit ?_); try simp only [then_exit, then_normal, blockC, Nat.reduceEqDiff, reduceIte]) | refine code_block ?_)
      refine go μ3 _ (hg.trans (g1.trans (g2.trans g3))) (fun n' hn' hw => hzw ?_) ?_ ?_ ?_ ?_ ?_
      ·rw [hKj] at hn'; injection hn' with hn'; rw [hz, hn', hw]
      all_goals simp only [regAt_set, Nat.reduceEqDiff, reduceIte, r0, r1, r23]
theorem cv3_26n (n : Nat) (h : n < 1000000) : aConvInt Tryz.prog 3 26 (.int .i64 (.ofNat n)) = some (.int .u64 (.ofNat n)) := by
 rw [cv3_26, qu64 n (by omega)]
theorem cv26_3 (n : Nat) (h : n < 1000000) : aConvInt Tryz.prog 26 3 (.int .u64 (.ofNat n)) = some (.int .i64 (.ofNat n)) := by
 simp only [aConvInt, Tryz.underlying3, Tryz.underlying26]
 rw [q64 n (by omega)]
theorem remu (m n : Nat) (hn : 0 < n) : aDiv true .u64 .u64 (.ofNat m) (.ofNat n) = some (.int .u64 (.ofNat (m % n))) := by
 cases n with
 | zero => omega
 | succ n => rfl
set_option maxRecDepth 20000 in
set_option maxHeartbeats 4000000 in
theorem find_ends {g vi sp hp ap wb lb t cnt used e ix room places w h : Nat} {ws : Nat → Nat} {I : Nat → Int} {K : Nat → Option Int} {p : Pos} {μ : Mem} (hg : 1200 ≤ g) (hV : VW μ vi sp hp ap wb lb ws p t cnt used e ix room places) (hT : TL ws e ix room places used I K) (hk : Key ws Sz.N w h) :
  EndsF (aFun Tryz.prog (aCode Tryz.prog X S0 g) 23 [.pointer (some ⟨vi, 0, none⟩), .int .u64 (.ofNat w), .int .u64 (.ofNat h)] μ) fun v μ' => Grow μ μ' ∧ ∃ i pl, v = .tuple #[.int .i64 i, .int .i64 pl] ∧ Found used places h w I K i pl := by
 obtain ⟨k, rfl⟩ := Nat.exists_eq_add_of_le' hg
 have hp0 : 0 < places := by have := hT.lt; omega
 have hr2 := hV.r2
 obtain ⟨s, hs⟩ : ∃ s, s = h % places := ⟨_, rfl⟩
 have hs2 : s < places := by rw [hs]; exact Nat.mod_lt _ hp0
 obtain ⟨f, hf, hff⟩ := hT.free s
 have c7 : cellsAt μ vi 7 = some (.int .i64 (.ofNat places)) := hV.has.cell 7 (by simp [vL])
 have e1 := cv3_26n places (by omega)
 have e2 : aDiv true .u64 .u64 (.ofNat h) (.ofNat places) = some (.int .u64 (.ofNat s)) := by rw [remu _ _ hp0, hs]
 have e3 := cv26_3 s (by omega)
 refine fun_enter Tryz.func23 rfl rfl (Nat.le_of_ble_eq_true rfl) ?_
 simp only [T.lay, Nat.zero_add, Tryz.ntmps23, Nat.reduceAdd]
 refine code_seq ?_
 refine code_region ?_ ?_
 ·rfl
 simp only [run1, go_sem, Nat.reduceLT, Nat.reduceAdd, Nat.reduceEqDiff, reduceIte, reduceCtorEq]
 refine code_seq ?_
 refine code_region ?_ ?_
 ·rfl
 simp only [run1, go_sem, Nat.reduceLT, Nat.reduceAdd, Nat.reduceEqDiff, reduceIte, reduceCtorEq, fa81_7, ld3, c7, e1, e2, e3]
 refine code_seq ?_
 refine code_seq ?_
 refine code_region ?_ ?_
 ·rfl
 simp only [run1, go_sem, Nat.reduceLT, Nat.reduceAdd, Nat.reduceEqDiff, reduceIte, reduceCtorEq, fa81_7, ld3, c7]
 refine code_block ?_
 rw [show k + 1195 = (k + 195 - f) + f + 1000 from by omega]
 refine (find_loop (X := X) hV hT hk hs hf hff f (k + 195 - f) 0 _ μ (by omega) (Grow.refl _) (fun d' hd' => absurd hd' (by omega)) (fun d' hd' => absurd hd' (by omega)) ?_ ?_ ?_ ?_ ?_).mono ?_
 ·simp only [regAt_set, Nat.reduceEqDiff, reduceIte]
 ·simp only [regAt_set, Nat.reduceEqDiff, reduceIte]
 ·simp only [regAt_set, Nat.reduceEqDiff, reduceIte]
  rw [Nat.add_zero, Nat.mod_eq_of_lt hs2]
 ·simp only [regAt_set, Nat.reduceEqDiff, reduceIte]
 ·simp only [regAt_set, Nat.reduceEqDiff, reduceIte]
  rfl
 rintro a r μ' ⟨rfl, gf, tm', i, pl, rfl, q6, q7, hF⟩
 refine ⟨rfl, _, ?_, gf, i, pl, rfl, hF⟩
 simp only [aResults, Tryz.results23, aRes, regAt_set, Nat.reduceEqDiff, reduceIte]
 simp only [q6, q7]
end
noncomputable section
variable {X : FuncId → List Value → Mem → Option (Value × Mem)}
variable [Z : Sz]
theorem SP.at_ {μ μ' : Mem} {sp hp ap wb lb N L : Nat} {ws : Nat → Nat} {p : Pos} (h : SP μ sp hp ap wb lb N L ws p) (hn : μ.next ≤ μ'.next) (e1 : μ'.obs.get sp = μ.obs.get sp) (e2 : μ'.obs.get hp = μ.obs.get hp) (e3 : μ'.obs.get ap = μ.obs.get ap) (e4 : μ'.obs.get wb = μ.obs.get wb) (e5 : μ'.obs.get lb = μ.obs.get lb) : SP μ' sp hp ap wb lb N L ws p :=
 ⟨by rw [← h.sp0]; unfold cellsAt; rw [e1], Nat.lt_of_lt_of_le h.spn hn, h.s1, h.s2, h.s3,
  ⟨by rw [← h.hs.head]; unfold cellsAt; rw [e2], ⟨h.hs.ab.arena.keep e3 e4, h.hs.ab.lines.keep (by unfold cellsAt; rw [e3]) e5, h.hs.ab.blk.of_get e3, Nat.lt_of_lt_of_le h.hs.ab.n1 hn, Nat.lt_of_lt_of_le h.hs.ab.n2 hn, Nat.lt_of_lt_of_le h.hs.ab.n3 hn, h.hs.ab.d1, h.hs.ab.d2, h.hs.ab.N1, h.hs.ab.L1⟩, Nat.lt_of_lt_of_le h.hs.hn hn, h.hs.ha, h.hs.hw, h.hs.hl⟩,
  h.ac.keeps e3⟩
theorem SP.setw {μ μ' : Mem} {sp hp ap wb lb N L : Nat} {ws ws' : Nat → Nat} {p : Pos} (h : SP μ sp hp ap wb lb N L ws p) (hA : HeapAt μ' hp ap wb N ws') (hn : μ.next ≤ μ'.next) (hk : ∀ j, j < μ.next → j ≠ wb → μ'.obs.get j = μ.obs.get j) : SP μ' sp hp ap wb lb N L ws' p :=
 ⟨by rw [← h.sp0]; unfold cellsAt; rw [hk sp h.spn h.s2], Nat.lt_of_lt_of_le h.spn hn, h.s1, h.s2, h.s3,
  ⟨hA.head, h.hs.ab.setw hA.arena hn hk, Nat.lt_of_lt_of_le h.hs.hn hn, h.hs.ha, h.hs.hw, h.hs.hl⟩,
  h.ac.keeps (hk ap h.hs.ab.n1 h.hs.ab.arena.apart)⟩
theorem VW.setw {μ μ' : Mem} {vi sp hp ap wb lb : Nat} {ws ws' : Nat → Nat} {p : Pos} {t cnt used e ix room places : Nat} (h : VW μ vi sp hp ap wb lb ws p t cnt used e ix room places) (hA : HeapAt μ' hp ap wb Sz.N ws') (hn : μ.next ≤ μ'.next) (hk : ∀ j, j < μ.next → j ≠ wb → μ'.obs.get j = μ.obs.get j) (h1 : ws' e = ws e) (h2 : ws' ix = ws ix) : VW μ' vi sp hp ap wb lb ws' p t cnt used e ix room places :=
 ⟨h.hs.setw hA hn hk, h.has.keep (hk vi h.vn h.v2), h.blk.of_get (hk vi h.vn h.v2), Nat.lt_of_lt_of_le h.vn hn, h.v1, h.v2, h.v3, h.v4, h.v5, h.dj, h1.trans h.he, h2.trans h.hi, h.re, h.ri, h.r1, h.r2⟩
theorem VW.field {μ : Mem} {vi sp hp ap wb lb : Nat} {ws : Nat → Nat} {p : Pos} {t cnt used e ix room places : Nat} (h : VW μ vi sp hp ap wb lb ws p t cnt used e ix room places) (k : Nat) (v : Value) {t' cnt' used' : Nat} (hk : k < 8) (hl : (vL sp t cnt used e ix room places).set k v = vL sp t' cnt' used' e ix room places) : VW (putL μ vi k [v]) vi sp hp ap wb lb ws p t' cnt' used' e ix room places := by
 have hh := h.has.set h.blk (k := k) (v := v) (by simpa [vL] using hk)
 rw [hl, Nat.zero_add] at hh
 refine ⟨h.hs.at_ (by rw [putL_next]; exact Nat.le_refl _) (putL_get _ _ _ _ (Ne.symm h.v4)) (putL_get _ _ _ _ (Ne.symm h.v5)) (putL_get _ _ _ _ (Ne.symm h.v1)) (putL_get _ _ _ _ (Ne.symm h.v2)) (putL_get _ _ _ _ (Ne.symm h.v3)), hh, Blk.put (i := vi) _ _ h.blk, by rw [putL_next]; exact h.vn, h.v1, h.v2, h.v3, h.v4, h.v5, h.dj, h.he, h.hi, h.re, h.ri, h.r1, h.r2⟩
def Wr (μ μ' : Mem) (wb : Nat) : Prop := μ.next ≤ μ'.next ∧ ∀ j, j < μ.next → j ≠ wb → μ'.obs.get j = μ.obs.get j
theorem Wr.trans {a b c : Mem} {wb : Nat} (h : Wr a b wb) (g : Wr b c wb) : Wr a c wb := ⟨Nat.le_trans h.1 g.1, fun j h1 h2 => (g.2 j (Nat.lt_of_lt_of_le h1 h.1) h2).trans (h.2 j h1 h2)⟩
theorem Wr.grow {a b : Mem} (wb : Nat) (h : Grow a b) : Wr a b wb := ⟨h.1, fun j h1 _ => h.2 j h1⟩
def Wv (μ μ' : Mem) (wb vi : Nat) : Prop := μ.next ≤ μ'.next ∧ ∀ j, j < μ.next → j ≠ wb → j ≠ vi → μ'.obs.get j = μ.obs.get j
theorem Wv.trans {a b c : Mem} {wb vi : Nat} (h : Wv a b wb vi) (g : Wv b c wb vi) : Wv a c wb vi := ⟨Nat.le_trans h.1 g.1, fun j h1 h2 h3 => (g.2 j (Nat.lt_of_lt_of_le h1 h.1) h2 h3).trans (h.2 j h1 h2 h3)⟩
theorem Wv.of {a b : Mem} {wb : Nat} (vi : Nat) (h : Wr a b wb) : Wv a b wb vi := ⟨h.1, fun j h1 h2 _ => h.2 j h1 h2⟩
theorem Wv.put (a : Mem) (wb vi o : Nat) (vs : List Value) : Wv a (putL a vi o vs) wb vi := ⟨by rw [putL_next]; exact Nat.le_refl _, fun j _ _ h => putL_get _ _ _ _ h⟩
def setE (ws : Nat → Nat) (e i k x : Nat) : Nat → Nat := put (put ws (e + 1 + i * 2) k) (e + 1 + (i * 2 + 1)) x
theorem setE_off {ws : Nat → Nat} {e i k x q : Nat} (h : q ≠ e + 1 + i * 2) (h2 : q ≠ e + 1 + (i * 2 + 1)) : setE ws e i k x q = ws q := by
 unfold setE put; rw [if_neg h2, if_neg h]
theorem setE_key (ws : Nat → Nat) (e i k x : Nat) : setE ws e i k x (e + 1 + i * 2) = k := by
 unfold setE put; rw [if_neg (by omega), if_pos rfl]
theorem setE_val (ws : Nat → Nat) (e i k x : Nat) : setE ws e i k x (e + 1 + (i * 2 + 1)) = x := by
 unfold setE put; rw [if_pos rfl]
set_option maxRecDepth 20000 in
set_option maxHeartbeats 4000000 in
theorem vput_ends {g vi sp hp ap wb lb t cnt used e ix room places i kw x : Nat} {ws : Nat → Nat} {p : Pos} {μ : Mem} (hg : 140 ≤ g) (h : VW μ vi sp hp ap wb lb ws p t cnt used e ix room places) (hi : i < room) :
  EndsF (aFun Tryz.prog (aCode Tryz.prog X S0 g) 25 [.pointer (some ⟨vi, 0, none⟩), .int .i64 (.ofNat i), .int .u64 (.ofNat kw), .int .u64 (.ofNat x)] μ) fun v μ' => VW μ' vi sp hp ap wb lb (setE ws e i kw x) p t cnt used e ix room places ∧ Wr μ μ' wb := by
 obtain ⟨k, rfl⟩ := Nat.exists_eq_add_of_le' hg
 have hr := h.r1
 have hdj := h.dj
 have hU := h.up (d := 13)
 have c0 : cellsAt ⟨μ.obs, μ.next + 13⟩ vi 0 = some (.pointer (some ⟨sp, 0, none⟩)) := h.has.cell 0 (by simp [vL])
 have c4 : cellsAt ⟨μ.obs, μ.next + 13⟩ vi 4 = some (.int .u64 (.ofNat (placeW e))) := h.has.cell 4 (by simp [vL])
 have hH : ∀ g, 10 ≤ g → aFun Tryz.prog (aCode Tryz.prog X S0 g) 42 [.pointer (some ⟨sp, 0, none⟩)] ⟨μ.obs, μ.next + 13⟩ = some (.pointer (some ⟨hp, 0, none⟩), ⟨μ.obs, μ.next + 13⟩) := fun g hg => heap_of hg hU.hs.sp0
 obtain ⟨v1, μ1, t1, rfl, a1, n1, k1⟩ := hset (X := X) (g := k + 138) (i := i * 2) (w := kw) (by omega) hU.hs.hs.at (n := 2 * room) h.re Sz.N1 h.he (by decide) (by decide) (by omega)
 have hV := hU.setw a1 n1 k1 (by unfold put; rw [if_neg (by omega)]) (by unfold put; rw [if_neg (by omega)])
 have hV2 := hV.up (d := 14)
 have d0 : cellsAt ⟨μ1.obs, μ1.next + 14⟩ vi 0 = some (.pointer (some ⟨sp, 0, none⟩)) := hV.has.cell 0 (by simp [vL])
 have d4 : cellsAt ⟨μ1.obs, μ1.next + 14⟩ vi 4 = some (.int .u64 (.ofNat (placeW e))) := hV.has.cell 4 (by simp [vL])
 have hH2 : ∀ g, 10 ≤ g → aFun Tryz.prog (aCode Tryz.prog X S0 g) 42 [.pointer (some ⟨sp, 0, none⟩)] ⟨μ1.obs, μ1.next + 14⟩ = some (.pointer (some ⟨hp, 0, none⟩), ⟨μ1.obs, μ1.next + 14⟩) := fun g hg => heap_of hg hV2.hs.sp0
 obtain ⟨v2, μ2, t2, rfl, a2, n2, k2⟩ := hset (X := X) (g := k + 138) (i := i * 2 + 1) (w := x) (by omega) hV2.hs.hs.at (n := 2 * room) h.re Sz.N1 hV.he (by decide) (by decide) (by omega)
 have hW := hV2.setw a2 n2 k2 (by unfold put; rw [if_neg (by omega)]) (by unfold put; rw [if_neg (by omega)])
 have e1 : qwrap .i64 (Int.mul (.ofNat i) 2) = .ofNat (i * 2) := mul_nat i 2 (by omega)
 obtain ⟨y, hy⟩ : ∃ y, y = i * 2 := ⟨_, rfl⟩
 obtain ⟨z, hz⟩ : ∃ z, z = y + 1 := ⟨_, rfl⟩
 have e2 : qwrap .i64 (Int.add (.ofNat y) 1) = .ofNat z := hz ▸ add_nat y 1 (by omega)
 have fin : VW μ2 vi sp hp ap wb lb (setE ws e i kw x) p t cnt used e ix room places ∧ Wr μ μ2 wb :=
  ⟨hW, (Wr.grow wb (grow_up μ 13)).trans (Wr.trans ⟨n1, k1⟩ ((Wr.grow wb (grow_up μ1 14)).trans ⟨n2, k2⟩))⟩
 rw [← hy] at t1 e1 t2
 rw [← hz] at t2
 refine fun_enter Tryz.func25 rfl rfl (Nat.le_of_ble_eq_true rfl) ?_
 simp only [T.lay, Nat.zero_add, Tryz.ntmps25, Nat.reduceAdd]
 refine code_seq ?_
 refine code_draw (n := 13) (ms := [0, 1, 3, 7, 15, 0, 32, 96, 224, 0, 512, 0, 4095]) (ord := [0, 1, 2, 3, 4, 5, 6, 7, 8, 9, 10, 11, 12]) (ds := ?_) ?_ ?_ ?_ ?_ ?_ ?_
 rotate_left
 ·kernel_rfl
 ·kernel_rfl
 ·kernel_rfl
 ·rfl
 ·rfl
 iterate 13 (refine drun_true (by first | rfl | (simp only [wanted, go_sem, Nat.reduceLT, Nat.reduceAdd, Nat.reduceEqDiff, reduceIte, reduceCtorEq, fa81_0, fa81_4, Nat.add_zero, ld24, ldW, c0, c4, gg42, hH, Nat.reduceLeDiff, e1, gg54, t1])) (by simp only [aDrawOne, heavy, aReads, eqVal_self, go_sem, Nat.reduceLT, Nat.reduceAdd, Nat.reduceEqDiff, reduceIte, reduceCtorEq, fa81_0, fa81_4, Nat.add_zero, ld24, ldW, c0, c4, gg42, hH, Nat.reduceLeDiff, e1, gg54, t1]; try exact rfl) rfl ?_)
 simp only [dRun, endsD_some, then_normal]
 refine code_draw (n := 14) (ms := [0, 1, 3, 7, 15, 0, 32, 96, 224, 0, 512, 1536, 0, 8191]) (ord := [0, 1, 2, 3, 4, 5, 6, 7, 8, 9, 10, 11, 12, 13]) (ds := ?_) ?_ ?_ ?_ ?_ ?_ ?_
 rotate_left
 ·kernel_rfl
 ·kernel_rfl
 ·kernel_rfl
 ·rfl
 ·rfl
 iterate 14 (refine drun_true (by first | rfl | (simp only [wanted, go_sem, Nat.reduceLT, Nat.reduceAdd, Nat.reduceEqDiff, reduceIte, reduceCtorEq, fa81_0, fa81_4, Nat.add_zero, ld24, ldW, d0, d4, gg42, hH2, Nat.reduceLeDiff, e1, e2, gg54, t2])) (by simp only [aDrawOne, heavy, aReads, eqVal_self, go_sem, Nat.reduceLT, Nat.reduceAdd, Nat.reduceEqDiff, reduceIte, reduceCtorEq, fa81_0, fa81_4, Nat.add_zero, ld24, ldW, d0, d4, gg42, hH2, Nat.reduceLeDiff, e1, e2, gg54, t2]; try exact rfl) rfl ?_)
 simp only [dRun, endsD_some, then_normal]
 exact ⟨rfl, _, rfl, fin⟩
end
noncomputable section
variable {X : FuncId → List Value → Mem → Option (Value × Mem)}
variable [Z : Sz]
theorem sm_nat {n : Nat} (h : n < 1000000) : Sm (.ofNat n) := ⟨by show (-1000000 : Int) < (n : Int); omega, by show (n : Int) < 1000000; omega⟩
def addW (ws : Nat → Nat) (e ix used pl kw x : Nat) : Nat → Nat := put (setE ws e used kw x) (ix + 1 + pl) (sw (.ofNat used))
set_option maxRecDepth 20000 in
set_option maxHeartbeats 4000000 in
theorem add_ends {g vi sp hp ap wb lb t cnt used e ix room places pl kw x : Nat} {ws : Nat → Nat} {p : Pos} {μ : Mem} (hg : 200 ≤ g) (h : VW μ vi sp hp ap wb lb ws p t cnt used e ix room places) (hu : used < room) (hpl : pl < places) (hc : cnt < 1000) :
  EndsF (aFun Tryz.prog (aCode Tryz.prog X S0 g) 27 [.pointer (some ⟨vi, 0, none⟩), .int .i64 (.ofNat pl), .int .u64 (.ofNat kw), .int .u64 (.ofNat x)] μ) fun v μ' => VW μ' vi sp hp ap wb lb (addW ws e ix used pl kw x) p t (cnt + 1) (used + 1) e ix room places ∧ Wv μ μ' wb vi := by
 obtain ⟨k, rfl⟩ := Nat.exists_eq_add_of_le' hg
 have hr := h.r1
 have hr2 := h.r2
 have hdj := h.dj
 have c3 : cellsAt μ vi 3 = some (.int .i64 (.ofNat used)) := h.has.cell 3 (by simp [vL])
 obtain ⟨v1, μ1, t1, hV, w1⟩ := vput_ends (X := X) (g := k + 198) (i := used) (kw := kw) (x := x) (by omega) h hu
 have hU := hV.up (d := 16)
 have d0 : cellsAt ⟨μ1.obs, μ1.next + 16⟩ vi 0 = some (.pointer (some ⟨sp, 0, none⟩)) := hV.has.cell 0 (by simp [vL])
 have d3 : cellsAt ⟨μ1.obs, μ1.next + 16⟩ vi 3 = some (.int .i64 (.ofNat used)) := hV.has.cell 3 (by simp [vL])
 have d5 : cellsAt ⟨μ1.obs, μ1.next + 16⟩ vi 5 = some (.int .u64 (.ofNat (placeW ix))) := hV.has.cell 5 (by simp [vL])
 have hH : ∀ g, 10 ≤ g → aFun Tryz.prog (aCode Tryz.prog X S0 g) 42 [.pointer (some ⟨sp, 0, none⟩)] ⟨μ1.obs, μ1.next + 16⟩ = some (.pointer (some ⟨hp, 0, none⟩), ⟨μ1.obs, μ1.next + 16⟩) := fun g hg => heap_of hg hU.hs.sp0
 have hS : ∀ g, 60 ≤ g → aFun Tryz.prog (aCode Tryz.prog X S0 g) 18 [.int .i64 (.ofNat used)] ⟨μ1.obs, μ1.next + 16⟩ = some (.int .u64 (.ofNat (sw (.ofNat used))), ⟨μ1.obs, μ1.next + 16⟩) := fun g hg => tsmall_eq hg (sm_nat (by omega))
 obtain ⟨v2, μ2, t2, rfl, a2, n2, k2⟩ := hset (X := X) (g := k + 197) (i := pl) (w := sw (.ofNat used)) (by omega) hU.hs.hs.at (n := places) h.ri Sz.N1 hU.hi (by decide) (by decide) hpl
 have hW := hU.setw a2 n2 k2 (by unfold put; rw [if_neg (by omega)]) (by unfold put; rw [if_neg (by omega)])
 have f3 : cellsAt μ2 vi 3 = some (.int .i64 (.ofNat used)) := hW.has.cell 3 (by simp [vL])
 have s3 := store_put (P := Tryz.prog) (t := 3) (v := .int .i64 (.ofNat (used + 1))) i3 rfl rfl hW.blk (show 3 < 8 by decide)
 have hY := hW.field 3 (.int .i64 (.ofNat (used + 1))) (t' := t) (cnt' := cnt) (used' := used + 1) (by decide) rfl
 have f2 : cellsAt (putL μ2 vi 3 [.int .i64 (.ofNat (used + 1))]) vi 2 = some (.int .i64 (.ofNat cnt)) := hY.has.cell 2 (by simp [vL])
 have s2 := store_put (P := Tryz.prog) (t := 3) (v := .int .i64 (.ofNat (cnt + 1))) i3 rfl rfl hY.blk (show 2 < 8 by decide)
 have hZ := hY.field 2 (.int .i64 (.ofNat (cnt + 1))) (t' := t) (cnt' := cnt + 1) (used' := used + 1) (by decide) rfl
 have e1 : qwrap .i64 (Int.add (.ofNat used) 1) = .ofNat (used + 1) := add_nat used 1 (by omega)
 have e2 : qwrap .i64 (Int.add (.ofNat cnt) 1) = .ofNat (cnt + 1) := add_nat cnt 1 (by omega)
 have fin := And.intro hZ ((Wv.of vi (w1.trans ((Wr.grow wb (grow_up μ1 16)).trans ⟨n2, k2⟩))).trans ((Wv.put μ2 wb vi 3 [.int .i64 (.ofNat (used + 1))]).trans (Wv.put _ wb vi 2 [.int .i64 (.ofNat (cnt + 1))])))
 obtain ⟨su, hsu⟩ : ∃ z, z = sw (.ofNat used) := ⟨_, rfl⟩
 rw [← hsu] at hS t2
 refine fun_enter Tryz.func27 rfl rfl (Nat.le_of_ble_eq_true rfl) ?_
 simp only [T.lay, Nat.zero_add, Tryz.ntmps27, Nat.reduceAdd]
 refine code_seq ?_
 refine code_region ?_ ?_
 ·rfl
 simp only [run1, go_sem, Nat.reduceLT, Nat.reduceAdd, Nat.reduceEqDiff, reduceIte, reduceCtorEq, fa81_3, ld3, c3, gg25, t1]
 refine code_seq ?_
 refine code_draw (n := 16) (ms := [0, 1, 3, 7, 15, 0, 32, 96, 224, 0, 0, 1024, 3072, 7168, 15391, 32767]) (ord := [0, 1, 2, 3, 4, 10, 11, 12, 13, 14, 5, 6, 7, 8, 9, 15]) (ds := ?_) ?_ ?_ ?_ ?_ ?_ ?_
 rotate_left
 ·kernel_rfl
 ·kernel_rfl
 ·kernel_rfl
 ·rfl
 ·rfl
 iterate 16 (refine drun_true (by first | rfl | (simp only [wanted, go_sem, Nat.reduceLT, Nat.reduceAdd, Nat.reduceEqDiff, reduceIte, reduceCtorEq, fa81_0, fa81_3, fa81_5, Nat.add_zero, ld24, ld3, ldW, d0, d3, d5, gg42, hH, Nat.reduceLeDiff, gg18, hS, gg54, t2, (show bef [0, 1, 3, 7, 15, 0, 32, 96, 224, 0, 0, 1024, 3072, 7168, 15391, 32767] 4 3 = false from by kernel_rfl), (show bef [0, 1, 3, 7, 15, 0, 32, 96, 224, 0, 0, 1024, 3072, 7168, 15391, 32767] 14 3 = false from by kernel_rfl), (show bef [0, 1, 3, 7, 15, 0, 32, 96, 224, 0, 0, 1024, 3072, 7168, 15391, 32767] 15 3 = false from by kernel_rfl), (show bef [0, 1, 3, 7, 15, 0, 32, 96, 224, 0, 0, 1024, 3072, 7168, 15391, 32767] 4 8 = false from by kernel_rfl), (show bef [0, 1, 3, 7, 15, 0, 32, 96, 224, 0, 0, 1024, 3072, 7168, 15391, 32767] 14 8 = false from by kernel_rfl), (show bef [0, 1, 3, 7, 15, 0, 32, 96, 224, 0, 0, 1024, 3072, 7168, 15391, 32767] 15 8 = false from by kernel_rfl), (show bef [0, 1, 3, 7, 15, 0, 32, 96, 224, 0, 0, 1024, 3072, 7168, 15391, 32767] 4 13 = false from by kernel_rfl), (show bef [0, 1, 3, 7, 15, 0, 32, 96, 224, 0, 0, 1024, 3072, 7168, 15391, 32767] 14 13 = false from by kernel_rfl), (show bef [0, 1, 3, 7, 15, 0, 32, 96, 224, 0, 0, 1024, 3072, 7168, 15391, 32767] 15 13 = false from by kernel_rfl)])) (by simp only [aDrawOne, heavy, aReads, eqVal_self, go_sem, Nat.reduceLT, Nat.reduceAdd, Nat.reduceEqDiff, reduceIte, reduceCtorEq, fa81_0, fa81_3, fa81_5, Nat.add_zero, ld24, ld3, ldW, d0, d3, d5, gg42, hH, Nat.reduceLeDiff, gg18, hS, gg54, t2, (show bef [0, 1, 3, 7, 15, 0, 32, 96, 224, 0, 0, 1024, 3072, 7168, 15391, 32767] 4 3 = false from by kernel_rfl), (show bef [0, 1, 3, 7, 15, 0, 32, 96, 224, 0, 0, 1024, 3072, 7168, 15391, 32767] 14 3 = false from by kernel_rfl), (show bef [0, 1, 3, 7, 15, 0, 32, 96, 224, 0, 0, 1024, 3072, 7168, 15391, 32767] 15 3 = false from by kernel_rfl), (show bef [0, 1, 3, 7, 15, 0, 32, 96, 224, 0, 0, 1024, 3072, 7168, 15391, 32767] 4 8 = false from by kernel_rfl), (show bef [0, 1, 3, 7, 15, 0, 32, 96, 224, 0, 0, 1024, 3072, 7168, 15391, 32767] 14 8 = false from by kernel_rfl), (show bef [0, 1, 3, 7, 15, 0, 32, 96, 224, 0, 0, 1024, 3072, 7168, 15391, 32767] 15 8 = false from by kernel_rfl), (show bef [0, 1, 3, 7, 15, 0, 32, 96, 224, 0, 0, 1024, 3072, 7168, 15391, 32767] 4 13 = false from by kernel_rfl), (show bef [0, 1, 3, 7, 15, 0, 32, 96, 224, 0, 0, 1024, 3072, 7168, 15391, 32767] 14 13 = false from by kernel_rfl), (show bef [0, 1, 3, 7, 15, 0, 32, 96, 224, 0, 0, 1024, 3072, 7168, 15391, 32767] 15 13 = false from by kernel_rfl)]; try exact rfl) rfl ?_)
 simp only [dRun, endsD_some, then_normal]
 refine code_seq ?_
 refine code_region ?_ ?_
 ·rfl
 simp only [run1, go_sem, Nat.reduceLT, Nat.reduceAdd, Nat.reduceEqDiff, reduceIte, reduceCtorEq, fa81_3, ld3, f3, e1, s3]
 refine code_region ?_ ?_
 ·rfl
 simp only [run1, go_sem, Nat.reduceLT, Nat.reduceAdd, Nat.reduceEqDiff, reduceIte, reduceCtorEq, fa81_2, ld3, f2, e2, s2]
 exact ⟨rfl, _, rfl, fin⟩
def stW (ws : Nat → Nat) (tq cnt used e ix : Nat) : Nat → Nat := put (put (put (put ws (tq + 1 + 0) (sw (.ofNat cnt))) (tq + 1 + 1) (sw (.ofNat used))) (tq + 1 + 2) (placeW e)) (tq + 1 + 3) (placeW ix)
theorem stW_off {ws : Nat → Nat} {tq cnt used e ix q : Nat} (h : q ≤ tq ∨ tq + 4 < q) : stW ws tq cnt used e ix q = ws q := by
 unfold stW put; rw [if_neg (by omega), if_neg (by omega), if_neg (by omega), if_neg (by omega)]
set_option maxRecDepth 20000 in
set_option maxHeartbeats 8000000 in
theorem store_ends {g vi sp hp ap wb lb tq cnt used e ix room places : Nat} {ws : Nat → Nat} {p : Pos} {μ : Mem} (hg : 200 ≤ g) (h : VW μ vi sp hp ap wb lb ws p (placeW tq) cnt used e ix room places) (ht : ws tq = headW 3 0 4) (htr : tq + 4 < Sz.N) (d1 : tq + 4 < e ∨ e < tq) (d2 : tq + 4 < ix ∨ ix < tq) (hc : cnt < 1000) (hu : used < 1000) :
  EndsF (aFun Tryz.prog (aCode Tryz.prog X S0 g) 28 [.pointer (some ⟨vi, 0, none⟩)] μ) fun v μ' => VW μ' vi sp hp ap wb lb (stW ws tq cnt used e ix) p (placeW tq) cnt used e ix room places ∧ Wr μ μ' wb := by
 obtain ⟨k, rfl⟩ := Nat.exists_eq_add_of_le' hg
 have c0 : cellsAt μ vi 0 = some (.pointer (some ⟨sp, 0, none⟩)) := h.has.cell 0 (by simp [vL])
 have hH : ∀ g, 10 ≤ g → aFun Tryz.prog (aCode Tryz.prog X S0 g) 42 [.pointer (some ⟨sp, 0, none⟩)] μ = some (.pointer (some ⟨hp, 0, none⟩), μ) := fun g hg => heap_of hg h.hs.sp0
 have U1 := h.up (d := 11)
 have x1 : cellsAt ⟨μ.obs, μ.next + 11⟩ vi 1 = some (.int .u64 (.ofNat (placeW tq))) := h.has.cell 1 (by simp [vL])
 have x2 : cellsAt ⟨μ.obs, μ.next + 11⟩ vi 2 = some (.int .i64 (.ofNat cnt)) := h.has.cell 2 (by simp [vL])
 have y1 : ∀ g, 60 ≤ g → aFun Tryz.prog (aCode Tryz.prog X S0 g) 18 [.int .i64 (.ofNat cnt)] ⟨μ.obs, μ.next + 11⟩ = some (.int .u64 (.ofNat (sw (.ofNat cnt))), ⟨μ.obs, μ.next + 11⟩) := fun g hg => tsmall_eq hg (sm_nat (by omega))
 obtain ⟨v1, μ1, t1, rfl, a1, n1, k1⟩ := hset (X := X) (g := k + 197) (i := 0) (w := sw (.ofNat cnt)) (by omega) U1.hs.hs.at (n := 4) htr Sz.N1 ht (by decide) (by decide) (by decide)
 have V1 := U1.setw a1 n1 k1 (by unfold put; rw [if_neg (by omega)]) (by unfold put; rw [if_neg (by omega)])
 have q1 : put ws (tq + 1 + 0) (sw (.ofNat cnt)) tq = headW 3 0 4 := by unfold put; rw [if_neg (by omega)]; exact ht
 have U2 := V1.up (d := 11)
 have x3 : cellsAt ⟨μ1.obs, μ1.next + 11⟩ vi 1 = some (.int .u64 (.ofNat (placeW tq))) := V1.has.cell 1 (by simp [vL])
 have x4 : cellsAt ⟨μ1.obs, μ1.next + 11⟩ vi 3 = some (.int .i64 (.ofNat used)) := V1.has.cell 3 (by simp [vL])
 have y2 : ∀ g, 60 ≤ g → aFun Tryz.prog (aCode Tryz.prog X S0 g) 18 [.int .i64 (.ofNat used)] ⟨μ1.obs, μ1.next + 11⟩ = some (.int .u64 (.ofNat (sw (.ofNat used))), ⟨μ1.obs, μ1.next + 11⟩) := fun g hg => tsmall_eq hg (sm_nat (by omega))
 obtain ⟨v2, μ2, t2, rfl, a2, n2, k2⟩ := hset (X := X) (g := k + 196) (i := 1) (w := sw (.ofNat used)) (by omega) U2.hs.hs.at (n := 4) htr Sz.N1 q1 (by decide) (by decide) (by decide)
 have V2 := U2.setw a2 n2 k2 (by unfold put; rw [if_neg (by omega)]) (by unfold put; rw [if_neg (by omega)])
 have q2 : put (put ws (tq + 1 + 0) (sw (.ofNat cnt))) (tq + 1 + 1) (sw (.ofNat used)) tq = headW 3 0 4 := by unfold put; rw [if_neg (by omega)]; exact q1
 have U3 := V2.up (d := 10)
 have x5 : cellsAt ⟨μ2.obs, μ2.next + 10⟩ vi 1 = some (.int .u64 (.ofNat (placeW tq))) := V2.has.cell 1 (by simp [vL])
 have x6 : cellsAt ⟨μ2.obs, μ2.next + 10⟩ vi 4 = some (.int .u64 (.ofNat (placeW e))) := V2.has.cell 4 (by simp [vL])
 obtain ⟨v3, μ3, t3, rfl, a3, n3, k3⟩ := hset (X := X) (g := k + 195) (i := 2) (w := placeW e) (by omega) U3.hs.hs.at (n := 4) htr Sz.N1 q2 (by decide) (by decide) (by decide)
 have V3 := U3.setw a3 n3 k3 (by unfold put; rw [if_neg (by omega)]) (by unfold put; rw [if_neg (by omega)])
 have q3 : put (put (put ws (tq + 1 + 0) (sw (.ofNat cnt))) (tq + 1 + 1) (sw (.ofNat used))) (tq + 1 + 2) (placeW e) tq = headW 3 0 4 := by unfold put; rw [if_neg (by omega)]; exact q2
 have U4 := V3.up (d := 10)
 have x7 : cellsAt ⟨μ3.obs, μ3.next + 10⟩ vi 1 = some (.int .u64 (.ofNat (placeW tq))) := V3.has.cell 1 (by simp [vL])
 have x8 : cellsAt ⟨μ3.obs, μ3.next + 10⟩ vi 5 = some (.int .u64 (.ofNat (placeW ix))) := V3.has.cell 5 (by simp [vL])
 obtain ⟨v4, μ4, t4, rfl, a4, n4, k4⟩ := hset (X := X) (g := k + 195) (i := 3) (w := placeW ix) (by omega) U4.hs.hs.at (n := 4) htr Sz.N1 q3 (by decide) (by decide) (by decide)
 have V4 := U4.setw a4 n4 k4 (by unfold put; rw [if_neg (by omega)]) (by unfold put; rw [if_neg (by omega)])
 have fin : VW μ4 vi sp hp ap wb lb (stW ws tq cnt used e ix) p (placeW tq) cnt used e ix room places ∧ Wr μ μ4 wb :=
  ⟨V4, (Wr.grow wb (grow_up μ 11)).trans (Wr.trans ⟨n1, k1⟩ ((Wr.grow wb (grow_up μ1 11)).trans (Wr.trans ⟨n2, k2⟩ ((Wr.grow wb (grow_up μ2 10)).trans (Wr.trans ⟨n3, k3⟩ ((Wr.grow wb (grow_up μ3 10)).trans ⟨n4, k4⟩))))))⟩
 obtain ⟨sc, hsc⟩ : ∃ z, z = sw (.ofNat cnt) := ⟨_, rfl⟩
 obtain ⟨su, hsu⟩ : ∃ z, z = sw (.ofNat used) := ⟨_, rfl⟩
 rw [← hsc] at y1 t1
 rw [← hsu] at y2 t2
 have z0 : (Value.int .i64 (.ofNat 0)) = .int .i64 0 := rfl
 have t1 : aFun Tryz.prog (aCode Tryz.prog X S0 (k + 197)) 54 [.pointer (some ⟨hp, 0, none⟩), .int .u64 (.ofNat (placeW tq)), .int .i64 0, .int .u64 (.ofNat sc)] ⟨μ.obs, μ.next + 11⟩ = some (.int .i64 0, μ1) := t1
 have t2 : aFun Tryz.prog (aCode Tryz.prog X S0 (k + 196)) 54 [.pointer (some ⟨hp, 0, none⟩), .int .u64 (.ofNat (placeW tq)), .int .i64 1, .int .u64 (.ofNat su)] ⟨μ1.obs, μ1.next + 11⟩ = some (.int .i64 0, μ2) := t2
 have t3 : aFun Tryz.prog (aCode Tryz.prog X S0 (k + 195)) 54 [.pointer (some ⟨hp, 0, none⟩), .int .u64 (.ofNat (placeW tq)), .int .i64 2, .int .u64 (.ofNat (placeW e))] ⟨μ2.obs, μ2.next + 10⟩ = some (.int .i64 0, μ3) := t3
 have t4 : aFun Tryz.prog (aCode Tryz.prog X S0 (k + 195)) 54 [.pointer (some ⟨hp, 0, none⟩), .int .u64 (.ofNat (placeW tq)), .int .i64 3, .int .u64 (.ofNat (placeW ix))] ⟨μ3.obs, μ3.next + 10⟩ = some (.int .i64 0, μ4) := t4
 refine fun_enter Tryz.func28 rfl rfl (Nat.le_of_ble_eq_true rfl) ?_
 simp only [T.lay, Nat.zero_add, Tryz.ntmps28, Nat.reduceAdd]
 refine code_seq ?_
 refine code_region ?_ ?_
 ·rfl
 simp only [run1, go_sem, Nat.reduceLT, Nat.reduceAdd, Nat.reduceEqDiff, reduceIte, reduceCtorEq, fa81_0, Nat.add_zero, ld24, c0, gg42, hH, Nat.reduceLeDiff]
 refine code_seq ?_
 refine code_draw (n := 11) (ms := [0, 0, 2, 6, 14, 0, 32, 96, 224, 480, 1023]) (ord := [5, 6, 7, 8, 9, 0, 1, 2, 3, 4, 10]) (ds := ?_) ?_ ?_ ?_ ?_ ?_ ?_
 rotate_left
 ·kernel_rfl
 ·kernel_rfl
 ·kernel_rfl
 ·rfl
 ·rfl
 iterate 11 (refine drun_true (by first | rfl | (simp only [wanted, go_sem, Nat.reduceLT, Nat.reduceAdd, Nat.reduceEqDiff, reduceIte, reduceCtorEq, fa81_1, fa81_2, ld3, ldW, x1, x2, gg18, y1, Nat.reduceLeDiff, gg54, t1])) (by simp only [aDrawOne, heavy, aReads, eqVal_self, go_sem, Nat.reduceLT, Nat.reduceAdd, Nat.reduceEqDiff, reduceIte, reduceCtorEq, fa81_1, fa81_2, ld3, ldW, x1, x2, gg18, y1, Nat.reduceLeDiff, gg54, t1]; try exact rfl) rfl ?_)
 simp only [dRun, endsD_some, then_normal]
 refine code_seq ?_
 refine code_draw (n := 11) (ms := [0, 0, 2, 6, 14, 0, 32, 96, 224, 480, 1023]) (ord := [5, 6, 7, 8, 9, 0, 1, 2, 3, 4, 10]) (ds := ?_) ?_ ?_ ?_ ?_ ?_ ?_
 rotate_left
 ·kernel_rfl
 ·kernel_rfl
 ·kernel_rfl
 ·rfl
 ·rfl
 iterate 11 (refine drun_true (by first | rfl | (simp only [wanted, go_sem, Nat.reduceLT, Nat.reduceAdd, Nat.reduceEqDiff, reduceIte, reduceCtorEq, fa81_1, fa81_3, ld3, ldW, x3, x4, gg18, y2, Nat.reduceLeDiff, gg54, t2])) (by simp only [aDrawOne, heavy, aReads, eqVal_self, go_sem, Nat.reduceLT, Nat.reduceAdd, Nat.reduceEqDiff, reduceIte, reduceCtorEq, fa81_1, fa81_3, ld3, ldW, x3, x4, gg18, y2, Nat.reduceLeDiff, gg54, t2]; try exact rfl) rfl ?_)
 simp only [dRun, endsD_some, then_normal]
 refine code_seq ?_
 refine code_draw (n := 10) (ms := [0, 0, 2, 6, 14, 0, 32, 96, 224, 511]) (ord := [0, 1, 2, 3, 4, 5, 6, 7, 8, 9]) (ds := ?_) ?_ ?_ ?_ ?_ ?_ ?_
 rotate_left
 ·kernel_rfl
 ·kernel_rfl
 ·kernel_rfl
 ·rfl
 ·rfl
 iterate 10 (refine drun_true (by first | rfl | (simp only [wanted, go_sem, Nat.reduceLT, Nat.reduceAdd, Nat.reduceEqDiff, reduceIte, reduceCtorEq, fa81_1, fa81_4, ldW, x5, x6, Nat.reduceLeDiff, gg54, t3])) (by simp only [aDrawOne, heavy, aReads, eqVal_self, go_sem, Nat.reduceLT, Nat.reduceAdd, Nat.reduceEqDiff, reduceIte, reduceCtorEq, fa81_1, fa81_4, ldW, x5, x6, Nat.reduceLeDiff, gg54, t3]; try exact rfl) rfl ?_)
 simp only [dRun, endsD_some, then_normal]
 refine code_draw (n := 10) (ms := [0, 0, 2, 6, 14, 0, 32, 96, 224, 511]) (ord := [0, 1, 2, 3, 4, 5, 6, 7, 8, 9]) (ds := ?_) ?_ ?_ ?_ ?_ ?_ ?_
 rotate_left
 ·kernel_rfl
 ·kernel_rfl
 ·kernel_rfl
 ·rfl
 ·rfl
 iterate 10 (refine drun_true (by first | rfl | (simp only [wanted, go_sem, Nat.reduceLT, Nat.reduceAdd, Nat.reduceEqDiff, reduceIte, reduceCtorEq, fa81_1, fa81_5, ldW, x7, x8, Nat.reduceLeDiff, gg54, t4])) (by simp only [aDrawOne, heavy, aReads, eqVal_self, go_sem, Nat.reduceLT, Nat.reduceAdd, Nat.reduceEqDiff, reduceIte, reduceCtorEq, fa81_1, fa81_5, ldW, x7, x8, Nat.reduceLeDiff, gg54, t4]; try exact rfl) rfl ?_)
 simp only [dRun, endsD_some, then_normal]
 exact ⟨rfl, _, rfl, fin⟩
end
noncomputable section
variable {X : FuncId → List Value → Mem → Option (Value × Mem)}
variable [Z : Sz]
set_option maxRecDepth 20000 in
set_option maxHeartbeats 4000000 in
theorem object_ends {g sp hp ap wb lb N L q kd n li c : Nat} {f : Nat → Nat} {ws : Nat → Nat} {p p' : Pos} {μ : Mem} (hg : 600 ≤ g) (h : SP μ sp hp ap wb lb N L ws p)
  (hli : ∀ k, k < n → cellsAt μ li k = some (.int .u64 (.ofNat (f k)))) (hln : li < μ.next) (l1 : li ≠ ap) (l2 : li ≠ wb) (l3 : li ≠ lb) (h2 : kd < 16) (hn : n ≤ 240) (hq : q + n < N) (hal : Al X N L (n + 1) q p p') :
  EndsF (aFun Tryz.prog (aCode Tryz.prog X S0 g) 19 [.pointer (some ⟨sp, 0, none⟩), .int .i64 (.ofNat kd), .slice (some ⟨li, 0, none⟩) n c] μ) fun v μ' => v = .tuple #[.int .u64 (.ofNat (placeW q)), .bool true] ∧ SP μ' sp hp ap wb lb N L (obj ws q kd n f) p' ∧ Keeps μ μ' ap wb lb := by
 obtain ⟨k, rfl⟩ := Nat.exists_eq_add_of_le' hg
 have hr : ∀ g, 20 ≤ g → aFun Tryz.prog (aCode Tryz.prog X S0 g) 40 [.int .i64 (.ofNat kd)] μ = some (.bool false, μ) := fun g hg => by rw [rawb_eq hg (by omega), decide_eq_false (by omega)]
 obtain ⟨v1, μ1, t1, rfl, h1, k1⟩ := raw_al (X := X) (g := k + 596) (c := c) (by omega) h hli hln l1 l2 l3 (by omega : kd < 32) hn hq hal
 refine fun_enter Tryz.func19 rfl rfl (Nat.le_of_ble_eq_true rfl) ?_
 simp only [T.lay, Nat.zero_add, Tryz.ntmps19, Nat.reduceAdd]
 repeat (first | refine code_seq ?_ | ((first | (refine code_region ?_ ?_; (focus rfl)) | (refine code_guards (gs := ?_) ?_ ?_; rotate_left; (focus rfl))); simp only [run1, run2, wanted, go_sem, Nat.reduceLT, Nat.reduceAdd, Nat.reduceEqDiff, reduceIte, reduceCtorEq, gg40, hr, Nat.reduceLeDiff, gg41, t1]) | (refine code_cond_true ?_ ?_; (focus (simp only [aev, regAt_set, Nat.reduceEqDiff, reduceIte, gg40, hr, Nat.reduceLeDiff, gg41, t1]; done))) | (refine code_cond_false ?_ ?_; (focus (simp only [aev, regAt_set, Nat.reduceEqDiff, reduceIte, gg40, hr, Nat.reduceLeDiff, gg41, t1]; done))) | ((first | refine code_skip ?_ | refine code_label ?_ | refine code_exit ?_); try simp only [then_exit, then_normal, blockC, Nat.reduceEqDiff, reduceIte]) | refine code_block ?_)
 refine code_ret ?_
 refine ⟨rfl, _, ?_, rfl, h1, k1⟩
 simp only [aResults, Tryz.results19, aRes, regAt_set, Nat.reduceEqDiff, reduceIte]
set_option maxRecDepth 20000 in
set_option maxHeartbeats 4000000 in
theorem filled_loop {li n w : Nat} {v0 : Value} {μ0 : Mem} (hln : μ0.next ≤ li) (hn : n < 1000) : ∀ (m x i : Nat) (tm : T Value) (μ : Mem), i + m = n → Grow μ0 μ → li < μ.next → Blk μ li n 27 → (∀ k, k < i → cellsAt μ li k = some (.int .u64 (.ofNat w))) →
  regAt tm 0 = v0 → regAt tm 2 = .int .u64 (.ofNat w) → regAt tm 8 = .slice (some ⟨li, 0, none⟩) n (2 * n) → regAt tm 13 = .int .i64 (.ofNat n) → regAt tm 14 = .int .i64 (.ofNat i) →
  EndsC (aCode Tryz.prog X S0 (x + m + 40) (.loop (loopBody Tryz.f16 0)) ⟨27, tm, [], none⟩ μ) fun a r μ' => a = .exit 0 ∧ Grow μ0 μ' ∧ li < μ'.next ∧ (∀ k, k < n → cellsAt μ' li k = some (.int .u64 (.ofNat w))) ∧ ∃ tm', r = ⟨27, tm', [], none⟩ ∧ regAt tm' 0 = v0 ∧ regAt tm' 8 = .slice (some ⟨li, 0, none⟩) n (2 * n) := by
 intro m
 induction m with
 | zero =>
   intro x i tm μ hi hg hlt hb hc r0 r2 r8 r13 r14
   obtain rfl : i = n := hi
   have e1 : ilt (.ofNat i) (.ofNat i) = false := (ilt_nat i i).trans (decide_eq_false (by omega))
   refine code_loop ?_
   repeat (first | refine code_seq ?_ | ((first | (refine code_region ?_ ?_; (focus rfl)) | (refine code_guards (gs := ?_) ?_ ?_; rotate_left; (focus rfl))); simp only [run1, run2, wanted, go_sem, Nat.reduceLT, Nat.reduceAdd, Nat.reduceEqDiff, reduceIte, reduceCtorEq, r13, r14, e1]) | (refine code_cond_true ?_ ?_; (focus (simp only [aev, regAt_set, Nat.reduceEqDiff, reduceIte, r13, r14, e1]; done))) | (refine code_cond_false ?_ ?_; (focus (simp only [aev, regAt_set, Nat.reduceEqDiff, reduceIte, r13, r14, e1]; done))) | ((first | refine code_skip ?_ | refine code_label ?_ | refine code_exit ?_); try simp only [then_exit, then_normal, blockC, Nat.reduceEqDiff, reduceIte]) | refine code_block ?_)
   refine ⟨trivial, hg, hlt, hc, _, rfl, ?_, ?_⟩ <;> simp only [regAt_set, Nat.reduceEqDiff, reduceIte, r0, r8]
 | succ m ih =>
   intro x i tm μ hi hg hlt hb hc r0 r2 r8 r13 r14
   have e1 : ilt (.ofNat i) (.ofNat n) = true := (ilt_nat i n).trans (decide_eq_true (by omega))
   have hix : ∀ (ρ : Operand → Value) (a b : Operand), ρ a = .slice (some ⟨li, 0, none⟩) n (2 * n) → ρ b = .int .i64 (.ofNat i) → aIndexAddr Tryz.prog ρ 81 a b = some (.pointer (some ⟨li, i, none⟩)) := fun ρ a b h1 h2 => by
    rw [indexAddr_slice (P := Tryz.prog) Tryz.underlying81 iW rfl h1 h2 (by omega), Nat.zero_add]
   have st := store_put (P := Tryz.prog) (t := 27) (v := .int .u64 (.ofNat w)) iW rfl rfl hb (show i < n by omega)
   have e2 : qwrap .i64 (Int.add (.ofNat i) 1) = .ofNat (i + 1) := add_nat i 1 (by omega)
   refine code_loop ?_
   rw [show x + (m + 1) + 39 = x + m + 40 from by omega]
   repeat (first | refine code_seq ?_ | ((first | (refine code_region ?_ ?_; (focus rfl)) | (refine code_guards (gs := ?_) ?_ ?_; rotate_left; (focus rfl))); simp only [run1, run2, wanted, go_sem, Nat.reduceLT, Nat.reduceAdd, Nat.reduceEqDiff, reduceIte, reduceCtorEq, r13, r14, e1, r8, r2, hix, st, e2]) | (refine code_cond_true ?_ ?_; (focus (simp only [aev, regAt_set, Nat.reduceEqDiff, reduceIte, r13, r14, e1, r8, r2, hix, st, e2]; done))) | (refine code_cond_false ?_ ?_; (focus (simp only [aev, regAt_set, Nat.reduceEqDiff, reduceIte, r13, r14, e1, r8, r2, hix, st, e2]; done))) | ((first | refine code_skip ?_ | refine code_label ?_ | refine code_exit ?_); try simp only [then_exit, then_normal, blockC, Nat.reduceEqDiff, reduceIte]) | refine code_block ?_)
   refine ih x (i + 1) _ _ (by omega) (hg.put_new hln) (by rw [putL_next]; exact hlt) (Blk.put (i := li) _ _ hb) (fun k hk => ?_) ?_ ?_ ?_ ?_ ?_
   ·rw [cells_put hb (by simp; omega)]
    by_cases e : k = i
    ·subst e
     rw [dif_pos ⟨rfl, Nat.le_refl _, by simp⟩]
     simp
    ·rw [dif_neg (by simp only [List.length_singleton]; omega)]
     exact hc k (by omega)
   all_goals simp only [regAt_set, Nat.reduceEqDiff, reduceIte, r0, r2, r8, r13]
set_option maxRecDepth 20000 in
set_option maxHeartbeats 4000000 in
theorem filled_ends {g sp hp ap wb lb N L q n w : Nat} {ws : Nat → Nat} {p p' : Pos} {μ : Mem} (hg : 1200 ≤ g) (h : SP μ sp hp ap wb lb N L ws p) (hn : n ≤ 240) (hq : q + n < N) (hal : Al X N L (n + 1) q p p') :
  EndsF (aFun Tryz.prog (aCode Tryz.prog X S0 g) 16 [.pointer (some ⟨sp, 0, none⟩), .int .i64 (.ofNat n), .int .u64 (.ofNat w)] μ) fun v μ' => v = .tuple #[.int .u64 (.ofNat (placeW q)), .bool true] ∧ SP μ' sp hp ap wb lb N L (obj ws q 1 n fun _ => w) p' ∧ Keeps μ μ' ap wb lb := by
 obtain ⟨k, rfl⟩ := Nat.exists_eq_add_of_le' hg
 have hms := msW n (by omega)
 obtain ⟨μ1, h1⟩ : ∃ M : Mem, M = ⟨μ.obs.set μ.next (wsO n), Nat.add μ.next 1⟩ := ⟨_, rfl⟩
 have g1 : Grow μ μ1 := by rw [h1]; exact grow1 μ _
 have n1 : μ1.next = μ.next + 1 := by rw [h1]
 have b1 : Blk μ1 μ.next n 27 := by rw [h1]; exact ⟨#[.int .u64 0], .e, false, false, by show T.get _ _ = _; rw [T.get_set, if_pos rfl]; rfl⟩
 refine fun_enter Tryz.func16 rfl rfl (Nat.le_of_ble_eq_true rfl) ?_
 simp only [T.lay, Nat.zero_add, Tryz.ntmps16, Nat.reduceAdd]
 refine code_seq ?_
 refine code_region ?_ ?_
 ·rfl
 simp only [run1, go_sem, Nat.reduceLT, Nat.reduceAdd, Nat.reduceEqDiff, reduceIte, reduceCtorEq]
 refine code_seq ?_
 refine code_region ?_ ?_
 ·rfl
 simp only [run1, go_sem, Nat.reduceLT, Nat.reduceAdd, Nat.reduceEqDiff, reduceIte, reduceCtorEq, hms, h1.symm]
 refine code_seq ?_
 refine code_seq ?_
 refine code_region ?_ ?_
 ·rfl
 simp only [run1, go_sem, Nat.reduceLT, Nat.reduceAdd, Nat.reduceEqDiff, reduceIte, reduceCtorEq, aBuiltin, aLen, Tryz.underlying81, cast_nat]
 refine code_block ?_
 rw [show k + 1195 = (k + 1155 - n) + n + 40 from by omega]
 refine (filled_loop (X := X) (v0 := .pointer (some ⟨sp, 0, none⟩)) (li := μ.next) (n := n) (w := w) (μ0 := μ) (Nat.le_refl _) (by omega) n (k + 1155 - n) 0 _ μ1 (by omega) g1 (by omega) b1 (fun k hk => absurd hk (by omega)) ?_ ?_ ?_ ?_ ?_).mono ?_
 ·simp only [regAt_set, Nat.reduceEqDiff, reduceIte]
 ·simp only [regAt_set, Nat.reduceEqDiff, reduceIte]
 ·simp only [regAt_set, Nat.reduceEqDiff, reduceIte]
 ·simp only [regAt_set, Nat.reduceEqDiff, reduceIte]
 ·simp only [regAt_set, Nat.reduceEqDiff, reduceIte]
  rfl
 rintro a r μ2 ⟨rfl, g2, n2, c2, tm', rfl, q0, q8⟩
 have hab := h.hs.ab
 obtain ⟨v3, μ3, t3, rfl, h3, k3⟩ := object_ends (X := X) (g := k + 1195) (kd := 1) (f := fun _ => w) (c := 2 * n) (by omega) (h.grow g2) c2 n2 (by have := hab.n1; omega) (by have := hab.n2; omega) (by have := hab.n3; omega) (by decide) hn hq hal
 have t3 : aFun Tryz.prog (aCode Tryz.prog X S0 (k + 1195)) 19 [.pointer (some ⟨sp, 0, none⟩), .int .i64 1, .slice (some ⟨μ.next, 0, none⟩) n (2 * n)] μ2 = some (.tuple #[.int .u64 (.ofNat (placeW q)), .bool true], μ3) := t3
 simp only [blockC, reduceIte, then_normal]
 repeat (first | refine code_seq ?_ | ((first | (refine code_region ?_ ?_; (focus rfl)) | (refine code_guards (gs := ?_) ?_ ?_; rotate_left; (focus rfl))); simp only [run1, run2, wanted, go_sem, Nat.reduceLT, Nat.reduceAdd, Nat.reduceEqDiff, reduceIte, reduceCtorEq, q0, q8, gg19, t3]) | (refine code_cond_true ?_ ?_; (focus (simp only [aev, regAt_set, Nat.reduceEqDiff, reduceIte, q0, q8, gg19, t3]; done))) | (refine code_cond_false ?_ ?_; (focus (simp only [aev, regAt_set, Nat.reduceEqDiff, reduceIte, q0, q8, gg19, t3]; done))) | ((first | refine code_skip ?_ | refine code_label ?_ | refine code_exit ?_); try simp only [then_exit, then_normal, blockC, Nat.reduceEqDiff, reduceIte]) | refine code_block ?_)
 refine code_ret ?_
 refine ⟨rfl, _, ?_, rfl, h3, (Keeps.grow g2).trans k3⟩
 simp only [aResults, Tryz.results16, aRes, regAt_set, Nat.reduceEqDiff, reduceIte]
end
noncomputable section
variable {X : FuncId → List Value → Mem → Option (Value × Mem)}
variable [Z : Sz]
set_option maxRecDepth 20000
set_option maxHeartbeats 4000000 in
theorem make_fail {g hp ap wb lb N L kd n : Nat} {ws : Nat → Nat} {p : Pos} {μ : Mem} (hg : 500 ≤ g) (hH : HS μ hp ap wb lb N L ws p.ln) (hC : AC μ ap p.sf p.st p.gf p.gt p.nx) (h2 : kd < 32) (hn : n ≤ 240) (hal : AlF X N L (n + 1) p) :
  EndsF (aFun Tryz.prog (aCode Tryz.prog X S0 g) 62 [.pointer (some ⟨hp, 0, none⟩), .int .i64 (.ofNat kd), .int .i64 (.ofNat n)] μ) fun v μ' => v = .tuple #[.int .u64 0, .bool false] ∧ Grow μ μ' := by
 obtain ⟨k, rfl⟩ := Nat.exists_eq_add_of_le' hg
 obtain ⟨v1, μ1, t1, rfl, g1⟩ := hal (k + 496) ap wb lb ws μ (by omega) hH.ab hC
 obtain ⟨n1, hn1⟩ : ∃ x, x = n + 1 := ⟨_, rfl⟩
 rw [← hn1] at t1
 have a0 : qwrap .i64 (Int.add (.ofNat n) 1) = .ofNat n1 := hn1 ▸ add_nat n 1 (by omega)
 have z1 : ilt (.ofNat kd) 0 = false := rfl
 have z2 : ilt (.ofNat kd) 32 = true := (ilt_nat kd 32).trans (decide_eq_true h2)
 have z3 : ilt (.ofNat n) 0 = false := rfl
 have z4 : ilt 240 (.ofNat n) = false := (ilt_nat 240 n).trans (decide_eq_false (by omega))
 have hd0 := hH.head
 refine fun_enter Tryz.func62 rfl rfl (Nat.le_of_ble_eq_true rfl) ?_
 simp only [T.lay, Nat.zero_add, Tryz.ntmps62, Nat.reduceAdd]
 refine code_seq ?_
 refine code_region ?_ ?_
 ·rfl
 simp only [run1, go_sem, Nat.reduceLT, Nat.reduceAdd, Nat.reduceEqDiff, reduceIte, reduceCtorEq]
 refine code_seq ?_
 refine code_seq ?_
 refine code_guards (gs := ?_) ?_ ?_
 rotate_left
 ·rfl
 iterate 14 (refine run2_true (by first | rfl | (simp only [wanted, go_sem, Nat.reduceLT, Nat.reduceAdd, Nat.reduceEqDiff, reduceIte, reduceCtorEq, z1, z2, z3, z4])) (by simp only [go_sem, Nat.reduceLT, Nat.reduceAdd, Nat.reduceEqDiff, reduceIte, reduceCtorEq, z1, z2, z3, z4]; try exact rfl) rfl ?_)
 simp only [run2, ends_some, then_normal]
 refine code_cond_false ?_ ?_
 ·simp only [aev, regAt_set, Nat.reduceEqDiff, reduceIte]
 refine code_skip ?_
 simp only [then_normal]
 refine code_seq ?_
 refine code_region ?_ ?_
 ·rfl
 simp only [run1, go_sem, Nat.reduceLT, Nat.reduceAdd, Nat.reduceEqDiff, reduceIte, reduceCtorEq, faH0, ldA, hd0, a0, gg80, t1]
 refine code_seq ?_
 refine code_seq ?_
 refine code_region ?_ ?_
 ·rfl
 simp only [run1, go_sem, Nat.reduceLT, Nat.reduceAdd, Nat.reduceEqDiff, reduceIte, reduceCtorEq]
 refine code_cond_true ?_ ?_
 ·simp only [aev, regAt_set, Nat.reduceEqDiff, reduceIte]
 refine code_seq ?_
 refine code_region ?_ ?_
 ·rfl
 simp only [run1, go_sem, Nat.reduceLT, Nat.reduceAdd, Nat.reduceEqDiff, reduceIte, reduceCtorEq]
 refine code_ret ?_
 refine ⟨rfl, _, ?_, rfl, g1⟩
 simp only [aResults, Tryz.results62, aRes, regAt_set, Nat.reduceEqDiff, reduceIte]
set_option maxHeartbeats 4000000 in
theorem raw_fail {g sp hp ap wb lb N L kd n c : Nat} {ad : Option Addr} {ws : Nat → Nat} {p : Pos} {μ : Mem} (hg : 600 ≤ g) (h : SP μ sp hp ap wb lb N L ws p) (h2 : kd < 32) (hn : n ≤ 240) (hal : AlF X N L (n + 1) p) :
  EndsF (aFun Tryz.prog (aCode Tryz.prog X S0 g) 41 [.pointer (some ⟨sp, 0, none⟩), .int .i64 (.ofNat kd), .slice ad n c] μ) fun v μ' => v = .tuple #[.int .u64 0, .bool false] ∧ Grow μ μ' := by
 obtain ⟨k, rfl⟩ := Nat.exists_eq_add_of_le' hg
 obtain ⟨v1, μ1, t1, rfl, g1⟩ := make_fail (X := X) (g := k + 597) (n := n) (by omega) h.hs h.ac h2 hn hal
 have hs0 := h.sp0
 refine fun_enter Tryz.func41 rfl rfl (Nat.le_of_ble_eq_true rfl) ?_
 simp only [T.lay, Nat.zero_add, Tryz.ntmps41, Nat.reduceAdd]
 repeat (first | refine code_seq ?_ | ((first | (refine code_region ?_ ?_; (focus rfl)) | (refine code_guards (gs := ?_) ?_ ?_; rotate_left; (focus rfl))); simp only [run1, run2, wanted, go_sem, Nat.reduceLT, Nat.reduceAdd, Nat.reduceEqDiff, reduceIte, reduceCtorEq, faS0, Nat.add_zero, ldHp, hs0, aBuiltin, aLen, Tryz.underlying81, cast_nat, gg62, t1]) | (refine code_cond_true ?_ ?_; (focus (simp only [aev, regAt_set, Nat.reduceEqDiff, reduceIte, faS0, Nat.add_zero, ldHp, hs0, aBuiltin, aLen, Tryz.underlying81, cast_nat, gg62, t1]; done))) | (refine code_cond_false ?_ ?_; (focus (simp only [aev, regAt_set, Nat.reduceEqDiff, reduceIte, faS0, Nat.add_zero, ldHp, hs0, aBuiltin, aLen, Tryz.underlying81, cast_nat, gg62, t1]; done))) | ((first | refine code_skip ?_ | refine code_label ?_ | refine code_exit ?_); try simp only [then_exit, then_normal, blockC, Nat.reduceEqDiff, reduceIte]) | refine code_block ?_)
 refine code_ret ?_
 refine ⟨rfl, _, ?_, rfl, g1⟩
 simp only [aResults, Tryz.results41, aRes, regAt_set, Nat.reduceEqDiff, reduceIte]
set_option maxHeartbeats 4000000 in
theorem object_fail {g sp hp ap wb lb N L kd n c : Nat} {ad : Option Addr} {ws : Nat → Nat} {p : Pos} {μ : Mem} (hg : 700 ≤ g) (h : SP μ sp hp ap wb lb N L ws p) (h2 : kd < 16) (hn : n ≤ 240) (hal : AlF X N L (n + 1) p) :
  EndsF (aFun Tryz.prog (aCode Tryz.prog X S0 g) 19 [.pointer (some ⟨sp, 0, none⟩), .int .i64 (.ofNat kd), .slice ad n c] μ) fun v μ' => v = .tuple #[.int .u64 0, .bool false] ∧ Grow μ μ' := by
 obtain ⟨k, rfl⟩ := Nat.exists_eq_add_of_le' hg
 have hr : ∀ g, 20 ≤ g → aFun Tryz.prog (aCode Tryz.prog X S0 g) 40 [.int .i64 (.ofNat kd)] μ = some (.bool false, μ) := fun g hg => by rw [rawb_eq hg (by omega), decide_eq_false (by omega)]
 obtain ⟨v1, μ1, t1, rfl, g1⟩ := raw_fail (X := X) (g := k + 696) (c := c) (ad := ad) (by omega) h (by omega : kd < 32) hn hal
 refine fun_enter Tryz.func19 rfl rfl (Nat.le_of_ble_eq_true rfl) ?_
 simp only [T.lay, Nat.zero_add, Tryz.ntmps19, Nat.reduceAdd]
 repeat (first | refine code_seq ?_ | ((first | (refine code_region ?_ ?_; (focus rfl)) | (refine code_guards (gs := ?_) ?_ ?_; rotate_left; (focus rfl))); simp only [run1, run2, wanted, go_sem, Nat.reduceLT, Nat.reduceAdd, Nat.reduceEqDiff, reduceIte, reduceCtorEq, gg40, hr, Nat.reduceLeDiff, gg41, t1]) | (refine code_cond_true ?_ ?_; (focus (simp only [aev, regAt_set, Nat.reduceEqDiff, reduceIte, gg40, hr, Nat.reduceLeDiff, gg41, t1]; done))) | (refine code_cond_false ?_ ?_; (focus (simp only [aev, regAt_set, Nat.reduceEqDiff, reduceIte, gg40, hr, Nat.reduceLeDiff, gg41, t1]; done))) | ((first | refine code_skip ?_ | refine code_label ?_ | refine code_exit ?_); try simp only [then_exit, then_normal, blockC, Nat.reduceEqDiff, reduceIte]) | refine code_block ?_)
 refine code_ret ?_
 refine ⟨rfl, _, ?_, rfl, g1⟩
 simp only [aResults, Tryz.results19, aRes, regAt_set, Nat.reduceEqDiff, reduceIte]
set_option maxRecDepth 20000 in
set_option maxHeartbeats 4000000 in
theorem filled_fail {g sp hp ap wb lb N L n w : Nat} {ws : Nat → Nat} {p : Pos} {μ : Mem} (hg : 1200 ≤ g) (h : SP μ sp hp ap wb lb N L ws p) (hn : n ≤ 240) (hal : AlF X N L (n + 1) p) :
  EndsF (aFun Tryz.prog (aCode Tryz.prog X S0 g) 16 [.pointer (some ⟨sp, 0, none⟩), .int .i64 (.ofNat n), .int .u64 (.ofNat w)] μ) fun v μ' => v = .tuple #[.int .u64 0, .bool false] ∧ Grow μ μ' := by
 obtain ⟨k, rfl⟩ := Nat.exists_eq_add_of_le' hg
 have hms := msW n (by omega)
 obtain ⟨μ1, h1⟩ : ∃ M : Mem, M = ⟨μ.obs.set μ.next (wsO n), Nat.add μ.next 1⟩ := ⟨_, rfl⟩
 have g1 : Grow μ μ1 := by rw [h1]; exact grow1 μ _
 have n1 : μ1.next = μ.next + 1 := by rw [h1]
 have b1 : Blk μ1 μ.next n 27 := by rw [h1]; exact ⟨#[.int .u64 0], .e, false, false, by show T.get _ _ = _; rw [T.get_set, if_pos rfl]; rfl⟩
 refine fun_enter Tryz.func16 rfl rfl (Nat.le_of_ble_eq_true rfl) ?_
 simp only [T.lay, Nat.zero_add, Tryz.ntmps16, Nat.reduceAdd]
 refine code_seq ?_
 refine code_region ?_ ?_
 ·rfl
 simp only [run1, go_sem, Nat.reduceLT, Nat.reduceAdd, Nat.reduceEqDiff, reduceIte, reduceCtorEq]
 refine code_seq ?_
 refine code_region ?_ ?_
 ·rfl
 simp only [run1, go_sem, Nat.reduceLT, Nat.reduceAdd, Nat.reduceEqDiff, reduceIte, reduceCtorEq, hms, h1.symm]
 refine code_seq ?_
 refine code_seq ?_
 refine code_region ?_ ?_
 ·rfl
 simp only [run1, go_sem, Nat.reduceLT, Nat.reduceAdd, Nat.reduceEqDiff, reduceIte, reduceCtorEq, aBuiltin, aLen, Tryz.underlying81, cast_nat]
 refine code_block ?_
 rw [show k + 1195 = (k + 1155 - n) + n + 40 from by omega]
 refine (filled_loop (X := X) (v0 := .pointer (some ⟨sp, 0, none⟩)) (li := μ.next) (n := n) (w := w) (μ0 := μ) (Nat.le_refl _) (by omega) n (k + 1155 - n) 0 _ μ1 (by omega) g1 (by omega) b1 (fun k hk => absurd hk (by omega)) ?_ ?_ ?_ ?_ ?_).mono ?_
 ·simp only [regAt_set, Nat.reduceEqDiff, reduceIte]
 ·simp only [regAt_set, Nat.reduceEqDiff, reduceIte]
 ·simp only [regAt_set, Nat.reduceEqDiff, reduceIte]
 ·simp only [regAt_set, Nat.reduceEqDiff, reduceIte]
 ·simp only [regAt_set, Nat.reduceEqDiff, reduceIte]
  rfl
 rintro a r μ2 ⟨rfl, g2, n2, c2, tm', rfl, q0, q8⟩
 obtain ⟨v3, μ3, t3, rfl, g3⟩ := object_fail (X := X) (g := k + 1195) (kd := 1) (n := n) (c := 2 * n) (ad := some ⟨μ.next, 0, none⟩) (by omega) (h.grow g2) (by decide) hn hal
 have t3 : aFun Tryz.prog (aCode Tryz.prog X S0 (k + 1195)) 19 [.pointer (some ⟨sp, 0, none⟩), .int .i64 1, .slice (some ⟨μ.next, 0, none⟩) n (2 * n)] μ2 = some (.tuple #[.int .u64 0, .bool false], μ3) := t3
 simp only [blockC, reduceIte, then_normal]
 repeat (first | refine code_seq ?_ | ((first | (refine code_region ?_ ?_; (focus rfl)) | (refine code_guards (gs := ?_) ?_ ?_; rotate_left; (focus rfl))); simp only [run1, run2, wanted, go_sem, Nat.reduceLT, Nat.reduceAdd, Nat.reduceEqDiff, reduceIte, reduceCtorEq, q0, q8, gg19, t3]) | (refine code_cond_true ?_ ?_; (focus (simp only [aev, regAt_set, Nat.reduceEqDiff, reduceIte, q0, q8, gg19, t3]; done))) | (refine code_cond_false ?_ ?_; (focus (simp only [aev, regAt_set, Nat.reduceEqDiff, reduceIte, q0, q8, gg19, t3]; done))) | ((first | refine code_skip ?_ | refine code_label ?_ | refine code_exit ?_); try simp only [then_exit, then_normal, blockC, Nat.reduceEqDiff, reduceIte]) | refine code_block ?_)
 refine code_ret ?_
 refine ⟨rfl, _, ?_, rfl, g2.trans g3⟩
 simp only [aResults, Tryz.results16, aRes, regAt_set, Nat.reduceEqDiff, reduceIte]
end
noncomputable section
variable {X : FuncId → List Value → Mem → Option (Value × Mem)}
variable [Z : Sz]
structure PV (μ : Mem) (vi sp hp ap wb lb : Nat) (ws : Nat → Nat) (p : Pos) (l : List Value) : Prop where
 hs : SP μ sp hp ap wb lb Sz.N Sz.L ws p
 has : Has μ vi 0 l
 blk : Blk μ vi 8 66
 vn : vi < μ.next
 v1 : vi ≠ ap
 v2 : vi ≠ wb
 v3 : vi ≠ lb
 v4 : vi ≠ sp
 v5 : vi ≠ hp
 len : l.length = 8
theorem PV.grow {μ μ' : Mem} {vi sp hp ap wb lb : Nat} {ws : Nat → Nat} {p : Pos} {l : List Value} (h : PV μ vi sp hp ap wb lb ws p l) (g : Grow μ μ') : PV μ' vi sp hp ap wb lb ws p l :=
 ⟨h.hs.grow g, h.has.keep (g.2 _ h.vn), h.blk.of_get (g.2 _ h.vn), Nat.lt_of_lt_of_le h.vn g.1, h.v1, h.v2, h.v3, h.v4, h.v5, h.len⟩
theorem PV.field {μ : Mem} {vi sp hp ap wb lb : Nat} {ws : Nat → Nat} {p : Pos} {l l' : List Value} (h : PV μ vi sp hp ap wb lb ws p l) (k : Nat) (v : Value) (hk : k < 8) (hl : l.set k v = l') : PV (putL μ vi k [v]) vi sp hp ap wb lb ws p l' := by
 have hh := h.has.set h.blk (k := k) (v := v) (by rw [h.len]; exact hk)
 rw [hl, Nat.zero_add] at hh
 exact ⟨h.hs.at_ (by rw [putL_next]; exact Nat.le_refl _) (putL_get _ _ _ _ (Ne.symm h.v4)) (putL_get _ _ _ _ (Ne.symm h.v5)) (putL_get _ _ _ _ (Ne.symm h.v1)) (putL_get _ _ _ _ (Ne.symm h.v2)) (putL_get _ _ _ _ (Ne.symm h.v3)), hh, Blk.put (i := vi) _ _ h.blk, by rw [putL_next]; exact h.vn, h.v1, h.v2, h.v3, h.v4, h.v5, by rw [← hl, List.length_set]; exact h.len⟩
def vZ (sp t : Nat) : List Value := [.pointer (some ⟨sp, 0, none⟩), .int .u64 (.ofNat t), .int .i64 0, .int .i64 0, .int .u64 0, .int .u64 0, .int .i64 0, .int .i64 0]
def v0L : List Value := [.pointer none, .int .u64 0, .int .i64 0, .int .i64 0, .int .u64 0, .int .u64 0, .int .i64 0, .int .i64 0]
theorem z81 : aZeroOf Tryz.prog 66 = some (.agg v0L.toArray) := by unfold aZeroOf; rw [j81]; rfl
theorem bd81 (ρ : Operand → Value) (x y : Operand) (sp t : Nat) (h1 : ρ x = .pointer (some ⟨sp, 0, none⟩)) (h2 : ρ y = .int .u64 (.ofNat t)) : aBuild Tryz.prog ρ 66 #[(0, x), (1, y)] = some (.agg (vZ sp t).toArray) := by
 refine build_struct (pl := [(0, 1), (1, 1), (2, 1), (3, 1), (4, 1), (5, 1), (6, 1), (7, 1)]) z81 Tryz.underlying66 (by kernel_rfl) ?_
 show aFill _ v0L [(0, ρ x), (1, ρ y)] = some (vZ sp t)
 rw [h1, h2]
 rfl
theorem bx81 (l : List Value) : aBox 66 (.agg l.toArray) = some (.cells l.length 66 l.toArray .e 0 0 false false, fun id => .pointer (some ⟨id, 0, none⟩)) := rfl
structure TW (ws : Nat → Nat) (tq cnt used e ix room places : Nat) : Prop where
 ht : ws tq = headW 3 0 4
 f0 : ws (tq + 1 + 0) = sw (.ofNat cnt)
 f1 : ws (tq + 1 + 1) = sw (.ofNat used)
 f2 : ws (tq + 1 + 2) = placeW e
 f3 : ws (tq + 1 + 3) = placeW ix
 he : ws e = headW 1 0 (2 * room)
 hi : ws ix = headW 1 0 places
 rt : tq + 4 < Sz.N
 re : e + 2 * room < Sz.N
 ri : ix + places < Sz.N
 r1 : room ≤ 100
 r2 : places ≤ 128
 r3 : 0 < places
 dj : e + 2 * room < ix ∨ ix + places < e
 d1 : tq + 4 < e ∨ e + 2 * room < tq
 d2 : tq + 4 < ix ∨ ix + places < tq
 c1 : cnt < 1000
 u1 : used < 1000
set_option maxRecDepth 20000 in
set_option maxHeartbeats 16000000 in
theorem look_ends {g sp hp ap wb lb tq cnt used e ix room places : Nat} {ws : Nat → Nat} {p : Pos} {μ : Mem} (hg : 300 ≤ g) (hS : SP μ sp hp ap wb lb Sz.N Sz.L ws p) (h : TW ws tq cnt used e ix room places) :
  EndsF (aFun Tryz.prog (aCode Tryz.prog X S0 g) 20 [.pointer (some ⟨sp, 0, none⟩), .int .u64 (.ofNat (placeW tq))] μ) fun v μ' => ∃ vi, v = .tuple #[.pointer (some ⟨vi, 0, none⟩), .bool true] ∧ μ.next ≤ vi ∧ VW μ' vi sp hp ap wb lb ws p (placeW tq) cnt used e ix room places ∧ Grow μ μ' := by
 obtain ⟨k, rfl⟩ := Nat.exists_eq_add_of_le' hg
 have c1 := h.c1
 have u1 := h.u1
 have hrt := h.rt
 have hre := h.re
 have hri := h.ri
 have H : ∀ (μ' : Mem), Grow μ μ' → ∀ g, 10 ≤ g → aFun Tryz.prog (aCode Tryz.prog X S0 g) 42 [.pointer (some ⟨sp, 0, none⟩)] μ' = some (.pointer (some ⟨hp, 0, none⟩), μ') := fun μ' gg g hg => heap_of hg (hS.grow gg).sp0
 have H0 := H μ (Grow.refl _)
 obtain ⟨v1, μ1, t1, rfl, g1⟩ := hkind (X := X) (g := k + 296) (by omega) hS.hs.at (by omega) Sz.N1 h.ht (by decide) (by decide) (by decide)
 have H1 := H μ1 g1
 obtain ⟨v2, μ2, t2, rfl, g2⟩ := hsize (X := X) (g := k + 296) (by omega) (hS.grow g1).hs.at (by omega) Sz.N1 h.ht (by decide) (by decide) (by decide)
 have g12 := g1.trans g2
 have S2 := hS.grow g12
 obtain ⟨μ3, h3⟩ : ∃ M : Mem, M = ⟨μ2.obs.set μ2.next (.cells (vZ sp (placeW tq)).length 66 (vZ sp (placeW tq)).toArray .e 0 0 false false), μ2.next + 1⟩ := ⟨_, rfl⟩
 have g3 : Grow μ2 μ3 := by rw [h3]; exact grow1 μ2 _
 have P3 : PV μ3 μ2.next sp hp ap wb lb ws p (vZ sp (placeW tq)) :=
  ⟨S2.grow g3, Has.new (t := 66) (fx := false) (sh := false) (by rw [h3]; show T.get _ _ = _; rw [T.get_set, if_pos rfl]), ⟨(vZ sp (placeW tq)).toArray, .e, false, false, by rw [h3]; show T.get _ _ = _; rw [T.get_set, if_pos rfl]; rfl⟩, by rw [h3]; exact Nat.lt_succ_self _, by have := S2.hs.ab.n1; omega, by have := S2.hs.ab.n2; omega, by have := S2.hs.ab.n3; omega, by have := S2.spn; omega, by have := S2.hs.hn; omega, rfl⟩
 obtain ⟨vi, hvi⟩ : ∃ vi, vi = μ2.next := ⟨_, rfl⟩
 rw [← hvi] at P3
 have H3 := H μ3 (g12.trans g3)
 obtain ⟨v4, μ4, t4, rfl, g4⟩ := hget (X := X) (g := k + 295) (i := 0) (by omega) P3.hs.hs.at (n := 4) hrt Sz.N1 h.ht (by decide) (by decide) (by decide)
 rw [h.f0] at t4
 have P4 := P3.grow g4
 have H4 := H μ4 (g12.trans (g3.trans g4))
 obtain ⟨v5, μ5, t5, rfl, g5⟩ := hget (X := X) (g := k + 294) (i := 1) (by omega) P4.hs.hs.at (n := 4) hrt Sz.N1 h.ht (by decide) (by decide) (by decide)
 rw [h.f1] at t5
 have P5 := P4.grow g5
 have q1 : ∀ g, 20 ≤ g → aFun Tryz.prog (aCode Tryz.prog X S0 g) 46 [.int .u64 (.ofNat (sw (.ofNat cnt)))] μ5 = some (.int .i64 (.ofNat cnt), μ5) := fun g hg => value_small hg (sm_nat (by omega))
 have q2 : ∀ g, 20 ≤ g → aFun Tryz.prog (aCode Tryz.prog X S0 g) 46 [.int .u64 (.ofNat (sw (.ofNat used)))] μ5 = some (.int .i64 (.ofNat used), μ5) := fun g hg => value_small hg (sm_nat (by omega))
 have s2 := store_put (P := Tryz.prog) (t := 3) (v := .int .i64 (.ofNat cnt)) i3 rfl rfl P5.blk (show 2 < 8 by decide)
 have P6 := P5.field 2 (.int .i64 (.ofNat cnt)) (by decide) rfl
 have s3 := store_put (P := Tryz.prog) (t := 3) (v := .int .i64 (.ofNat used)) i3 rfl rfl P6.blk (show 3 < 8 by decide)
 have P7 := P6.field 3 (.int .i64 (.ofNat used)) (by decide) rfl
 obtain ⟨m7, hm7⟩ : ∃ m : Mem, m = putL (putL μ5 vi 2 [.int .i64 (.ofNat cnt)]) vi 3 [.int .i64 (.ofNat used)] := ⟨_, rfl⟩
 rw [← hm7] at s3 P7
 have G : Grow μ μ5 := g12.trans (g3.trans (g4.trans g5))
 have hvn : μ.next ≤ vi := by rw [hvi]; exact g12.1
 have G7 : Grow μ m7 := by rw [hm7]; exact (G.put_new hvn).put_new hvn
 have H7 := H m7 G7
 obtain ⟨v8, μ8, t8, rfl, g8⟩ := hget (X := X) (g := k + 292) (i := 2) (by omega) P7.hs.hs.at (n := 4) hrt Sz.N1 h.ht (by decide) (by decide) (by decide)
 rw [h.f2] at t8
 have P8 := P7.grow g8
 have s4 := store_put (P := Tryz.prog) (t := 27) (v := .int .u64 (.ofNat (placeW e))) iW rfl rfl P8.blk (show 4 < 8 by decide)
 have P9 := P8.field 4 (.int .u64 (.ofNat (placeW e))) (by decide) rfl
 obtain ⟨m9, hm9⟩ : ∃ m : Mem, m = putL μ8 vi 4 [.int .u64 (.ofNat (placeW e))] := ⟨_, rfl⟩
 rw [← hm9] at s4 P9
 have G9 : Grow μ m9 := by rw [hm9]; exact (G7.trans g8).put_new hvn
 have H9 := H m9 G9
 obtain ⟨v10, μ10, t10, rfl, g10⟩ := hget (X := X) (g := k + 291) (i := 3) (by omega) P9.hs.hs.at (n := 4) hrt Sz.N1 h.ht (by decide) (by decide) (by decide)
 rw [h.f3] at t10
 have P10 := P9.grow g10
 have s5 := store_put (P := Tryz.prog) (t := 27) (v := .int .u64 (.ofNat (placeW ix))) iW rfl rfl P10.blk (show 5 < 8 by decide)
 have P11 := P10.field 5 (.int .u64 (.ofNat (placeW ix))) (by decide) rfl
 obtain ⟨m11, hm11⟩ : ∃ m : Mem, m = putL μ10 vi 5 [.int .u64 (.ofNat (placeW ix))] := ⟨_, rfl⟩
 rw [← hm11] at s5 P11
 have G11 : Grow μ m11 := by rw [hm11]; exact (G9.trans g10).put_new hvn
 have U := P11.grow (grow_up m11 23)
 have GU := G11.trans (grow_up m11 23)
 have HU := H _ GU
 have a4 : cellsAt ⟨m11.obs, m11.next + 23⟩ vi 4 = some (.int .u64 (.ofNat (placeW e))) := U.has.cell 4 (by simp [vZ])
 have a5 : cellsAt ⟨m11.obs, m11.next + 23⟩ vi 5 = some (.int .u64 (.ofNat (placeW ix))) := U.has.cell 5 (by simp [vZ])
 obtain ⟨v12, μ12, t12, rfl, g12'⟩ := hsize (X := X) (g := k + 290) (by omega) U.hs.hs.at (by omega) Sz.N1 h.he (by decide) (by decide) (by have := h.r1; omega)
 have P12 := U.grow g12'
 have H12 := H μ12 (GU.trans g12')
 have b4 : cellsAt μ12 vi 4 = some (.int .u64 (.ofNat (placeW e))) := P12.has.cell 4 (by simp [vZ])
 have b5 : cellsAt μ12 vi 5 = some (.int .u64 (.ofNat (placeW ix))) := P12.has.cell 5 (by simp [vZ])
 obtain ⟨v13, μ13, t13, rfl, g13⟩ := hsize (X := X) (g := k + 290) (by omega) P12.hs.hs.at (by omega) Sz.N1 h.hi (by decide) (by decide) (by have := h.r2; omega)
 have P13 := P12.grow g13
 have c4 : cellsAt μ13 vi 4 = some (.int .u64 (.ofNat (placeW e))) := P13.has.cell 4 (by simp [vZ])
 have c5 : cellsAt μ13 vi 5 = some (.int .u64 (.ofNat (placeW ix))) := P13.has.cell 5 (by simp [vZ])
 have e1 : aDiv false .i64 .i64 (.ofNat (2 * room)) 2 = some (.int .i64 (.ofNat room)) := by
  show some (Value.int .i64 (qwrap .i64 (.ofNat (2 * room / 2)))) = _
  rw [show 2 * room / 2 = room from by omega, q64 _ (by have := h.r1; omega)]
 have s6 := store_put (P := Tryz.prog) (t := 3) (v := .int .i64 (.ofNat room)) i3 rfl rfl P13.blk (show 6 < 8 by decide)
 have P14 := P13.field 6 (.int .i64 (.ofNat room)) (by decide) rfl
 have s7 := store_put (P := Tryz.prog) (t := 3) (v := .int .i64 (.ofNat places)) i3 rfl rfl P14.blk (show 7 < 8 by decide)
 have P15 := P14.field 7 (.int .i64 (.ofNat places)) (by decide) rfl
 obtain ⟨m15, hm15⟩ : ∃ m : Mem, m = putL (putL μ13 vi 6 [.int .i64 (.ofNat room)]) vi 7 [.int .i64 (.ofNat places)] := ⟨_, rfl⟩
 rw [← hm15] at s7 P15
 have G15 : Grow μ m15 := by rw [hm15]; exact ((GU.trans (g12'.trans g13)).put_new hvn).put_new hvn
 have P16 := P15.grow (grow_up m15 8)
 have f7 : cellsAt ⟨m15.obs, m15.next + 8⟩ vi 7 = some (.int .i64 (.ofNat places)) := P16.has.cell 7 (by simp [vZ])
 have V : VW ⟨m15.obs, m15.next + 8⟩ vi sp hp ap wb lb ws p (placeW tq) cnt used e ix room places :=
  ⟨P16.hs, P16.has, P16.blk, P16.vn, P16.v1, P16.v2, P16.v3, P16.v4, P16.v5, h.dj, h.he, h.hi, h.re, h.ri, h.r1, h.r2⟩
 have t4 : aFun Tryz.prog (aCode Tryz.prog X S0 (k + 295)) 45 [.pointer (some ⟨hp, 0, none⟩), .int .u64 (.ofNat (placeW tq)), .int .i64 0] μ3 = some (.tuple #[.int .u64 (.ofNat (sw (.ofNat cnt))), .int .i64 0], μ4) := t4
 have t5 : aFun Tryz.prog (aCode Tryz.prog X S0 (k + 294)) 45 [.pointer (some ⟨hp, 0, none⟩), .int .u64 (.ofNat (placeW tq)), .int .i64 1] μ4 = some (.tuple #[.int .u64 (.ofNat (sw (.ofNat used))), .int .i64 0], μ5) := t5
 have t8 : aFun Tryz.prog (aCode Tryz.prog X S0 (k + 292)) 45 [.pointer (some ⟨hp, 0, none⟩), .int .u64 (.ofNat (placeW tq)), .int .i64 2] m7 = some (.tuple #[.int .u64 (.ofNat (placeW e)), .int .i64 0], μ8) := t8
 have t10 : aFun Tryz.prog (aCode Tryz.prog X S0 (k + 291)) 45 [.pointer (some ⟨hp, 0, none⟩), .int .u64 (.ofNat (placeW tq)), .int .i64 3] m9 = some (.tuple #[.int .u64 (.ofNat (placeW ix)), .int .i64 0], μ10) := t10
 have e3 : ieq (.ofNat 3) 3 = true := rfl
 have e4 : ieq (.ofNat 4) 4 = true := rfl
 have e5 : ilt 0 (.ofNat places) = true := (ilt_nat 0 places).trans (decide_eq_true h.r3)
 have hbd : ∀ (ρ : Operand → Value) (x y : Operand), ρ x = .pointer (some ⟨sp, 0, none⟩) → ρ y = .int .u64 (.ofNat (placeW tq)) → aBuild Tryz.prog ρ 66 #[(0, x), (1, y)] = some (.agg (vZ sp (placeW tq)).toArray) := fun ρ x y h1 h2 => bd81 ρ x y sp _ h1 h2
 have h3' : (⟨μ2.obs.set μ2.next (.cells (vZ sp (placeW tq)).length 66 (vZ sp (placeW tq)).toArray .e 0 0 false false), Nat.add μ2.next 1⟩ : Mem) = μ3 := h3.symm
 obtain ⟨sc, hsc⟩ : ∃ z, z = sw (.ofNat cnt) := ⟨_, rfl⟩
 obtain ⟨su, hsu⟩ : ∃ z, z = sw (.ofNat used) := ⟨_, rfl⟩
 obtain ⟨tw, htw⟩ : ∃ z, z = placeW tq := ⟨_, rfl⟩
 obtain ⟨ew, hew⟩ : ∃ z, z = placeW e := ⟨_, rfl⟩
 obtain ⟨iw, hiw⟩ : ∃ z, z = placeW ix := ⟨_, rfl⟩
 rw [← hsc] at t4 q1
 rw [← hsu] at t5 q2
 rw [← htw] at t1 t2 t4 t5 t8 t10 hbd h3'
 rw [← hew] at t8 s4 a4 b4 c4 t12 hm9
 rw [← hiw] at t10 s5 a5 b5 c5 t13 hm11
 have fin : ∃ vi', Value.tuple #[.pointer (some ⟨vi, 0, none⟩), .bool true] = .tuple #[.pointer (some ⟨vi', 0, none⟩), .bool true] ∧ μ.next ≤ vi' ∧ VW ⟨m15.obs, m15.next + 8⟩ vi' sp hp ap wb lb ws p (placeW tq) cnt used e ix room places ∧ Grow μ ⟨m15.obs, m15.next + 8⟩ := ⟨vi, rfl, hvn, V, G15.trans (grow_up m15 8)⟩
 rw [← htw] at fin
 rw [← hvi] at h3'
 rw [← htw]
 refine fun_enter Tryz.func20 rfl rfl (Nat.le_of_ble_eq_true rfl) ?_
 simp only [T.lay, Nat.zero_add, Tryz.ntmps20, Nat.reduceAdd]
 refine code_seq ?_
 refine code_region ?_ ?_
 ·rfl
 simp only [run1, go_sem, Nat.reduceLT, Nat.reduceAdd, Nat.reduceEqDiff, reduceIte, reduceCtorEq]
 refine code_seq ?_
 refine code_seq ?_
 refine code_guards (gs := ?_) ?_ ?_
 rotate_left
 ·rfl
 iterate 12 (refine run2_true (by first | rfl | (simp only [wanted, go_sem, Nat.reduceLT, Nat.reduceAdd, Nat.reduceEqDiff, reduceIte, reduceCtorEq, gg42, H0, H1, Nat.reduceLeDiff, gg43, t1, gg44, t2, e3, e4])) (by simp only [go_sem, Nat.reduceLT, Nat.reduceAdd, Nat.reduceEqDiff, reduceIte, reduceCtorEq, gg42, H0, H1, Nat.reduceLeDiff, gg43, t1, gg44, t2, e3, e4]; try exact rfl) rfl ?_)
 simp only [run2, ends_some, then_normal]
 refine code_cond_false ?_ ?_
 ·simp only [aev, regAt_set, Nat.reduceEqDiff, reduceIte]
 refine code_skip ?_
 simp only [then_normal]
 refine code_seq ?_
 refine code_region ?_ ?_
 ·rfl
 simp only [run1, go_sem, Nat.reduceLT, Nat.reduceAdd, Nat.reduceEqDiff, reduceIte, reduceCtorEq, hbd, bx81, h3', hvi.symm]
 refine code_seq ?_
 refine code_region ?_ ?_
 ·rfl
 simp only [run1, go_sem, Nat.reduceLT, Nat.reduceAdd, Nat.reduceEqDiff, reduceIte, reduceCtorEq, gg42, H3, Nat.reduceLeDiff, gg45, t4]
 refine code_seq ?_
 refine code_region ?_ ?_
 ·rfl
 simp only [run1, go_sem, Nat.reduceLT, Nat.reduceAdd, Nat.reduceEqDiff, reduceIte, reduceCtorEq, gg42, H4, Nat.reduceLeDiff, gg45, t5]
 refine code_seq ?_
 refine code_region ?_ ?_
 ·rfl
 simp only [run1, go_sem, Nat.reduceLT, Nat.reduceAdd, Nat.reduceEqDiff, reduceIte, reduceCtorEq, gg46, q1, q2, Nat.reduceLeDiff, fa81_2, fa81_3, s2, s3]
 refine code_seq ?_
 refine code_region ?_ ?_
 ·rfl
 simp only [run1, go_sem, Nat.reduceLT, Nat.reduceAdd, Nat.reduceEqDiff, reduceIte, reduceCtorEq, gg42, H7, Nat.reduceLeDiff, gg45, t8, fa81_4, s4, hm9.symm]
 refine code_seq ?_
 refine code_region ?_ ?_
 ·rfl
 simp only [run1, go_sem, Nat.reduceLT, Nat.reduceAdd, Nat.reduceEqDiff, reduceIte, reduceCtorEq, gg42, H9, Nat.reduceLeDiff, gg45, t10, fa81_5, s5, hm11.symm]
 refine code_seq ?_
 refine code_draw (n := 23) (ms := [0, 0, 0, 4, 0, 16, 48, 112, 252, 508, 0, 1532, 0, 4096, 12288, 28672, 65020, 131069, 262141, 524285, 1048575, 2097151, 4194303]) (ord := [2, 3, 4, 5, 6, 7, 8, 10, 11, 12, 13, 14, 15, 16, 0, 9, 17, 18, 19, 1, 20, 21, 22]) (ds := ?_) ?_ ?_ ?_ ?_ ?_ ?_
 rotate_left
 ·kernel_rfl
 ·kernel_rfl
 ·kernel_rfl
 ·rfl
 ·rfl
 iterate 23 (refine drun_true (by first | rfl | (simp only [wanted, go_sem, Nat.reduceLT, Nat.reduceAdd, Nat.reduceEqDiff, reduceIte, reduceCtorEq, gg42, HU, H12, Nat.reduceLeDiff, fa81_4, fa81_5, fa81_6, fa81_7, ldW, a4, a5, b4, b5, c4, c5, gg44, t12, t13, e1, s6, s7, (show bef [0, 0, 0, 4, 0, 16, 48, 112, 252, 508, 0, 1532, 0, 4096, 12288, 28672, 65020, 131069, 262141, 524285, 1048575, 2097151, 4194303] 3 7 = false from by kernel_rfl), (show bef [0, 0, 0, 4, 0, 16, 48, 112, 252, 508, 0, 1532, 0, 4096, 12288, 28672, 65020, 131069, 262141, 524285, 1048575, 2097151, 4194303] 8 7 = false from by kernel_rfl), (show bef [0, 0, 0, 4, 0, 16, 48, 112, 252, 508, 0, 1532, 0, 4096, 12288, 28672, 65020, 131069, 262141, 524285, 1048575, 2097151, 4194303] 11 7 = false from by kernel_rfl), (show bef [0, 0, 0, 4, 0, 16, 48, 112, 252, 508, 0, 1532, 0, 4096, 12288, 28672, 65020, 131069, 262141, 524285, 1048575, 2097151, 4194303] 16 7 = false from by kernel_rfl), (show bef [0, 0, 0, 4, 0, 16, 48, 112, 252, 508, 0, 1532, 0, 4096, 12288, 28672, 65020, 131069, 262141, 524285, 1048575, 2097151, 4194303] 19 7 = false from by kernel_rfl), (show bef [0, 0, 0, 4, 0, 16, 48, 112, 252, 508, 0, 1532, 0, 4096, 12288, 28672, 65020, 131069, 262141, 524285, 1048575, 2097151, 4194303] 22 7 = false from by kernel_rfl), (show bef [0, 0, 0, 4, 0, 16, 48, 112, 252, 508, 0, 1532, 0, 4096, 12288, 28672, 65020, 131069, 262141, 524285, 1048575, 2097151, 4194303] 3 15 = false from by kernel_rfl), (show bef [0, 0, 0, 4, 0, 16, 48, 112, 252, 508, 0, 1532, 0, 4096, 12288, 28672, 65020, 131069, 262141, 524285, 1048575, 2097151, 4194303] 8 15 = false from by kernel_rfl), (show bef [0, 0, 0, 4, 0, 16, 48, 112, 252, 508, 0, 1532, 0, 4096, 12288, 28672, 65020, 131069, 262141, 524285, 1048575, 2097151, 4194303] 11 15 = false from by kernel_rfl), (show bef [0, 0, 0, 4, 0, 16, 48, 112, 252, 508, 0, 1532, 0, 4096, 12288, 28672, 65020, 131069, 262141, 524285, 1048575, 2097151, 4194303] 16 15 = false from by kernel_rfl), (show bef [0, 0, 0, 4, 0, 16, 48, 112, 252, 508, 0, 1532, 0, 4096, 12288, 28672, 65020, 131069, 262141, 524285, 1048575, 2097151, 4194303] 19 15 = false from by kernel_rfl), (show bef [0, 0, 0, 4, 0, 16, 48, 112, 252, 508, 0, 1532, 0, 4096, 12288, 28672, 65020, 131069, 262141, 524285, 1048575, 2097151, 4194303] 22 15 = false from by kernel_rfl)])) (by simp only [aDrawOne, heavy, aReads, eqVal_self, go_sem, Nat.reduceLT, Nat.reduceAdd, Nat.reduceEqDiff, reduceIte, reduceCtorEq, gg42, HU, H12, Nat.reduceLeDiff, fa81_4, fa81_5, fa81_6, fa81_7, ldW, a4, a5, b4, b5, c4, c5, gg44, t12, t13, e1, s6, s7, (show bef [0, 0, 0, 4, 0, 16, 48, 112, 252, 508, 0, 1532, 0, 4096, 12288, 28672, 65020, 131069, 262141, 524285, 1048575, 2097151, 4194303] 3 7 = false from by kernel_rfl), (show bef [0, 0, 0, 4, 0, 16, 48, 112, 252, 508, 0, 1532, 0, 4096, 12288, 28672, 65020, 131069, 262141, 524285, 1048575, 2097151, 4194303] 8 7 = false from by kernel_rfl), (show bef [0, 0, 0, 4, 0, 16, 48, 112, 252, 508, 0, 1532, 0, 4096, 12288, 28672, 65020, 131069, 262141, 524285, 1048575, 2097151, 4194303] 11 7 = false from by kernel_rfl), (show bef [0, 0, 0, 4, 0, 16, 48, 112, 252, 508, 0, 1532, 0, 4096, 12288, 28672, 65020, 131069, 262141, 524285, 1048575, 2097151, 4194303] 16 7 = false from by kernel_rfl), (show bef [0, 0, 0, 4, 0, 16, 48, 112, 252, 508, 0, 1532, 0, 4096, 12288, 28672, 65020, 131069, 262141, 524285, 1048575, 2097151, 4194303] 19 7 = false from by kernel_rfl), (show bef [0, 0, 0, 4, 0, 16, 48, 112, 252, 508, 0, 1532, 0, 4096, 12288, 28672, 65020, 131069, 262141, 524285, 1048575, 2097151, 4194303] 22 7 = false from by kernel_rfl), (show bef [0, 0, 0, 4, 0, 16, 48, 112, 252, 508, 0, 1532, 0, 4096, 12288, 28672, 65020, 131069, 262141, 524285, 1048575, 2097151, 4194303] 3 15 = false from by kernel_rfl), (show bef [0, 0, 0, 4, 0, 16, 48, 112, 252, 508, 0, 1532, 0, 4096, 12288, 28672, 65020, 131069, 262141, 524285, 1048575, 2097151, 4194303] 8 15 = false from by kernel_rfl), (show bef [0, 0, 0, 4, 0, 16, 48, 112, 252, 508, 0, 1532, 0, 4096, 12288, 28672, 65020, 131069, 262141, 524285, 1048575, 2097151, 4194303] 11 15 = false from by kernel_rfl), (show bef [0, 0, 0, 4, 0, 16, 48, 112, 252, 508, 0, 1532, 0, 4096, 12288, 28672, 65020, 131069, 262141, 524285, 1048575, 2097151, 4194303] 16 15 = false from by kernel_rfl), (show bef [0, 0, 0, 4, 0, 16, 48, 112, 252, 508, 0, 1532, 0, 4096, 12288, 28672, 65020, 131069, 262141, 524285, 1048575, 2097151, 4194303] 19 15 = false from by kernel_rfl), (show bef [0, 0, 0, 4, 0, 16, 48, 112, 252, 508, 0, 1532, 0, 4096, 12288, 28672, 65020, 131069, 262141, 524285, 1048575, 2097151, 4194303] 22 15 = false from by kernel_rfl)]; try exact rfl) rfl ?_)
 simp only [dRun, endsD_some, then_normal]
 refine code_seq ?_
 refine code_draw (n := 8) (ms := [0, 0, 2, 6, 14, 30, 1, 127]) (ord := [0, 1, 2, 3, 4, 5, 6, 7]) (ds := ?_) ?_ ?_ ?_ ?_ ?_ ?_
 rotate_left
 ·kernel_rfl
 ·kernel_rfl
 ·kernel_rfl
 ·rfl
 ·rfl
 iterate 8 (refine drun_true (by first | rfl | (simp only [wanted, go_sem, Nat.reduceLT, Nat.reduceAdd, Nat.reduceEqDiff, reduceIte, reduceCtorEq, fa81_7, ld3, f7, e5])) (by simp only [aDrawOne, heavy, aReads, eqVal_self, go_sem, Nat.reduceLT, Nat.reduceAdd, Nat.reduceEqDiff, reduceIte, reduceCtorEq, fa81_7, ld3, f7, e5]; try exact rfl) rfl ?_)
 simp only [dRun, endsD_some, then_normal]
 refine code_ret ?_
 refine ⟨rfl, _, ?_, fin⟩
 simp only [aResults, Tryz.results20, aRes, regAt_set, Nat.reduceEqDiff, reduceIte]
end
noncomputable section
variable {X : FuncId → List Value → Mem → Option (Value × Mem)}
variable [Z : Sz]
def RP (room places : Nat) : Prop := (room = 8 ∧ places = 16) ∨ (room = 16 ∧ places = 32) ∨ (room = 32 ∧ places = 64) ∨ (room = 64 ∧ places = 128) ∨ (room = 100 ∧ places = 128)
theorem RP.b {room places : Nat} (h : RP room places) : 8 ≤ room ∧ room ≤ 100 ∧ 16 ≤ places ∧ places ≤ 128 ∧ room + 1 < places := by unfold RP at h; omega
def upd {α : Type} (f : Nat → α) (q : Nat) (x : α) : Nat → α := fun k => if k = q then x else f k
theorem upd_at {α : Type} (f : Nat → α) (q : Nat) (x : α) : upd f q x q = x := if_pos rfl
theorem upd_off {α : Type} (f : Nat → α) {q k : Nat} (x : α) (h : k ≠ q) : upd f q x k = f k := if_neg h
theorem occ_upd_out (I : Nat → Int) (q : Nat) (x : Int) : ∀ m, m ≤ q → occ (upd I q x) m = occ I m
 | 0, _ => rfl
 | m + 1, h => by
   unfold occ
   rw [occ_upd_out I q x m (by omega), upd_off I x (by omega)]
theorem occ_upd (I : Nat → Int) (q : Nat) (x : Int) (hx : x ≠ -1) (hq : I q = -1) : ∀ m, q < m → occ (upd I q x) m = occ I m + 1
 | 0, h => absurd h (Nat.not_lt_zero _)
 | m + 1, h => by
   unfold occ
   by_cases e : q = m
   ·subst e
    rw [occ_upd_out I q x q (Nat.le_refl _), upd_at, if_neg hx, if_pos hq]
   ·rw [occ_upd I q x hx hq m (by omega), upd_off I x (by omega)]
    omega
structure TD (ws : Nat → Nat) (e used : Nat) (K : Nat → Option Int) (V : Nat → Nat) : Prop where
 val : ∀ i, i < used → K i ≠ none → ws (e + 1 + (i * 2 + 1)) = V i
 uniq : ∀ i j n, i < used → j < used → K i = some n → K j = some n → i = j
def kc (K : Nat → Option Int) : Nat → Nat
 | 0 => 0
 | m + 1 => kc K m + if K m = none then 0 else 1
theorem kc_le (K : Nat → Option Int) : ∀ m, kc K m ≤ m
 | 0 => Nat.le_refl _
 | m + 1 => by have := kc_le K m; unfold kc; split <;> omega
theorem kc_upd_out (K : Nat → Option Int) (q : Nat) (x : Option Int) : ∀ m, m ≤ q → kc (upd K q x) m = kc K m
 | 0, _ => rfl
 | m + 1, h => by
   unfold kc
   rw [kc_upd_out K q x m (by omega), upd_off K x (by omega)]
def Dic (used : Nat) (K : Nat → Option Int) (V : Nat → Nat) (n : Int) (v : Nat) : Prop := ∃ i, i < used ∧ K i = some n ∧ V i = v
theorem TL.add {ws : Nat → Nat} {e ix room places used pl d : Nat} {I : Nat → Int} {K : Nat → Option Int} {n : Int} {x : Nat} (h : TL ws e ix room places used I K) (hn : Sm n) (hu : used < room) (hp : used + 1 < places) (hdj : e + 2 * room < ix ∨ ix + places < e)
  (hd : d < places) (hpl : pl = (hashI n % places + d) % places) (hI : I pl = -1) (hb : ∀ d', d' < d → I ((hashI n % places + d') % places) ≠ -1) :
  TL (addW ws e ix used pl (sw n) x) e ix room places (used + 1) (upd I pl (.ofNat used)) (upd K used (some n)) := by
 have hpl2 : pl < places := by rw [hpl]; exact Nat.mod_lt _ (by omega)
 have hx : (Int.ofNat used) ≠ -1 := by show ((used : Nat) : Int) ≠ -1; omega
 refine ⟨hu, hp, fun q hq => ?_, fun q hq => ?_, fun i hi => ?_, fun i m hi hK => ?_, fun i m hi hK => ?_, ?_⟩
 ·unfold addW put
  by_cases e1 : q = pl
  ·subst e1; rw [if_pos rfl, upd_at]
  ·rw [if_neg (by omega), upd_off I _ e1, setE_off (by omega) (by omega)]
   exact h.idx q hq
 ·by_cases e1 : q = pl
  ·subst e1; rw [upd_at]; right; constructor
   ·show (0 : Int) ≤ (used : Int); omega
   ·show ((used : Nat) : Int) < ((used + 1 : Nat) : Int); omega
  ·rw [upd_off I _ e1]
   rcases h.rng q hq with h1 | ⟨h1, h2⟩
   ·exact .inl h1
   ·exact .inr ⟨h1, by omega⟩
 ·unfold addW put
  rw [if_neg (by omega)]
  by_cases e1 : i = used
  ·subst e1; rw [upd_at, setE_key]; rfl
  ·rw [upd_off K _ e1, setE_off (by omega) (by omega)]
   exact h.key i (by omega)
 ·by_cases e1 : i = used
  ·subst e1; rw [upd_at] at hK; cases hK; exact hn
  ·rw [upd_off K _ e1] at hK
   exact h.ksm i m (by omega) hK
 ·by_cases e1 : i = used
  ·subst e1
   rw [upd_at] at hK
   cases hK
   refine ⟨d, hd, by rw [← hpl, upd_at]; rfl, fun d' hd' => ?_⟩
   by_cases e2 : (hashI n % places + d') % places = pl
   ·rw [e2, upd_at]; exact hx
   ·rw [upd_off I _ e2]; exact hb d' hd'
  ·rw [upd_off K _ e1] at hK
   obtain ⟨d0, hd0, h1, h2⟩ := h.path i m (by omega) hK
   refine ⟨d0, hd0, ?_, fun d' hd' => ?_⟩
   ·rw [upd_off I _ ?_]
    ·exact h1
    ·intro e2
     rw [e2, hI] at h1
     have : (-1 : Int) = ((i : Nat) : Int) := h1
     omega
   ·by_cases e2 : (hashI m % places + d') % places = pl
    ·rw [e2, upd_at]; exact hx
    ·rw [upd_off I _ e2]; exact h2 d' hd'
 ·rw [occ_upd I pl _ hx hI places hpl2, h.cnt]
theorem TD.add {ws : Nat → Nat} {e ix room places used pl : Nat} {K : Nat → Option Int} {V : Nat → Nat} {n : Int} {x : Nat} (h : TD ws e used K V) (hu : used < room) (hpl : pl < places) (hdj : e + 2 * room < ix ∨ ix + places < e) (hne : ∀ j m, j < used → K j = some m → m ≠ n) :
  TD (addW ws e ix used pl (sw n) x) e (used + 1) (upd K used (some n)) (upd V used x) := by
 refine ⟨fun i hi hK => ?_, fun i j m hi hj h1 h2 => ?_⟩
 ·unfold addW put
  rw [if_neg (by omega)]
  by_cases e1 : i = used
  ·subst e1; rw [upd_at, setE_val]
  ·rw [upd_off V _ e1, setE_off (by omega) (by omega)]
   rw [upd_off K _ e1] at hK
   exact h.val i (by omega) hK
 ·by_cases e1 : i = used
  ·by_cases e2 : j = used
   ·rw [e1, e2]
   ·rw [e1, upd_at] at h1
    rw [upd_off K _ e2] at h2
    cases h1
    exact absurd rfl (hne j n (by omega) h2)
  ·rw [upd_off K _ e1] at h1
   by_cases e2 : j = used
   ·rw [e2, upd_at] at h2
    cases h2
    exact absurd rfl (hne i n (by omega) h1)
   ·rw [upd_off K _ e2] at h2
    exact h.uniq i j m (by omega) (by omega) h1 h2
theorem Dic.add {used : Nat} {K : Nat → Option Int} {V : Nat → Nat} {n : Int} {x : Nat} (m : Int) (v : Nat) : Dic (used + 1) (upd K used (some n)) (upd V used x) m v ↔ (m = n ∧ v = x) ∨ Dic used K V m v := by
 constructor
 ·rintro ⟨i, hi, h1, h2⟩
  by_cases e1 : i = used
  ·subst e1
   rw [upd_at] at h1 h2
   cases h1
   exact .inl ⟨rfl, h2.symm⟩
  ·rw [upd_off K _ e1] at h1
   rw [upd_off V _ e1] at h2
   exact .inr ⟨i, by omega, h1, h2⟩
 ·rintro (⟨rfl, rfl⟩ | ⟨i, hi, h1, h2⟩)
  ·exact ⟨used, Nat.lt_succ_self _, upd_at _ _ _, upd_at _ _ _⟩
  ·exact ⟨i, by omega, by rw [upd_off K _ (by omega)]; exact h1, by rw [upd_off V _ (by omega)]; exact h2⟩
end
noncomputable section
variable {X : FuncId → List Value → Mem → Option (Value × Mem)}
variable [Z : Sz]
structure TS (μ : Mem) (sp hp ap wb lb : Nat) (ws : Nat → Nat) (p : Pos) (b s tq cnt used e ix room places : Nat) (I : Nat → Int) (K : Nat → Option Int) (V : Nat → Nat) : Prop where
 hs : SP μ sp hp ap wb lb Sz.N Sz.L ws p
 rom : Rom μ
 gp : Gp p b s
 tw : TW ws tq cnt used e ix room places
 tl : TL ws e ix room places used I K
 td : TD ws e used K V
 nf : ∀ k, (tq ≤ k ∧ k ≤ tq + 4) ∨ (e ≤ k ∧ k ≤ e + 2 * room) ∨ (ix ≤ k ∧ k ≤ ix + places) → ¬ Free p k
 ck : kc K used = cnt
 rp : RP room places
 r5 : 5 ≠ ap ∧ 5 ≠ wb ∧ 5 ≠ lb
theorem TS.grow {μ μ' : Mem} {sp hp ap wb lb : Nat} {ws : Nat → Nat} {p : Pos} {b s tq cnt used e ix room places : Nat} {I : Nat → Int} {K : Nat → Option Int} {V : Nat → Nat} (h : TS μ sp hp ap wb lb ws p b s tq cnt used e ix room places I K V) (g : Grow μ μ') : TS μ' sp hp ap wb lb ws p b s tq cnt used e ix room places I K V :=
 ⟨h.hs.grow g, h.rom.grow g, h.gp, h.tw, h.tl, h.td, h.nf, h.ck, h.rp, h.r5⟩
set_option maxRecDepth 20000 in
set_option maxHeartbeats 8000000 in
theorem ref_ends {g sp hp ap wb lb b s tq cnt used e ix room places w h : Nat} {ws : Nat → Nat} {p : Pos} {I : Nat → Int} {K : Nat → Option Int} {V : Nat → Nat} {μ : Mem} (hg : 3000 ≤ g) (hT : TS μ sp hp ap wb lb ws p b s tq cnt used e ix room places I K V) (hk : Key ws Sz.N w h) :
  EndsF (aFun Tryz.prog (aCode Tryz.prog X S0 g) 10 [.pointer (some ⟨sp, 0, none⟩), .int .u64 (.ofNat (placeW tq)), .int .u64 (.ofNat w)] μ) fun v μ' => Grow μ μ' ∧
   ((∃ j n, j < used ∧ K j = some n ∧ w = sw n ∧ v = .tuple #[.int .u64 (.ofNat (V j)), .bool true, .int .i64 0]) ∨ ((∀ j n, j < used → K j = some n → w ≠ sw n) ∧ v = .tuple #[.int .u64 0, .bool false, .int .i64 0])) := by
 obtain ⟨k, rfl⟩ := Nat.exists_eq_add_of_le' hg
 obtain ⟨v1, μ1, t1, vi, rfl, hvi, V1, g1⟩ := look_ends (X := X) (g := k + 2997) (by omega) hT.hs hT.tw
 obtain ⟨v2, μ2, t2, rfl, g2⟩ := sum_key (X := X) (g := k + 2996) (by omega) (hT.rom.grow g1) V1.hs hk
 have V2 := V1.grow g2
 obtain ⟨v3, μ3, t3, g3, i, pl, rfl, hF⟩ := find_ends (X := X) (g := k + 2994) (by omega) V2 hT.tl hk
 have V3 := V2.grow g3
 rcases hF with ⟨j, n, rfl, hj, hK, rfl⟩ | ⟨rfl, hne, _⟩
 ·have hjr : j < room := Nat.lt_of_lt_of_le hj hT.tl.le
  obtain ⟨v4, μ4, t4, rfl, g4⟩ := entry_eq (X := X) (g := k + 2992) (by omega) V3 hjr
  rw [hT.td.val j hj (by rw [hK]; exact fun e => by cases e)] at t4
  have e1 : ilt (.ofNat j) 0 = false := rfl
  have fin : Grow μ μ4 ∧ ((∃ j' n', j' < used ∧ K j' = some n' ∧ sw n = sw n' ∧ Value.tuple #[.int .u64 (.ofNat (V j)), .bool true, .int .i64 0] = .tuple #[.int .u64 (.ofNat (V j')), .bool true, .int .i64 0]) ∨ ((∀ j' n', j' < used → K j' = some n' → sw n ≠ sw n') ∧ Value.tuple #[.int .u64 (.ofNat (V j)), .bool true, .int .i64 0] = .tuple #[.int .u64 0, .bool false, .int .i64 0])) :=
   ⟨g1.trans (g2.trans (g3.trans g4)), .inl ⟨j, n, hj, hK, rfl, rfl⟩⟩
  obtain ⟨x, hx⟩ : ∃ x, x = ws (e + 1 + j * 2) := ⟨_, rfl⟩
  obtain ⟨y, hy⟩ : ∃ y, y = V j := ⟨_, rfl⟩
  obtain ⟨z, hz⟩ : ∃ z, z = sw n := ⟨_, rfl⟩
  rw [← hx, ← hy] at t4
  rw [← hy] at fin
  rw [← hz] at t2 t3 fin ⊢
  refine fun_enter Tryz.func10 rfl rfl (Nat.le_of_ble_eq_true rfl) ?_
  simp only [T.lay, Nat.zero_add, Tryz.ntmps10, Nat.reduceAdd]
  repeat (first | refine code_seq ?_ | ((first | (refine code_region ?_ ?_; (focus rfl)) | (refine code_guards (gs := ?_) ?_ ?_; rotate_left; (focus rfl))); simp only [run1, run2, wanted, go_sem, Nat.reduceLT, Nat.reduceAdd, Nat.reduceEqDiff, reduceIte, reduceCtorEq, gg20, t1, gg22, t2, gg23, t3, e1, gg24, t4]) | (refine code_cond_true ?_ ?_; (focus (simp only [aev, regAt_set, Nat.reduceEqDiff, reduceIte, gg20, t1, gg22, t2, gg23, t3, e1, gg24, t4]; done))) | (refine code_cond_false ?_ ?_; (focus (simp only [aev, regAt_set, Nat.reduceEqDiff, reduceIte, gg20, t1, gg22, t2, gg23, t3, e1, gg24, t4]; done))) | ((first | refine code_skip ?_ | refine code_label ?_ | refine code_exit ?_); try simp only [then_exit, then_normal, blockC, Nat.reduceEqDiff, reduceIte]) | refine code_block ?_)
  refine code_ret ?_
  refine ⟨rfl, _, ?_, fin⟩
  simp only [aResults, Tryz.results10, aRes, regAt_set, Nat.reduceEqDiff, reduceIte]
 ·have e1 : ilt (-1) 0 = true := rfl
  refine fun_enter Tryz.func10 rfl rfl (Nat.le_of_ble_eq_true rfl) ?_
  simp only [T.lay, Nat.zero_add, Tryz.ntmps10, Nat.reduceAdd]
  repeat (first | refine code_seq ?_ | ((first | (refine code_region ?_ ?_; (focus rfl)) | (refine code_guards (gs := ?_) ?_ ?_; rotate_left; (focus rfl))); simp only [run1, run2, wanted, go_sem, Nat.reduceLT, Nat.reduceAdd, Nat.reduceEqDiff, reduceIte, reduceCtorEq, gg20, t1, gg22, t2, gg23, t3, e1]) | (refine code_cond_true ?_ ?_; (focus (simp only [aev, regAt_set, Nat.reduceEqDiff, reduceIte, gg20, t1, gg22, t2, gg23, t3, e1]; done))) | (refine code_cond_false ?_ ?_; (focus (simp only [aev, regAt_set, Nat.reduceEqDiff, reduceIte, gg20, t1, gg22, t2, gg23, t3, e1]; done))) | ((first | refine code_skip ?_ | refine code_label ?_ | refine code_exit ?_); try simp only [then_exit, then_normal, blockC, Nat.reduceEqDiff, reduceIte]) | refine code_block ?_)
  refine code_ret ?_
  refine ⟨rfl, _, ?_, g1.trans (g2.trans g3), .inr ⟨hne, rfl⟩⟩
  simp only [aResults, Tryz.results10, aRes, regAt_set, Nat.reduceEqDiff, reduceIte]
set_option maxRecDepth 20000 in
set_option maxHeartbeats 8000000 in
theorem tcount_ends {g sp hp ap wb lb b s tq cnt used e ix room places : Nat} {ws : Nat → Nat} {p : Pos} {I : Nat → Int} {K : Nat → Option Int} {V : Nat → Nat} {μ : Mem} (hg : 400 ≤ g) (hT : TS μ sp hp ap wb lb ws p b s tq cnt used e ix room places I K V) :
  EndsF (aFun Tryz.prog (aCode Tryz.prog X S0 g) 7 [.pointer (some ⟨sp, 0, none⟩), .int .u64 (.ofNat (placeW tq))] μ) fun v μ' => v = .tuple #[.int .i64 (.ofNat cnt), .int .i64 0] ∧ Grow μ μ' := by
 obtain ⟨k, rfl⟩ := Nat.exists_eq_add_of_le' hg
 obtain ⟨v1, μ1, t1, vi, rfl, hvi, V1, g1⟩ := look_ends (X := X) (g := k + 397) (by omega) hT.hs hT.tw
 have c2 : cellsAt μ1 vi 2 = some (.int .i64 (.ofNat cnt)) := V1.has.cell 2 (by simp [vL])
 refine fun_enter Tryz.func7 rfl rfl (Nat.le_of_ble_eq_true rfl) ?_
 simp only [T.lay, Nat.zero_add, Tryz.ntmps7, Nat.reduceAdd]
 repeat (first | refine code_seq ?_ | ((first | (refine code_region ?_ ?_; (focus rfl)) | (refine code_guards (gs := ?_) ?_ ?_; rotate_left; (focus rfl))); simp only [run1, run2, wanted, go_sem, Nat.reduceLT, Nat.reduceAdd, Nat.reduceEqDiff, reduceIte, reduceCtorEq, gg20, t1, fa81_2, ld3, c2]) | (refine code_cond_true ?_ ?_; (focus (simp only [aev, regAt_set, Nat.reduceEqDiff, reduceIte, gg20, t1, fa81_2, ld3, c2]; done))) | (refine code_cond_false ?_ ?_; (focus (simp only [aev, regAt_set, Nat.reduceEqDiff, reduceIte, gg20, t1, fa81_2, ld3, c2]; done))) | ((first | refine code_skip ?_ | refine code_label ?_ | refine code_exit ?_); try simp only [then_exit, then_normal, blockC, Nat.reduceEqDiff, reduceIte]) | refine code_block ?_)
 refine code_ret ?_
 refine ⟨rfl, _, ?_, rfl, g1⟩
 simp only [aResults, Tryz.results7, aRes, regAt_set, Nat.reduceEqDiff, reduceIte]
end
noncomputable section
variable {X : FuncId → List Value → Mem → Option (Value × Mem)}
variable [Z : Sz]
theorem TL.drop {ws : Nat → Nat} {e ix room places used j x : Nat} {I : Nat → Int} {K : Nat → Option Int} (h : TL ws e ix room places used I K) (hj : j < used) (hdj : e + 2 * room < ix ∨ ix + places < e) : TL (setE ws e j 45 x) e ix room places used I (upd K j none) := by
 have hle := h.le
 refine ⟨h.le, h.lt, fun q hq => ?_, h.rng, fun i hi => ?_, fun i n hi hK => ?_, fun i n hi hK => ?_, h.cnt⟩
 ·rw [setE_off (by omega) (by omega)]; exact h.idx q hq
 ·by_cases e1 : i = j
  ·subst e1; rw [setE_key, upd_at]; rfl
  ·rw [setE_off (by omega) (by omega), upd_off K _ e1]; exact h.key i hi
 ·by_cases e1 : i = j
  ·subst e1; rw [upd_at] at hK; cases hK
  ·rw [upd_off K _ e1] at hK; exact h.ksm i n hi hK
 ·by_cases e1 : i = j
  ·subst e1; rw [upd_at] at hK; cases hK
  ·rw [upd_off K _ e1] at hK; exact h.path i n hi hK
theorem TD.drop {ws : Nat → Nat} {e used j x : Nat} {K : Nat → Option Int} {V : Nat → Nat} (h : TD ws e used K V) : TD (setE ws e j 45 x) e used (upd K j none) V := by
 refine ⟨fun i hi hK => ?_, fun i i' n hi hi' h1 h2 => ?_⟩
 ·by_cases e1 : i = j
  ·subst e1; rw [upd_at] at hK; exact absurd rfl hK
  ·rw [upd_off K _ e1] at hK
   rw [setE_off (by omega) (by omega)]
   exact h.val i hi hK
 ·by_cases e1 : i = j
  ·subst e1; rw [upd_at] at h1; cases h1
  ·by_cases e2 : i' = j
   ·subst e2; rw [upd_at] at h2; cases h2
   ·rw [upd_off K _ e1] at h1
    rw [upd_off K _ e2] at h2
    exact h.uniq i i' n hi hi' h1 h2
theorem TL.st {ws : Nat → Nat} {tq cnt us e ix room places used : Nat} {I : Nat → Int} {K : Nat → Option Int} (h : TL ws e ix room places used I K) (d1 : tq + 4 < e ∨ e + 2 * room < tq) (d2 : tq + 4 < ix ∨ ix + places < tq) : TL (stW ws tq cnt us e ix) e ix room places used I K := by
 have hle := h.le
 exact ⟨h.le, h.lt, fun q hq => by rw [stW_off (by omega)]; exact h.idx q hq, h.rng, fun i hi => by rw [stW_off (by omega)]; exact h.key i hi, h.ksm, h.path, h.cnt⟩
theorem TD.st {ws : Nat → Nat} {tq cnt us e ix room used : Nat} {K : Nat → Option Int} {V : Nat → Nat} (h : TD ws e used K V) (hu : used ≤ room) (d1 : tq + 4 < e ∨ e + 2 * room < tq) : TD (stW ws tq cnt us e ix) e used K V :=
 ⟨fun i hi hK => by rw [stW_off (by omega)]; exact h.val i hi hK, h.uniq⟩
theorem stW_0 (ws : Nat → Nat) (tq cnt us e ix : Nat) : stW ws tq cnt us e ix (tq + 1 + 0) = sw (.ofNat cnt) := by unfold stW put; rw [if_neg (by omega), if_neg (by omega), if_neg (by omega), if_pos rfl]
theorem stW_1 (ws : Nat → Nat) (tq cnt us e ix : Nat) : stW ws tq cnt us e ix (tq + 1 + 1) = sw (.ofNat us) := by unfold stW put; rw [if_neg (by omega), if_neg (by omega), if_pos rfl]
theorem stW_2 (ws : Nat → Nat) (tq cnt us e ix : Nat) : stW ws tq cnt us e ix (tq + 1 + 2) = placeW e := by unfold stW put; rw [if_neg (by omega), if_pos rfl]
theorem stW_3 (ws : Nat → Nat) (tq cnt us e ix : Nat) : stW ws tq cnt us e ix (tq + 1 + 3) = placeW ix := by unfold stW put; rw [if_pos rfl]
theorem TW.st {ws ws' : Nat → Nat} {tq cnt used e ix room places cnt' us' e' ix' room' places' : Nat} (h : TW ws tq cnt used e ix room places) (ht : ws' tq = headW 3 0 4) (he : ws' e' = headW 1 0 (2 * room')) (hi : ws' ix' = headW 1 0 places') (re : e' + 2 * room' < Sz.N) (ri : ix' + places' < Sz.N) (r1 : room' ≤ 100) (r2 : places' ≤ 128) (r3 : 0 < places')
  (dj : e' + 2 * room' < ix' ∨ ix' + places' < e') (d1 : tq + 4 < e' ∨ e' + 2 * room' < tq) (d2 : tq + 4 < ix' ∨ ix' + places' < tq) (hc : cnt' < 1000) (hu : us' < 1000) : TW (stW ws' tq cnt' us' e' ix') tq cnt' us' e' ix' room' places' :=
 ⟨by rw [stW_off (by omega)]; exact ht, stW_0 .., stW_1 .., stW_2 .., stW_3 .., by rw [stW_off (by omega)]; exact he, by rw [stW_off (by omega)]; exact hi, h.rt, re, ri, r1, r2, r3, dj, d1, d2, hc, hu⟩
theorem Rom.wr {μ μ' : Mem} {wb : Nat} (h : Rom μ) (hw : 5 ≠ wb) (g : Wr μ μ' wb) : Rom μ' :=
 ⟨Nat.lt_of_lt_of_le h.lt g.1, fun k hk => by rw [← h.at_ k hk]; unfold cellsAt; rw [g.2 _ h.lt hw]⟩
theorem Wv.rom {μ μ' : Mem} {wb vi : Nat} (h : Rom μ) (hw : 5 ≠ wb) (hv : 5 ≠ vi) (g : Wv μ μ' wb vi) : Rom μ' :=
 ⟨Nat.lt_of_lt_of_le h.lt g.1, fun k hk => by rw [← h.at_ k hk]; unfold cellsAt; rw [g.2 _ h.lt hw hv]⟩
theorem Wv.keeps {μ μ0 μ' : Mem} {ap wb lb vi : Nat} (g0 : Grow μ μ0) (hv : μ.next ≤ vi) (g : Wv μ0 μ' wb vi) : Keeps μ μ' ap wb lb :=
 ⟨Nat.le_trans g0.1 g.1, fun i hi _ h2 _ => (g.2 i (Nat.lt_of_lt_of_le hi g0.1) h2 (by omega)).trans (g0.2 i hi)⟩
end
noncomputable section
variable {X : FuncId → List Value → Mem → Option (Value × Mem)}
variable [Z : Sz]
theorem VW.other {μ μ' : Mem} {vi vo sp hp ap wb lb : Nat} {ws ws' : Nat → Nat} {p : Pos} {t cnt used e ix room places : Nat} (h : VW μ vi sp hp ap wb lb ws p t cnt used e ix room places) (g : Wv μ μ' wb vo) (hne : vi ≠ vo) (hs : SP μ' sp hp ap wb lb Sz.N Sz.L ws' p) (h1 : ws' e = ws e) (h2 : ws' ix = ws ix) : VW μ' vi sp hp ap wb lb ws' p t cnt used e ix room places :=
 ⟨hs, h.has.keep (g.2 vi h.vn h.v2 hne), h.blk.of_get (g.2 vi h.vn h.v2 hne), Nat.lt_of_lt_of_le h.vn g.1, h.v1, h.v2, h.v3, h.v4, h.v5, h.dj, h1.trans h.he, h2.trans h.hi, h.re, h.ri, h.r1, h.r2⟩
theorem Wv.grow {a b : Mem} (wb vi : Nat) (h : Grow a b) : Wv a b wb vi := ⟨h.1, fun j h1 _ _ => h.2 j h1⟩
structure Old (ws0 : Nat → Nat) (e ix room places used : Nat) (I : Nat → Int) (K : Nat → Option Int) (V : Nat → Nat) : Prop where
 tl : TL ws0 e ix room places used I K
 td : TD ws0 e used K V
structure Cp (μ0 μ : Mem) (vi vo sp hp ap wb lb : Nat) (ws0 ws : Nat → Nat) (p : Pos) (t cnt used e ix room places i u e' ix' room' places' : Nat) (K : Nat → Option Int) (V : Nat → Nat) (I' : Nat → Int) (K' : Nat → Option Int) (V' : Nat → Nat) : Prop where
 old : VW μ vi sp hp ap wb lb ws p t cnt used e ix room places
 new : VW μ vo sp hp ap wb lb ws p t u u e' ix' room' places'
 tl : TL ws e' ix' room' places' u I' K'
 td : TD ws e' u K' V'
 dic : ∀ n v, Dic u K' V' n v ↔ Dic i K V n v
 kc1 : kc K' u = u
 kc2 : kc K i = u
 same : ∀ q, (q < e' ∨ e' + 2 * room' < q) → (q < ix' ∨ ix' + places' < q) → ws q = ws0 q
 rom : Rom μ
 wv : Wv μ0 μ wb vo
theorem kc_mono (K : Nat → Option Int) {i j : Nat} (h : i ≤ j) : kc K i ≤ kc K j := by
 induction j with
 | zero => have : i = 0 := by omega
           subst this; exact Nat.le_refl _
 | succ j ih =>
   by_cases e : i = j + 1
   ·subst e; exact Nat.le_refl _
   ·have := ih (by omega)
    have h2 : kc K (j + 1) = kc K j + if K j = none then 0 else 1 := rfl
    rw [h2]
    omega
theorem TL.congr {ws ws' : Nat → Nat} {e ix room places used : Nat} {I : Nat → Int} {K : Nat → Option Int} (h : TL ws e ix room places used I K) (hq : ∀ q, (e ≤ q ∧ q ≤ e + 2 * room) ∨ (ix ≤ q ∧ q ≤ ix + places) → ws' q = ws q) : TL ws' e ix room places used I K := by
 have hle := h.le
 exact ⟨h.le, h.lt, fun q hq' => by rw [hq _ (by omega)]; exact h.idx q hq', h.rng, fun i hi => by rw [hq _ (by omega)]; exact h.key i hi, h.ksm, h.path, h.cnt⟩
theorem TD.congr {ws ws' : Nat → Nat} {e room used : Nat} {K : Nat → Option Int} {V : Nat → Nat} (h : TD ws e used K V) (hu : used ≤ room) (hq : ∀ q, e ≤ q ∧ q ≤ e + 2 * room → ws' q = ws q) : TD ws' e used K V :=
 ⟨fun i hi hK => by rw [hq _ (by omega)]; exact h.val i hi hK, h.uniq⟩
set_option maxRecDepth 20000 in
set_option maxHeartbeats 16000000 in
theorem copy_loop {vi vo sp hp ap wb lb t cnt used e ix room places e' ix' room' places' : Nat} {ws0 : Nat → Nat} {p : Pos} {I : Nat → Int} {K : Nat → Option Int} {V : Nat → Nat} {μ0 : Mem} (ho : Old ws0 e ix room places used I K V) (hvo : μ0.next ≤ vo ∨ True) (hne : vi ≠ vo) (r5w : 5 ≠ wb) (r5v : 5 ≠ vo)
  (hr : kc K used ≤ room') (hp' : kc K used + 1 < places') (d1 : e + 2 * room < e' ∨ e' + 2 * room' < e) (d2 : e + 2 * room < ix' ∨ ix' + places' < e) (d3 : ix + places < e' ∨ e' + 2 * room' < ix) (d4 : ix + places < ix' ∨ ix' + places' < ix) :
  ∀ (m x i : Nat) (tm : T Value) (μ : Mem) (ws : Nat → Nat) (u : Nat) (I' : Nat → Int) (K' : Nat → Option Int) (V' : Nat → Nat), i + m = used → Cp μ0 μ vi vo sp hp ap wb lb ws0 ws p t cnt used e ix room places i u e' ix' room' places' K V I' K' V' →
   regAt tm 0 = .pointer (some ⟨vi, 0, none⟩) → regAt tm 9 = .pointer (some ⟨vo, 0, none⟩) → regAt tm 80 = .int .i64 (.ofNat used) → regAt tm 81 = .int .i64 (.ofNat i) →
   EndsC (aCode Tryz.prog X S0 (x + m + 3000) (.loop (loopBody Tryz.f26 0)) ⟨116, tm, [], none⟩ μ) fun a r μ' => a = .exit 0 ∧ (∃ tm', r = ⟨116, tm', [], none⟩ ∧ regAt tm' 9 = .pointer (some ⟨vo, 0, none⟩)) ∧
    ∃ ws' I2 K2 V2, Cp μ0 μ' vi vo sp hp ap wb lb ws0 ws' p t cnt used e ix room places used (kc K used) e' ix' room' places' K V I2 K2 V2 := by
 intro m
 induction m with
 | zero =>
   intro x i tm μ ws u I' K' V' hi C r0 r9 r80 r81
   obtain rfl : i = used := hi
   have e1 : ilt (.ofNat i) (.ofNat i) = false := (ilt_nat i i).trans (decide_eq_false (by omega))
   obtain rfl := C.kc2
   refine code_loop ?_
   repeat (first | refine code_seq ?_ | ((first | (refine code_region ?_ ?_; (focus rfl)) | (refine code_guards (gs := ?_) ?_ ?_; rotate_left; (focus rfl))); simp only [run1, run2, wanted, go_sem, Nat.reduceLT, Nat.reduceAdd, Nat.reduceEqDiff, reduceIte, reduceCtorEq, r80, r81, e1]) | (refine code_cond_true ?_ ?_; (focus (simp only [aev, regAt_set, Nat.reduceEqDiff, reduceIte, r80, r81, e1]; done))) | (refine code_cond_false ?_ ?_; (focus (simp only [aev, regAt_set, Nat.reduceEqDiff, reduceIte, r80, r81, e1]; done))) | ((first | refine code_skip ?_ | refine code_label ?_ | refine code_exit ?_); try simp only [then_exit, then_normal, blockC, Nat.reduceEqDiff, reduceIte]) | refine code_block ?_)
   refine ⟨trivial, ⟨_, rfl, ?_⟩, ws, I', K', V', C⟩
   simp only [regAt_set, Nat.reduceEqDiff, reduceIte, r9]
 | succ m ih =>
   intro x i tm μ ws u I' K' V' hi C r0 r9 r80 r81
   have hle := ho.tl.le
   have hr1 := C.old.r1
   have e1 : ilt (.ofNat i) (.ofNat used) = true := (ilt_nat i used).trans (decide_eq_true (by omega))
   have e5 : qwrap .i64 (Int.add (.ofNat i) 1) = .ofNat (i + 1) := add_nat i 1 (by omega)
   obtain ⟨v1, μ1, t1, rfl, g1⟩ := entry_eq (X := X) (g := x + m + 2993) (i := i) (by omega) C.old (by omega)
   rw [C.same (e + 1 + i * 2) (by omega) (by omega), C.same (e + 1 + (i * 2 + 1)) (by omega) (by omega), ho.tl.key i (by omega)] at t1
   have hsi : ∀ g, 40 ≤ g → aFun Tryz.prog (aCode Tryz.prog X S0 g) 17 [.int .i64 5] μ1 = some (.int .u64 (.ofNat 45), μ1) := fun g hg => single_eq hg
   have hF : 40 ≤ x + m + 2991 := by omega
   have g1w : Wv μ μ1 wb vo := Wv.grow wb vo g1
   cases hK : K i with
   | none =>
     rw [hK] at t1
     obtain ⟨y, hy⟩ : ∃ y, y = ws0 (e + 1 + (i * 2 + 1)) := ⟨_, rfl⟩
     have t1 : aFun Tryz.prog (aCode Tryz.prog X S0 (x + m + 2993)) 24 [.pointer (some ⟨vi, 0, none⟩), .int .i64 (.ofNat i)] μ = some (.tuple #[.int .u64 (.ofNat 45), .int .u64 (.ofNat y)], μ1) := by rw [hy]; exact t1
     have e6 : ieq (.ofNat 45) (.ofNat 45) = true := rfl
     have C' : Cp μ0 μ1 vi vo sp hp ap wb lb ws0 ws p t cnt used e ix room places (i + 1) u e' ix' room' places' K V I' K' V' :=
      ⟨C.old.grow g1, C.new.grow g1, C.tl, C.td, fun n v => (C.dic n v).trans ⟨fun ⟨j, h1, h2, h3⟩ => ⟨j, by omega, h2, h3⟩, fun ⟨j, h1, h2, h3⟩ => ⟨j, by
       have : j ≠ i := fun e => by rw [e, hK] at h2; cases h2
       omega, h2, h3⟩⟩, C.kc1, by show kc K i + _ = u; rw [if_pos hK]; exact C.kc2, C.same, C.rom.grow g1, C.wv.trans g1w⟩
     refine code_loop ?_
     rw [show x + (m + 1) + 2999 = x + m + 3000 from by omega]
     repeat (first | refine code_seq ?_ | ((first | (refine code_region ?_ ?_; (focus rfl)) | (refine code_guards (gs := ?_) ?_ ?_; rotate_left; (focus rfl))); simp only [run1, run2, wanted, go_sem, Nat.reduceLT, Nat.reduceAdd, Nat.reduceEqDiff, reduceIte, reduceCtorEq, r80, r81, e1, r0, gg24, t1, gg17, hsi, hF, e6, e5]) | (refine code_cond_true ?_ ?_; (focus (simp only [aev, regAt_set, Nat.reduceEqDiff, reduceIte, r80, r81, e1, r0, gg24, t1, gg17, hsi, hF, e6, e5]; done))) | (refine code_cond_false ?_ ?_; (focus (simp only [aev, regAt_set, Nat.reduceEqDiff, reduceIte, r80, r81, e1, r0, gg24, t1, gg17, hsi, hF, e6, e5]; done))) | ((first | refine code_skip ?_ | refine code_label ?_ | refine code_exit ?_); try simp only [then_exit, then_normal, blockC, Nat.reduceEqDiff, reduceIte]) | refine code_block ?_)
     refine ih x (i + 1) _ μ1 ws u I' K' V' (by omega) C' ?_ ?_ ?_ ?_ <;> simp only [regAt_set, Nat.reduceEqDiff, reduceIte, r0, r9, r80]
   | some n =>
     have hn := ho.tl.ksm i n (by omega) hK
     rw [hK, ho.td.val i (by omega) (by rw [hK]; exact fun e => by cases e)] at t1
     have t1 : aFun Tryz.prog (aCode Tryz.prog X S0 (x + m + 2993)) 24 [.pointer (some ⟨vi, 0, none⟩), .int .i64 (.ofNat i)] μ = some (.tuple #[.int .u64 (.ofNat (sw n)), .int .u64 (.ofNat (V i))], μ1) := t1
     have e6 : ieq (.ofNat (sw n)) (.ofNat 45) = false := (ieq_nat _ _).trans (decide_eq_false (sw_ne45 n))
     have hkey : Key ws Sz.N (sw n) (hashI n) := .inl ⟨n, hn, rfl, rfl⟩
     have O1 := C.old.grow g1
     have c0 : cellsAt μ1 vi 0 = some (.pointer (some ⟨sp, 0, none⟩)) := O1.has.cell 0 (by simp [vL])
     obtain ⟨v2, μ2, t2, rfl, g2⟩ := sum_key (X := X) (g := x + m + 2991) (by omega) (C.rom.grow g1) O1.hs hkey
     have N2 := (C.new.grow g1).grow g2
     obtain ⟨v3, μ3, t3, g3, ii, pp, rfl, hFd⟩ := find_ends (X := X) (g := x + m + 2990) (by omega) N2 C.tl hkey
     have N3 := N2.grow g3
     have g13 := g1.trans (g2.trans g3)
     have hno : ∀ j n', j < u → K' j = some n' → n' ≠ n := fun j n' hj hK' e => by
      subst e
      obtain ⟨i', h1, h2, h3⟩ := (C.dic n' (V' j)).1 ⟨j, hj, hK', rfl⟩
      have := ho.td.uniq i' i n' (by omega) (by omega) h2 hK
      omega
     obtain ⟨rfl, d, hd, rfl, hI, hbf⟩ : ii = -1 ∧ ∃ d, d < places' ∧ pp = .ofNat ((hashI n % places' + d) % places') ∧ I' ((hashI n % places' + d) % places') = -1 ∧ ∀ d', d' < d → I' ((hashI n % places' + d') % places') ≠ -1 := by
      rcases hFd with ⟨j, n', rfl, hj, hK', e⟩ | ⟨e1, _, e2⟩
      ·exact absurd (sw_inj hn (C.tl.ksm j n' hj hK') e).symm (hno j n' hj hK')
      ·exact ⟨e1, e2⟩
     obtain ⟨pl, hpl⟩ : ∃ pl, pl = (hashI n % places' + d) % places' := ⟨_, rfl⟩
     rw [← hpl] at t3 hI
     have hku : kc K (i + 1) = u + 1 := by show kc K i + _ = u + 1; rw [if_neg (by rw [hK]; exact fun e => by cases e), C.kc2]
     have hum : u + 1 ≤ kc K used := by rw [← hku]; exact kc_mono K (by omega)
     have hpl2 : pl < places' := by rw [hpl]; exact Nat.mod_lt _ (by omega)
     have hu1 := N3.r1
     obtain ⟨v4, μ4, t4, N4, w4⟩ := add_ends (X := X) (g := x + m + 2990) (kw := sw n) (x := V i) (by omega) N3 (by omega) hpl2 (by omega)
     have hoff : ∀ q, (q < e' ∨ e' + 2 * room' < q) → (q < ix' ∨ ix' + places' < q) → addW ws e' ix' u pl (sw n) (V i) q = ws q := fun q h1 h2 => by
      unfold addW put
      rw [if_neg (by omega), setE_off (by omega) (by omega)]
     have O4 := (C.old.grow g13).other w4 hne N4.hs (hoff e (by omega) (by omega)) (hoff ix (by omega) (by omega))
     have C' : Cp μ0 μ4 vi vo sp hp ap wb lb ws0 (addW ws e' ix' u pl (sw n) (V i)) p t cnt used e ix room places (i + 1) (u + 1) e' ix' room' places' K V (upd I' pl (.ofNat u)) (upd K' u (some n)) (upd V' u (V i)) := by
      refine ⟨O4, N4, C.tl.add hn (by omega) (by omega) N3.dj hd hpl hI hbf, C.td.add (by omega) hpl2 N3.dj hno, fun m' v => ?_, ?_, hku, fun q h1 h2 => (hoff q h1 h2).trans (C.same q h1 h2), Wv.rom (C.rom.grow g13) r5w r5v w4, (C.wv.trans (Wv.grow wb vo g13)).trans w4⟩
      ·rw [Dic.add]
       constructor
       ·rintro (⟨rfl, rfl⟩ | h)
        ·exact ⟨i, Nat.lt_succ_self _, hK, rfl⟩
        ·obtain ⟨j, h1, h2, h3⟩ := (C.dic m' v).1 h
         exact ⟨j, by omega, h2, h3⟩
       ·rintro ⟨j, h1, h2, h3⟩
        by_cases e : j = i
        ·subst e
         rw [hK] at h2
         cases h2
         exact .inl ⟨rfl, h3.symm⟩
        ·exact .inr ((C.dic m' v).2 ⟨j, by omega, h2, h3⟩)
      ·show kc (upd K' u (some n)) u + _ = u + 1
       rw [kc_upd_out K' u _ u (Nat.le_refl _), C.kc1, upd_at, if_neg (fun e => by cases e)]
     obtain ⟨z, hz⟩ : ∃ z, z = sw n := ⟨_, rfl⟩
     obtain ⟨y, hy⟩ : ∃ y, y = V i := ⟨_, rfl⟩
     obtain ⟨hh, hhe⟩ : ∃ z, z = hashI n := ⟨_, rfl⟩
     rw [← hz, ← hy] at t1 t4
     rw [← hz] at t2 t3 e6
     rw [← hhe] at t2 t3
     refine code_loop ?_
     rw [show x + (m + 1) + 2999 = x + m + 3000 from by omega]
     repeat (first | refine code_seq ?_ | ((first | (refine code_region ?_ ?_; (focus rfl)) | (refine code_guards (gs := ?_) ?_ ?_; rotate_left; (focus rfl))); simp only [run1, run2, wanted, go_sem, Nat.reduceLT, Nat.reduceAdd, Nat.reduceEqDiff, reduceIte, reduceCtorEq, r80, r81, e1, r0, r9, gg24, t1, gg17, hsi, hF, e6, fa81_0, Nat.add_zero, ld24, c0, gg22, t2, gg23, t3, gg27, t4, e5]) | (refine code_cond_true ?_ ?_; (focus (simp only [aev, regAt_set, Nat.reduceEqDiff, reduceIte, r80, r81, e1, r0, r9, gg24, t1, gg17, hsi, hF, e6, fa81_0, Nat.add_zero, ld24, c0, gg22, t2, gg23, t3, gg27, t4, e5]; done))) | (refine code_cond_false ?_ ?_; (focus (simp only [aev, regAt_set, Nat.reduceEqDiff, reduceIte, r80, r81, e1, r0, r9, gg24, t1, gg17, hsi, hF, e6, fa81_0, Nat.add_zero, ld24, c0, gg22, t2, gg23, t3, gg27, t4, e5]; done))) | ((first | refine code_skip ?_ | refine code_label ?_ | refine code_exit ?_); try simp only [then_exit, then_normal, blockC, Nat.reduceEqDiff, reduceIte]) | refine code_block ?_)
     refine ih x (i + 1) _ μ4 _ (u + 1) _ _ _ (by omega) C' ?_ ?_ ?_ ?_ <;> simp only [regAt_set, Nat.reduceEqDiff, reduceIte, r0, r9, r80]
end
noncomputable section
variable {X : FuncId → List Value → Mem → Option (Value × Mem)}
variable [Z : Sz]
theorem disj {a m b n : Nat} (h : ∀ k, a ≤ k → k ≤ a + m → b ≤ k → k ≤ b + n → False) : a + m < b ∨ b + n < a := by
 by_cases c : a ≤ b
 ·exact .inl (Nat.lt_of_not_le fun hh => h b c hh (Nat.le_refl _) (Nat.le_add_right _ _))
 ·exact .inr (Nat.lt_of_not_le fun hh => h a (Nat.le_refl _) (Nat.le_add_right _ _) (by omega) hh)
def nR (room : Nat) : Nat := if 100 < room * 2 then 100 else room * 2
def nP (places : Nat) : Nat := if 128 < places * 2 then 128 else places * 2
theorem RP.next {room places : Nat} (h : RP room places) : RP (nR room) (nP places) ∧ (room < nR room ∨ room = 100) ∧ (room = 100 → nR room = 100) := by
 rcases h with ⟨rfl, rfl⟩ | ⟨rfl, rfl⟩ | ⟨rfl, rfl⟩ | ⟨rfl, rfl⟩ | ⟨rfl, rfl⟩ <;> (unfold RP nR nP; decide)
theorem min_nR (room : Nat) : (if (100 : Int) < Int.ofNat (room * 2) then (100 : Int) else Int.ofNat (room * 2)) = .ofNat (nR room) := by
 unfold nR
 by_cases h : 100 < room * 2
 ·rw [if_pos h, if_pos (by show (100 : Int) < ((room * 2 : Nat) : Int); omega)]; rfl
 ·rw [if_neg h, if_neg (by show ¬ (100 : Int) < ((room * 2 : Nat) : Int); omega)]
theorem min_nP (places : Nat) : (if (128 : Int) < Int.ofNat (places * 2) then (128 : Int) else Int.ofNat (places * 2)) = .ofNat (nP places) := by
 unfold nP
 by_cases h : 128 < places * 2
 ·rw [if_pos h, if_pos (by show (128 : Int) < ((places * 2 : Nat) : Int); omega)]; rfl
 ·rw [if_neg h, if_neg (by show ¬ (128 : Int) < ((places * 2 : Nat) : Int); omega)]
theorem VW.keeps {μ μ' : Mem} {vi sp hp ap wb lb : Nat} {ws ws' : Nat → Nat} {p p' : Pos} {t cnt used e ix room places : Nat} (h : VW μ vi sp hp ap wb lb ws p t cnt used e ix room places) (g : Keeps μ μ' ap wb lb) (hs : SP μ' sp hp ap wb lb Sz.N Sz.L ws' p') (h1 : ws' e = ws e) (h2 : ws' ix = ws ix) : VW μ' vi sp hp ap wb lb ws' p' t cnt used e ix room places :=
 ⟨hs, h.has.keep (g.2 vi h.vn h.v1 h.v2 h.v3), h.blk.of_get (g.2 vi h.vn h.v1 h.v2 h.v3), Nat.lt_of_lt_of_le h.vn g.1, h.v1, h.v2, h.v3, h.v4, h.v5, h.dj, h1.trans h.he, h2.trans h.hi, h.re, h.ri, h.r1, h.r2⟩
theorem Rom.keeps {μ μ' : Mem} {ap wb lb : Nat} (h : Rom μ) (r : 5 ≠ ap ∧ 5 ≠ wb ∧ 5 ≠ lb) (g : Keeps μ μ' ap wb lb) : Rom μ' :=
 ⟨Nat.lt_of_lt_of_le h.lt g.1, fun k hk => by rw [← h.at_ k hk]; unfold cellsAt; rw [g.2 _ h.lt r.1 r.2.1 r.2.2]⟩
theorem occ_empty : ∀ m, occ (fun _ => -1) m = 0
 | 0 => rfl
 | m + 1 => by unfold occ; rw [occ_empty m, if_pos rfl]
theorem TL.empty {ws : Nat → Nat} {e ix room places : Nat} (hp : 0 < places) (h : ∀ q, q < places → ws (ix + 1 + q) = sw (-1)) : TL ws e ix room places 0 (fun _ => -1) (fun _ => none) :=
 ⟨Nat.zero_le _, hp, h, fun _ _ => .inl rfl, fun i hi => absurd hi (Nat.not_lt_zero _), fun i n hi => absurd hi (Nat.not_lt_zero _), fun i n hi => absurd hi (Nat.not_lt_zero _), occ_empty places⟩
structure Gr (μ μ' : Mem) (vo sp hp ap wb lb : Nat) (ws ws' : Nat → Nat) (p p' : Pos) (room b b' s tq cnt used e' ix' room' places' : Nat) (K : Nat → Option Int) (V : Nat → Nat) (I' : Nat → Int) (K' : Nat → Option Int) (V' : Nat → Nat) : Prop where
 hvo : μ.next ≤ vo
 vw : VW μ' vo sp hp ap wb lb ws' p' (placeW tq) cnt cnt e' ix' room' places'
 tl : TL ws' e' ix' room' places' cnt I' K'
 td : TD ws' e' cnt K' V'
 dic : ∀ n v, Dic cnt K' V' n v ↔ Dic used K V n v
 hkc : kc K' cnt = cnt
 rp : RP room' places'
 lt : cnt < room'
 gp : Gp p' b' s
 b1 : 1 ≤ b'
 b2 : b' ≤ b
 nf : ∀ k, (tq ≤ k ∧ k ≤ tq + 4) ∨ (e' ≤ k ∧ k ≤ e' + 2 * room') ∨ (ix' ≤ k ∧ k ≤ ix' + places') → ¬ Free p' k
 fr : ∀ k, Free p' k → Free p k
 rom : Rom μ'
 kp : Keeps μ μ' ap wb lb
 d1 : tq + 4 < e' ∨ e' + 2 * room' < tq
 d2 : tq + 4 < ix' ∨ ix' + places' < tq
 hws : ∀ q, ¬ Free p q → ws' q = ws q
 rr : room < cnt * 2 → room' = nR room
structure Nr (μ μ' : Mem) (sp hp ap wb lb : Nat) (ws ws' : Nat → Nat) (p p' : Pos) (b b' s : Nat) : Prop where
 sp : SP μ' sp hp ap wb lb Sz.N Sz.L ws' p'
 gp : Gp p' b' s
 b1 : 1 ≤ b'
 b2 : b' ≤ b
 hws : ∀ q, ¬ Free p q → ws' q = ws q
 fr : ∀ k, Free p' k → Free p k
 kp : Keeps μ μ' ap wb lb
set_option maxRecDepth 20000 in
set_option maxHeartbeats 16000000 in
theorem grown_ends {g vi sp hp ap wb lb b s tq cnt used e ix room places : Nat} {ws : Nat → Nat} {p : Pos} {I : Nat → Int} {K : Nat → Option Int} {V : Nat → Nat} {μ : Mem} (hg : 5000 ≤ g) (hV : VW μ vi sp hp ap wb lb ws p (placeW tq) cnt used e ix room places) (ho : Old ws e ix room places used I K V) (hgp : Gp p b s) (hs0 : 0 < s) (hb : 1 ≤ b) (hb2 : b ≤ Sz.nb) (hck : kc K used = cnt) (hc : cnt < 100) (hrp : RP room places)
  (nf : ∀ k, (tq ≤ k ∧ k ≤ tq + 4) ∨ (e ≤ k ∧ k ≤ e + 2 * room) ∨ (ix ≤ k ∧ k ≤ ix + places) → ¬ Free p k) (hrom : Rom μ) (r5 : 5 ≠ ap ∧ 5 ≠ wb ∧ 5 ≠ lb) (htr : tq + 4 < Sz.N) :
  EndsF (aFun Tryz.prog (aCode Tryz.prog X S0 g) 26 [.pointer (some ⟨vi, 0, none⟩)] μ) fun v μ' => (∃ vo ws' p' b' e' ix' room' places' I' K' V', v = .tuple #[.pointer (some ⟨vo, 0, none⟩), .bool true] ∧ Gr μ μ' vo sp hp ap wb lb ws ws' p p' room b b' s tq cnt used e' ix' room' places' K V I' K' V') ∨
   ∃ ws' p' b', v = .tuple #[.pointer none, .bool false] ∧ Nr μ μ' sp hp ap wb lb ws ws' p p' b b' s := by
 obtain ⟨k, rfl⟩ := Nat.exists_eq_add_of_le' hg
 have hle := ho.tl.le
 have hkl := kc_le K used
 obtain ⟨room', places', hch, hrp', hlt⟩ : ∃ room' places', ((room < cnt * 2 ∧ room' = nR room ∧ places' = nP places) ∨ (¬ room < cnt * 2 ∧ room' = room ∧ places' = places)) ∧ RP room' places' ∧ cnt < room' := by
  by_cases h : room < cnt * 2
  ·refine ⟨nR room, nP places, .inl ⟨h, rfl, rfl⟩, hrp.next.1, ?_⟩
   rcases hrp.next.2.1 with h1 | h1
   ·omega
   ·rw [hrp.next.2.2 h1]; exact hc
  ·exact ⟨room, places, .inr ⟨h, rfl, rfl⟩, hrp, by have := hrp.b; omega⟩
 have hb' := hrp'.b
 have hbo := hrp.b
 have G0 : Grow μ ⟨μ.obs, μ.next + 10⟩ := grow_up μ 10
 have c2 : cellsAt ⟨μ.obs, μ.next + 10⟩ vi 2 = some (.int .i64 (.ofNat cnt)) := hV.has.cell 2 (by simp [vL])
 have c6 : cellsAt ⟨μ.obs, μ.next + 10⟩ vi 6 = some (.int .i64 (.ofNat room)) := hV.has.cell 6 (by simp [vL])
 have c7 : cellsAt ⟨μ.obs, μ.next + 10⟩ vi 7 = some (.int .i64 (.ofNat places)) := hV.has.cell 7 (by simp [vL])
 have V1 := (hV.up (d := 10)).up (d := 13)
 have d0 : cellsAt ⟨μ.obs, μ.next + 10 + 13⟩ vi 0 = some (.pointer (some ⟨sp, 0, none⟩)) := hV.has.cell 0 (by simp [vL])
 have m1 : qwrap .i64 (Int.mul (.ofNat cnt) 2) = .ofNat (cnt * 2) := mul_nat cnt 2 (by omega)
 have m2 : qwrap .i64 (Int.mul (.ofNat room) 2) = .ofNat (room * 2) := mul_nat room 2 (by omega)
 have m3 : qwrap .i64 (Int.mul (.ofNat places) 2) = .ofNat (places * 2) := mul_nat places 2 (by omega)
 have m4 : qwrap .i64 (Int.mul (.ofNat room') 2) = .ofNat (2 * room') := by rw [Nat.mul_comm 2 room']; exact mul_nat room' 2 (by omega)
 have hs1 : ∀ g, 40 ≤ g → aFun Tryz.prog (aCode Tryz.prog X S0 g) 17 [.int .i64 5] ⟨μ.obs, μ.next + 10 + 13⟩ = some (.int .u64 (.ofNat 45), ⟨μ.obs, μ.next + 10 + 13⟩) := fun g hg => single_eq hg
 rcases al_any (X := X) (n := 2 * room' + 1) hgp hb hb2 hs0 (by omega) (by omega) with ⟨q1, p1, b1, al1, gp1, x1, x2, tk1⟩ | alf
 rotate_left
 ·obtain ⟨v1, μ1, t1, rfl, G1⟩ := filled_fail (X := X) (g := k + 4995) (n := 2 * room') (w := 45) (by omega) V1.hs (by omega) alf
  have GA : Grow μ μ1 := G0.trans ((grow_up _ 13).trans G1)
  refine fun_enter Tryz.func26 rfl rfl (Nat.le_of_ble_eq_true rfl) ?_
  simp only [T.lay, Nat.zero_add, Tryz.ntmps26, Nat.reduceAdd]
  refine code_seq ?_
  refine code_region ?_ ?_
  ·rfl
  simp only [run1, go_sem, Nat.reduceLT, Nat.reduceAdd, Nat.reduceEqDiff, reduceIte, reduceCtorEq]
  refine code_seq ?_
  refine code_draw (n := 10) (ms := [0, 1, 3, 7, 0, 16, 48, 112, 15, 511]) (ord := [0, 1, 2, 3, 4, 5, 6, 7, 8, 9]) (ds := ?_) ?_ ?_ ?_ ?_ ?_ ?_
  rotate_left
  ·kernel_rfl
  ·kernel_rfl
  ·kernel_rfl
  ·rfl
  ·rfl
  iterate 10 (refine drun_true (by first | rfl | (simp only [wanted, go_sem, Nat.reduceLT, Nat.reduceAdd, Nat.reduceEqDiff, reduceIte, reduceCtorEq, fa81_6, fa81_7, ld3, c6, c7])) (by simp only [aDrawOne, heavy, aReads, eqVal_self, go_sem, Nat.reduceLT, Nat.reduceAdd, Nat.reduceEqDiff, reduceIte, reduceCtorEq, fa81_6, fa81_7, ld3, c6, c7]; try exact rfl) rfl ?_)
  simp only [dRun, endsD_some, then_normal]
  refine code_seq ?_
  refine EndsC.mono (Q := fun a r μ' => a = .normal ∧ μ' = ⟨μ.obs, μ.next + 10⟩ ∧ ∃ tm, r = ⟨116, tm, [], none⟩ ∧ regAt tm 0 = .pointer (some ⟨vi, 0, none⟩) ∧ regAt tm 4 = .int .i64 (.ofNat room') ∧ regAt tm 5 = .int .i64 (.ofNat places')) ?_ ?_
  ·rcases hch with ⟨h, rfl, rfl⟩ | ⟨h, rfl, rfl⟩
   ·have e1 : ilt (.ofNat room) (.ofNat (cnt * 2)) = true := (ilt_nat _ _).trans (decide_eq_true h)
    have e2 := min_nR room
    have e3 := min_nP places
    refine code_seq ?_
    refine code_region ?_ ?_
    ·rfl
    simp only [run1, go_sem, Nat.reduceLT, Nat.reduceAdd, Nat.reduceEqDiff, reduceIte, reduceCtorEq, fa81_2, ld3, c2, m1, e1]
    refine code_cond_true ?_ ?_
    ·simp only [aev, regAt_set, Nat.reduceEqDiff, reduceIte]
    refine code_region ?_ ?_
    ·rfl
    simp only [run1, go_sem, Nat.reduceLT, Nat.reduceAdd, Nat.reduceEqDiff, reduceIte, reduceCtorEq, m2, m3, aBuiltin]
    refine ⟨trivial, trivial, _, rfl, ?_, ?_, ?_⟩ <;> simp only [regAt_set, Nat.reduceEqDiff, reduceIte, e2, e3]
   ·have e1 : ilt (.ofNat room') (.ofNat (cnt * 2)) = false := (ilt_nat _ _).trans (decide_eq_false h)
    refine code_seq ?_
    refine code_region ?_ ?_
    ·rfl
    simp only [run1, go_sem, Nat.reduceLT, Nat.reduceAdd, Nat.reduceEqDiff, reduceIte, reduceCtorEq, fa81_2, ld3, c2, m1, e1]
    refine code_cond_false ?_ ?_
    ·simp only [aev, regAt_set, Nat.reduceEqDiff, reduceIte]
    refine code_skip ?_
    refine ⟨rfl, rfl, _, rfl, ?_, ?_, ?_⟩ <;> simp only [regAt_set, Nat.reduceEqDiff, reduceIte]
  rintro a r μ' ⟨rfl, rfl, tm, rfl, q0, q4, q5⟩
  refine code_seq ?_
  refine code_draw (n := 13) (ms := [0, 1, 3, 7, 0, 16, 0, 127, 255, 511, 511, 1023, 4095]) (ord := [6, 0, 1, 2, 3, 4, 5, 7, 8, 9, 10, 11, 12]) (ds := ?_) ?_ ?_ ?_ ?_ ?_ ?_
  rotate_left
  ·kernel_rfl
  ·kernel_rfl
  ·kernel_rfl
  ·rfl
  ·rfl
  iterate 13 (refine drun_true (by first | rfl | (simp only [wanted, go_sem, Nat.reduceLT, Nat.reduceAdd, Nat.reduceEqDiff, reduceIte, reduceCtorEq, q0, q4, fa81_0, Nat.add_zero, ld24, d0, m4, gg17, hs1, Nat.reduceLeDiff, gg16, t1])) (by simp only [aDrawOne, heavy, aReads, eqVal_self, go_sem, Nat.reduceLT, Nat.reduceAdd, Nat.reduceEqDiff, reduceIte, reduceCtorEq, q0, q4, fa81_0, Nat.add_zero, ld24, d0, m4, gg17, hs1, Nat.reduceLeDiff, gg16, t1]; try exact rfl) rfl ?_)
  simp only [dRun, endsD_some, then_normal]
  refine code_seq ?_
  refine code_seq ?_
  refine code_region ?_ ?_
  ·rfl
  simp only [run1, go_sem, Nat.reduceLT, Nat.reduceAdd, Nat.reduceEqDiff, reduceIte, reduceCtorEq]
  refine code_cond_true ?_ ?_
  ·simp only [aev, regAt_set, Nat.reduceEqDiff, reduceIte]
  refine code_seq ?_
  refine code_region ?_ ?_
  ·rfl
  simp only [run1, go_sem, Nat.reduceLT, Nat.reduceAdd, Nat.reduceEqDiff, reduceIte, reduceCtorEq]
  refine code_ret ?_
  refine ⟨rfl, _, ?_, .inr ⟨ws, p, b, rfl, ⟨V1.hs.grow G1, hgp, hb, Nat.le_refl _, fun _ _ => rfl, fun _ h => h, Keeps.grow GA⟩⟩⟩
  simp only [aResults, Tryz.results26, aRes, regAt_set, Nat.reduceEqDiff, reduceIte]
 have top1 := tk1.top
 have D1 : ∀ a m, (∀ k, a ≤ k → k ≤ a + m → ¬ Free p k) → a + m < q1 ∨ q1 + 2 * room' < a := fun a m h => disj fun k h1 h2 h3 h4 => h k h1 h2 (tk1.was k h3 (by omega)).1
 have nf1 : ∀ k, ¬ Free p k → ¬ Free p1 k := fun k h h1 => h (tk1.sub k h1)
 have de1 := D1 e (2 * room) fun k h1 h2 => nf k (.inr (.inl ⟨h1, h2⟩))
 have di1 := D1 ix places fun k h1 h2 => nf k (.inr (.inr ⟨h1, h2⟩))
 have dt1 := D1 tq 4 fun k h1 h2 => nf k (.inl ⟨h1, h2⟩)
 obtain ⟨v1, μ1, t1, rfl, S1, K1⟩ := filled_ends (X := X) (g := k + 4995) (n := 2 * room') (w := 45) (q := q1) (by omega) V1.hs (by omega) (by omega) al1
 have O1 := V1.keeps K1 S1 (obj_out _ _ _ _ _ _ (by omega)) (obj_out _ _ _ _ _ _ (by omega))
 have V2 := O1.up (d := 12)
 have f0 : cellsAt ⟨μ1.obs, μ1.next + 12⟩ vi 0 = some (.pointer (some ⟨sp, 0, none⟩)) := O1.has.cell 0 (by simp [vL])
 rcases al_any (X := X) (n := places' + 1) gp1 (by omega) (by omega) hs0 (by omega) (by omega) with ⟨q2, p2, b2, al2, gp2, y1, y2, tk2⟩ | alf
 rotate_left
 ·obtain ⟨v2, μ2, t2, rfl, G2⟩ := filled_fail (X := X) (g := k + 4993) (n := places') (w := sw (-1)) (by omega) V2.hs (by omega) alf
  have hwsB : ∀ q, ¬ Free p q → obj ws q1 1 (2 * room') (fun _ => 45) q = ws q := fun q hq => by
   have e1 : q < q1 ∨ q1 + 2 * room' < q := by
    by_cases h : q1 ≤ q ∧ q < q1 + (2 * room' + 1)
    ·exact absurd (tk1.was q h.1 h.2).1 hq
    ·omega
   exact obj_out _ _ _ _ _ _ e1
  have KB : Keeps μ μ2 ap wb lb := (Keeps.grow (G0.trans (grow_up _ 13))).trans (K1.trans (Keeps.grow ((grow_up μ1 12).trans G2)))
  have hs2 : ∀ g, 60 ≤ g → aFun Tryz.prog (aCode Tryz.prog X S0 g) 18 [.int .i64 (-1)] ⟨μ1.obs, μ1.next + 12⟩ = some (.int .u64 (.ofNat (sw (-1))), ⟨μ1.obs, μ1.next + 12⟩) := fun g hg => tsmall_eq hg ⟨by decide, by decide⟩
  obtain ⟨sm1, hsm1⟩ : ∃ z, z = sw (-1) := ⟨_, rfl⟩
  rw [← hsm1] at t2 hs2
  refine fun_enter Tryz.func26 rfl rfl (Nat.le_of_ble_eq_true rfl) ?_
  simp only [T.lay, Nat.zero_add, Tryz.ntmps26, Nat.reduceAdd]
  refine code_seq ?_
  refine code_region ?_ ?_
  ·rfl
  simp only [run1, go_sem, Nat.reduceLT, Nat.reduceAdd, Nat.reduceEqDiff, reduceIte, reduceCtorEq]
  refine code_seq ?_
  refine code_draw (n := 10) (ms := [0, 1, 3, 7, 0, 16, 48, 112, 15, 511]) (ord := [0, 1, 2, 3, 4, 5, 6, 7, 8, 9]) (ds := ?_) ?_ ?_ ?_ ?_ ?_ ?_
  rotate_left
  ·kernel_rfl
  ·kernel_rfl
  ·kernel_rfl
  ·rfl
  ·rfl
  iterate 10 (refine drun_true (by first | rfl | (simp only [wanted, go_sem, Nat.reduceLT, Nat.reduceAdd, Nat.reduceEqDiff, reduceIte, reduceCtorEq, fa81_6, fa81_7, ld3, c6, c7])) (by simp only [aDrawOne, heavy, aReads, eqVal_self, go_sem, Nat.reduceLT, Nat.reduceAdd, Nat.reduceEqDiff, reduceIte, reduceCtorEq, fa81_6, fa81_7, ld3, c6, c7]; try exact rfl) rfl ?_)
  simp only [dRun, endsD_some, then_normal]
  refine code_seq ?_
  refine EndsC.mono (Q := fun a r μ' => a = .normal ∧ μ' = ⟨μ.obs, μ.next + 10⟩ ∧ ∃ tm, r = ⟨116, tm, [], none⟩ ∧ regAt tm 0 = .pointer (some ⟨vi, 0, none⟩) ∧ regAt tm 4 = .int .i64 (.ofNat room') ∧ regAt tm 5 = .int .i64 (.ofNat places')) ?_ ?_
  ·rcases hch with ⟨h, rfl, rfl⟩ | ⟨h, rfl, rfl⟩
   ·have e1 : ilt (.ofNat room) (.ofNat (cnt * 2)) = true := (ilt_nat _ _).trans (decide_eq_true h)
    have e2 := min_nR room
    have e3 := min_nP places
    refine code_seq ?_
    refine code_region ?_ ?_
    ·rfl
    simp only [run1, go_sem, Nat.reduceLT, Nat.reduceAdd, Nat.reduceEqDiff, reduceIte, reduceCtorEq, fa81_2, ld3, c2, m1, e1]
    refine code_cond_true ?_ ?_
    ·simp only [aev, regAt_set, Nat.reduceEqDiff, reduceIte]
    refine code_region ?_ ?_
    ·rfl
    simp only [run1, go_sem, Nat.reduceLT, Nat.reduceAdd, Nat.reduceEqDiff, reduceIte, reduceCtorEq, m2, m3, aBuiltin]
    refine ⟨trivial, trivial, _, rfl, ?_, ?_, ?_⟩ <;> simp only [regAt_set, Nat.reduceEqDiff, reduceIte, e2, e3]
   ·have e1 : ilt (.ofNat room') (.ofNat (cnt * 2)) = false := (ilt_nat _ _).trans (decide_eq_false h)
    refine code_seq ?_
    refine code_region ?_ ?_
    ·rfl
    simp only [run1, go_sem, Nat.reduceLT, Nat.reduceAdd, Nat.reduceEqDiff, reduceIte, reduceCtorEq, fa81_2, ld3, c2, m1, e1]
    refine code_cond_false ?_ ?_
    ·simp only [aev, regAt_set, Nat.reduceEqDiff, reduceIte]
    refine code_skip ?_
    refine ⟨rfl, rfl, _, rfl, ?_, ?_, ?_⟩ <;> simp only [regAt_set, Nat.reduceEqDiff, reduceIte]
  rintro a r μ' ⟨rfl, rfl, tm, rfl, q0, q4, q5⟩
  refine code_seq ?_
  refine code_draw (n := 13) (ms := [0, 1, 3, 7, 0, 16, 0, 127, 255, 511, 511, 1023, 4095]) (ord := [6, 0, 1, 2, 3, 4, 5, 7, 8, 9, 10, 11, 12]) (ds := ?_) ?_ ?_ ?_ ?_ ?_ ?_
  rotate_left
  ·kernel_rfl
  ·kernel_rfl
  ·kernel_rfl
  ·rfl
  ·rfl
  iterate 13 (refine drun_true (by first | rfl | (simp only [wanted, go_sem, Nat.reduceLT, Nat.reduceAdd, Nat.reduceEqDiff, reduceIte, reduceCtorEq, q0, q4, fa81_0, Nat.add_zero, ld24, d0, m4, gg17, hs1, Nat.reduceLeDiff, gg16, t1])) (by simp only [aDrawOne, heavy, aReads, eqVal_self, go_sem, Nat.reduceLT, Nat.reduceAdd, Nat.reduceEqDiff, reduceIte, reduceCtorEq, q0, q4, fa81_0, Nat.add_zero, ld24, d0, m4, gg17, hs1, Nat.reduceLeDiff, gg16, t1]; try exact rfl) rfl ?_)
  simp only [dRun, endsD_some, then_normal]
  refine code_seq ?_
  refine code_seq ?_
  refine code_region ?_ ?_
  ·rfl
  simp only [run1, go_sem, Nat.reduceLT, Nat.reduceAdd, Nat.reduceEqDiff, reduceIte, reduceCtorEq]
  refine code_cond_false ?_ ?_
  ·simp only [aev, regAt_set, Nat.reduceEqDiff, reduceIte]
  refine code_skip ?_
  simp only [then_normal]
  refine code_seq ?_
  refine code_draw (n := 12) (ms := [0, 1, 3, 7, 0, 0, 63, 127, 255, 255, 511, 2047]) (ord := [5, 0, 1, 2, 3, 4, 6, 7, 8, 9, 10, 11]) (ds := ?_) ?_ ?_ ?_ ?_ ?_ ?_
  rotate_left
  ·kernel_rfl
  ·kernel_rfl
  ·kernel_rfl
  ·rfl
  ·rfl
  iterate 12 (refine drun_true (by first | rfl | (simp only [wanted, go_sem, Nat.reduceLT, Nat.reduceAdd, Nat.reduceEqDiff, reduceIte, reduceCtorEq, q0, q5, fa81_0, Nat.add_zero, ld24, f0, gg18, hs2, Nat.reduceLeDiff, gg16, t2])) (by simp only [aDrawOne, heavy, aReads, eqVal_self, go_sem, Nat.reduceLT, Nat.reduceAdd, Nat.reduceEqDiff, reduceIte, reduceCtorEq, q0, q5, fa81_0, Nat.add_zero, ld24, f0, gg18, hs2, Nat.reduceLeDiff, gg16, t2]; try exact rfl) rfl ?_)
  simp only [dRun, endsD_some, then_normal]
  refine code_seq ?_
  refine code_seq ?_
  refine code_region ?_ ?_
  ·rfl
  simp only [run1, go_sem, Nat.reduceLT, Nat.reduceAdd, Nat.reduceEqDiff, reduceIte, reduceCtorEq]
  refine code_cond_true ?_ ?_
  ·simp only [aev, regAt_set, Nat.reduceEqDiff, reduceIte]
  refine code_seq ?_
  refine code_region ?_ ?_
  ·rfl
  simp only [run1, go_sem, Nat.reduceLT, Nat.reduceAdd, Nat.reduceEqDiff, reduceIte, reduceCtorEq]
  refine code_ret ?_
  refine ⟨rfl, _, ?_, .inr ⟨_, p1, b1, rfl, ⟨V2.hs.grow G2, gp1, x1, x2, hwsB, tk1.sub, KB⟩⟩⟩
  simp only [aResults, Tryz.results26, aRes, regAt_set, Nat.reduceEqDiff, reduceIte]
 have top2 := tk2.top
 have D2 : ∀ a m, (∀ k, a ≤ k → k ≤ a + m → ¬ Free p1 k) → a + m < q2 ∨ q2 + places' < a := fun a m h => disj fun k h1 h2 h3 h4 => h k h1 h2 (tk2.was k h3 (by omega)).1
 have nf2 : ∀ k, ¬ Free p1 k → ¬ Free p2 k := fun k h h1 => h (tk2.sub k h1)
 have de2 := D2 e (2 * room) fun k h1 h2 => nf1 k (nf k (.inr (.inl ⟨h1, h2⟩)))
 have di2 := D2 ix places fun k h1 h2 => nf1 k (nf k (.inr (.inr ⟨h1, h2⟩)))
 have dt2 := D2 tq 4 fun k h1 h2 => nf1 k (nf k (.inl ⟨h1, h2⟩))
 have dd := D2 q1 (2 * room') fun k h1 h2 => (tk1.was k h1 (by omega)).2
 obtain ⟨v2, μ2, t2, rfl, S2, K2⟩ := filled_ends (X := X) (g := k + 4993) (n := places') (w := sw (-1)) (q := q2) (by omega) V2.hs (by omega) (by omega) al2
 have O2 := V2.keeps K2 S2 (obj_out _ _ _ _ _ _ (by omega)) (obj_out _ _ _ _ _ _ (by omega))
 have h0 : cellsAt ⟨μ2.obs, μ2.next + 15⟩ vi 0 = some (.pointer (some ⟨sp, 0, none⟩)) := O2.has.cell 0 (by simp [vL])
 have h1 : cellsAt ⟨μ2.obs, μ2.next + 15⟩ vi 1 = some (.int .u64 (.ofNat (placeW tq))) := O2.has.cell 1 (by simp [vL])
 obtain ⟨vo, hvo⟩ : ∃ vo, vo = μ2.next + 13 := ⟨_, rfl⟩
 obtain ⟨μ3, h3⟩ : ∃ M : Mem, M = ⟨μ2.obs.set vo (.cells (vL sp (placeW tq) 0 0 q1 q2 room' places').length 66 (vL sp (placeW tq) 0 0 q1 q2 room' places').toArray .e 0 0 false false), μ2.next + 15⟩ := ⟨_, rfl⟩
 have G3 : Grow μ2 μ3 := by rw [h3]; exact ⟨Nat.le_add_right _ _, fun i hi => by show T.get _ i = _; rw [T.get_set, if_neg (by omega)]⟩
 have O3 := O2.grow G3
 have i3' : cellsAt μ3 vi 3 = some (.int .i64 (.ofNat used)) := O3.has.cell 3 (by simp [vL])
 have S3 := S2.grow G3
 have n2a := S2.hs.ab.n1
 have n2b := S2.hs.ab.n2
 have n2c := S2.hs.ab.n3
 have n2d := S2.spn
 have n2e := S2.hs.hn
 obtain ⟨ws2, hws2⟩ : ∃ w, w = obj (obj ws q1 1 (2 * room') fun _ => 45) q2 1 places' fun _ => sw (-1) := ⟨_, rfl⟩
 rw [← hws2] at O3 S3
 have hq1 : ws2 q1 = headW 1 0 (2 * room') := by rw [hws2, obj_out _ _ _ _ _ _ (by omega), obj_head]
 have hq2 : ws2 q2 = headW 1 0 places' := by rw [hws2, obj_head]
 have N3 : VW μ3 vo sp hp ap wb lb ws2 p2 (placeW tq) 0 0 q1 q2 room' places' :=
  ⟨S3, Has.new (t := 66) (fx := false) (sh := false) (by rw [h3]; show T.get _ _ = _; rw [T.get_set, if_pos rfl]), ⟨(vL sp (placeW tq) 0 0 q1 q2 room' places').toArray, .e, false, false, by rw [h3]; show T.get _ _ = _; rw [T.get_set, if_pos rfl]; rfl⟩, by rw [h3]; show vo < μ2.next + 15; omega, by omega, by omega, by omega, by omega, by omega, by omega, hq1, hq2, by omega, by omega, by omega, by omega⟩
 have hws : ∀ q, ¬ Free p q → ws2 q = ws q := fun q hq => by
  have e1 : q < q1 ∨ q1 + 2 * room' < q := by
   by_cases h : q1 ≤ q ∧ q < q1 + (2 * room' + 1)
   ·exact absurd (tk1.was q h.1 h.2).1 hq
   ·omega
  have e2 : q < q2 ∨ q2 + places' < q := by
   by_cases h : q2 ≤ q ∧ q < q2 + (places' + 1)
   ·exact absurd (tk2.was q h.1 h.2).1 (nf1 q hq)
   ·omega
  rw [hws2, obj_out _ _ _ _ _ _ e2, obj_out _ _ _ _ _ _ e1]
 have KP : Keeps μ μ3 ap wb lb := (Keeps.grow (G0.trans (grow_up _ 13))).trans (K1.trans ((Keeps.grow (grow_up μ1 12)).trans (K2.trans (Keeps.grow G3))))
 have hvl : vi < vo := by have := O2.vn; omega
 have r5v : 5 ≠ vo := by have := hrom.lt; have := KP.1; have := (hrom.keeps r5 KP).lt; have h4 := ((Keeps.grow (G0.trans (grow_up _ 13))).trans (K1.trans ((Keeps.grow (grow_up μ1 12)).trans K2))).1; omega
 have hT0 : TL ws2 q1 q2 room' places' 0 (fun _ => -1) (fun _ => none) := TL.empty (by omega) fun q hq => by rw [hws2, obj_in _ _ _ _ _ _ hq]
 have ho2 : Old ws2 e ix room places used I K V := ⟨ho.tl.congr fun q hq => hws q (nf q (.inr hq)), ho.td.congr ho.tl.le fun q hq => hws q (nf q (.inr (.inl hq)))⟩
 have C0 : Cp μ3 μ3 vi vo sp hp ap wb lb ws2 ws2 p2 (placeW tq) cnt used e ix room places 0 0 q1 q2 room' places' K V (fun _ => -1) (fun _ => none) (fun _ => 0) :=
  ⟨O3, N3, hT0, ⟨fun i hi => absurd hi (Nat.not_lt_zero _), fun i j n hi => absurd hi (Nat.not_lt_zero _)⟩, fun n v => ⟨fun ⟨j, h, _⟩ => absurd h (Nat.not_lt_zero _), fun ⟨j, h, _⟩ => absurd h (Nat.not_lt_zero _)⟩, rfl, rfl, fun q _ _ => rfl, hrom.keeps r5 KP, Wv.grow wb vo (Grow.refl _)⟩
 refine fun_enter Tryz.func26 rfl rfl (Nat.le_of_ble_eq_true rfl) ?_
 simp only [T.lay, Nat.zero_add, Tryz.ntmps26, Nat.reduceAdd]
 refine code_seq ?_
 refine code_region ?_ ?_
 ·rfl
 simp only [run1, go_sem, Nat.reduceLT, Nat.reduceAdd, Nat.reduceEqDiff, reduceIte, reduceCtorEq]
 refine code_seq ?_
 refine code_draw (n := 10) (ms := [0, 1, 3, 7, 0, 16, 48, 112, 15, 511]) (ord := [0, 1, 2, 3, 4, 5, 6, 7, 8, 9]) (ds := ?_) ?_ ?_ ?_ ?_ ?_ ?_
 rotate_left
 ·kernel_rfl
 ·kernel_rfl
 ·kernel_rfl
 ·rfl
 ·rfl
 iterate 10 (refine drun_true (by first | rfl | (simp only [wanted, go_sem, Nat.reduceLT, Nat.reduceAdd, Nat.reduceEqDiff, reduceIte, reduceCtorEq, fa81_6, fa81_7, ld3, c6, c7])) (by simp only [aDrawOne, heavy, aReads, eqVal_self, go_sem, Nat.reduceLT, Nat.reduceAdd, Nat.reduceEqDiff, reduceIte, reduceCtorEq, fa81_6, fa81_7, ld3, c6, c7]; try exact rfl) rfl ?_)
 simp only [dRun, endsD_some, then_normal]
 refine code_seq ?_
 refine EndsC.mono (Q := fun a r μ' => a = .normal ∧ μ' = ⟨μ.obs, μ.next + 10⟩ ∧ ∃ tm, r = ⟨116, tm, [], none⟩ ∧ regAt tm 0 = .pointer (some ⟨vi, 0, none⟩) ∧ regAt tm 4 = .int .i64 (.ofNat room') ∧ regAt tm 5 = .int .i64 (.ofNat places')) ?_ ?_
 ·rcases hch with ⟨h, rfl, rfl⟩ | ⟨h, rfl, rfl⟩
  ·have e1 : ilt (.ofNat room) (.ofNat (cnt * 2)) = true := (ilt_nat _ _).trans (decide_eq_true h)
   have e2 := min_nR room
   have e3 := min_nP places
   refine code_seq ?_
   refine code_region ?_ ?_
   ·rfl
   simp only [run1, go_sem, Nat.reduceLT, Nat.reduceAdd, Nat.reduceEqDiff, reduceIte, reduceCtorEq, fa81_2, ld3, c2, m1, e1]
   refine code_cond_true ?_ ?_
   ·simp only [aev, regAt_set, Nat.reduceEqDiff, reduceIte]
   refine code_region ?_ ?_
   ·rfl
   simp only [run1, go_sem, Nat.reduceLT, Nat.reduceAdd, Nat.reduceEqDiff, reduceIte, reduceCtorEq, m2, m3, aBuiltin]
   refine ⟨trivial, trivial, _, rfl, ?_, ?_, ?_⟩ <;> simp only [regAt_set, Nat.reduceEqDiff, reduceIte, e2, e3]
  ·have e1 : ilt (.ofNat room') (.ofNat (cnt * 2)) = false := (ilt_nat _ _).trans (decide_eq_false h)
   refine code_seq ?_
   refine code_region ?_ ?_
   ·rfl
   simp only [run1, go_sem, Nat.reduceLT, Nat.reduceAdd, Nat.reduceEqDiff, reduceIte, reduceCtorEq, fa81_2, ld3, c2, m1, e1]
   refine code_cond_false ?_ ?_
   ·simp only [aev, regAt_set, Nat.reduceEqDiff, reduceIte]
   refine code_skip ?_
   refine ⟨rfl, rfl, _, rfl, ?_, ?_, ?_⟩ <;> simp only [regAt_set, Nat.reduceEqDiff, reduceIte]
 rintro a r μ' ⟨rfl, rfl, tm, rfl, q0, q4, q5⟩
 have hs2 : ∀ g, 60 ≤ g → aFun Tryz.prog (aCode Tryz.prog X S0 g) 18 [.int .i64 (-1)] ⟨μ1.obs, μ1.next + 12⟩ = some (.int .u64 (.ofNat (sw (-1))), ⟨μ1.obs, μ1.next + 12⟩) := fun g hg => tsmall_eq hg ⟨by decide, by decide⟩
 have hbd : ∀ (ρ : Operand → Value) (x1 x2 x3 x4 x5 x6 : Operand), ρ x1 = .pointer (some ⟨sp, 0, none⟩) → ρ x2 = .int .u64 (.ofNat (placeW tq)) → ρ x3 = .int .u64 (.ofNat (placeW q1)) → ρ x4 = .int .u64 (.ofNat (placeW q2)) → ρ x5 = .int .i64 (.ofNat room') → ρ x6 = .int .i64 (.ofNat places') → aBuild Tryz.prog ρ 66 #[(0, x1), (1, x2), (4, x3), (5, x4), (6, x5), (7, x6)] = some (.agg (vL sp (placeW tq) 0 0 q1 q2 room' places').toArray) := fun ρ x1 x2 x3 x4 x5 x6 h1 h2 h3 h4 h5 h6 => by
  refine build_struct (pl := [(0, 1), (1, 1), (2, 1), (3, 1), (4, 1), (5, 1), (6, 1), (7, 1)]) z81 Tryz.underlying66 (by kernel_rfl) ?_
  show aFill _ v0L [(0, ρ x1), (1, ρ x2), (4, ρ x3), (5, ρ x4), (6, ρ x5), (7, ρ x6)] = some _
  rw [h1, h2, h3, h4, h5, h6]
  rfl
 obtain ⟨sm1, hsm1⟩ : ∃ z, z = sw (-1) := ⟨_, rfl⟩
 rw [← hsm1] at t2 hs2
 refine code_seq ?_
 refine code_draw (n := 13) (ms := [0, 1, 3, 7, 0, 16, 0, 127, 255, 511, 511, 1023, 4095]) (ord := [6, 0, 1, 2, 3, 4, 5, 7, 8, 9, 10, 11, 12]) (ds := ?_) ?_ ?_ ?_ ?_ ?_ ?_
 rotate_left
 ·kernel_rfl
 ·kernel_rfl
 ·kernel_rfl
 ·rfl
 ·rfl
 iterate 13 (refine drun_true (by first | rfl | (simp only [wanted, go_sem, Nat.reduceLT, Nat.reduceAdd, Nat.reduceEqDiff, reduceIte, reduceCtorEq, q0, q4, fa81_0, Nat.add_zero, ld24, d0, m4, gg17, hs1, Nat.reduceLeDiff, gg16, t1])) (by simp only [aDrawOne, heavy, aReads, eqVal_self, go_sem, Nat.reduceLT, Nat.reduceAdd, Nat.reduceEqDiff, reduceIte, reduceCtorEq, q0, q4, fa81_0, Nat.add_zero, ld24, d0, m4, gg17, hs1, Nat.reduceLeDiff, gg16, t1]; try exact rfl) rfl ?_)
 simp only [dRun, endsD_some, then_normal]
 refine code_seq ?_
 refine code_seq ?_
 refine code_region ?_ ?_
 ·rfl
 simp only [run1, go_sem, Nat.reduceLT, Nat.reduceAdd, Nat.reduceEqDiff, reduceIte, reduceCtorEq]
 refine code_cond_false ?_ ?_
 ·simp only [aev, regAt_set, Nat.reduceEqDiff, reduceIte]
 refine code_skip ?_
 simp only [then_normal]
 refine code_seq ?_
 refine code_draw (n := 12) (ms := [0, 1, 3, 7, 0, 0, 63, 127, 255, 255, 511, 2047]) (ord := [5, 0, 1, 2, 3, 4, 6, 7, 8, 9, 10, 11]) (ds := ?_) ?_ ?_ ?_ ?_ ?_ ?_
 rotate_left
 ·kernel_rfl
 ·kernel_rfl
 ·kernel_rfl
 ·rfl
 ·rfl
 iterate 12 (refine drun_true (by first | rfl | (simp only [wanted, go_sem, Nat.reduceLT, Nat.reduceAdd, Nat.reduceEqDiff, reduceIte, reduceCtorEq, q0, q5, fa81_0, Nat.add_zero, ld24, f0, gg18, hs2, Nat.reduceLeDiff, gg16, t2])) (by simp only [aDrawOne, heavy, aReads, eqVal_self, go_sem, Nat.reduceLT, Nat.reduceAdd, Nat.reduceEqDiff, reduceIte, reduceCtorEq, q0, q5, fa81_0, Nat.add_zero, ld24, f0, gg18, hs2, Nat.reduceLeDiff, gg16, t2]; try exact rfl) rfl ?_)
 simp only [dRun, endsD_some, then_normal]
 refine code_seq ?_
 refine code_seq ?_
 refine code_region ?_ ?_
 ·rfl
 simp only [run1, go_sem, Nat.reduceLT, Nat.reduceAdd, Nat.reduceEqDiff, reduceIte, reduceCtorEq]
 refine code_cond_false ?_ ?_
 ·simp only [aev, regAt_set, Nat.reduceEqDiff, reduceIte]
 refine code_skip ?_
 simp only [then_normal]
 refine code_seq ?_
 refine code_draw (n := 15) (ms := [0, 1, 3, 7, 0, 16, 48, 112, 0, 0, 0, 0, 4095, 8191, 16383]) (ord := [0, 1, 2, 3, 4, 5, 6, 7, 8, 9, 10, 11, 12, 13, 14]) (ds := ?_) ?_ ?_ ?_ ?_ ?_ ?_
 rotate_left
 ·kernel_rfl
 ·kernel_rfl
 ·kernel_rfl
 ·rfl
 ·rfl
 iterate 15 (refine drun_true (by first | rfl | (simp only [wanted, go_sem, Nat.reduceLT, Nat.reduceAdd, Nat.reduceEqDiff, reduceIte, reduceCtorEq, q0, q4, q5, fa81_0, fa81_1, Nat.add_zero, ld24, ldW, h0, h1, hbd, bx81])) (by simp only [aDrawOne, heavy, aReads, eqVal_self, go_sem, Nat.reduceLT, Nat.reduceAdd, Nat.reduceEqDiff, reduceIte, reduceCtorEq, q0, q4, q5, fa81_0, fa81_1, Nat.add_zero, ld24, ldW, h0, h1, hbd, bx81]; try exact rfl) rfl ?_)
 simp only [dRun, endsD_some, then_normal]
 have h3' : (⟨μ2.obs.set (μ2.next + 13) (.cells (vL sp (placeW tq) 0 0 q1 q2 room' places').length 66 (vL sp (placeW tq) 0 0 q1 q2 room' places').toArray .e 0 0 false false), μ2.next + 15⟩ : Mem) = μ3 := by rw [h3, hvo]
 rw [show Nat.add μ2.next 13 = μ2.next + 13 from rfl, h3', ← hvo]
 refine code_seq ?_
 refine code_seq ?_
 refine code_region ?_ ?_
 ·rfl
 simp only [run1, go_sem, Nat.reduceLT, Nat.reduceAdd, Nat.reduceEqDiff, reduceIte, reduceCtorEq, q0, fa81_3, ld3, i3']
 refine code_block ?_
 have hus : used < 200 := by omega
 rw [show k + 4989 = (k + 1989 - used) + used + 3000 from by omega]
 refine (copy_loop (X := X) (μ0 := μ3) ho2 (.inr trivial) (by omega) r5.2.1 r5v (by omega) (by omega) (by omega) (by omega) (by omega) (by omega) used (k + 1989 - used) 0 _ μ3 ws2 0 _ _ _ (by omega) C0 ?_ ?_ ?_ ?_).mono ?_
 ·simp only [regAt_set, Nat.reduceEqDiff, reduceIte, q0]
 ·simp only [regAt_set, Nat.reduceEqDiff, reduceIte]
 ·simp only [regAt_set, Nat.reduceEqDiff, reduceIte]
 ·simp only [regAt_set, Nat.reduceEqDiff, reduceIte]
  rfl
 rintro a r μ' ⟨rfl, ⟨tm', rfl, u9⟩, ws', I', K', V', C⟩
 rw [hck] at C
 have fin : Gr μ μ' vo sp hp ap wb lb ws ws' p p2 room b b2 s tq cnt used q1 q2 room' places' K V I' K' V' := by
  have hk1 := KP.1
  have hpv : μ.next ≤ vo := by
   have := ((Keeps.grow (G0.trans (grow_up _ 13))).trans (K1.trans ((Keeps.grow (grow_up μ1 12)).trans K2))).1
   omega
  refine ⟨hpv, C.new, C.tl, C.td, C.dic, C.kc1, hrp', hlt, gp2, y1, by omega, fun k hk => ?_, fun k hk => tk1.sub k (tk2.sub k hk), C.rom, ⟨Nat.le_trans KP.1 C.wv.1, fun i hi j1 j2 j3 => (C.wv.2 i (by omega) j2 (by omega)).trans (KP.2 i hi j1 j2 j3)⟩, dt1, dt2, fun q hq => ?_, fun h => by rcases hch with ⟨_, e, _⟩ | ⟨h2, _⟩; exact e; exact absurd h h2⟩
  ·rcases hk with h | h | h
   ·exact nf2 k (nf1 k (nf k (.inl h)))
   ·exact nf2 k (tk1.was k h.1 (by omega)).2
   ·exact (tk2.was k h.1 (by omega)).2
  ·rw [C.same q ?_ ?_, hws q hq]
   ·by_cases h : q1 ≤ q ∧ q < q1 + (2 * room' + 1)
    ·exact absurd (tk1.was q h.1 h.2).1 hq
    ·omega
   ·by_cases h : q2 ≤ q ∧ q < q2 + (places' + 1)
    ·exact absurd (tk2.was q h.1 h.2).1 (nf1 q hq)
    ·omega
 simp only [blockC, reduceIte, then_normal]
 repeat (first | refine code_seq ?_ | ((first | (refine code_region ?_ ?_; (focus rfl)) | (refine code_guards (gs := ?_) ?_ ?_; rotate_left; (focus rfl))); simp only [run1, run2, wanted, go_sem, Nat.reduceLT, Nat.reduceAdd, Nat.reduceEqDiff, reduceIte, reduceCtorEq, u9]) | (refine code_cond_true ?_ ?_; (focus (simp only [aev, regAt_set, Nat.reduceEqDiff, reduceIte, u9]; done))) | (refine code_cond_false ?_ ?_; (focus (simp only [aev, regAt_set, Nat.reduceEqDiff, reduceIte, u9]; done))) | ((first | refine code_skip ?_ | refine code_label ?_ | refine code_exit ?_); try simp only [then_exit, then_normal, blockC, Nat.reduceEqDiff, reduceIte]) | refine code_block ?_)
 refine code_ret ?_
 refine ⟨rfl, _, ?_, .inl ⟨vo, ws', p2, b2, q1, q2, room', places', I', K', V', rfl, fin⟩⟩
 simp only [aResults, Tryz.results26, aRes, regAt_set, Nat.reduceEqDiff, reduceIte]
end
noncomputable section
variable {X : FuncId → List Value → Mem → Option (Value × Mem)}
variable [Z : Sz]
theorem addW_off {ws : Nat → Nat} {e ix used pl kw x q room places : Nat} (hu : used < room) (hp : pl < places) (h1 : q < e ∨ e + 2 * room < q) (h2 : q < ix ∨ ix + places < q) : addW ws e ix used pl kw x q = ws q := by
 unfold addW put
 rw [if_neg (by omega), setE_off (by omega) (by omega)]
theorem add_store {ga gs vi sp hp ap wb lb tq cnt used e ix room places pl kw x : Nat} {ws : Nat → Nat} {p : Pos} {μ : Mem} (h1 : 200 ≤ ga) (h2 : 200 ≤ gs) (h : VW μ vi sp hp ap wb lb ws p (placeW tq) cnt used e ix room places) (hu : used < room) (hpl : pl < places) (hc : cnt < 900) (ht : ws tq = headW 3 0 4) (htr : tq + 4 < Sz.N) (d1 : tq + 4 < e ∨ e + 2 * room < tq) (d2 : tq + 4 < ix ∨ ix + places < tq) :
  ∃ v4 μ4 v5 μ5, aFun Tryz.prog (aCode Tryz.prog X S0 ga) 27 [.pointer (some ⟨vi, 0, none⟩), .int .i64 (.ofNat pl), .int .u64 (.ofNat kw), .int .u64 (.ofNat x)] μ = some (v4, μ4) ∧
   aFun Tryz.prog (aCode Tryz.prog X S0 gs) 28 [.pointer (some ⟨vi, 0, none⟩)] μ4 = some (v5, μ5) ∧
   VW μ5 vi sp hp ap wb lb (stW (addW ws e ix used pl kw x) tq (cnt + 1) (used + 1) e ix) p (placeW tq) (cnt + 1) (used + 1) e ix room places ∧ Wv μ μ5 wb vi := by
 have hr := h.r1
 obtain ⟨v4, μ4, t4, V4, w4⟩ := add_ends (X := X) (g := ga) (kw := kw) (x := x) h1 h hu hpl (by omega)
 have ht' : addW ws e ix used pl kw x tq = headW 3 0 4 := by rw [addW_off hu hpl (by omega) (by omega)]; exact ht
 obtain ⟨v5, μ5, t5, V5, w5⟩ := store_ends (X := X) (g := gs) h2 V4 ht' htr (by omega) (by omega) (by omega) (by omega)
 exact ⟨v4, μ4, v5, μ5, t4, t5, V5, w4.trans (Wv.of vi w5)⟩
theorem ts_of {μ : Mem} {vi sp hp ap wb lb b s tq cnt used e ix room places pl d x : Nat} {ws ws0 : Nat → Nat} {p : Pos} {I : Nat → Int} {K : Nat → Option Int} {V : Nat → Nat} {n : Int} {a1 a2 a3 a4 a5 a6 : Nat} (h0 : TW ws0 tq a1 a2 a3 a4 a5 a6)
  (V5 : VW μ vi sp hp ap wb lb (stW (addW ws e ix used pl (sw n) x) tq (cnt + 1) (used + 1) e ix) p (placeW tq) (cnt + 1) (used + 1) e ix room places) (tl : TL ws e ix room places used I K) (td : TD ws e used K V) (hn : Sm n) (hu : used < room) (rp : RP room places) (ht : ws tq = headW 3 0 4) (dj : e + 2 * room < ix ∨ ix + places < e) (d1 : tq + 4 < e ∨ e + 2 * room < tq) (d2 : tq + 4 < ix ∨ ix + places < tq)
  (hd : d < places) (hpl : pl = (hashI n % places + d) % places) (hI : I pl = -1) (hb : ∀ d', d' < d → I ((hashI n % places + d') % places) ≠ -1) (hne : ∀ j m, j < used → K j = some m → m ≠ n) (gp : Gp p b s) (nf : ∀ k, (tq ≤ k ∧ k ≤ tq + 4) ∨ (e ≤ k ∧ k ≤ e + 2 * room) ∨ (ix ≤ k ∧ k ≤ ix + places) → ¬ Free p k) (ck : kc K used = cnt) (rom : Rom μ) (r5 : 5 ≠ ap ∧ 5 ≠ wb ∧ 5 ≠ lb) :
  TS μ sp hp ap wb lb (stW (addW ws e ix used pl (sw n) x) tq (cnt + 1) (used + 1) e ix) p b s tq (cnt + 1) (used + 1) e ix room places (upd I pl (.ofNat used)) (upd K used (some n)) (upd V used x) := by
 have hrb := rp.b
 have hpl2 : pl < places := by rw [hpl]; exact Nat.mod_lt _ (by omega)
 have hkl := kc_le K used
 have ht' : addW ws e ix used pl (sw n) x tq = headW 3 0 4 := by rw [addW_off hu hpl2 (by omega) (by omega)]; exact ht
 have he' : addW ws e ix used pl (sw n) x e = headW 1 0 (2 * room) := by rw [← V5.he, stW_off (by omega)]
 have hi' : addW ws e ix used pl (sw n) x ix = headW 1 0 places := by rw [← V5.hi, stW_off (by omega)]
 exact ⟨V5.hs, rom, gp, h0.st ht' he' hi' V5.re V5.ri V5.r1 V5.r2 (by omega) dj d1 d2 (by omega) (by omega), (tl.add hn hu (by omega) dj hd hpl hI hb).st d1 d2, (td.add hu hpl2 dj hne).st (by omega) d1, nf, by
  show kc (upd K used (some n)) used + _ = cnt + 1
  rw [kc_upd_out K used _ used (Nat.le_refl _), ck, upd_at, if_neg (fun e => by cases e)], rp, r5⟩
theorem TW.congr {ws ws' : Nat → Nat} {tq cnt used e ix room places : Nat} (h : TW ws tq cnt used e ix room places) (hq : ∀ q, (tq ≤ q ∧ q ≤ tq + 4) ∨ (e ≤ q ∧ q ≤ e + 2 * room) ∨ (ix ≤ q ∧ q ≤ ix + places) → ws' q = ws q) : TW ws' tq cnt used e ix room places :=
 ⟨(hq _ (by omega)).trans h.ht, (hq _ (by omega)).trans h.f0, (hq _ (by omega)).trans h.f1, (hq _ (by omega)).trans h.f2, (hq _ (by omega)).trans h.f3, (hq _ (by omega)).trans h.he, (hq _ (by omega)).trans h.hi,
   h.rt, h.re, h.ri, h.r1, h.r2, h.r3, h.dj, h.d1, h.d2, h.c1, h.u1⟩
structure Sx (μ' : Mem) (sp hp ap wb lb : Nat) (ws' : Nat → Nat) (p p' : Pos) (b b' s tq cnt used room used' e' ix' room' places' : Nat) (I' : Nat → Int) (K K' : Nat → Option Int) (V V' : Nat → Nat) (n : Int) (x : Nat) : Prop where
 ts : TS μ' sp hp ap wb lb ws' p' b' s tq (cnt + 1) used' e' ix' room' places' I' K' V'
 dic : ∀ m v, Dic used' K' V' m v ↔ (m = n ∧ v = x) ∨ Dic used K V m v
 gr : 1 ≤ b' ∧ b' ≤ b
 fr : ∀ k, Free p' k → Free p k
set_option maxRecDepth 20000 in
set_option maxHeartbeats 16000000 in
theorem set_ends {g sp hp ap wb lb b s tq cnt used e ix room places w h x : Nat} {ws : Nat → Nat} {p : Pos} {I : Nat → Int} {K : Nat → Option Int} {V : Nat → Nat} {μ : Mem} (hg : 6000 ≤ g) (hT : TS μ sp hp ap wb lb ws p b s tq cnt used e ix room places I K V) (hk : Key ws Sz.N w h) (hne : ∀ j n, j < used → K j = some n → w ≠ sw n) (hc : cnt < 100) (hs0 : 0 < s) (hb : 1 ≤ b) (hb2 : b ≤ Sz.nb) (htx : ∀ q, TxtAt ws q Sz.N → w = placeW q → ∀ k, q ≤ k → k ≤ q + 2 → ¬ Free p k) :
  EndsF (aFun Tryz.prog (aCode Tryz.prog X S0 g) 9 [.pointer (some ⟨sp, 0, none⟩), .int .u64 (.ofNat (placeW tq)), .int .u64 (.ofNat w), .int .u64 (.ofNat x)] μ) fun v μ' => Keeps μ μ' ap wb lb ∧ ((v = .tuple #[.bool true, .int .i64 0] ∧
   ∀ n, Sm n → w = sw n → ∃ ws' p' b' used' e' ix' room' places' I' K' V', Sx μ' sp hp ap wb lb ws' p p' b b' s tq cnt used room used' e' ix' room' places' I' K K' V V' n x) ∨
   (v = .tuple #[.bool false, .int .i64 0] ∧ ∃ ws' p' b', TS μ' sp hp ap wb lb ws' p' b' s tq cnt used e ix room places I K V ∧ 1 ≤ b' ∧ b' ≤ b)) := by
 obtain ⟨k, rfl⟩ := Nat.exists_eq_add_of_le' hg
 obtain ⟨v1, μ1, t1, vi, rfl, hvi, V1, g1⟩ := look_ends (X := X) (g := k + 5997) (by omega) hT.hs hT.tw
 obtain ⟨v2, μ2, t2, rfl, g2⟩ := sum_key (X := X) (g := k + 5996) (by omega) (hT.rom.grow g1) V1.hs hk
 have V2 := V1.grow g2
 obtain ⟨v3, μ3, t3, g3, i, pp, rfl, hF⟩ := find_ends (X := X) (g := k + 5994) (by omega) V2 hT.tl hk
 have V3 := V2.grow g3
 have g13 := g1.trans (g2.trans g3)
 have hrb := hT.rp.b
 have hule := hT.tl.le
 obtain ⟨rfl, d, hd, rfl, hI, hbf⟩ : i = -1 ∧ ∃ d, d < places ∧ pp = .ofNat ((h % places + d) % places) ∧ I ((h % places + d) % places) = -1 ∧ ∀ d', d' < d → I ((h % places + d') % places) ≠ -1 := by
  rcases hF with ⟨j, n, rfl, hj, hK, rfl⟩ | ⟨e1, _, e2⟩
  ·exact absurd rfl (hne j n hj hK)
  ·exact ⟨e1, e2⟩
 obtain ⟨pl, hpl⟩ : ∃ pl, pl = (h % places + d) % places := ⟨_, rfl⟩
 rw [← hpl] at t3 hI
 have hpl2 : pl < places := by rw [hpl]; exact Nat.mod_lt _ (by omega)
 have hn' : ∀ n, w = sw n → ∀ j m, j < used → K j = some m → m ≠ n := fun n e j m hj hK e2 => hne j m hj hK (by rw [e, e2])
 have e1 : ilt (-1) 0 = true := rfl
 have e2 : ilt (.ofNat cnt) 100 = true := (ilt_nat cnt 100).trans (decide_eq_true hc)
 have c2 : cellsAt μ3 vi 2 = some (.int .i64 (.ofNat cnt)) := V3.has.cell 2 (by simp [vL])
 have W3 := V3.up (d := 10)
 have c3 : cellsAt ⟨μ3.obs, μ3.next + 10⟩ vi 3 = some (.int .i64 (.ofNat used)) := W3.has.cell 3 (by simp [vL])
 have c6 : cellsAt ⟨μ3.obs, μ3.next + 10⟩ vi 6 = some (.int .i64 (.ofNat room)) := W3.has.cell 6 (by simp [vL])
 have r5v : 5 ≠ vi := by have := hT.rom.lt; omega
 by_cases hu : used < room
 ·have e3 : ilt (.ofNat used) (.ofNat room) = true := (ilt_nat used room).trans (decide_eq_true hu)
  obtain ⟨v4, μ4, v5, μ5, t4, t5, V5, w5⟩ := add_store (X := X) (ga := k + 5992) (gs := k + 5991) (kw := w) (x := x) (by omega) (by omega) W3 hu hpl2 (by omega) hT.tw.ht hT.tw.rt hT.tw.d1 hT.tw.d2
  have gw : Grow μ ⟨μ3.obs, μ3.next + 10⟩ := g13.trans (grow_up μ3 10)
  have kp : Keeps μ μ5 ap wb lb := Wv.keeps gw hvi w5
  have fin : ∀ n, Sm n → w = sw n → ∃ ws' p' b' used' e' ix' room' places' I' K' V', Sx μ5 sp hp ap wb lb ws' p p' b b' s tq cnt used room used' e' ix' room' places' I' K K' V V' n x := fun n hn e => by
   subst e
   have hh := key_small hk hn
   subst hh
   exact ⟨_, p, b, used + 1, e, ix, room, places, _, _, _, ts_of hT.tw V5 hT.tl hT.td hn hu hT.rp hT.tw.ht hT.tw.dj hT.tw.d1 hT.tw.d2 hd hpl hI hbf (hn' n rfl) hT.gp hT.nf hT.ck (hT.rom.keeps hT.r5 kp) hT.r5, fun m v => Dic.add m v, ⟨hb, Nat.le_refl _⟩, fun k h => h⟩
  refine fun_enter Tryz.func9 rfl rfl (Nat.le_of_ble_eq_true rfl) ?_
  simp only [T.lay, Nat.zero_add, Tryz.ntmps9, Nat.reduceAdd]
  repeat (first | refine code_seq ?_ | ((first | (refine code_region ?_ ?_; (focus rfl)) | (refine code_guards (gs := ?_) ?_ ?_; rotate_left; (focus rfl))); simp only [run1, run2, wanted, go_sem, Nat.reduceLT, Nat.reduceAdd, Nat.reduceEqDiff, reduceIte, reduceCtorEq, gg20, t1, gg22, t2, gg23, t3, e1, fa81_2, ld3, c2, e2]) | (refine code_cond_true ?_ ?_; (focus (simp only [aev, regAt_set, Nat.reduceEqDiff, reduceIte, gg20, t1, gg22, t2, gg23, t3, e1, fa81_2, ld3, c2, e2]; done))) | (refine code_cond_false ?_ ?_; (focus (simp only [aev, regAt_set, Nat.reduceEqDiff, reduceIte, gg20, t1, gg22, t2, gg23, t3, e1, fa81_2, ld3, c2, e2]; done))) | ((first | refine code_skip ?_ | refine code_label ?_ | refine code_exit ?_); try simp only [then_exit, then_normal, blockC, Nat.reduceEqDiff, reduceIte]) | refine code_block ?_)
  refine code_draw (n := 10) (ms := [0, 1, 3, 7, 0, 16, 48, 112, 255, 511]) (ord := [0, 1, 2, 3, 4, 5, 6, 7, 8, 9]) (ds := ?_) ?_ ?_ ?_ ?_ ?_ ?_
  rotate_left
  ·kernel_rfl
  ·kernel_rfl
  ·kernel_rfl
  ·rfl
  ·rfl
  iterate 10 (refine drun_true (by first | rfl | (simp only [wanted, go_sem, Nat.reduceLT, Nat.reduceAdd, Nat.reduceEqDiff, reduceIte, reduceCtorEq, fa81_3, fa81_6, ld3, c3, c6, e3])) (by simp only [aDrawOne, heavy, aReads, eqVal_self, go_sem, Nat.reduceLT, Nat.reduceAdd, Nat.reduceEqDiff, reduceIte, reduceCtorEq, fa81_3, fa81_6, ld3, c3, c6, e3]; try exact rfl) rfl ?_)
  simp only [dRun, endsD_some, then_normal]
  repeat (first | refine code_seq ?_ | ((first | (refine code_region ?_ ?_; (focus rfl)) | (refine code_guards (gs := ?_) ?_ ?_; rotate_left; (focus rfl))); simp only [run1, run2, wanted, go_sem, Nat.reduceLT, Nat.reduceAdd, Nat.reduceEqDiff, reduceIte, reduceCtorEq, gg27, t4, gg28, t5]) | (refine code_cond_true ?_ ?_; (focus (simp only [aev, regAt_set, Nat.reduceEqDiff, reduceIte, gg27, t4, gg28, t5]; done))) | (refine code_cond_false ?_ ?_; (focus (simp only [aev, regAt_set, Nat.reduceEqDiff, reduceIte, gg27, t4, gg28, t5]; done))) | ((first | refine code_skip ?_ | refine code_label ?_ | refine code_exit ?_); try simp only [then_exit, then_normal, blockC, Nat.reduceEqDiff, reduceIte]) | refine code_block ?_)
  refine code_ret ?_
  refine ⟨rfl, _, ?_, kp, .inl ⟨rfl, fin⟩⟩
  simp only [aResults, Tryz.results9, aRes, regAt_set, Nat.reduceEqDiff, reduceIte]
 ·have e3 : ilt (.ofNat used) (.ofNat room) = false := (ilt_nat used room).trans (decide_eq_false hu)
  obtain ⟨v6, μ6, t6, ⟨vo, ws', p', b', e', ix', room', places', I', K', V', rfl, R⟩ | ⟨ws', p', b', rfl, R⟩⟩ := grown_ends (X := X) (g := k + 5984) (by omega) W3 ⟨hT.tl, hT.td⟩ hT.gp hs0 hb hb2 hT.ck hc hT.rp hT.nf (hT.rom.grow (g13.trans (grow_up μ3 10))) hT.r5 hT.tw.rt
  rotate_left
  ·have kp : Keeps μ μ6 ap wb lb := (Keeps.grow (g13.trans (grow_up μ3 10))).trans R.kp
   have ho : ∀ q, (tq ≤ q ∧ q ≤ tq + 4) ∨ (e ≤ q ∧ q ≤ e + 2 * room) ∨ (ix ≤ q ∧ q ≤ ix + places) → ws' q = ws q := fun q hq => R.hws q (hT.nf q hq)
   have fin : TS μ6 sp hp ap wb lb ws' p' b' s tq cnt used e ix room places I K V :=
    ⟨R.sp, hT.rom.keeps hT.r5 kp, R.gp, hT.tw.congr ho, hT.tl.congr (fun q hq => ho q (.inr hq)), hT.td.congr hT.tl.le (fun q hq => ho q (.inr (.inl hq))), fun q hq hf => hT.nf q hq (R.fr q hf), hT.ck, hT.rp, hT.r5⟩
   refine fun_enter Tryz.func9 rfl rfl (Nat.le_of_ble_eq_true rfl) ?_
   simp only [T.lay, Nat.zero_add, Tryz.ntmps9, Nat.reduceAdd]
   repeat (first | refine code_seq ?_ | ((first | (refine code_region ?_ ?_; (focus rfl)) | (refine code_guards (gs := ?_) ?_ ?_; rotate_left; (focus rfl))); simp only [run1, run2, wanted, go_sem, Nat.reduceLT, Nat.reduceAdd, Nat.reduceEqDiff, reduceIte, reduceCtorEq, gg20, t1, gg22, t2, gg23, t3, e1, fa81_2, ld3, c2, e2]) | (refine code_cond_true ?_ ?_; (focus (simp only [aev, regAt_set, Nat.reduceEqDiff, reduceIte, gg20, t1, gg22, t2, gg23, t3, e1, fa81_2, ld3, c2, e2]; done))) | (refine code_cond_false ?_ ?_; (focus (simp only [aev, regAt_set, Nat.reduceEqDiff, reduceIte, gg20, t1, gg22, t2, gg23, t3, e1, fa81_2, ld3, c2, e2]; done))) | ((first | refine code_skip ?_ | refine code_label ?_ | refine code_exit ?_); try simp only [then_exit, then_normal, blockC, Nat.reduceEqDiff, reduceIte]) | refine code_block ?_)
   refine code_draw (n := 10) (ms := [0, 1, 3, 7, 0, 16, 48, 112, 255, 511]) (ord := [0, 1, 2, 3, 4, 5, 6, 7, 8, 9]) (ds := ?_) ?_ ?_ ?_ ?_ ?_ ?_
   rotate_left
   ·kernel_rfl
   ·kernel_rfl
   ·kernel_rfl
   ·rfl
   ·rfl
   iterate 10 (refine drun_true (by first | rfl | (simp only [wanted, go_sem, Nat.reduceLT, Nat.reduceAdd, Nat.reduceEqDiff, reduceIte, reduceCtorEq, fa81_3, fa81_6, ld3, c3, c6, e3])) (by simp only [aDrawOne, heavy, aReads, eqVal_self, go_sem, Nat.reduceLT, Nat.reduceAdd, Nat.reduceEqDiff, reduceIte, reduceCtorEq, fa81_3, fa81_6, ld3, c3, c6, e3]; try exact rfl) rfl ?_)
   simp only [dRun, endsD_some, then_normal]
   repeat (first | refine code_seq ?_ | ((first | (refine code_region ?_ ?_; (focus rfl)) | (refine code_guards (gs := ?_) ?_ ?_; rotate_left; (focus rfl))); simp only [run1, run2, wanted, go_sem, Nat.reduceLT, Nat.reduceAdd, Nat.reduceEqDiff, reduceIte, reduceCtorEq, gg26, t6]) | (refine code_cond_true ?_ ?_; (focus (simp only [aev, regAt_set, Nat.reduceEqDiff, reduceIte, gg26, t6]; done))) | (refine code_cond_false ?_ ?_; (focus (simp only [aev, regAt_set, Nat.reduceEqDiff, reduceIte, gg26, t6]; done))) | ((first | refine code_skip ?_ | refine code_label ?_ | refine code_exit ?_); try simp only [then_exit, then_normal, blockC, Nat.reduceEqDiff, reduceIte]) | refine code_block ?_)
   refine code_ret ?_
   refine ⟨rfl, _, ?_, kp, .inr ⟨rfl, ws', p', b', fin, R.b1, R.b2⟩⟩
   simp only [aResults, Tryz.results9, aRes, regAt_set, Nat.reduceEqDiff, reduceIte]
  have hk' : Key ws' Sz.N w h := by
   rcases hk with ⟨n, h1, h2, h3⟩ | ⟨q, h1, h2, h3⟩
   ·exact .inl ⟨n, h1, h2, h3⟩
   ·have hx := htx q h1 h2
    exact .inr ⟨q, ⟨by rw [R.hws _ (hx q (Nat.le_refl _) (by omega))]; exact h1.head, by rw [R.hws _ (hx (q + 1) (by omega) (by omega))]; exact h1.many, by rw [R.hws _ (hx (q + 2) (by omega) (by omega))]; exact h1.sign, h1.room⟩, h2, h3⟩
  obtain ⟨v7, μ7, t7, g7, i2, pp2, rfl, hF2⟩ := find_ends (X := X) (g := k + 5985) (by omega) R.vw R.tl hk'
  have hne2 : ∀ j n, j < cnt → K' j = some n → w ≠ sw n := fun j n hj hK e4 => by
   obtain ⟨j0, h1, h2, _⟩ := (R.dic n (V' j)).1 ⟨j, hj, hK, rfl⟩
   exact hne j0 n h1 h2 e4
  have hrb' := R.rp.b
  obtain ⟨rfl, d2, hd2, rfl, hI2, hbf2⟩ : i2 = -1 ∧ ∃ d, d < places' ∧ pp2 = .ofNat ((h % places' + d) % places') ∧ I' ((h % places' + d) % places') = -1 ∧ ∀ d', d' < d → I' ((h % places' + d') % places') ≠ -1 := by
   rcases hF2 with ⟨j, n, rfl, hj, hK, rfl⟩ | ⟨e1, _, e2⟩
   ·exact absurd rfl (hne2 j n hj hK)
   ·exact ⟨e1, e2⟩
  obtain ⟨pl2, hpl3⟩ : ∃ pl, pl = (h % places' + d2) % places' := ⟨_, rfl⟩
  rw [← hpl3] at t7 hI2
  have hpl4 : pl2 < places' := by rw [hpl3]; exact Nat.mod_lt _ (by omega)
  have hhd : ws' tq = headW 3 0 4 := by rw [R.hws tq (hT.nf tq (.inl ⟨Nat.le_refl _, by omega⟩))]; exact hT.tw.ht
  have V7 := R.vw.grow g7
  obtain ⟨v4, μ4, v5, μ5, t4, t5, V5, w5⟩ := add_store (X := X) (ga := k + 5992) (gs := k + 5991) (kw := w) (x := x) (by omega) (by omega) V7 R.lt hpl4 (by omega) hhd hT.tw.rt R.d1 R.d2
  have gw : Grow μ ⟨μ3.obs, μ3.next + 10⟩ := g13.trans (grow_up μ3 10)
  have kp : Keeps μ μ5 ap wb lb := by
   have k1 := (Keeps.grow (ap := ap) (wb := wb) (lb := lb) gw).trans (R.kp.trans (Keeps.grow g7))
   have h1 := gw.1
   have h2 := R.hvo
   exact ⟨Nat.le_trans k1.1 w5.1, fun i hi j1 j2 j3 => (w5.2 i (Nat.lt_of_lt_of_le hi k1.1) j2 (by omega)).trans (k1.2 i hi j1 j2 j3)⟩
  have fin : ∀ n, Sm n → w = sw n → ∃ ws' p' b' used' e' ix' room' places' I' K' V', Sx μ5 sp hp ap wb lb ws' p p' b b' s tq cnt used room used' e' ix' room' places' I' K K' V V' n x := fun n hn e4 => by
   subst e4
   have hh := key_small hk hn
   subst hh
   exact ⟨_, p', b', cnt + 1, e', ix', room', places', _, _, _, ts_of hT.tw V5 R.tl R.td hn R.lt R.rp hhd R.vw.dj R.d1 R.d2 hd2 hpl3 hI2 hbf2 (fun j m hj hK e5 => hne2 j m hj hK (by rw [e5])) R.gp R.nf R.hkc (hT.rom.keeps hT.r5 kp) hT.r5, fun m v => (Dic.add m v).trans (or_congr_right (R.dic m v)), ⟨R.b1, R.b2⟩, R.fr⟩
  refine fun_enter Tryz.func9 rfl rfl (Nat.le_of_ble_eq_true rfl) ?_
  simp only [T.lay, Nat.zero_add, Tryz.ntmps9, Nat.reduceAdd]
  repeat (first | refine code_seq ?_ | ((first | (refine code_region ?_ ?_; (focus rfl)) | (refine code_guards (gs := ?_) ?_ ?_; rotate_left; (focus rfl))); simp only [run1, run2, wanted, go_sem, Nat.reduceLT, Nat.reduceAdd, Nat.reduceEqDiff, reduceIte, reduceCtorEq, gg20, t1, gg22, t2, gg23, t3, e1, fa81_2, ld3, c2, e2]) | (refine code_cond_true ?_ ?_; (focus (simp only [aev, regAt_set, Nat.reduceEqDiff, reduceIte, gg20, t1, gg22, t2, gg23, t3, e1, fa81_2, ld3, c2, e2]; done))) | (refine code_cond_false ?_ ?_; (focus (simp only [aev, regAt_set, Nat.reduceEqDiff, reduceIte, gg20, t1, gg22, t2, gg23, t3, e1, fa81_2, ld3, c2, e2]; done))) | ((first | refine code_skip ?_ | refine code_label ?_ | refine code_exit ?_); try simp only [then_exit, then_normal, blockC, Nat.reduceEqDiff, reduceIte]) | refine code_block ?_)
  refine code_draw (n := 10) (ms := [0, 1, 3, 7, 0, 16, 48, 112, 255, 511]) (ord := [0, 1, 2, 3, 4, 5, 6, 7, 8, 9]) (ds := ?_) ?_ ?_ ?_ ?_ ?_ ?_
  rotate_left
  ·kernel_rfl
  ·kernel_rfl
  ·kernel_rfl
  ·rfl
  ·rfl
  iterate 10 (refine drun_true (by first | rfl | (simp only [wanted, go_sem, Nat.reduceLT, Nat.reduceAdd, Nat.reduceEqDiff, reduceIte, reduceCtorEq, fa81_3, fa81_6, ld3, c3, c6, e3])) (by simp only [aDrawOne, heavy, aReads, eqVal_self, go_sem, Nat.reduceLT, Nat.reduceAdd, Nat.reduceEqDiff, reduceIte, reduceCtorEq, fa81_3, fa81_6, ld3, c3, c6, e3]; try exact rfl) rfl ?_)
  simp only [dRun, endsD_some, then_normal]
  repeat (first | refine code_seq ?_ | ((first | (refine code_region ?_ ?_; (focus rfl)) | (refine code_guards (gs := ?_) ?_ ?_; rotate_left; (focus rfl))); simp only [run1, run2, wanted, go_sem, Nat.reduceLT, Nat.reduceAdd, Nat.reduceEqDiff, reduceIte, reduceCtorEq, gg26, t6, gg23, t7, gg27, t4, gg28, t5]) | (refine code_cond_true ?_ ?_; (focus (simp only [aev, regAt_set, Nat.reduceEqDiff, reduceIte, gg26, t6, gg23, t7, gg27, t4, gg28, t5]; done))) | (refine code_cond_false ?_ ?_; (focus (simp only [aev, regAt_set, Nat.reduceEqDiff, reduceIte, gg26, t6, gg23, t7, gg27, t4, gg28, t5]; done))) | ((first | refine code_skip ?_ | refine code_label ?_ | refine code_exit ?_); try simp only [then_exit, then_normal, blockC, Nat.reduceEqDiff, reduceIte]) | refine code_block ?_)
  refine code_ret ?_
  refine ⟨rfl, _, ?_, kp, .inl ⟨rfl, fin⟩⟩
  simp only [aResults, Tryz.results9, aRes, regAt_set, Nat.reduceEqDiff, reduceIte]
set_option maxRecDepth 20000 in
set_option maxHeartbeats 8000000 in
theorem set_upd {g sp hp ap wb lb b s tq cnt used e ix room places j x : Nat} {n : Int} {ws : Nat → Nat} {p : Pos} {I : Nat → Int} {K : Nat → Option Int} {V : Nat → Nat} {μ : Mem} (hg : 6000 ≤ g) (hT : TS μ sp hp ap wb lb ws p b s tq cnt used e ix room places I K V) (hj : j < used) (hK : K j = some n) :
  EndsF (aFun Tryz.prog (aCode Tryz.prog X S0 g) 9 [.pointer (some ⟨sp, 0, none⟩), .int .u64 (.ofNat (placeW tq)), .int .u64 (.ofNat (sw n)), .int .u64 (.ofNat x)] μ) fun v μ' => v = .tuple #[.bool true, .int .i64 0] ∧ Keeps μ μ' ap wb lb ∧ ∃ ws', TS μ' sp hp ap wb lb ws' p b s tq cnt used e ix room places I K (upd V j x) := by
 obtain ⟨k, rfl⟩ := Nat.exists_eq_add_of_le' hg
 have hn := hT.tl.ksm j n hj hK
 have hk : Key ws Sz.N (sw n) (hashI n) := .inl ⟨n, hn, rfl, rfl⟩
 obtain ⟨v1, μ1, t1, vi, rfl, hvi, V1, g1⟩ := look_ends (X := X) (g := k + 5997) (by omega) hT.hs hT.tw
 obtain ⟨v2, μ2, t2, rfl, g2⟩ := sum_key (X := X) (g := k + 5996) (by omega) (hT.rom.grow g1) V1.hs hk
 have V2 := V1.grow g2
 obtain ⟨v3, μ3, t3, g3, i, pp, rfl, hF⟩ := find_ends (X := X) (g := k + 5994) (by omega) V2 hT.tl hk
 have V3 := V2.grow g3
 have g13 := g1.trans (g2.trans g3)
 obtain rfl : i = .ofNat j := by
  rcases hF with ⟨j', n', rfl, hj', hK', e4⟩ | ⟨_, h2, _⟩
  ·have hn' := hT.tl.ksm j' n' hj' hK'
   have : n = n' := sw_inj hn hn' e4
   subst this
   rw [hT.td.uniq j' j n hj' hj hK' hK]
  ·exact absurd rfl (h2 j n hj hK)
 have hjr : j < room := Nat.lt_of_lt_of_le hj hT.tl.le
 have e1 : ilt (.ofNat j) 0 = false := rfl
 obtain ⟨v4, μ4, t4, rfl, g4⟩ := entry_eq (X := X) (g := k + 5989) (by omega) V3 hjr
 rw [hT.tl.key j hj, hK] at t4
 have V4 := V3.grow g4
 obtain ⟨v5, μ5, t5, V5, w5⟩ := vput_ends (X := X) (g := k + 5988) (i := j) (kw := sw n) (x := x) (by omega) V4 hjr
 have g14 := g13.trans g4
 have hkp : Keeps μ μ5 ap wb lb := Wv.keeps g14 hvi (Wv.of vi w5)
 have hW := hT.tw
 have hd1 := hW.d1
 have hd2 := hW.d2
 have hdj := hW.dj
 obtain ⟨ws', hws'⟩ : ∃ w, w = setE ws e j (sw n) x := ⟨_, rfl⟩
 rw [← hws'] at V5
 have off : ∀ q, q ≠ e + 1 + j * 2 → q ≠ e + 1 + (j * 2 + 1) → ws' q = ws q := fun q h1 h2 => by rw [hws', setE_off h1 h2]
 have keyE : ∀ i, i < used → ws' (e + 1 + i * 2) = ws (e + 1 + i * 2) := fun i hi => by
  by_cases h : i = j
  ·subst h; rw [hws', setE_key, hT.tl.key i hi, hK]; rfl
  ·exact off _ (by omega) (by omega)
 have hTL : TL ws' e ix room places used I K :=
  ⟨hT.tl.le, hT.tl.lt, fun q hq => (off _ (by omega) (by omega)).trans (hT.tl.idx q hq), hT.tl.rng, fun i hi => (keyE i hi).trans (hT.tl.key i hi), hT.tl.ksm, hT.tl.path, hT.tl.cnt⟩
 have hTD : TD ws' e used K (upd V j x) := ⟨fun i hi hne => by
  by_cases h : i = j
  ·subst h; rw [upd_at, hws', setE_val]
  ·rw [upd_off V x h, off _ (by omega) (by omega)]; exact hT.td.val i hi hne, hT.td.uniq⟩
 have hTW : TW ws' tq cnt used e ix room places :=
  ⟨(off _ (by omega) (by omega)).trans hW.ht, (off _ (by omega) (by omega)).trans hW.f0, (off _ (by omega) (by omega)).trans hW.f1, (off _ (by omega) (by omega)).trans hW.f2, (off _ (by omega) (by omega)).trans hW.f3, (off _ (by omega) (by omega)).trans hW.he, (off _ (by omega) (by omega)).trans hW.hi,
    hW.rt, hW.re, hW.ri, hW.r1, hW.r2, hW.r3, hW.dj, hW.d1, hW.d2, hW.c1, hW.u1⟩
 have fin : TS μ5 sp hp ap wb lb ws' p b s tq cnt used e ix room places I K (upd V j x) := ⟨V5.hs, hT.rom.keeps hT.r5 hkp, hT.gp, hTW, hTL, hTD, hT.nf, hT.ck, hT.rp, hT.r5⟩
 obtain ⟨z, hz⟩ : ∃ z, z = sw n := ⟨_, rfl⟩
 have kz : kwd (some n) = z := hz.symm
 rw [kz] at t4
 rw [← hz] at t2 t3 t5 ⊢
 refine fun_enter Tryz.func9 rfl rfl (Nat.le_of_ble_eq_true rfl) ?_
 simp only [T.lay, Nat.zero_add, Tryz.ntmps9, Nat.reduceAdd]
 repeat (first | refine code_seq ?_ | ((first | (refine code_region ?_ ?_; (focus rfl)) | (refine code_guards (gs := ?_) ?_ ?_; rotate_left; (focus rfl))); simp only [run1, run2, wanted, go_sem, Nat.reduceLT, Nat.reduceAdd, Nat.reduceEqDiff, reduceIte, reduceCtorEq, gg20, t1, gg22, t2, gg23, t3, e1, gg24, t4, gg25, t5]) | (refine code_cond_true ?_ ?_; (focus (simp only [aev, regAt_set, Nat.reduceEqDiff, reduceIte, gg20, t1, gg22, t2, gg23, t3, e1, gg24, t4, gg25, t5]; done))) | (refine code_cond_false ?_ ?_; (focus (simp only [aev, regAt_set, Nat.reduceEqDiff, reduceIte, gg20, t1, gg22, t2, gg23, t3, e1, gg24, t4, gg25, t5]; done))) | ((first | refine code_skip ?_ | refine code_label ?_ | refine code_exit ?_); try simp only [then_exit, then_normal, blockC, Nat.reduceEqDiff, reduceIte]) | refine code_block ?_)
 refine code_ret ?_
 refine ⟨rfl, _, ?_, rfl, hkp, ws', fin⟩
 simp only [aResults, Tryz.results9, aRes, regAt_set, Nat.reduceEqDiff, reduceIte]
end
noncomputable section
variable {X : FuncId → List Value → Mem → Option (Value × Mem)}
variable [Z : Sz]
theorem z27n : aZeroOf Tryz.prog 27 = some (.int .u64 0) := by unfold aZeroOf; rw [j27]; rfl
theorem bs68_4 (ρ : Operand → Value) (a b c d : Operand) (x y z w : Int) (ha : ρ a = .int .u64 x) (hb : ρ b = .int .u64 y) (hc : ρ c = .int .u64 z) (hd : ρ d = .int .u64 w) :
  aBuildSlice Tryz.prog ρ 81 4 #[(0, a), (1, b), (2, c), (3, d)] = some (.cells 4 27 #[.int .u64 x, .int .u64 y, .int .u64 z, .int .u64 w] .e 0 0 false false, fun id => .slice (some ⟨id, 0, none⟩) 4 8) := by
 unfold aBuildSlice
 simp only [Tryz.underlying81, j27, z27n]
 show (match aFill _ [.int .u64 0, .int .u64 0, .int .u64 0, .int .u64 0] [(0, ρ a), (1, ρ b), (2, ρ c), (3, ρ d)] with | some cs => _ | none => none) = _
 rw [ha, hb, hc, hd]
 rfl
def tf4 (q1 q2 : Nat) : Nat → Nat := fun k => if k = 0 then sw 0 else if k = 1 then sw 0 else if k = 2 then placeW q1 else placeW q2
set_option maxRecDepth 20000 in
set_option maxHeartbeats 8000000 in
theorem new_ends {g sp hp ap wb lb : Nat} {ws : Nat → Nat} {μ : Mem} (hg : 2000 ≤ g) (h : SP μ sp hp ap wb lb Sz.N Sz.L ws P0) (hr : Rom μ) (r5 : 5 ≠ ap ∧ 5 ≠ wb ∧ 5 ≠ lb) :
  EndsF (aFun Tryz.prog (aCode Tryz.prog X S0 g) 6 [.pointer (some ⟨sp, 0, none⟩)] μ) fun v μ' => v = .tuple #[.int .u64 (.ofNat (placeW 0)), .bool true] ∧ Keeps μ μ' ap wb lb ∧
   ∃ ws' p' b' e ix, 1 ≤ b' ∧ b' ≤ Sz.nb ∧ TS μ' sp hp ap wb lb ws' p' b' 5 0 0 0 e ix 8 16 (fun _ => -1) (fun _ => none) (fun _ => 0) := by
 obtain ⟨k, rfl⟩ := Nat.exists_eq_add_of_le' hg
 have z3 := Sz.lo
 have gp := gp0
 obtain ⟨q1, p1, b1, al1, gp1, x1, x2, tk1, ex1⟩ := al_big (X := X) (n := 17) gp (.inl z3) (by omega) (Nat.le_refl _) (by omega) (by omega)
 have ex1 := ex1 (fun h => by have h : 0 + 17 ≤ 0 := h; omega)
 obtain ⟨q2, p2, b2, al2, gp2, y1, y2, tk2, _⟩ := al_big (X := X) (n := 17) gp1 (.inr (by have := gp1.g2; omega)) x1.1 (by omega) (by omega) (by omega)
 obtain ⟨p3, al3, gp3, tk3⟩ := al_small (X := X) (n := 5) gp2 y1.1 (by omega) (by decide) (by decide) (by decide)
 obtain ⟨s, hs⟩ : ∃ s, s = 0 := ⟨_, rfl⟩
 rw [← hs] at al3 tk3
 have top1 := tk1.top
 have top2 := tk2.top
 have top3 := tk3.top
 have d12 : q1 + 16 < q2 ∨ q2 + 16 < q1 := disj fun k h1 h2 h3 h4 => (tk1.was k h1 (by omega)).2 (tk2.was k h3 (by omega)).1
 have d13 : q1 + 16 < s ∨ s + 4 < q1 := disj fun k h1 h2 h3 h4 => (tk1.was k h1 (by omega)).2 (tk2.sub k (tk3.was k h3 (by omega)).1)
 have d23 : q2 + 16 < s ∨ s + 4 < q2 := disj fun k h1 h2 h3 h4 => (tk2.was k h1 (by omega)).2 (tk3.was k h3 (by omega)).1
 obtain ⟨v1, μ1, t1, rfl, S1, K1⟩ := filled_ends (X := X) (g := k + 1997) (n := 16) (w := 45) (q := q1) (by omega) h (by omega) (by omega) al1
 obtain ⟨v2, μ2, t2, rfl, S2, K2⟩ := filled_ends (X := X) (g := k + 1995) (n := 16) (w := sw (-1)) (q := q2) (by omega) S1 (by omega) (by omega) al2
 obtain ⟨μ3, h3⟩ : ∃ M : Mem, M = ⟨μ2.obs.set μ2.next (.cells 4 27 #[.int .u64 (.ofNat (sw 0)), .int .u64 (.ofNat (sw 0)), .int .u64 (.ofNat (placeW q1)), .int .u64 (.ofNat (placeW q2))] .e 0 0 false false), μ2.next + 1⟩ := ⟨_, rfl⟩
 have g3 : Grow μ2 μ3 := by rw [h3]; exact grow1 μ2 _
 have n3 : μ3.next = μ2.next + 1 := by rw [h3]
 have hh : Has μ3 μ2.next 0 [.int .u64 (.ofNat (sw 0)), .int .u64 (.ofNat (sw 0)), .int .u64 (.ofNat (placeW q1)), .int .u64 (.ofNat (placeW q2))] := Has.new (t := 27) (fx := false) (sh := false) (by rw [h3]; show T.get _ _ = _; rw [T.get_set, if_pos rfl]; rfl)
 have n2a := S2.hs.ab.n1
 have n2b := S2.hs.ab.n2
 have n2c := S2.hs.ab.n3
 obtain ⟨v4, μ4, t4, rfl, S4, K4⟩ := object_ends (X := X) (g := k + 1993) (n := 4) (kd := 3) (li := μ2.next) (c := 8) (f := tf4 q1 q2) (q := s) (by omega) (S2.grow g3) (fun k hk => by
  rcases (by omega : k = 0 ∨ k = 1 ∨ k = 2 ∨ k = 3) with rfl | rfl | rfl | rfl
  ·exact hh.cell 0 (by simp)
  ·exact hh.cell 1 (by simp)
  ·exact hh.cell 2 (by simp)
  ·exact hh.cell 3 (by simp)) (by omega) (by omega) (by omega) (by omega) (by omega) (by omega) (by omega) al3
 have KK : Keeps μ μ4 ap wb lb := K1.trans (K2.trans ((Keeps.grow g3).trans K4))
 have w1 : obj (obj (obj ws q1 1 16 fun _ => 45) q2 1 16 fun _ => sw (-1)) s 3 4 (tf4 q1 q2) q1 = headW 1 0 16 := by
  rw [obj_out _ _ _ _ _ _ (by omega), obj_out _ _ _ _ _ _ (by omega), obj_head]
 have w2 : obj (obj (obj ws q1 1 16 fun _ => 45) q2 1 16 fun _ => sw (-1)) s 3 4 (tf4 q1 q2) q2 = headW 1 0 16 := by
  rw [obj_out _ _ _ _ _ _ (by omega), obj_head]
 have w3 : ∀ q, q < 16 → obj (obj (obj ws q1 1 16 fun _ => 45) q2 1 16 fun _ => sw (-1)) s 3 4 (tf4 q1 q2) (q2 + 1 + q) = sw (-1) := fun q hq => by
  rw [obj_out _ _ _ _ _ _ (by omega), obj_in _ _ _ _ _ _ hq]
 have tw : TW (obj (obj (obj ws q1 1 16 fun _ => 45) q2 1 16 fun _ => sw (-1)) s 3 4 (tf4 q1 q2)) s 0 0 q1 q2 8 16 :=
  ⟨obj_head _ _ _ _ _, obj_in _ _ _ _ _ 0 (by decide), obj_in _ _ _ _ _ 1 (by decide), obj_in _ _ _ _ _ 2 (by decide), obj_in _ _ _ _ _ 3 (by decide), w1, w2, by omega, by omega, by omega, by decide, by decide, by decide, by omega, by omega, by omega, by decide, by decide⟩
 have ts : TS μ4 sp hp ap wb lb (obj (obj (obj ws q1 1 16 fun _ => 45) q2 1 16 fun _ => sw (-1)) s 3 4 (tf4 q1 q2)) p3 b2 (0 + 5) s 0 0 q1 q2 8 16 (fun _ => -1) (fun _ => none) (fun _ => 0) :=
  ⟨S4, hr.keeps r5 KK, gp3, tw, TL.empty (by decide) w3, ⟨fun i hi => absurd hi (Nat.not_lt_zero _), fun i j n hi => absurd hi (Nat.not_lt_zero _)⟩,
   fun k hk hf => by
    rcases hk with hk | hk | hk
    ·exact (tk3.was k (by omega) (by omega)).2 hf
    ·exact (tk1.was k (by omega) (by omega)).2 (tk2.sub k (tk3.sub k hf))
    ·exact (tk2.was k (by omega) (by omega)).2 (tk3.sub k hf), rfl, .inl ⟨rfl, rfl⟩, r5⟩
 have t1' : aFun Tryz.prog (aCode Tryz.prog X S0 (k + 1997)) 16 [.pointer (some ⟨sp, 0, none⟩), .int .i64 16, .int .u64 (.ofNat 45)] μ = some (.tuple #[.int .u64 (.ofNat (placeW q1)), .bool true], μ1) := t1
 have hs5 : ∀ g, 40 ≤ g → aFun Tryz.prog (aCode Tryz.prog X S0 g) 17 [.int .i64 5] μ = some (.int .u64 (.ofNat 45), μ) := fun g hg => single_eq hg
 have hm1 : ∀ g, 60 ≤ g → aFun Tryz.prog (aCode Tryz.prog X S0 g) 18 [.int .i64 (-1)] μ1 = some (.int .u64 (.ofNat (sw (-1))), μ1) := fun g hg => tsmall_eq hg (by unfold Sm; omega)
 have hm0 : ∀ g, 60 ≤ g → aFun Tryz.prog (aCode Tryz.prog X S0 g) 18 [.int .i64 0] μ2 = some (.int .u64 (.ofNat (sw 0)), μ2) := fun g hg => tsmall_eq hg (by unfold Sm; omega)
 obtain ⟨m1, e1⟩ : ∃ m, m = sw (-1) := ⟨_, rfl⟩
 obtain ⟨m0, e0⟩ : ∃ m, m = sw 0 := ⟨_, rfl⟩
 rw [← e1] at hm1
 rw [← e0] at hm0 h3
 have t2' : aFun Tryz.prog (aCode Tryz.prog X S0 (k + 1995)) 16 [.pointer (some ⟨sp, 0, none⟩), .int .i64 16, .int .u64 (.ofNat m1)] μ1 = some (.tuple #[.int .u64 (.ofNat (placeW q2)), .bool true], μ2) := by rw [e1]; exact t2
 have t4' : aFun Tryz.prog (aCode Tryz.prog X S0 (k + 1993)) 19 [.pointer (some ⟨sp, 0, none⟩), .int .i64 3, .slice (some ⟨μ2.next, 0, none⟩) 4 8] μ3 = some (.tuple #[.int .u64 (.ofNat (placeW s)), .bool true], μ4) := t4
 have hbs : ∀ (ρ : Operand → Value) (a b c d : Operand), ρ a = .int .u64 (.ofNat m0) → ρ b = .int .u64 (.ofNat m0) → ρ c = .int .u64 (.ofNat (placeW q1)) → ρ d = .int .u64 (.ofNat (placeW q2)) → aBuildSlice Tryz.prog ρ 81 4 #[(0, a), (1, b), (2, c), (3, d)] = some (.cells 4 27 #[.int .u64 (.ofNat m0), .int .u64 (.ofNat m0), .int .u64 (.ofNat (placeW q1)), .int .u64 (.ofNat (placeW q2))] .e 0 0 false false, fun id => .slice (some ⟨id, 0, none⟩) 4 8) := fun ρ a b c d h1 h2 h3 h4 => bs68_4 ρ a b c d _ _ _ _ h1 h2 h3 h4
 subst hs
 refine fun_enter Tryz.func6 rfl rfl (Nat.le_of_ble_eq_true rfl) ?_
 simp only [T.lay, Nat.zero_add, Tryz.ntmps6, Nat.reduceAdd]
 repeat (first | refine code_seq ?_ | ((first | (refine code_region ?_ ?_; (focus rfl)) | (refine code_guards (gs := ?_) ?_ ?_; rotate_left; (focus rfl))); simp only [run1, run2, wanted, go_sem, Nat.reduceLT, Nat.reduceAdd, Nat.reduceEqDiff, reduceIte, reduceCtorEq, Nat.add_eq, Nat.reduceLeDiff, gg17, hs5, gg16, t1', gg18, hm1, t2', hm0, hbs, h3.symm, gg19, t4']) | (refine code_cond_true ?_ ?_; (focus (simp only [aev, regAt_set, Nat.reduceEqDiff, reduceIte, Nat.add_eq, Nat.reduceLeDiff, gg17, hs5, gg16, t1', gg18, hm1, t2', hm0, hbs, h3.symm, gg19, t4']; done))) | (refine code_cond_false ?_ ?_; (focus (simp only [aev, regAt_set, Nat.reduceEqDiff, reduceIte, Nat.add_eq, Nat.reduceLeDiff, gg17, hs5, gg16, t1', gg18, hm1, t2', hm0, hbs, h3.symm, gg19, t4']; done))) | ((first | refine code_skip ?_ | refine code_label ?_ | refine code_exit ?_); try simp only [then_exit, then_normal, blockC, Nat.reduceEqDiff, reduceIte]) | refine code_block ?_)
 refine code_ret ?_
 refine ⟨rfl, _, ?_, rfl, KK, _, p3, b2, q1, q2, y1.1, by omega, ts⟩
 simp only [aResults, Tryz.results6, aRes, regAt_set, Nat.reduceEqDiff, reduceIte]
end
noncomputable section
def mkE : Nat → List (Int × Int) → List (Value × Value × Nat)
 | _, [] => []
 | j, (n, v) :: l => (.int .i64 n, .int .i64 v, j) :: mkE (j + 1) l
theorem mkE_length : ∀ (l : List (Int × Int)) (j : Nat), (mkE j l).length = l.length
 | [], _ => rfl
 | (n, v) :: l, j => by simp [mkE, mkE_length l (j + 1)]
theorem mkE_app : ∀ (l : List (Int × Int)) (j : Nat) (n v : Int), mkE j (l ++ [(n, v)]) = mkE j l ++ [(.int .i64 n, .int .i64 v, j + l.length)]
 | [], j, n, v => rfl
 | (m, u) :: l, j, n, v => by
   show _ :: mkE (j + 1) (l ++ [(n, v)]) = _
   rw [mkE_app l (j + 1) n v]
   show _ :: (mkE (j + 1) l ++ [(.int .i64 n, .int .i64 v, j + 1 + l.length)]) = _ :: (mkE (j + 1) l ++ [(.int .i64 n, .int .i64 v, j + (l.length + 1))])
   rw [show j + 1 + l.length = j + (l.length + 1) from by omega]
theorem mkE_born : ∀ (l : List (Int × Int)) (j : Nat), (mkE j l).map (·.2.2) = List.range' j l.length
 | [], _ => rfl
 | (n, v) :: l, j => by
   show j :: (mkE (j + 1) l).map (·.2.2) = _
   rw [mkE_born l (j + 1)]
   rfl
theorem mkE_mem {l : List (Int × Int)} {key v : Value} {b : Nat} : ∀ {j : Nat}, (key, v, b) ∈ mkE j l → (∃ n u, key = .int .i64 n ∧ v = .int .i64 u ∧ (n, u) ∈ l) ∧ b < j + l.length := by
 induction l with
 | nil => intro j h; cases h
 | cons x l ih =>
   intro j h
   obtain ⟨n, u⟩ := x
   rcases List.mem_cons.1 h with e | h
   ·cases e
    exact ⟨⟨n, u, rfl, rfl, List.mem_cons_self ..⟩, by simp⟩
   ·obtain ⟨⟨n', u', h1, h2, h3⟩, h4⟩ := ih h
    exact ⟨⟨n', u', h1, h2, List.mem_cons_of_mem _ h3⟩, by simp only [List.length_cons]; omega⟩
theorem skey_int (m n : Int) : skey (.int .i64 m) (.int .i64 n) = some (decide (m = n)) := rfl
theorem mfind_none {n : Int} : ∀ (l : List (Int × Int)) (j i : Nat), (∀ p ∈ l, p.1 ≠ n) → mfind (.int .i64 n) (mkE j l) i = some none
 | [], _, _, _ => rfl
 | (m, u) :: l, j, i, h => by
   unfold mkE mfind
   rw [skey_int, decide_eq_false (fun e => h (m, u) (List.mem_cons_self ..) e.symm)]
   exact mfind_none l (j + 1) _ fun p hp => h p (List.mem_cons_of_mem _ hp)
theorem mfind_some {n v : Int} {b : List (Int × Int)} : ∀ (a : List (Int × Int)) (j i : Nat), (∀ p ∈ a, p.1 ≠ n) → mfind (.int .i64 n) (mkE j (a ++ (n, v) :: b)) i = some (some (i + a.length, .int .i64 v))
 | [], j, i, _ => by
   show mfind _ (mkE j ((n, v) :: b)) i = _
   unfold mkE mfind
   rw [skey_int, decide_eq_true rfl]
   rfl
 | (m, u) :: a, j, i, h => by
   show mfind _ (mkE j ((m, u) :: (a ++ (n, v) :: b))) i = _
   unfold mkE mfind
   rw [skey_int, decide_eq_false (fun e => h (m, u) (List.mem_cons_self ..) e.symm)]
   show mfind _ _ (i + 1) = _
   rw [mfind_some a (j + 1) (i + 1) fun p hp => h p (List.mem_cons_of_mem _ hp)]
   rw [show i + 1 + a.length = i + (a.length + 1) from by omega]
   rfl
theorem mset_at {n v w : Int} {b : List (Int × Int)} : ∀ (a : List (Int × Int)) (j : Nat), mset (.int .i64 w) (mkE j (a ++ (n, v) :: b)) a.length = mkE j (a ++ (n, w) :: b)
 | [], j => rfl
 | (m, u) :: a, j => by
   show (_ :: mset _ (mkE (j + 1) (a ++ (n, v) :: b)) a.length) = _ :: mkE (j + 1) (a ++ (n, w) :: b)
   rw [mset_at a (j + 1)]
theorem split_at {n : Int} : ∀ (l : List (Int × Int)), (l.map (·.1)).Nodup → (∃ p ∈ l, p.1 = n) → ∃ a v b, l = a ++ (n, v) :: b ∧ (∀ p ∈ a, p.1 ≠ n) ∧ ∀ p ∈ b, p.1 ≠ n
 | [], _, h => by obtain ⟨p, hp, _⟩ := h; cases hp
 | (m, u) :: l, hd, h => by
   have hd' := List.nodup_cons.1 hd
   by_cases e : m = n
   ·subst e
    exact ⟨[], u, l, rfl, fun p hp => (List.not_mem_nil hp).elim, fun p hp e => hd'.1 (List.mem_map.2 ⟨p, hp, e⟩)⟩
   ·obtain ⟨p, hp, hpn⟩ := h
    rcases List.mem_cons.1 hp with rfl | hp
    ·exact absurd hpn e
    ·obtain ⟨a, v, b, rfl, h1, h2⟩ := split_at l hd'.2 ⟨p, hp, hpn⟩
     exact ⟨(m, u) :: a, v, b, rfl, fun q hq => by rcases List.mem_cons.1 hq with rfl | hq; exact e; exact h1 q hq, h2⟩
structure Sn (l : List (Int × Int)) (used cnt : Nat) (K : Nat → Option Int) (V : Nat → Nat) : Prop where
 fwd : ∀ n v, (n, v) ∈ l → Dic used K V n (sw (v - 1)) ∧ 1 ≤ v ∧ v ≤ 101 ∧ -1000 ≤ n ∧ n ≤ 1000
 bwd : ∀ n x, Dic used K V n x → ∃ v, (n, v) ∈ l
 nd : (l.map (·.1)).Nodup
 len : l.length = cnt
theorem Sn.nil (V : Nat → Nat) : Sn [] 0 0 (fun _ => none) V := ⟨fun n v h => (List.not_mem_nil h).elim, fun n x ⟨j, h, _⟩ => absurd h (Nat.not_lt_zero _), List.nodup_nil, rfl⟩
theorem Sn.add {l : List (Int × Int)} {used used' cnt : Nat} {K K' : Nat → Option Int} {V V' : Nat → Nat} (h : Sn l used cnt K V) {n i : Int} (hi : 0 ≤ i ∧ i ≤ 100) (hn : -1000 ≤ n ∧ n ≤ 1000) (hno : ∀ p ∈ l, p.1 ≠ n) (hd : ∀ m v, Dic used' K' V' m v ↔ (m = n ∧ v = sw i) ∨ Dic used K V m v) :
  Sn (l ++ [(n, i + 1)]) used' (cnt + 1) K' V' := by
 refine ⟨fun m v hm => ?_, fun m x hx => ?_, ?_, by simp [h.len]⟩
 ·rcases List.mem_append.1 hm with hm | hm
  ·obtain ⟨h1, h2⟩ := h.fwd m v hm
   exact ⟨(hd m _).2 (.inr h1), h2⟩
  ·simp only [List.mem_singleton, Prod.mk.injEq] at hm
   obtain ⟨rfl, rfl⟩ := hm
   exact ⟨(hd m _).2 (.inl ⟨rfl, by rw [show i + 1 - 1 = i from by omega]⟩), by omega, by omega, hn⟩
 ·rcases (hd m x).1 hx with ⟨rfl, _⟩ | hx
  ·exact ⟨_, List.mem_append.2 (.inr (List.mem_singleton.2 rfl))⟩
  ·obtain ⟨v, hv⟩ := h.bwd m x hx
   exact ⟨v, List.mem_append.2 (.inl hv)⟩
 ·rw [List.map_append, List.nodup_append]
  refine ⟨h.nd, by simp, fun a ha b hb => ?_⟩
  simp only [List.map_cons, List.map_nil, List.mem_singleton] at hb
  obtain ⟨p, hp, rfl⟩ := List.mem_map.1 ha
  rw [hb]
  exact hno p hp
variable [Z : Sz]
theorem Sn.put {a b : List (Int × Int)} {n v0 : Int} {used cnt j : Nat} {K : Nat → Option Int} {V : Nat → Nat} (h : Sn (a ++ (n, v0) :: b) used cnt K V) {i : Int} (hi : 0 ≤ i ∧ i ≤ 100) (hn : -1000 ≤ n ∧ n ≤ 1000) (ha : ∀ p ∈ a, p.1 ≠ n) (hb : ∀ p ∈ b, p.1 ≠ n) (hj : j < used) (hK : K j = some n) :
  Sn (a ++ (n, i + 1) :: b) used cnt K (upd V j (sw i)) := by
 have hmem : ∀ p, p.1 ≠ n → (p ∈ a ++ (n, i + 1) :: b ↔ p ∈ a ++ (n, v0) :: b) := fun p hp => by
  simp only [List.mem_append, List.mem_cons]
  constructor
  ·rintro (h | rfl | h)
   ·exact .inl h
   ·exact absurd rfl hp
   ·exact .inr (.inr h)
  ·rintro (h | rfl | h)
   ·exact .inl h
   ·exact absurd rfl hp
   ·exact .inr (.inr h)
 refine ⟨fun m v hm => ?_, fun m x hx => ?_, ?_, by rw [← h.len]; simp⟩
 ·by_cases e : m = n
  ·subst e
   have hv : v = i + 1 := by
    rcases List.mem_append.1 hm with hm | hm
    ·exact absurd rfl (ha _ hm)
    ·rcases List.mem_cons.1 hm with e | hm
     ·cases e; rfl
     ·exact absurd rfl (hb _ hm)
   subst hv
   exact ⟨⟨j, hj, hK, by rw [upd_at, show i + 1 - 1 = i from by omega]⟩, by omega, by omega, hn⟩
  ·obtain ⟨⟨j', h1, h2, h3⟩, h4⟩ := h.fwd m v ((hmem (m, v) e).1 hm)
   have hne : j' ≠ j := fun e2 => by subst e2; rw [hK] at h2; cases h2; exact e rfl
   exact ⟨⟨j', h1, h2, by rw [upd_off V _ hne]; exact h3⟩, h4⟩
 ·obtain ⟨j', h1, h2, h3⟩ := hx
  by_cases e : m = n
  ·subst e; exact ⟨i + 1, List.mem_append.2 (.inr (List.mem_cons_self ..))⟩
  ·obtain ⟨v, hv⟩ := h.bwd m _ ⟨j', h1, h2, rfl⟩
   exact ⟨v, (hmem (m, v) e).2 hv⟩
 ·have := h.nd
  simpa using this
end
noncomputable section
variable {X : FuncId → List Value → Mem → Option (Value × Mem)}
variable [Z : Sz]
theorem TS.over {μ : Mem} {sp hp ap wb lb b s tq cnt used e ix room places mi : Nat} {ob : Ob} {ws : Nat → Nat} {p : Pos} {I : Nat → Int} {K : Nat → Option Int} {V : Nat → Nat} (h : TS μ sp hp ap wb lb ws p b s tq cnt used e ix room places I K V)
  (hne : sp ≠ mi ∧ hp ≠ mi ∧ ap ≠ mi ∧ wb ≠ mi ∧ lb ≠ mi ∧ 5 ≠ mi) : TS ⟨μ.obs.set mi ob, μ.next⟩ sp hp ap wb lb ws p b s tq cnt used e ix room places I K V := by
 have hg : ∀ i, i ≠ mi → (μ.obs.set mi ob).get i = μ.obs.get i := fun i hi => by rw [T.get_set, if_neg hi]
 exact ⟨h.hs.at_ (Nat.le_refl _) (hg _ hne.1) (hg _ hne.2.1) (hg _ hne.2.2.1) (hg _ hne.2.2.2.1) (hg _ hne.2.2.2.2.1),
  ⟨h.rom.lt, fun k hk => by
   have e : (Mem.obs ⟨μ.obs.set mi ob, μ.next⟩).get 5 = μ.obs.get 5 := hg _ hne.2.2.2.2.2
   rw [← h.rom.at_ k hk]
   unfold cellsAt
   rw [e]⟩, h.gp, h.tw, h.tl, h.td, h.nf, h.ck, h.rp, h.r5⟩
structure St (μ : Mem) (sp hp ap wb lb tq mi : Nat) (l : List (Int × Int)) : Prop where
 ex : ∃ ws p b cnt used e ix room places I K V, TS μ sp hp ap wb lb ws p b 5 tq cnt used e ix room places I K V ∧ (1 ≤ b ∧ b ≤ Sz.nb) ∧ Sn l used cnt K V
 map : μ.obs.get mi = some (.map (mkE 0 l) l.length)
 ne : sp ≠ mi ∧ hp ≠ mi ∧ ap ≠ mi ∧ wb ≠ mi ∧ lb ≠ mi ∧ 5 ≠ mi
 mn : mi < μ.next
theorem St.grow {μ μ' : Mem} {sp hp ap wb lb tq mi : Nat} {l : List (Int × Int)} (h : St μ sp hp ap wb lb tq mi l) (g : Grow μ μ') : St μ' sp hp ap wb lb tq mi l := by
 obtain ⟨ws, p, b, cnt, used, e, ix, room, places, I, K, V, h1, h2, h3⟩ := h.ex
 exact ⟨⟨ws, p, b, cnt, used, e, ix, room, places, I, K, V, h1.grow g, h2, h3⟩, (g.2 _ h.mn).trans h.map, h.ne, Nat.lt_of_lt_of_le h.mn g.1⟩
theorem St.count {μ : Mem} {sp hp ap wb lb tq mi g : Nat} {l : List (Int × Int)} (hg : 3000 ≤ g) (h : St μ sp hp ap wb lb tq mi l) :
  ∃ μ2, aFun Tryz.prog (aCode Tryz.prog X S0 g) 7 [.pointer (some ⟨sp, 0, none⟩), .int .u64 (.ofNat (placeW tq))] μ = some (.tuple #[.int .i64 (.ofNat l.length), .int .i64 0], μ2) ∧ Grow μ μ2 := by
 obtain ⟨ws, p, b, cnt, used, e, ix, room, places, I, K, V, h1, h2, h3⟩ := h.ex
 obtain ⟨v, μ2, t, rfl, g2⟩ := tcount_ends (X := X) (g := g) (by omega) h1
 exact ⟨μ2, by rw [h3.len]; exact t, g2⟩
theorem St.ref {μ : Mem} {sp hp ap wb lb tq mi g : Nat} {l : List (Int × Int)} {n v : Int} (hg : 3000 ≤ g) (h : St μ sp hp ap wb lb tq mi l) (hm : (n, v) ∈ l) :
  ∃ μ2, aFun Tryz.prog (aCode Tryz.prog X S0 g) 10 [.pointer (some ⟨sp, 0, none⟩), .int .u64 (.ofNat (placeW tq)), .int .u64 (.ofNat (sw n))] μ = some (.tuple #[.int .u64 (.ofNat (sw (v - 1))), .bool true, .int .i64 0], μ2) ∧ Grow μ μ2 := by
 obtain ⟨ws, p, b, cnt, used, e, ix, room, places, I, K, V, h1, h2, h3⟩ := h.ex
 obtain ⟨⟨j, hj, hK, hV⟩, hb⟩ := h3.fwd n v hm
 have hsm : Sm n := by unfold Sm; omega
 obtain ⟨v2, μ2, t, g2, hv⟩ := ref_ends (X := X) (g := g) hg h1 (.inl ⟨n, hsm, rfl, rfl⟩)
 refine ⟨μ2, ?_, g2⟩
 rcases hv with ⟨j', n', hj', hK', hw, rfl⟩ | ⟨hno, rfl⟩
 ·obtain rfl : n = n' := sw_inj hsm (h1.tl.ksm j' n' hj' hK') hw
  rw [h1.td.uniq j' j n hj' hj hK' hK, hV] at t
  exact t
 ·exact absurd rfl (hno j n hj hK)
theorem mapput {μ : Mem} {mi : Nat} {l : List (Int × Int)} {n v : Int} (h : μ.obs.get mi = some (.map (mkE 0 l) l.length)) (hd : (l.map (·.1)).Nodup) :
  ((∀ p ∈ l, p.1 ≠ n) → aMapPut Tryz.prog μ 30 (.map (some mi)) (.int .i64 n) (.int .i64 v) = some (undef, ⟨μ.obs.set mi (.map (mkE 0 (l ++ [(n, v)])) (l ++ [(n, v)]).length), μ.next⟩)) ∧
  (∀ a v0 b, l = a ++ (n, v0) :: b → (∀ p ∈ a, p.1 ≠ n) → aMapPut Tryz.prog μ 30 (.map (some mi)) (.int .i64 n) (.int .i64 v) = some (undef, ⟨μ.obs.set mi (.map (mkE 0 (a ++ (n, v) :: b)) (a ++ (n, v) :: b).length), μ.next⟩)) := by
 refine ⟨fun hno => ?_, fun a v0 b e ha => ?_⟩
 ·unfold aMapPut
  simp only [Tryz.underlying30, Tryz.underlying3, keyOk, h, mfind_none l 0 0 hno]
  rw [mkE_app, List.length_append]
  simp
 ·subst e
  unfold aMapPut
  simp only [Tryz.underlying30, Tryz.underlying3, keyOk, h, mfind_some a 0 0 ha, Nat.zero_add]
  rw [mset_at]
  simp
set_option maxHeartbeats 4000000 in
theorem St.set {μ : Mem} {sp hp ap wb lb tq mi g i : Nat} {l : List (Int × Int)} {y : Int} (hg : 6000 ≤ g) (h : St μ sp hp ap wb lb tq mi l) (hl : l.length < 100) (hy : -1000 ≤ y ∧ y ≤ 1000) (hi : i ≤ 100) :
  ∃ r μ2, aFun Tryz.prog (aCode Tryz.prog X S0 g) 9 [.pointer (some ⟨sp, 0, none⟩), .int .u64 (.ofNat (placeW tq)), .int .u64 (.ofNat (sw y)), .int .u64 (.ofNat (sw (i : Int)))] μ = some (.tuple #[.bool r, .int .i64 0], μ2) ∧ Keeps μ μ2 ap wb lb ∧
   (r = false → St μ2 sp hp ap wb lb tq mi l) ∧ (r = true → ∃ es c l', aMapPut Tryz.prog μ2 30 (.map (some mi)) (.int .i64 y) (.int .i64 ((i : Int) + 1)) = some (undef, ⟨μ2.obs.set mi (.map es c), μ2.next⟩) ∧ St ⟨μ2.obs.set mi (.map es c), μ2.next⟩ sp hp ap wb lb tq mi l' ∧ l'.length ≤ l.length + 1) := by
 obtain ⟨ws, p, b, cnt, used, e, ix, room, places, I, K, V, h1, h2, h3⟩ := h.ex
 have hsm : Sm y := by unfold Sm; omega
 have hkm : ∀ {μ2 : Mem}, Keeps μ μ2 ap wb lb → μ2.obs.get mi = some (.map (mkE 0 l) l.length) ∧ mi < μ2.next := fun {μ2} k =>
  ⟨(k.2 mi h.mn (Ne.symm h.ne.2.2.1) (Ne.symm h.ne.2.2.2.1) (Ne.symm h.ne.2.2.2.2.1)).trans h.map, Nat.lt_of_lt_of_le h.mn k.1⟩
 have hi2 : (0 : Int) ≤ (i : Int) ∧ (i : Int) ≤ 100 := by omega
 have mk : ∀ {μ2 : Mem} {l' : List (Int × Int)}, Keeps μ μ2 ap wb lb → (∃ ws p b cnt used e ix room places I K V, TS μ2 sp hp ap wb lb ws p b 5 tq cnt used e ix room places I K V ∧ (1 ≤ b ∧ b ≤ Sz.nb) ∧ Sn l' used cnt K V) →
   St ⟨μ2.obs.set mi (.map (mkE 0 l') l'.length), μ2.next⟩ sp hp ap wb lb tq mi l' := fun {μ2 l'} k ⟨ws, p, b, cnt, used, e, ix, room, places, I, K, V, a1, a2, a3⟩ =>
  ⟨⟨ws, p, b, cnt, used, e, ix, room, places, I, K, V, a1.over h.ne, a2, a3⟩, by show T.get _ _ = _; rw [T.get_set, if_pos rfl], h.ne, (hkm k).2⟩
 by_cases hin : ∃ p ∈ l, p.1 = y
 ·obtain ⟨a, v0, b', rfl, ha, hb⟩ := split_at l h3.nd hin
  obtain ⟨⟨j, hj, hK, _⟩, _⟩ := h3.fwd y v0 (List.mem_append.2 (.inr (List.mem_cons_self ..)))
  obtain ⟨v, μ2, t, rfl, k2, ws', ts⟩ := set_upd (X := X) (g := g) (x := sw (i : Int)) hg h1 hj hK
  refine ⟨true, μ2, t, k2, fun e => (Bool.noConfusion e), fun _ => ⟨_, _, a ++ (y, (i : Int) + 1) :: b', (mapput (hkm k2).1 h3.nd).2 a v0 b' rfl ha, mk k2 ⟨ws', p, b, cnt, used, e, ix, room, places, I, K, _, ts, h2, h3.put hi2 hy ha hb hj hK⟩, by simp⟩⟩
 ·have hno : ∀ p ∈ l, p.1 ≠ y := fun p hp e => hin ⟨p, hp, e⟩
  have hne : ∀ j n, j < used → K j = some n → sw y ≠ sw n := fun j n hj hK e2 => by
   obtain rfl : y = n := sw_inj hsm (h1.tl.ksm j n hj hK) e2
   obtain ⟨v, hv⟩ := h3.bwd y _ ⟨j, hj, hK, rfl⟩
   exact hno _ hv rfl
  obtain ⟨v, μ2, t, k2, ⟨rfl, hf⟩ | ⟨rfl, ws', p', b', ts, b1, b2⟩⟩ := set_ends (X := X) (g := g) (x := sw (i : Int)) hg h1 (.inl ⟨y, hsm, rfl, rfl⟩) hne (by rw [← h3.len]; exact hl) (by decide) h2.1 h2.2 (fun q hq e2 => by have := sw_mod y; unfold placeW at e2; omega)
  ·obtain ⟨ws', p', b', used', e', ix', room', places', I', K', V', R⟩ := hf y hsm rfl
   refine ⟨true, μ2, t, k2, fun e => (Bool.noConfusion e), fun _ => ⟨_, _, l ++ [(y, (i : Int) + 1)], (mapput (hkm k2).1 h3.nd).1 hno, mk k2 ⟨ws', p', b', cnt + 1, used', e', ix', room', places', I', K', V', R.ts, ⟨R.gr.1, Nat.le_trans R.gr.2 h2.2⟩, h3.add hi2 hy hno R.dic⟩, by simp⟩⟩
  ·exact ⟨false, μ2, t, k2, fun _ => ⟨⟨ws', p', b', cnt, used, e, ix, room, places, I, K, V, ts, ⟨b1, Nat.le_trans b2 h2.2⟩, h3⟩, (hkm k2).1, h.ne, (hkm k2).2⟩, fun e => (Bool.noConfusion e)⟩
end
noncomputable section
variable {X : FuncId → List Value → Mem → Option (Value × Mem)}
variable [Z : Sz]
def Kp (μ μ' : Mem) (ap wb lb lf : Nat) : Prop := μ.next ≤ μ'.next ∧ ∀ i, i < μ.next → i ≠ ap → i ≠ wb → i ≠ lb → i ≠ lf → μ'.obs.get i = μ.obs.get i
theorem Kp.refl (μ : Mem) (ap wb lb lf : Nat) : Kp μ μ ap wb lb lf := ⟨Nat.le_refl _, fun _ _ _ _ _ _ => rfl⟩
theorem Kp.trans {a b c : Mem} {ap wb lb lf : Nat} (h : Kp a b ap wb lb lf) (g : Kp b c ap wb lb lf) : Kp a c ap wb lb lf := ⟨Nat.le_trans h.1 g.1, fun i hi h1 h2 h3 h4 => (g.2 i (Nat.lt_of_lt_of_le hi h.1) h1 h2 h3 h4).trans (h.2 i hi h1 h2 h3 h4)⟩
theorem Kp.keeps {a b : Mem} {ap wb lb lf : Nat} (h : Keeps a b ap wb lb) : Kp a b ap wb lb lf := ⟨h.1, fun i hi h1 h2 h3 _ => h.2 i hi h1 h2 h3⟩
theorem Kp.grow {a b : Mem} {ap wb lb lf : Nat} (h : Grow a b) : Kp a b ap wb lb lf := ⟨h.1, fun i hi _ _ _ _ => h.2 i hi⟩
theorem Kp.set (a : Mem) (ap wb lb lf : Nat) (ob : Ob) : Kp a ⟨a.obs.set lf ob, a.next⟩ ap wb lb lf := ⟨Nat.le_refl _, fun i _ _ _ _ h => by show T.get _ _ = _; rw [T.get_set, if_neg h]⟩
theorem St.len {μ : Mem} {sp hp ap wb lb tq mi : Nat} {l : List (Int × Int)} (h : St μ sp hp ap wb lb tq mi l) : aMapLen μ (.map (some mi)) = some (.int .i64 (.ofNat l.length)) := by
 unfold aMapLen
 simp only [h.map, mkE_length]
set_option maxRecDepth 20000 in
set_option maxHeartbeats 16000000 in
theorem key_loop {sp hp ap wb lb tq mi n ca gi go : Nat} {ad : Option Addr} {gv : Nat → Int} {μ0 : Mem} (hn : n ≤ 100)
  (hgo : ∀ k, k < n → ad = some ⟨gi, go, none⟩ ∧ cellsAt μ0 gi (go + k) = some (.int .i64 (gv k))) (hgi : gi < μ0.next) (hg1 : gi ≠ ap ∧ gi ≠ wb ∧ gi ≠ lb ∧ gi ≠ mi) :
  ∀ (m x i : Nat) (tm : T Value) (μ : Mem) (l : List (Int × Int)), i + m = n → St μ sp hp ap wb lb tq mi l → l.length ≤ i → Kp μ0 μ ap wb lb mi →
   regAt tm 5 = .pointer (some ⟨sp, 0, none⟩) → regAt tm 6 = .int .u64 (.ofNat (placeW tq)) → regAt tm 8 = .map (some mi) → regAt tm 55 = .slice ad n ca → regAt tm 56 = .int .i64 (.ofNat n) → regAt tm 57 = .int .i64 (.ofNat i) →
   EndsC (aCode Tryz.prog X S0 (x + m + 8000) (.loop (loopBody Tryz.f3 0)) ⟨154, tm, [], none⟩ μ) fun a r μ' => a = .exit 0 ∧ ∃ l', St μ' sp hp ap wb lb tq mi l' ∧ Kp μ0 μ' ap wb lb mi ∧ ∃ tm', r = ⟨154, tm', [], none⟩ ∧
    regAt tm' 5 = .pointer (some ⟨sp, 0, none⟩) ∧ regAt tm' 6 = .int .u64 (.ofNat (placeW tq)) ∧ regAt tm' 8 = .map (some mi) := by
 intro m
 induction m with
 | zero =>
   intro x i tm μ l hi P hl KP r5 r6 r8 r55 r56 r57
   obtain rfl : i = n := hi
   have e1 : ilt (.ofNat i) (.ofNat i) = false := (ilt_nat i i).trans (decide_eq_false (by omega))
   refine code_loop ?_
   repeat (first | refine code_seq ?_ | ((first | (refine code_region ?_ ?_; (focus rfl)) | (refine code_guards (gs := ?_) ?_ ?_; rotate_left; (focus rfl))); simp only [run1, run2, wanted, go_sem, Nat.reduceLT, Nat.reduceAdd, Nat.reduceEqDiff, reduceIte, reduceCtorEq, r56, r57, e1]) | (refine code_cond_true ?_ ?_; (focus (simp only [aev, regAt_set, Nat.reduceEqDiff, reduceIte, r56, r57, e1]; done))) | (refine code_cond_false ?_ ?_; (focus (simp only [aev, regAt_set, Nat.reduceEqDiff, reduceIte, r56, r57, e1]; done))) | ((first | refine code_skip ?_ | refine code_label ?_ | refine code_exit ?_); try simp only [then_exit, then_normal, blockC, Nat.reduceEqDiff, reduceIte]) | refine code_block ?_)
   refine ⟨trivial, l, P, KP, _, rfl, ?_, ?_, ?_⟩ <;> simp only [regAt_set, Nat.reduceEqDiff, reduceIte, r5, r6, r8]
 | succ m ih =>
   intro x i tm μ l hi P hl KP r5 r6 r8 r55 r56 r57
   have e1 : ilt (.ofNat i) (.ofNat n) = true := (ilt_nat i n).trans (decide_eq_true (by omega))
   have e9 : qwrap .i64 (Int.add (.ofNat i) 1) = .ofNat (i + 1) := add_nat i 1 (by omega)
   obtain ⟨rfl, hgc⟩ := hgo i (by omega)
   have hgc : cellsAt μ gi (go + i) = some (.int .i64 (gv i)) := by rw [← hgc]; unfold cellsAt; rw [KP.2 gi hgi hg1.1 hg1.2.1 hg1.2.2.1 hg1.2.2.2]
   have hix : ∀ (ρ : Operand → Value) (a b : Operand), ρ a = .slice (some ⟨gi, go, none⟩) n ca → ρ b = .int .i64 (.ofNat i) → aIndexAddr Tryz.prog ρ 22 a b = some (.pointer (some ⟨gi, go + i, none⟩)) := fun ρ a b h1 h2 => indexAddr_slice (m := i) Tryz.underlying22 i3 rfl h1 h2 (by omega)
   obtain ⟨y, hy⟩ : ∃ y, y = gv i := ⟨_, rfl⟩
   rw [← hy] at hgc
   refine code_loop ?_
   rw [show x + (m + 1) + 7999 = x + m + 8000 from by omega]
   by_cases h0 : y < -1000
   ·have e2 : ilt y (-1000) = true := by rw [ilt_eq]; exact decide_eq_true h0
    repeat (first | refine code_seq ?_ | ((first | (refine code_region ?_ ?_; (focus rfl)) | (refine code_guards (gs := ?_) ?_ ?_; rotate_left; (focus rfl))); simp only [run1, run2, wanted, go_sem, Nat.reduceLT, Nat.reduceAdd, Nat.reduceEqDiff, reduceIte, reduceCtorEq, r55, r56, r57, e1, hix, ld3, hgc, e2, e9]) | (refine code_cond_true ?_ ?_; (focus (simp only [aev, regAt_set, Nat.reduceEqDiff, reduceIte, r55, r56, r57, e1, hix, ld3, hgc, e2, e9]; done))) | (refine code_cond_false ?_ ?_; (focus (simp only [aev, regAt_set, Nat.reduceEqDiff, reduceIte, r55, r56, r57, e1, hix, ld3, hgc, e2, e9]; done))) | ((first | refine code_skip ?_ | refine code_label ?_ | refine code_exit ?_); try simp only [then_exit, then_normal, blockC, Nat.reduceEqDiff, reduceIte]) | refine code_block ?_)
    refine ih x (i + 1) _ μ l (by omega) P (by omega) KP ?_ ?_ ?_ ?_ ?_ ?_ <;> simp only [regAt_set, Nat.reduceEqDiff, reduceIte, r5, r6, r8, r55, r56]
   ·have e2 : ilt y (-1000) = false := by rw [ilt_eq]; exact decide_eq_false h0
    by_cases h1 : 1000 < y
    ·have e3 : ilt 1000 y = true := by rw [ilt_eq]; exact decide_eq_true h1
     repeat (first | refine code_seq ?_ | ((first | (refine code_region ?_ ?_; (focus rfl)) | (refine code_guards (gs := ?_) ?_ ?_; rotate_left; (focus rfl))); simp only [run1, run2, wanted, go_sem, Nat.reduceLT, Nat.reduceAdd, Nat.reduceEqDiff, reduceIte, reduceCtorEq, r55, r56, r57, e1, hix, ld3, hgc, e2, e3, e9]) | (refine code_cond_true ?_ ?_; (focus (simp only [aev, regAt_set, Nat.reduceEqDiff, reduceIte, r55, r56, r57, e1, hix, ld3, hgc, e2, e3, e9]; done))) | (refine code_cond_false ?_ ?_; (focus (simp only [aev, regAt_set, Nat.reduceEqDiff, reduceIte, r55, r56, r57, e1, hix, ld3, hgc, e2, e3, e9]; done))) | ((first | refine code_skip ?_ | refine code_label ?_ | refine code_exit ?_); try simp only [then_exit, then_normal, blockC, Nat.reduceEqDiff, reduceIte]) | refine code_block ?_)
     refine ih x (i + 1) _ μ l (by omega) P (by omega) KP ?_ ?_ ?_ ?_ ?_ ?_ <;> simp only [regAt_set, Nat.reduceEqDiff, reduceIte, r5, r6, r8, r55, r56]
    ·have e3 : ilt 1000 y = false := by rw [ilt_eq]; exact decide_eq_false h1
     have e3' : -1000 ≤ y ∧ y ≤ 1000 := ⟨by omega, by omega⟩
     obtain ⟨μ1, t1, g1⟩ := P.count (X := X) (g := x + m + 7992) (by omega)
     have P1 := P.grow g1
     have t2 := rsmall_eq (X := X) (g := x + m + 7991) (n := y) (μ := μ1) (by omega) (by unfold Sm; omega)
     have t3 := rsmall_eq (X := X) (g := x + m + 7990) (n := .ofNat i) (μ := μ1) (by omega) (by unfold Sm; show _ ≤ (i : Int) ∧ (i : Int) < _; omega)
     obtain ⟨r, μ2, t4, k2, hF, hT⟩ := P1.set (X := X) (g := x + m + 7989) (i := i) (by omega) (by omega) e3' (by omega)
     have t4 : aFun Tryz.prog (aCode Tryz.prog X S0 (x + m + 7989)) 9 [.pointer (some ⟨sp, 0, none⟩), .int .u64 (.ofNat (placeW tq)), .int .u64 (.ofNat (sw y)), .int .u64 (.ofNat (sw (.ofNat i)))] μ1 = some (.tuple #[.bool r, .int .i64 0], μ2) := t4
     obtain ⟨zw, hzw⟩ : ∃ zw, zw = sw y := ⟨_, rfl⟩
     obtain ⟨xw, hxw⟩ : ∃ xw, xw = sw (.ofNat i) := ⟨_, rfl⟩
     rw [← hzw] at t2 t4
     rw [← hxw] at t3 t4
     have e0 : ieq 0 0 = true := rfl
     have KP2 : Kp μ0 μ2 ap wb lb mi := KP.trans ((Kp.grow g1).trans (Kp.keeps k2))
     cases r with
     | true =>
       obtain ⟨es, c, l', t5, P3, hl3⟩ := hT rfl
       have t5 : aMapPut Tryz.prog μ2 30 (.map (some mi)) (.int .i64 y) (.int .i64 (.ofNat (i + 1))) = some (undef, ⟨μ2.obs.set mi (.map es c), μ2.next⟩) := t5
       have KP3 : Kp μ0 ⟨μ2.obs.set mi (.map es c), μ2.next⟩ ap wb lb mi := KP2.trans (Kp.set _ _ _ _ _ _)
       obtain ⟨μ3, h3⟩ : ∃ M : Mem, M = ⟨μ2.obs.set mi (.map es c), μ2.next⟩ := ⟨_, rfl⟩
       rw [← h3] at t5 P3 KP3
       obtain ⟨μ4, t6, g4⟩ := P3.count (X := X) (g := x + m + 7987) (by omega)
       have P4 := P3.grow g4
       have hml := P4.len
       have e4 : ieq (.ofNat l'.length) (.ofNat l'.length) = true := (ieq_nat _ _).trans (decide_eq_true rfl)
       have KP4 := KP3.trans (Kp.grow (ap := ap) (wb := wb) (lb := lb) (lf := mi) g4)
       repeat (first | refine code_seq ?_ | ((first | (refine code_region ?_ ?_; (focus rfl)) | (refine code_guards (gs := ?_) ?_ ?_; rotate_left; (focus rfl))); simp only [run1, run2, wanted, go_sem, Nat.reduceLT, Nat.reduceAdd, Nat.reduceEqDiff, reduceIte, reduceCtorEq, r5, r6, r8, r55, r56, r57, e1, hix, ld3, hgc, e2, e3, e9, gg7, t1, gg8, t2, t3, gg9, t4, t5, t6, hml, e0, e4, Tryz.underlying30, aBuiltin, aLen]) | (refine code_cond_true ?_ ?_; (focus (simp only [aev, regAt_set, Nat.reduceEqDiff, reduceIte, r5, r6, r8, r55, r56, r57, e1, hix, ld3, hgc, e2, e3, e9, gg7, t1, gg8, t2, t3, gg9, t4, t5, t6, hml, e0, e4, Tryz.underlying30, aBuiltin, aLen]; done))) | (refine code_cond_false ?_ ?_; (focus (simp only [aev, regAt_set, Nat.reduceEqDiff, reduceIte, r5, r6, r8, r55, r56, r57, e1, hix, ld3, hgc, e2, e3, e9, gg7, t1, gg8, t2, t3, gg9, t4, t5, t6, hml, e0, e4, Tryz.underlying30, aBuiltin, aLen]; done))) | ((first | refine code_skip ?_ | refine code_label ?_ | refine code_exit ?_); try simp only [then_exit, then_normal, blockC, Nat.reduceEqDiff, reduceIte]) | refine code_block ?_)
       refine ih x (i + 1) _ μ4 l' (by omega) P4 (by omega) KP4 ?_ ?_ ?_ ?_ ?_ ?_ <;> simp only [regAt_set, Nat.reduceEqDiff, reduceIte, r5, r6, r8, r55, r56]
     | false =>
       have P3 := hF rfl
       obtain ⟨μ4, t6, g4⟩ := P3.count (X := X) (g := x + m + 7987) (by omega)
       have P4 := P3.grow g4
       have hml := P4.len
       have e4 : ieq (.ofNat l.length) (.ofNat l.length) = true := (ieq_nat _ _).trans (decide_eq_true rfl)
       have KP4 := KP2.trans (Kp.grow (ap := ap) (wb := wb) (lb := lb) (lf := mi) g4)
       repeat (first | refine code_seq ?_ | ((first | (refine code_region ?_ ?_; (focus rfl)) | (refine code_guards (gs := ?_) ?_ ?_; rotate_left; (focus rfl))); simp only [run1, run2, wanted, go_sem, Nat.reduceLT, Nat.reduceAdd, Nat.reduceEqDiff, reduceIte, reduceCtorEq, r5, r6, r8, r55, r56, r57, e1, hix, ld3, hgc, e2, e3, e9, gg7, t1, gg8, t2, t3, gg9, t4, t6, hml, e0, e4, Tryz.underlying30, aBuiltin, aLen]) | (refine code_cond_true ?_ ?_; (focus (simp only [aev, regAt_set, Nat.reduceEqDiff, reduceIte, r5, r6, r8, r55, r56, r57, e1, hix, ld3, hgc, e2, e3, e9, gg7, t1, gg8, t2, t3, gg9, t4, t6, hml, e0, e4, Tryz.underlying30, aBuiltin, aLen]; done))) | (refine code_cond_false ?_ ?_; (focus (simp only [aev, regAt_set, Nat.reduceEqDiff, reduceIte, r5, r6, r8, r55, r56, r57, e1, hix, ld3, hgc, e2, e3, e9, gg7, t1, gg8, t2, t3, gg9, t4, t6, hml, e0, e4, Tryz.underlying30, aBuiltin, aLen]; done))) | ((first | refine code_skip ?_ | refine code_label ?_ | refine code_exit ?_); try simp only [then_exit, then_normal, blockC, Nat.reduceEqDiff, reduceIte]) | refine code_block ?_)
       refine ih x (i + 1) _ μ4 l (by omega) P4 (by omega) KP4 ?_ ?_ ?_ ?_ ?_ ?_ <;> simp only [regAt_set, Nat.reduceEqDiff, reduceIte, r5, r6, r8, r55, r56]
end
noncomputable section
variable {X : FuncId → List Value → Mem → Option (Value × Mem)}
variable [Z : Sz]
noncomputable def lawBody : Code := match Tryz.f3.body with
 | some c => c
 | none => .skip
structure Rd (sp hp ap wb lb tq mi it : Nat) (l : List (Int × Int)) (μ0 : Mem) (r : Rg) (μ : Mem) : Prop where
 rg : ∃ tm, r = ⟨154, tm, [], none⟩ ∧ regAt tm 5 = .pointer (some ⟨sp, 0, none⟩) ∧ regAt tm 6 = .int .u64 (.ofNat (placeW tq)) ∧ regAt tm 122 = .pointer (some ⟨it, 0, none⟩)
 st : St μ sp hp ap wb lb tq mi l
 kp : Kp μ0 μ ap wb lb mi
set_option maxRecDepth 20000 in
set_option maxHeartbeats 16000000 in
theorem map_loop {sp hp ap wb lb tq mi it : Nat} {l : List (Int × Int)} {μ0 : Mem} (hb : ∀ n v, (n, v) ∈ l → 1 ≤ v ∧ v ≤ 101 ∧ -1000 ≤ n ∧ n ≤ 1000) {l5 : List Oper} {body : Code}
  (hl5 : l5 = (match dropC 8 lawBody with | .seq (.seq _ (.block _ (.loop (.seq _ (.seq _ (.block _ (.seq (.region _ ops _) _))))))) _ => ops.toList.tail | _ => [])) (hbd : body = (match dropC 8 lawBody with | .seq (.seq _ (.block _ (.loop (.seq _ (.seq _ (.block _ (.seq _ b))))))) _ => b | _ => .skip)) :
  MapLoop Tryz.prog X S0 9000 (Rd sp hp ap wb lb tq mi it l μ0) (mkE 0 l) l.length mi it 122 123 124 125 3 l5 body := by
 refine ⟨fun r μ h => ?_, fun r μ v b h => ?_, fun r μ key v b h hm => ?_⟩
 ·obtain ⟨tm, rfl, _, _, h4⟩ := h.rg
  exact ⟨h.st.map, h4⟩
 ·obtain ⟨tm, rfl, h5, h6, h4⟩ := h.rg
  refine ⟨⟨154, tm.set 123 v, [], none⟩, ⟨154, (tm.set 123 v).set 124 (.bool b), [], none⟩, by rw [aput_mk, if_pos (by decide)], by simp only [regAt_set, reduceIte], by rw [aput_mk, if_pos (by decide)], by simp only [regAt_set, reduceIte], ⟨⟨_, rfl, ?_, ?_, ?_⟩, h.st, h.kp⟩⟩ <;> simp only [regAt_set, Nat.reduceEqDiff, reduceIte, h5, h6, h4]
 ·obtain ⟨tm, rfl, h5, h6, h4⟩ := h.rg
  obtain ⟨⟨n, u, rfl, rfl, hnu⟩, _⟩ := mkE_mem hm
  have hbb := hb n u hnu
  refine ⟨⟨154, tm.set 125 (.tuple #[.int .i64 n, .int .i64 u]), [], none⟩, by rw [aput_mk, if_pos (by decide)], ?_⟩
  subst hl5 hbd
  have e1 : qwrap .i64 (Int.sub u 1) = u - 1 := wrap_i64 _ (by show _ ≤ u - 1; omega) (by show u - 1 < _; omega)
  have t1 := rsmall_eq (X := X) (g := 8998) (n := n) (μ := μ) (by decide) (by unfold Sm; omega)
  have t2 := rsmall_eq (X := X) (g := 8997) (n := u - 1) (μ := μ) (by decide) (by unfold Sm; omega)
  obtain ⟨μ3, t3, g3⟩ := h.st.ref (X := X) (g := 8996) (by decide) hnu
  show Go.Proofs.YthpcpheejblbhaaGreatDoor.Ev.Ends (run1 _ _ _ _ [_, _, _, _] _ _) (fun r2 μ2 => EndsC (aCode _ _ _ _ (.seq _ _) _ _) _)
  simp only [run1, go_sem, Nat.reduceLT, Nat.reduceAdd, Nat.reduceEqDiff, reduceIte, reduceCtorEq]
  obtain ⟨zw, hzw⟩ : ∃ zw, zw = sw n := ⟨_, rfl⟩
  obtain ⟨z, hz⟩ : ∃ z, z = u - 1 := ⟨_, rfl⟩
  rw [← hz] at e1 t2 t3
  obtain ⟨xw, hxw⟩ : ∃ xw, xw = sw z := ⟨_, rfl⟩
  rw [← hzw] at t1 t3
  rw [← hxw] at t2 t3
  have e2 : ieq (.ofNat xw) (.ofNat xw) = true := (ieq_nat _ _).trans (decide_eq_true rfl)
  repeat (first | refine code_seq ?_ | ((first | (refine code_region ?_ ?_; (focus rfl)) | (refine code_guards (gs := ?_) ?_ ?_; rotate_left; (focus rfl))); simp only [run1, run2, wanted, go_sem, Nat.reduceLT, Nat.reduceAdd, Nat.reduceEqDiff, reduceIte, reduceCtorEq, h5, h6, e1, e2, gg8, t1, t2, gg10, t3]) | (refine code_cond_true ?_ ?_; (focus (simp only [aev, regAt_set, Nat.reduceEqDiff, reduceIte, h5, h6, e1, e2, gg8, t1, t2, gg10, t3]; done))) | (refine code_cond_false ?_ ?_; (focus (simp only [aev, regAt_set, Nat.reduceEqDiff, reduceIte, h5, h6, e1, e2, gg8, t1, t2, gg10, t3]; done))) | ((first | refine code_skip ?_ | refine code_label ?_ | refine code_exit ?_); try simp only [then_exit, then_normal, blockC, Nat.reduceEqDiff, reduceIte]) | refine code_block ?_)
  refine ⟨.inl trivial, ⟨⟨_, rfl, ?_, ?_, ?_⟩, h.st.grow g3, h.kp.trans (Kp.grow g3)⟩⟩ <;> simp only [regAt_set, Nat.reduceEqDiff, reduceIte, h5, h6, h4]
set_option maxRecDepth 20000 in
set_option maxHeartbeats 16000000 in
theorem tail_snd (hN : Named Tryz.prog) (hX : XOk Tryz.prog X) (hm : Tryz.prog.follows .mixedOrders = true) (hS : SumsOk Tryz.prog S0) {sp hp ap wb lb tq mi : Nat} {l : List (Int × Int)} {μ : Mem} {tm : T Value} (hb : ∀ n v, (n, v) ∈ l → 1 ≤ v ∧ v ≤ 101 ∧ -1000 ≤ n ∧ n ≤ 1000) (P : St μ sp hp ap wb lb tq mi l)
  (r5 : regAt tm 5 = .pointer (some ⟨sp, 0, none⟩)) (r6 : regAt tm 6 = .int .u64 (.ofNat (placeW tq))) (r8 : regAt tm 8 = .map (some mi)) :
  Snd Tryz.prog (dropC 8 lawBody) ⟨154, tm, [], none⟩ μ (retQ Tryz.prog Tryz.f3 fun v μ' => v = .bool true ∧ Kp μ μ' ap wb lb mi) := by
 refine snd_maprange hN hX hm hS (k := 9000) (k2 := 100) (Inv := Rd sp hp ap wb lb tq mi μ.next l μ) (mi := mi) (t := 30) Tryz.underlying30 ?_ P.map (fun x hx => ?_) ?_ (map_loop hb rfl rfl) rfl rfl rfl rfl rfl rfl rfl rfl rfl rfl rfl rfl rfl rfl rfl rfl ?_ fun r μ' h => ?_
 ·simp only [aev, regAt_set, r8]
 ·obtain ⟨key, v, b⟩ := x
  have := (mkE_mem hx).2
  show b < l.length
  omega
 ·rw [mkE_born]
  exact List.nodup_range'
 ·refine ⟨⟨154, tm.set 121 (.map (some mi)), [], none⟩, ⟨154, (tm.set 121 (.map (some mi))).set 122 (.pointer (some ⟨μ.next, 0, none⟩)), [], none⟩, by rw [aput_mk, if_pos (by decide)], by simp only [regAt_set, reduceIte], by rw [aput_mk, if_pos (by decide)], ⟨⟨_, rfl, ?_, ?_, ?_⟩, ?_, ?_⟩⟩
  ·simp only [regAt_set, Nat.reduceEqDiff, reduceIte, r5]
  ·simp only [regAt_set, Nat.reduceEqDiff, reduceIte, r6]
  ·simp only [regAt_set, Nat.reduceEqDiff, reduceIte]
  ·exact P.grow (grow1 μ _)
  ·exact Kp.grow (grow1 μ _)
 ·obtain ⟨tm', rfl, h5, h6, h4⟩ := h.rg
  show EndsC (aCode _ _ _ 100 (.seq _ _) _ _) _
  refine code_seq ?_
  refine code_region ?_ ?_
  ·rfl
  simp only [run1, go_sem, Nat.reduceLT, Nat.reduceAdd, Nat.reduceEqDiff, reduceIte, reduceCtorEq]
  refine code_ret ?_
  refine ⟨rfl, _, ?_, rfl, h.kp⟩
  simp only [aResults, Tryz.results3, aRes, regAt_set, Nat.reduceEqDiff, reduceIte]
end
end Go.Proofs.YthpcpheejblbhaaGreatDoor.tr
