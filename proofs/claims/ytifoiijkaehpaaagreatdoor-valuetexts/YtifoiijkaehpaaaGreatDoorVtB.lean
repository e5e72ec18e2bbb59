/-
  distafflaw18.ValueTexts, part B: objects are made; what is packed. No conditions.
-/
import Derived.Test.YtifoiijkaehpaaaGreatDoorVtA
set_option linter.unusedSimpArgs false
set_option linter.unusedVariables false
namespace Go.Proofs.YtifoiijkaehpaaaGreatDoor.vt
open Go Go.Proofs Go.Proofs.YtifoiijkaehpaaaGreatDoor.Ev

noncomputable section
variable {X : FuncId → List Value → Mem → Option (Value × Mem)}

theorem shl_u (m y r : Nat) (hy : y ≤ 64) (hr : r = m * 2 ^ y) (h : r < 18446744073709551616) : aShift true .u64 (.ofNat m) (.ofNat y) = some (.int .u64 (.ofNat r)) := by
  unfold aShift
  simp only [wide64, show Nat.ble y 64 = true from Nat.ble_eq_true_of_le hy]
  rw [show Nat.mul m (Nat.pow 2 y) = r from hr.symm, qu64 r h]
theorem shl_i (m y r : Nat) (hy : y ≤ 64) (hr : r = m * 2 ^ y) (h : r < 9223372036854775808) : aShift true .i64 (.ofNat m) (.ofNat y) = some (.int .i64 (.ofNat r)) := by
  unfold aShift
  simp only [wide64, show Nat.ble y 64 = true from Nat.ble_eq_true_of_le hy]
  rw [show Nat.mul m (Nat.pow 2 y) = r from hr.symm, q64 r h]
theorem lor_u (a b r : Nat) (hr : r = a ||| b) (ha : a < 18446744073709551616) (hb : b < 18446744073709551616) : aBits Nat.lor .u64 .u64 (.ofNat a) (.ofNat b) = some (.int .u64 (.ofNat r)) := by
  have h1 : Nat.blt a 18446744073709551616 = true := by simpa using ha
  have h2 : Nat.blt b 18446744073709551616 = true := by simpa using hb
  have h3 : r < 18446744073709551616 := by rw [hr]; exact Nat.or_lt_two_pow (n := 64) ha hb
  unfold aBits
  simp only [decide_true, wide64, h1, h2]
  rw [show Nat.lor a b = r from hr.symm, qu64 r h3]
theorem lor_i (a b r : Nat) (hr : r = a ||| b) (ha : a < 9223372036854775808) (hb : b < 9223372036854775808) : aBits Nat.lor .i64 .i64 (.ofNat a) (.ofNat b) = some (.int .i64 (.ofNat r)) := by
  have h1 : Nat.blt a 18446744073709551616 = true := by
    have : a < 18446744073709551616 := by omega
    simpa using this
  have h2 : Nat.blt b 18446744073709551616 = true := by
    have : b < 18446744073709551616 := by omega
    simpa using this
  have h3 : r < 9223372036854775808 := by rw [hr]; exact Nat.or_lt_two_pow (n := 63) ha hb
  unfold aBits
  simp only [decide_true, wide64, h1, h2]
  rw [show Nat.lor a b = r from hr.symm, q64 r h3]
theorem or_add (a b i : Nat) (h : b < 2 ^ i) : a * 2 ^ i ||| b = a * 2 ^ i + b := by
  rw [Nat.mul_comm]; exact (Nat.two_pow_add_eq_or_of_lt h a).symm

set_option maxHeartbeats 4000000 in
theorem made_eq {g tag n r : Nat} {μ : Mem} (hg : 20 ≤ g) (ht : tag < 8) (hn : n < 1000000000) (hr : r = n * 8 + tag) : aFun Tryz.prog (aCode Tryz.prog X S0 g) 65 [.int .u64 (.ofNat tag), .int .i64 (.ofNat n)] μ = some (.int .u64 (.ofNat r), μ) := by
  obtain ⟨k, rfl⟩ := Nat.exists_eq_add_of_le' hg
  refine ends_eq ?_
  obtain ⟨n8, hn8⟩ : ∃ x, x = n * 8 := ⟨_, rfl⟩
  have e1 : aShift true .u64 (.ofNat n) 3 = some (.int .u64 (.ofNat n8)) := shl_u n 3 n8 (by decide) hn8 (by omega)
  have e2 : aBits Nat.lor .u64 .u64 (.ofNat n8) (.ofNat tag) = some (.int .u64 (.ofNat r)) := lor_u n8 tag r (by rw [hn8, hr]; exact (or_add n tag 3 ht).symm) (by omega) (by omega)
  have e0 := qu64 n (by omega)
  refine fun_enter Tryz.func65 rfl rfl (Nat.le_of_ble_eq_true rfl) ?_
  simp only [T.lay, Nat.zero_add, Tryz.ntmps65, Nat.reduceAdd]
  refine code_seq ?_
  refine code_region ?_ ?_
  · rfl
  simp only [run1, aOne, aP, aR, aA, aT, aCall, aCallVal, aev, regAt_set, aput_mk, aput_none, plainV, aNilCheck, aExtract, aBin, aInt, Addr.add, Nat.zero_add, ends_some, Nat.reduceLT, Nat.reduceAdd, if_true, then_normal, Nat.reduceEqDiff, if_false, reduceIte, reduceCtorEq, decide_true, decide_false, Bool.not_true, Bool.not_false, beq_self_eq_true, beq_tf, beq_ft, aPick, List.map_cons, List.map_nil, List.nil_append, List.append_nil, List.getElem?_cons_zero, List.getElem?_cons_succ]
  refine code_seq ?_
  refine code_region ?_ ?_
  · rfl
  simp only [run1, aOne, aP, aR, aA, aT, aCall, aCallVal, aev, regAt_set, aput_mk, aput_none, plainV, aNilCheck, aExtract, aBin, aInt, Addr.add, Nat.zero_add, ends_some, Nat.reduceLT, Nat.reduceAdd, if_true, then_normal, Nat.reduceEqDiff, if_false, reduceIte, reduceCtorEq, decide_true, decide_false, Bool.not_true, Bool.not_false, beq_self_eq_true, beq_tf, beq_ft, aPick, List.map_cons, List.map_nil, List.nil_append, List.append_nil, List.getElem?_cons_zero, List.getElem?_cons_succ, cviW, e0, e1, e2]
  refine code_ret ?_
  refine ⟨rfl, _, ?_, rfl, rfl⟩
  simp only [aResults, Tryz.results65, aRes, regAt_set, Nat.reduceEqDiff, reduceIte]

set_option maxHeartbeats 4000000 in
theorem place_eq {g n : Nat} {μ : Mem} (hg : 40 ≤ g) (hn : n < 1000000000) : aFun Tryz.prog (aCode Tryz.prog X S0 g) 84 [.int .i64 (.ofNat n)] μ = some (.int .u64 (.ofNat (placeW n)), μ) := by
  obtain ⟨k, rfl⟩ := Nat.exists_eq_add_of_le' hg
  refine ends_eq ?_
  have hm : ∀ g, 20 ≤ g → aFun Tryz.prog (aCode Tryz.prog X S0 g) 65 [.int .u64 1, .int .i64 (.ofNat n)] μ = some (.int .u64 (.ofNat (placeW n)), μ) := fun g hg => made_eq (tag := 1) hg (by decide) hn (by unfold placeW; omega)
  refine fun_enter Tryz.func84 rfl rfl (Nat.le_of_ble_eq_true rfl) ?_
  simp only [T.lay, Nat.zero_add, Tryz.ntmps84, Nat.reduceAdd]
  refine code_seq ?_
  refine code_region ?_ ?_
  · rfl
  simp only [run1, aOne, aP, aR, aA, aT, aCall, aCallVal, aev, regAt_set, aput_mk, aput_none, plainV, aNilCheck, aExtract, aBin, aInt, Addr.add, Nat.zero_add, ends_some, Nat.reduceLT, Nat.reduceAdd, if_true, then_normal, Nat.reduceEqDiff, if_false, reduceIte, reduceCtorEq, decide_true, decide_false, Bool.not_true, Bool.not_false, beq_self_eq_true, beq_tf, beq_ft, aPick, List.map_cons, List.map_nil, List.nil_append, List.append_nil, List.getElem?_cons_zero, List.getElem?_cons_succ]
  refine code_seq ?_
  refine code_region ?_ ?_
  · rfl
  simp only [run1, aOne, aP, aR, aA, aT, aCall, aCallVal, aev, regAt_set, aput_mk, aput_none, plainV, aNilCheck, aExtract, aBin, aInt, Addr.add, Nat.zero_add, ends_some, Nat.reduceLT, Nat.reduceAdd, if_true, then_normal, Nat.reduceEqDiff, if_false, reduceIte, reduceCtorEq, decide_true, decide_false, Bool.not_true, Bool.not_false, beq_self_eq_true, beq_tf, beq_ft, aPick, List.map_cons, List.map_nil, List.nil_append, List.append_nil, List.getElem?_cons_zero, List.getElem?_cons_succ, go_call (P := Tryz.prog) (X := X) (S := S0) Tryz.func65 rfl rfl, hm, Nat.reduceLeDiff]
  refine code_ret ?_
  refine ⟨rfl, _, ?_, rfl, rfl⟩
  simp only [aResults, Tryz.results84, aRes, regAt_set, Nat.reduceEqDiff, reduceIte]

set_option maxHeartbeats 4000000 in
theorem single5_eq {g : Nat} {μ : Mem} (hg : 40 ≤ g) : aFun Tryz.prog (aCode Tryz.prog X S0 g) 37 [.int .i64 5] μ = some (.int .u64 45, μ) := by
  obtain ⟨k, rfl⟩ := Nat.exists_eq_add_of_le' hg
  refine ends_eq ?_
  have hm : ∀ g, 20 ≤ g → aFun Tryz.prog (aCode Tryz.prog X S0 g) 65 [.int .u64 5, .int .i64 5] μ = some (.int .u64 45, μ) := fun g hg => made_eq (tag := 5) (n := 5) (r := 45) hg (by decide) (by decide) rfl
  refine fun_enter Tryz.func37 rfl rfl (Nat.le_of_ble_eq_true rfl) ?_
  simp only [T.lay, Nat.zero_add, Tryz.ntmps37, Nat.reduceAdd]
  refine code_seq ?_
  refine code_region ?_ ?_
  · rfl
  simp only [run1, aOne, aP, aR, aA, aT, aCall, aCallVal, aev, regAt_set, aput_mk, aput_none, plainV, aNilCheck, aExtract, aBin, aInt, Addr.add, Nat.zero_add, ends_some, Nat.reduceLT, Nat.reduceAdd, if_true, then_normal, Nat.reduceEqDiff, if_false, reduceIte, reduceCtorEq, decide_true, decide_false, Bool.not_true, Bool.not_false, beq_self_eq_true, beq_tf, beq_ft, aPick, List.map_cons, List.map_nil, List.nil_append, List.append_nil, List.getElem?_cons_zero, List.getElem?_cons_succ]
  refine code_seq ?_
  refine code_region ?_ ?_
  · rfl
  simp only [run1, aOne, aP, aR, aA, aT, aCall, aCallVal, aev, regAt_set, aput_mk, aput_none, plainV, aNilCheck, aExtract, aBin, aInt, Addr.add, Nat.zero_add, ends_some, Nat.reduceLT, Nat.reduceAdd, if_true, then_normal, Nat.reduceEqDiff, if_false, reduceIte, reduceCtorEq, decide_true, decide_false, Bool.not_true, Bool.not_false, beq_self_eq_true, beq_tf, beq_ft, aPick, List.map_cons, List.map_nil, List.nil_append, List.append_nil, List.getElem?_cons_zero, List.getElem?_cons_succ, go_call (P := Tryz.prog) (X := X) (S := S0) Tryz.func65 rfl rfl, hm, Nat.reduceLeDiff]
  refine code_ret ?_
  refine ⟨rfl, _, ?_, rfl, rfl⟩
  simp only [aResults, Tryz.results37, aRes, regAt_set, Nat.reduceEqDiff, reduceIte]

set_option maxHeartbeats 4000000 in
theorem raw_eq {g kd : Nat} {μ : Mem} (hg : 20 ≤ g) (h1 : 16 ≤ kd) (h2 : kd < 32) : aFun Tryz.prog (aCode Tryz.prog X S0 g) 67 [.int .i64 (.ofNat kd)] μ = some (.bool true, μ) := by
  obtain ⟨k, rfl⟩ := Nat.exists_eq_add_of_le' hg
  refine ends_eq ?_
  have w1 : ilt (.ofNat kd) 16 = false := (ilt_nat kd 16).trans (decide_eq_false (by omega))
  have w2 : ilt (.ofNat kd) 32 = true := (ilt_nat kd 32).trans (decide_eq_true h2)
  refine fun_enter Tryz.func67 rfl rfl (Nat.le_of_ble_eq_true rfl) ?_
  simp only [T.lay, Nat.zero_add, Tryz.ntmps67, Nat.reduceAdd]
  refine code_seq ?_
  refine code_region ?_ ?_
  · rfl
  simp only [run1, aOne, aP, aR, aA, aT, aCall, aCallVal, aev, regAt_set, aput_mk, aput_none, plainV, aNilCheck, aExtract, aBin, aInt, Addr.add, Nat.zero_add, ends_some, Nat.reduceLT, Nat.reduceAdd, if_true, then_normal, Nat.reduceEqDiff, if_false, reduceIte, reduceCtorEq, decide_true, decide_false, Bool.not_true, Bool.not_false, beq_self_eq_true, beq_tf, beq_ft, aPick, List.map_cons, List.map_nil, List.nil_append, List.append_nil, List.getElem?_cons_zero, List.getElem?_cons_succ]
  refine code_seq ?_
  refine code_guards (gs := ?_) ?_ ?_
  rotate_left
  · rfl
  refine run2_true (by first | rfl | (simp only [wanted, aOne, aP, aR, aA, aT, aCall, aCallVal, aev, regAt_set, aput_mk, aput_none, plainV, aNilCheck, aExtract, aBin, aInt, Addr.add, Nat.zero_add, ends_some, Nat.reduceLT, Nat.reduceAdd, if_true, then_normal, Nat.reduceEqDiff, if_false, reduceIte, reduceCtorEq, decide_true, decide_false, Bool.not_true, Bool.not_false, beq_self_eq_true, beq_tf, beq_ft, aPick, List.map_cons, List.map_nil, List.nil_append, List.append_nil, List.getElem?_cons_zero, List.getElem?_cons_succ, w1, w2])) (by simp only [aOne, aP, aR, aA, aT, aCall, aCallVal, aev, regAt_set, aput_mk, aput_none, plainV, aNilCheck, aExtract, aBin, aInt, Addr.add, Nat.zero_add, ends_some, Nat.reduceLT, Nat.reduceAdd, if_true, then_normal, Nat.reduceEqDiff, if_false, reduceIte, reduceCtorEq, decide_true, decide_false, Bool.not_true, Bool.not_false, beq_self_eq_true, beq_tf, beq_ft, aPick, List.map_cons, List.map_nil, List.nil_append, List.append_nil, List.getElem?_cons_zero, List.getElem?_cons_succ, w1, w2]; try exact rfl) rfl ?_
  refine run2_true (by first | rfl | (simp only [wanted, aOne, aP, aR, aA, aT, aCall, aCallVal, aev, regAt_set, aput_mk, aput_none, plainV, aNilCheck, aExtract, aBin, aInt, Addr.add, Nat.zero_add, ends_some, Nat.reduceLT, Nat.reduceAdd, if_true, then_normal, Nat.reduceEqDiff, if_false, reduceIte, reduceCtorEq, decide_true, decide_false, Bool.not_true, Bool.not_false, beq_self_eq_true, beq_tf, beq_ft, aPick, List.map_cons, List.map_nil, List.nil_append, List.append_nil, List.getElem?_cons_zero, List.getElem?_cons_succ, w1, w2])) (by simp only [aOne, aP, aR, aA, aT, aCall, aCallVal, aev, regAt_set, aput_mk, aput_none, plainV, aNilCheck, aExtract, aBin, aInt, Addr.add, Nat.zero_add, ends_some, Nat.reduceLT, Nat.reduceAdd, if_true, then_normal, Nat.reduceEqDiff, if_false, reduceIte, reduceCtorEq, decide_true, decide_false, Bool.not_true, Bool.not_false, beq_self_eq_true, beq_tf, beq_ft, aPick, List.map_cons, List.map_nil, List.nil_append, List.append_nil, List.getElem?_cons_zero, List.getElem?_cons_succ, w1, w2]; try exact rfl) rfl ?_
  refine run2_true (by first | rfl | (simp only [wanted, aOne, aP, aR, aA, aT, aCall, aCallVal, aev, regAt_set, aput_mk, aput_none, plainV, aNilCheck, aExtract, aBin, aInt, Addr.add, Nat.zero_add, ends_some, Nat.reduceLT, Nat.reduceAdd, if_true, then_normal, Nat.reduceEqDiff, if_false, reduceIte, reduceCtorEq, decide_true, decide_false, Bool.not_true, Bool.not_false, beq_self_eq_true, beq_tf, beq_ft, aPick, List.map_cons, List.map_nil, List.nil_append, List.append_nil, List.getElem?_cons_zero, List.getElem?_cons_succ, w1, w2])) (by simp only [aOne, aP, aR, aA, aT, aCall, aCallVal, aev, regAt_set, aput_mk, aput_none, plainV, aNilCheck, aExtract, aBin, aInt, Addr.add, Nat.zero_add, ends_some, Nat.reduceLT, Nat.reduceAdd, if_true, then_normal, Nat.reduceEqDiff, if_false, reduceIte, reduceCtorEq, decide_true, decide_false, Bool.not_true, Bool.not_false, beq_self_eq_true, beq_tf, beq_ft, aPick, List.map_cons, List.map_nil, List.nil_append, List.append_nil, List.getElem?_cons_zero, List.getElem?_cons_succ, w1, w2]; try exact rfl) rfl ?_
  refine run2_true (by first | rfl | (simp only [wanted, aOne, aP, aR, aA, aT, aCall, aCallVal, aev, regAt_set, aput_mk, aput_none, plainV, aNilCheck, aExtract, aBin, aInt, Addr.add, Nat.zero_add, ends_some, Nat.reduceLT, Nat.reduceAdd, if_true, then_normal, Nat.reduceEqDiff, if_false, reduceIte, reduceCtorEq, decide_true, decide_false, Bool.not_true, Bool.not_false, beq_self_eq_true, beq_tf, beq_ft, aPick, List.map_cons, List.map_nil, List.nil_append, List.append_nil, List.getElem?_cons_zero, List.getElem?_cons_succ, w1, w2])) (by simp only [aOne, aP, aR, aA, aT, aCall, aCallVal, aev, regAt_set, aput_mk, aput_none, plainV, aNilCheck, aExtract, aBin, aInt, Addr.add, Nat.zero_add, ends_some, Nat.reduceLT, Nat.reduceAdd, if_true, then_normal, Nat.reduceEqDiff, if_false, reduceIte, reduceCtorEq, decide_true, decide_false, Bool.not_true, Bool.not_false, beq_self_eq_true, beq_tf, beq_ft, aPick, List.map_cons, List.map_nil, List.nil_append, List.append_nil, List.getElem?_cons_zero, List.getElem?_cons_succ, w1, w2]; try exact rfl) rfl ?_
  refine run2_true (by first | rfl | (simp only [wanted, aOne, aP, aR, aA, aT, aCall, aCallVal, aev, regAt_set, aput_mk, aput_none, plainV, aNilCheck, aExtract, aBin, aInt, Addr.add, Nat.zero_add, ends_some, Nat.reduceLT, Nat.reduceAdd, if_true, then_normal, Nat.reduceEqDiff, if_false, reduceIte, reduceCtorEq, decide_true, decide_false, Bool.not_true, Bool.not_false, beq_self_eq_true, beq_tf, beq_ft, aPick, List.map_cons, List.map_nil, List.nil_append, List.append_nil, List.getElem?_cons_zero, List.getElem?_cons_succ, w1, w2])) (by simp only [aOne, aP, aR, aA, aT, aCall, aCallVal, aev, regAt_set, aput_mk, aput_none, plainV, aNilCheck, aExtract, aBin, aInt, Addr.add, Nat.zero_add, ends_some, Nat.reduceLT, Nat.reduceAdd, if_true, then_normal, Nat.reduceEqDiff, if_false, reduceIte, reduceCtorEq, decide_true, decide_false, Bool.not_true, Bool.not_false, beq_self_eq_true, beq_tf, beq_ft, aPick, List.map_cons, List.map_nil, List.nil_append, List.append_nil, List.getElem?_cons_zero, List.getElem?_cons_succ, w1, w2]; try exact rfl) rfl ?_
  refine run2_true (by first | rfl | (simp only [wanted, aOne, aP, aR, aA, aT, aCall, aCallVal, aev, regAt_set, aput_mk, aput_none, plainV, aNilCheck, aExtract, aBin, aInt, Addr.add, Nat.zero_add, ends_some, Nat.reduceLT, Nat.reduceAdd, if_true, then_normal, Nat.reduceEqDiff, if_false, reduceIte, reduceCtorEq, decide_true, decide_false, Bool.not_true, Bool.not_false, beq_self_eq_true, beq_tf, beq_ft, aPick, List.map_cons, List.map_nil, List.nil_append, List.append_nil, List.getElem?_cons_zero, List.getElem?_cons_succ, w1, w2])) (by simp only [aOne, aP, aR, aA, aT, aCall, aCallVal, aev, regAt_set, aput_mk, aput_none, plainV, aNilCheck, aExtract, aBin, aInt, Addr.add, Nat.zero_add, ends_some, Nat.reduceLT, Nat.reduceAdd, if_true, then_normal, Nat.reduceEqDiff, if_false, reduceIte, reduceCtorEq, decide_true, decide_false, Bool.not_true, Bool.not_false, beq_self_eq_true, beq_tf, beq_ft, aPick, List.map_cons, List.map_nil, List.nil_append, List.append_nil, List.getElem?_cons_zero, List.getElem?_cons_succ, w1, w2]; try exact rfl) rfl ?_
  refine run2_true (by first | rfl | (simp only [wanted, aOne, aP, aR, aA, aT, aCall, aCallVal, aev, regAt_set, aput_mk, aput_none, plainV, aNilCheck, aExtract, aBin, aInt, Addr.add, Nat.zero_add, ends_some, Nat.reduceLT, Nat.reduceAdd, if_true, then_normal, Nat.reduceEqDiff, if_false, reduceIte, reduceCtorEq, decide_true, decide_false, Bool.not_true, Bool.not_false, beq_self_eq_true, beq_tf, beq_ft, aPick, List.map_cons, List.map_nil, List.nil_append, List.append_nil, List.getElem?_cons_zero, List.getElem?_cons_succ, w1, w2])) (by simp only [aOne, aP, aR, aA, aT, aCall, aCallVal, aev, regAt_set, aput_mk, aput_none, plainV, aNilCheck, aExtract, aBin, aInt, Addr.add, Nat.zero_add, ends_some, Nat.reduceLT, Nat.reduceAdd, if_true, then_normal, Nat.reduceEqDiff, if_false, reduceIte, reduceCtorEq, decide_true, decide_false, Bool.not_true, Bool.not_false, beq_self_eq_true, beq_tf, beq_ft, aPick, List.map_cons, List.map_nil, List.nil_append, List.append_nil, List.getElem?_cons_zero, List.getElem?_cons_succ, w1, w2]; try exact rfl) rfl ?_
  simp only [run2, ends_some, then_normal]
  refine code_ret ?_
  refine ⟨rfl, _, ?_, rfl, rfl⟩
  simp only [aResults, Tryz.results67, aRes, regAt_set, Nat.reduceEqDiff, reduceIte]

theorem bxH (x y z : Value) : aBox 166 (.agg #[x, y, z]) = some (.cells 3 166 #[x, y, z] .e 0 0 false false, fun id => .pointer (some ⟨id, 0, none⟩)) := rfl
theorem faD1 (ρ : Operand → Value) (x : Operand) : aFieldAddr Tryz.prog ρ 166 x 1 = (match ρ x with | .pointer (some a) => some (.pointer (some (a.add 1))) | _ => none) := fieldAddr_at (ft := 3) (off := 1) Tryz.underlying166 rfl i3 rfl ρ x

set_option maxHeartbeats 4000000 in
theorem head_word_eq {g kd n r : Nat} {μ : Mem} (hg : 20 ≤ g) (h1 : kd < 32) (hn : n < 1000000) (hr : r = headW kd 0 n) : EndsF (aFun Tryz.prog (aCode Tryz.prog X S0 g) 83 [.agg #[.int .i64 (.ofNat kd), .int .i64 0, .int .i64 (.ofNat n)]] μ) fun v μ' => v = .int .u64 (.ofNat r) ∧ μ' = ⟨μ.obs.set μ.next (.cells 3 166 #[.int .i64 (.ofNat kd), .int .i64 0, .int .i64 (.ofNat n)] .e 0 0 false false), μ.next + 1⟩ := by
  obtain ⟨k, rfl⟩ := Nat.exists_eq_add_of_le' hg
  obtain ⟨a1, ha1⟩ : ∃ x, x = n * 256 := ⟨_, rfl⟩
  obtain ⟨a2, ha2⟩ : ∃ x, x = n * 256 + kd := ⟨_, rfl⟩
  obtain ⟨a3, ha3⟩ : ∃ x, x = a2 * 8 := ⟨_, rfl⟩
  have hcl : ∀ p, p < 3 → ∀ x, cellsAt ⟨μ.obs.set μ.next (.cells 3 166 #[.int .i64 (.ofNat kd), .int .i64 0, .int .i64 (.ofNat n)] .e 0 0 false false), x⟩ μ.next p = some (cellAt #[.int .i64 (.ofNat kd), .int .i64 0, .int .i64 (.ofNat n)] .e p) := fun p hp x => cellsAt_of (by show obCells (T.get _ μ.next) = _; rw [T.get_set, if_pos rfl]; rfl) hp
  have c0 : ∀ x, cellsAt ⟨μ.obs.set μ.next (.cells 3 166 #[.int .i64 (.ofNat kd), .int .i64 0, .int .i64 (.ofNat n)] .e 0 0 false false), x⟩ μ.next 0 = some (.int .i64 (.ofNat kd)) := fun x => (hcl 0 (by decide) x).trans rfl
  have c1 : ∀ x, cellsAt ⟨μ.obs.set μ.next (.cells 3 166 #[.int .i64 (.ofNat kd), .int .i64 0, .int .i64 (.ofNat n)] .e 0 0 false false), x⟩ μ.next 1 = some (.int .i64 0) := fun x => (hcl 1 (by decide) x).trans rfl
  have c2 : ∀ x, cellsAt ⟨μ.obs.set μ.next (.cells 3 166 #[.int .i64 (.ofNat kd), .int .i64 0, .int .i64 (.ofNat n)] .e 0 0 false false), x⟩ μ.next 2 = some (.int .i64 (.ofNat n)) := fun x => (hcl 2 (by decide) x).trans rfl
  have e1 : aShift true .i64 (.ofNat n) 8 = some (.int .i64 (.ofNat a1)) := shl_i n 8 a1 (by decide) ha1 (by omega)
  have e2 : aShift true .i64 0 5 = some (.int .i64 0) := shl_i 0 5 0 (by decide) rfl (by decide)
  have e3 : aBits Nat.lor .i64 .i64 (.ofNat a1) 0 = some (.int .i64 (.ofNat a1)) := lor_i a1 0 a1 (Nat.or_zero a1).symm (by omega) (by decide)
  have e4 : aBits Nat.lor .i64 .i64 (.ofNat a1) (.ofNat kd) = some (.int .i64 (.ofNat a2)) := lor_i a1 kd a2 (by rw [ha1, ha2]; exact (or_add n kd 8 (by omega)).symm) (by omega) (by omega)
  have e5 := qu64 a2 (by omega)
  have e6 : aShift true .u64 (.ofNat a2) 3 = some (.int .u64 (.ofNat a3)) := shl_u a2 3 a3 (by decide) ha3 (by omega)
  have e7 : aBits Nat.lor .u64 .u64 (.ofNat a3) 6 = some (.int .u64 (.ofNat r)) := lor_u a3 6 r (by rw [hr, ha3]; unfold headW; rw [show (n * 256 + 0 * 32 + kd) = a2 from by omega]; exact (or_add a2 6 3 (by decide)).symm) (by omega) (by decide)
  refine fun_enter Tryz.func83 rfl rfl (Nat.le_of_ble_eq_true rfl) ?_
  simp only [T.lay, Nat.zero_add, Tryz.ntmps83, Nat.reduceAdd]
  refine code_seq ?_
  refine code_region ?_ ?_
  · rfl
  simp only [run1, aOne, aP, aR, aA, aT, aCall, aCallVal, aev, regAt_set, aput_mk, aput_none, plainV, aNilCheck, aExtract, aBin, aInt, Addr.add, Nat.zero_add, ends_some, Nat.reduceLT, Nat.reduceAdd, if_true, then_normal, Nat.reduceEqDiff, if_false, reduceIte, reduceCtorEq, decide_true, decide_false, Bool.not_true, Bool.not_false, beq_self_eq_true, beq_tf, beq_ft, aPick, List.map_cons, List.map_nil, List.nil_append, List.append_nil, List.getElem?_cons_zero, List.getElem?_cons_succ, bxH]
  refine code_seq ?_
  refine code_region ?_ ?_
  · rfl
  simp only [run1, aOne, aP, aR, aA, aT, aCall, aCallVal, aev, regAt_set, aput_mk, aput_none, plainV, aNilCheck, aExtract, aBin, aInt, Addr.add, Nat.zero_add, ends_some, Nat.reduceLT, Nat.reduceAdd, if_true, then_normal, Nat.reduceEqDiff, if_false, reduceIte, reduceCtorEq, decide_true, decide_false, Bool.not_true, Bool.not_false, beq_self_eq_true, beq_tf, beq_ft, aPick, List.map_cons, List.map_nil, List.nil_append, List.append_nil, List.getElem?_cons_zero, List.getElem?_cons_succ, faD0, faD1, faD2, ld3, c0, c1, c2, e1, e2, e3, e4, e5, e6, e7, cviW, Nat.add_zero]
  refine code_ret ?_
  refine ⟨rfl, _, ?_, rfl, rfl⟩
  simp only [aResults, Tryz.results83, aRes, regAt_set, Nat.reduceEqDiff, reduceIte]
end

noncomputable section
variable {X : FuncId → List Value → Mem → Option (Value × Mem)}

theorem veq_ptr (i o : Nat) : veq 5 (.pointer (some ⟨i, o, none⟩)) (.pointer (some ⟨i, o, none⟩)) = true := by simp [veq, addrEq]
theorem bdH2 (ρ : Operand → Value) (a c : Operand) (o1 : one (ρ a) = true) (o3 : one (ρ c) = true) : aBuild Tryz.prog ρ 166 #[(0, a), (2, c)] = some (.agg #[ρ a, .int .i64 0, ρ c]) := by
  refine build_struct (pl := [(0, 1), (1, 1), (2, 1)]) zH Tryz.underlying166 (by kernel_rfl) ?_
  show aFill _ [.int .i64 0, .int .i64 0, .int .i64 0] [(0, ρ a), (2, ρ c)] = some [ρ a, .int .i64 0, ρ c]
  rw [aFill_one (off := 0) rfl o1 (by simp), aFill_one (off := 2) rfl o3 (by simp)]
  rfl

/-- what turns the words alone -/
def Only (μ μ' : Mem) (wb : Nat) : Prop := μ'.next = μ.next ∧ ∀ i, i ≠ wb → μ'.obs.get i = μ.obs.get i
theorem Only.refl (μ : Mem) (wb : Nat) : Only μ μ wb := ⟨rfl, fun _ _ => rfl⟩
theorem Only.trans {a b c : Mem} {wb : Nat} (h : Only a b wb) (g : Only b c wb) : Only a c wb := ⟨g.1.trans h.1, fun i hi => (g.2 i hi).trans (h.2 i hi)⟩
theorem Only.cell {μ μ' : Mem} {wb i p : Nat} (h : Only μ μ' wb) (hi : i ≠ wb) : cellsAt μ' i p = cellsAt μ i p := by unfold cellsAt; rw [h.2 i hi]
theorem AB.only {μ μ' : Mem} {ap wb lb N L : Nat} {ws ws' : Nat → Nat} {ln : Nat → Bool} (h : AB μ ap wb lb N L ws ln) (g : Only μ μ' wb) (hA : Arena μ' ap wb N ws') : AB μ' ap wb lb N L ws' ln :=
  ⟨hA, h.lines.keep (g.cell h.arena.apart) (g.2 lb (Ne.symm h.d2)), by unfold Blk; rw [g.2 ap h.arena.apart]; exact h.blk, by rw [g.1]; exact h.n1, by rw [g.1]; exact h.n2, by rw [g.1]; exact h.n3, h.d1, h.d2, h.N1, h.L1⟩
theorem AC.only {μ μ' : Mem} {ap wb sf st gf gt nx : Nat} (h : AC μ ap sf st gf gt nx) (g : Only μ μ' wb) (hw : ap ≠ wb) : AC μ' ap sf st gf gt nx :=
  ⟨(g.cell hw).trans h.c2, (g.cell hw).trans h.c3, (g.cell hw).trans h.c4, (g.cell hw).trans h.c5, (g.cell hw).trans h.c8⟩

def zeros (ws : Nat → Nat) (q j : Nat) : Nat → Nat := fun k => if q < k ∧ k ≤ q + j then 0 else ws k
theorem zeros_zero (ws : Nat → Nat) (q : Nat) : zeros ws q 0 = ws := by funext k; unfold zeros; rw [if_neg (by omega)]
theorem zeros_succ (ws : Nat → Nat) (q j : Nat) : put (zeros ws q j) (q + 1 + j) 0 = zeros ws q (j + 1) := by
  funext k; unfold put zeros
  by_cases h : k = q + 1 + j
  · rw [if_pos h, if_pos (by omega)]
  · rw [if_neg h]
    by_cases h2 : q < k ∧ k ≤ q + j
    · rw [if_pos h2, if_pos (by omega)]
    · rw [if_neg h2, if_neg (by omega)]

set_option maxHeartbeats 4000000 in
theorem make_loop {hp ap wb N q n : Nat} {ws : Nat → Nat} {μ0 : Mem} (hH : cellsAt μ0 hp 0 = some (.pointer (some ⟨ap, 0, none⟩))) (hw : hp ≠ wb) (hq : q + n < N) (hN : N < 1000000) :
    ∀ (e m j : Nat) (tm : T Value) (μ : Mem), j + m = n → Only μ0 μ wb → Arena μ ap wb N (zeros ws q j) → regAt tm 0 = .pointer (some ⟨hp, 0, none⟩) → regAt tm 8 = .int .i64 (.ofNat q) → regAt tm 10 = .int .u64 0 → regAt tm 51 = .int .i64 (.ofNat n) → regAt tm 52 = .int .i64 (.ofNat j) →
      EndsC (aCode Tryz.prog X S0 (e + m + 60) (.loop (loopBody Tryz.f45 0)) ⟨68, tm, [], none⟩ μ) fun x r μ' => x = .exit 0 ∧ Only μ0 μ' wb ∧ Arena μ' ap wb N (zeros ws q n) ∧ ∃ tm', r = ⟨68, tm', [], none⟩ ∧ regAt tm' 8 = .int .i64 (.ofNat q) := by
  intro e m
  induction m with
  | zero =>
    intro j tm μ hj hO hA r0 r8 r10 r51 r52
    obtain rfl : j = n := hj
    refine code_loop ?_
    refine code_seq ?_
    refine code_region ?_ ?_
    · rfl
    simp only [run1, aOne, aP, aR, aA, aT, aCall, aCallVal, aev, regAt_set, aput_mk, aput_none, plainV, aNilCheck, aExtract, aBin, aInt, Addr.add, Nat.zero_add, ends_some, Nat.reduceLT, Nat.reduceAdd, if_true, then_normal, Nat.reduceEqDiff, if_false, reduceIte, reduceCtorEq, decide_true, decide_false, Bool.not_true, Bool.not_false, beq_self_eq_true, beq_tf, beq_ft, aPick, List.map_cons, List.map_nil, List.nil_append, List.append_nil, List.getElem?_cons_zero, List.getElem?_cons_succ, r52, r51, ilt_nat, Nat.lt_irrefl]
    refine code_seq ?_
    refine code_cond_false ?_ ?_
    · simp only [aev, regAt_set, Nat.reduceEqDiff, reduceIte]
    refine code_exit ?_
    simp only [then_exit]
    exact ⟨trivial, hO, hA, _, rfl, by simp only [regAt_set, Nat.reduceEqDiff, reduceIte, r8]⟩
  | succ m ih =>
    intro j tm μ hj hO hA r0 r8 r10 r51 r52
    have hlt : j < n := by omega
    have hH' := (hO.cell (p := 0) hw).trans hH
    obtain ⟨q1, hq1⟩ : ∃ x, x = q + 1 := ⟨_, rfl⟩
    obtain ⟨qj, hqj⟩ : ∃ x, x = q1 + j := ⟨_, rfl⟩
    have a1 : qwrap .i64 (Int.add (.ofNat q) 1) = .ofNat q1 := hq1 ▸ add_nat q 1 (by omega)
    have a2 : qwrap .i64 (Int.add (.ofNat q1) (.ofNat j)) = .ofNat qj := hqj ▸ add_nat q1 j (by omega)
    have a3 : qwrap .i64 (Int.add (.ofNat j) 1) = .ofNat (j + 1) := add_nat j 1 (by omega)
    obtain ⟨v1, μ1, hS, hv1, hA1, hn1, hk1⟩ := arena_set (X := X) (S := S0) (k := e + (m + 1) + 33) (w := 0) hA (q := qj) (by omega)
    subst hv1
    have hS : aFun Tryz.prog (aCode Tryz.prog X S0 (e + (m + 1) + 53)) 82 [.pointer (some ⟨ap, 0, none⟩), .int .i64 (.ofNat qj), .int .u64 0] μ = some (.int .i64 0, μ1) := hS
    rw [show qj = q + 1 + j from by omega, zeros_succ] at hA1
    refine code_loop ?_
    refine code_seq ?_
    refine code_region ?_ ?_
    · rfl
    simp only [run1, aOne, aP, aR, aA, aT, aCall, aCallVal, aev, regAt_set, aput_mk, aput_none, plainV, aNilCheck, aExtract, aBin, aInt, Addr.add, Nat.zero_add, ends_some, Nat.reduceLT, Nat.reduceAdd, if_true, then_normal, Nat.reduceEqDiff, if_false, reduceIte, reduceCtorEq, decide_true, decide_false, Bool.not_true, Bool.not_false, beq_self_eq_true, beq_tf, beq_ft, aPick, List.map_cons, List.map_nil, List.nil_append, List.append_nil, List.getElem?_cons_zero, List.getElem?_cons_succ, r52, r51, ilt_nat, hlt]
    refine code_seq ?_
    refine code_cond_true ?_ ?_
    · simp only [aev, regAt_set, Nat.reduceEqDiff, reduceIte]
    refine code_skip ?_
    simp only [then_normal]
    refine code_seq ?_
    refine code_block ?_
    refine code_seq ?_
    refine code_region ?_ ?_
    · rfl
    simp only [run1, aOne, aP, aR, aA, aT, aCall, aCallVal, aev, regAt_set, aput_mk, aput_none, plainV, aNilCheck, aExtract, aBin, aInt, Addr.add, Nat.zero_add, ends_some, Nat.reduceLT, Nat.reduceAdd, if_true, then_normal, Nat.reduceEqDiff, if_false, reduceIte, reduceCtorEq, decide_true, decide_false, Bool.not_true, Bool.not_false, beq_self_eq_true, beq_tf, beq_ft, aPick, List.map_cons, List.map_nil, List.nil_append, List.append_nil, List.getElem?_cons_zero, List.getElem?_cons_succ, r52]
    refine code_region ?_ ?_
    · rfl
    simp only [run1, aOne, aP, aR, aA, aT, aCall, aCallVal, aev, regAt_set, aput_mk, aput_none, plainV, aNilCheck, aExtract, aBin, aInt, Addr.add, Nat.zero_add, ends_some, Nat.reduceLT, Nat.reduceAdd, if_true, then_normal, Nat.reduceEqDiff, if_false, reduceIte, reduceCtorEq, decide_true, decide_false, Bool.not_true, Bool.not_false, beq_self_eq_true, beq_tf, beq_ft, aPick, List.map_cons, List.map_nil, List.nil_append, List.append_nil, List.getElem?_cons_zero, List.getElem?_cons_succ, r0, r8, r10, faH0, ldA, hH', a1, a2, go_call (P := Tryz.prog) (X := X) (S := S0) Tryz.func82 rfl rfl, hS]
    simp only [blockC, then_normal]
    refine code_region ?_ ?_
    · rfl
    simp only [run1, aOne, aP, aR, aA, aT, aCall, aCallVal, aev, regAt_set, aput_mk, aput_none, plainV, aNilCheck, aExtract, aBin, aInt, Addr.add, Nat.zero_add, ends_some, Nat.reduceLT, Nat.reduceAdd, if_true, then_normal, Nat.reduceEqDiff, if_false, reduceIte, reduceCtorEq, decide_true, decide_false, Bool.not_true, Bool.not_false, beq_self_eq_true, beq_tf, beq_ft, aPick, List.map_cons, List.map_nil, List.nil_append, List.append_nil, List.getElem?_cons_zero, List.getElem?_cons_succ, r52, a3]
    rw [show e + (m + 1) + 59 = e + m + 60 from by omega]
    refine ih (j + 1) _ _ (by omega) (hO.trans ⟨hn1, hk1⟩) hA1 ?_ ?_ ?_ ?_ ?_ <;> simp only [regAt_set, Nat.reduceEqDiff, reduceIte, r0, r8, r10, r51]

/-- a heap in its arena, with all that stands in it -/
structure HS (μ : Mem) (hp ap wb lb N L : Nat) (ws : Nat → Nat) (ln : Nat → Bool) : Prop where
  head : cellsAt μ hp 0 = some (.pointer (some ⟨ap, 0, none⟩))
  ab : AB μ ap wb lb N L ws ln
  hn : hp < μ.next
  ha : hp ≠ ap
  hw : hp ≠ wb
  hl : hp ≠ lb

/-- what turns a heap alone -/
def Keeps (μ μ' : Mem) (ap wb lb : Nat) : Prop := μ.next ≤ μ'.next ∧ ∀ i, i < μ.next → i ≠ ap → i ≠ wb → i ≠ lb → μ'.obs.get i = μ.obs.get i
theorem Keeps.trans {a b c : Mem} {ap wb lb : Nat} (h : Keeps a b ap wb lb) (g : Keeps b c ap wb lb) : Keeps a c ap wb lb := ⟨Nat.le_trans h.1 g.1, fun i hi h1 h2 h3 => (g.2 i (Nat.lt_of_lt_of_le hi h.1) h1 h2 h3).trans (h.2 i hi h1 h2 h3)⟩
theorem Keeps.grow {a b : Mem} {ap wb lb : Nat} (h : Grow a b) : Keeps a b ap wb lb := ⟨h.1, fun i hi _ _ _ => h.2 i hi⟩
theorem Keeps.kept {a b : Mem} {ap wb lb : Nat} (h : Kept a b ap lb) : Keeps a b ap wb lb := ⟨h.1, fun i hi h1 _ h3 => h.2 i hi h1 h3⟩
theorem Keeps.only {a b : Mem} {ap wb lb : Nat} (h : Only a b wb) : Keeps a b ap wb lb := ⟨Nat.le_of_eq h.1.symm, fun i hi _ h2 _ => h.2 i h2⟩
theorem HS.keeps {μ μ' : Mem} {hp ap wb lb N L : Nat} {ws ws' : Nat → Nat} {ln ln' : Nat → Bool} (h : HS μ hp ap wb lb N L ws ln) (g : Keeps μ μ' ap wb lb) (hB : AB μ' ap wb lb N L ws' ln') : HS μ' hp ap wb lb N L ws' ln' :=
  ⟨by rw [← h.head]; unfold cellsAt; rw [g.2 hp h.hn h.ha h.hw h.hl], hB, Nat.lt_of_lt_of_le h.hn g.1, h.ha, h.hw, h.hl⟩
theorem HS.grow {μ μ' : Mem} {hp ap wb lb N L : Nat} {ws : Nat → Nat} {ln : Nat → Bool} (h : HS μ hp ap wb lb N L ws ln) (g : Grow μ μ') : HS μ' hp ap wb lb N L ws ln := h.keeps (Keeps.grow g) (h.ab.grow g)
theorem HS.at {μ : Mem} {hp ap wb lb N L : Nat} {ws : Nat → Nat} {ln : Nat → Bool} (h : HS μ hp ap wb lb N L ws ln) : HeapAt μ hp ap wb N ws := ⟨h.head, h.ab.arena, h.hn, h.ab.n1, h.ab.n2, h.hw⟩

def msM : List Nat := [0, 1, 3, 7, 0, 0, 0, 96, 224, 511]
theorem befM : bef [0, 1, 3, 7, 0, 0, 0, 96, 224, 511] 8 3 = false := by kernel_rfl

set_option maxHeartbeats 4000000 in
theorem heap_make {g hp ap wb lb N L q kd n sf' st' gf' gt' nx' : Nat} {ws : Nat → Nat} {ln ln' : Nat → Bool} {μ μ1 : Mem} (hg : 400 ≤ g) (hH : HS μ hp ap wb lb N L ws ln) (h1 : 16 ≤ kd) (h2 : kd < 32) (hn : n ≤ 240) (hq : q + n < N)
    (hal : aFun Tryz.prog (aCode Tryz.prog X S0 (g - 4)) 81 [.pointer (some ⟨ap, 0, none⟩), .int .i64 (.ofNat (n + 1))] μ = some (.tuple #[.int .i64 (.ofNat q), .bool true], μ1)) (hB1 : AB μ1 ap wb lb N L ws ln') (hC1 : AC μ1 ap sf' st' gf' gt' nx') (hK1 : Kept μ μ1 ap lb) :
    EndsF (aFun Tryz.prog (aCode Tryz.prog X S0 g) 45 [.pointer (some ⟨hp, 0, none⟩), .int .i64 (.ofNat kd), .int .i64 (.ofNat n)] μ) fun v μ' => v = .tuple #[.int .u64 (.ofNat (placeW q)), .bool true] ∧ HS μ' hp ap wb lb N L (zeros (put ws q (headW kd 0 n)) q n) ln' ∧ AC μ' ap sf' st' gf' gt' nx' ∧ Keeps μ μ' ap wb lb := by
  obtain ⟨k, rfl⟩ := Nat.exists_eq_add_of_le' hg
  have hN := hH.ab.N1
  obtain ⟨n1, hn1⟩ : ∃ x, x = n + 1 := ⟨_, rfl⟩
  rw [← hn1, show k + 400 - 4 = k + 396 from rfl] at hal
  have a0 : qwrap .i64 (Int.add (.ofNat n) 1) = .ofNat n1 := hn1 ▸ add_nat n 1 (by omega)
  have z1 : ilt (.ofNat kd) 0 = false := rfl
  have z2 : ilt (.ofNat kd) 32 = true := (ilt_nat kd 32).trans (decide_eq_true h2)
  have z3 : ilt (.ofNat n) 0 = false := rfl
  have z4 : ilt 240 (.ofNat n) = false := (ilt_nat 240 n).trans (decide_eq_false (by omega))
  have hd0 := hH.head
  have hH1 := hH.keeps (Keeps.kept hK1) hB1
  have hd1 := hH1.head
  -- behind the head's word
  obtain ⟨hwd, hhw⟩ : ∃ x, x = headW kd 0 n := ⟨_, rfl⟩
  obtain ⟨v2, μ2, hwe, hv2, hm2⟩ := head_word_eq (X := X) (g := k + 394) (kd := kd) (n := n) (r := hwd) (μ := ⟨μ1.obs, μ1.next + 10⟩) (by omega) h2 (by omega) hhw
  subst hv2
  have hg2 : Grow μ1 μ2 := by
    rw [hm2]
    exact (grow_up μ1 10).trans (grow1 ⟨μ1.obs, μ1.next + 10⟩ _)
  have hH2 := hH1.grow hg2
  have hC2 := hC1.grow hg2 hB1.n1
  have hd1' : ∀ x, cellsAt ⟨μ1.obs, x⟩ hp 0 = some (.pointer (some ⟨ap, 0, none⟩)) := fun x => hd1
  have hd2 := hH2.head
  obtain ⟨v3, μ3, hS, hv3, hA3, hn3, hk3⟩ := arena_set (X := X) (S := S0) (k := k + 374) (w := hwd) hH2.ab.arena (q := q) (by omega)
  subst hv3
  have hS : aFun Tryz.prog (aCode Tryz.prog X S0 (k + 394)) 82 [.pointer (some ⟨ap, 0, none⟩), .int .i64 (.ofNat q), .int .u64 (.ofNat hwd)] μ2 = some (.int .i64 0, μ3) := hS
  have hO3 : Only μ2 μ3 wb := ⟨hn3, hk3⟩
  have hB3 := hH2.ab.only hO3 hA3
  have hC3 := hC2.only hO3 hH2.ab.arena.apart
  have hH3 := hH2.keeps (Keeps.only hO3) hB3
  have hraw : ∀ g (μ : Mem), 20 ≤ g → aFun Tryz.prog (aCode Tryz.prog X S0 g) 67 [.int .i64 (.ofNat kd)] μ = some (.bool true, μ) := fun g μ hg => raw_eq hg h1 h2
  refine fun_enter Tryz.func45 rfl rfl (Nat.le_of_ble_eq_true rfl) ?_
  simp only [T.lay, Nat.zero_add, Tryz.ntmps45, Nat.reduceAdd]
  refine code_seq ?_
  refine code_region ?_ ?_
  · rfl
  simp only [run1, aOne, aP, aR, aA, aT, aCall, aCallVal, aev, regAt_set, aput_mk, aput_none, plainV, aNilCheck, aExtract, aBin, aInt, Addr.add, Nat.zero_add, ends_some, Nat.reduceLT, Nat.reduceAdd, if_true, then_normal, Nat.reduceEqDiff, if_false, reduceIte, reduceCtorEq, decide_true, decide_false, Bool.not_true, Bool.not_false, beq_self_eq_true, beq_tf, beq_ft, aPick, List.map_cons, List.map_nil, List.nil_append, List.append_nil, List.getElem?_cons_zero, List.getElem?_cons_succ]
  refine code_seq ?_
  refine code_seq ?_
  refine code_guards (gs := ?_) ?_ ?_
  rotate_left
  · rfl
  refine run2_true (by first | rfl | (simp only [wanted, aOne, aP, aR, aA, aT, aCall, aCallVal, aev, regAt_set, aput_mk, aput_none, plainV, aNilCheck, aExtract, aBin, aInt, Addr.add, Nat.zero_add, ends_some, Nat.reduceLT, Nat.reduceAdd, if_true, then_normal, Nat.reduceEqDiff, if_false, reduceIte, reduceCtorEq, decide_true, decide_false, Bool.not_true, Bool.not_false, beq_self_eq_true, beq_tf, beq_ft, aPick, List.map_cons, List.map_nil, List.nil_append, List.append_nil, List.getElem?_cons_zero, List.getElem?_cons_succ, z1, z2, z3, z4])) (by simp only [aOne, aP, aR, aA, aT, aCall, aCallVal, aev, regAt_set, aput_mk, aput_none, plainV, aNilCheck, aExtract, aBin, aInt, Addr.add, Nat.zero_add, ends_some, Nat.reduceLT, Nat.reduceAdd, if_true, then_normal, Nat.reduceEqDiff, if_false, reduceIte, reduceCtorEq, decide_true, decide_false, Bool.not_true, Bool.not_false, beq_self_eq_true, beq_tf, beq_ft, aPick, List.map_cons, List.map_nil, List.nil_append, List.append_nil, List.getElem?_cons_zero, List.getElem?_cons_succ, z1, z2, z3, z4]; try exact rfl) rfl ?_
  refine run2_true (by first | rfl | (simp only [wanted, aOne, aP, aR, aA, aT, aCall, aCallVal, aev, regAt_set, aput_mk, aput_none, plainV, aNilCheck, aExtract, aBin, aInt, Addr.add, Nat.zero_add, ends_some, Nat.reduceLT, Nat.reduceAdd, if_true, then_normal, Nat.reduceEqDiff, if_false, reduceIte, reduceCtorEq, decide_true, decide_false, Bool.not_true, Bool.not_false, beq_self_eq_true, beq_tf, beq_ft, aPick, List.map_cons, List.map_nil, List.nil_append, List.append_nil, List.getElem?_cons_zero, List.getElem?_cons_succ, z1, z2, z3, z4])) (by simp only [aOne, aP, aR, aA, aT, aCall, aCallVal, aev, regAt_set, aput_mk, aput_none, plainV, aNilCheck, aExtract, aBin, aInt, Addr.add, Nat.zero_add, ends_some, Nat.reduceLT, Nat.reduceAdd, if_true, then_normal, Nat.reduceEqDiff, if_false, reduceIte, reduceCtorEq, decide_true, decide_false, Bool.not_true, Bool.not_false, beq_self_eq_true, beq_tf, beq_ft, aPick, List.map_cons, List.map_nil, List.nil_append, List.append_nil, List.getElem?_cons_zero, List.getElem?_cons_succ, z1, z2, z3, z4]; try exact rfl) rfl ?_
  refine run2_true (by first | rfl | (simp only [wanted, aOne, aP, aR, aA, aT, aCall, aCallVal, aev, regAt_set, aput_mk, aput_none, plainV, aNilCheck, aExtract, aBin, aInt, Addr.add, Nat.zero_add, ends_some, Nat.reduceLT, Nat.reduceAdd, if_true, then_normal, Nat.reduceEqDiff, if_false, reduceIte, reduceCtorEq, decide_true, decide_false, Bool.not_true, Bool.not_false, beq_self_eq_true, beq_tf, beq_ft, aPick, List.map_cons, List.map_nil, List.nil_append, List.append_nil, List.getElem?_cons_zero, List.getElem?_cons_succ, z1, z2, z3, z4])) (by simp only [aOne, aP, aR, aA, aT, aCall, aCallVal, aev, regAt_set, aput_mk, aput_none, plainV, aNilCheck, aExtract, aBin, aInt, Addr.add, Nat.zero_add, ends_some, Nat.reduceLT, Nat.reduceAdd, if_true, then_normal, Nat.reduceEqDiff, if_false, reduceIte, reduceCtorEq, decide_true, decide_false, Bool.not_true, Bool.not_false, beq_self_eq_true, beq_tf, beq_ft, aPick, List.map_cons, List.map_nil, List.nil_append, List.append_nil, List.getElem?_cons_zero, List.getElem?_cons_succ, z1, z2, z3, z4]; try exact rfl) rfl ?_
  refine run2_true (by first | rfl | (simp only [wanted, aOne, aP, aR, aA, aT, aCall, aCallVal, aev, regAt_set, aput_mk, aput_none, plainV, aNilCheck, aExtract, aBin, aInt, Addr.add, Nat.zero_add, ends_some, Nat.reduceLT, Nat.reduceAdd, if_true, then_normal, Nat.reduceEqDiff, if_false, reduceIte, reduceCtorEq, decide_true, decide_false, Bool.not_true, Bool.not_false, beq_self_eq_true, beq_tf, beq_ft, aPick, List.map_cons, List.map_nil, List.nil_append, List.append_nil, List.getElem?_cons_zero, List.getElem?_cons_succ, z1, z2, z3, z4])) (by simp only [aOne, aP, aR, aA, aT, aCall, aCallVal, aev, regAt_set, aput_mk, aput_none, plainV, aNilCheck, aExtract, aBin, aInt, Addr.add, Nat.zero_add, ends_some, Nat.reduceLT, Nat.reduceAdd, if_true, then_normal, Nat.reduceEqDiff, if_false, reduceIte, reduceCtorEq, decide_true, decide_false, Bool.not_true, Bool.not_false, beq_self_eq_true, beq_tf, beq_ft, aPick, List.map_cons, List.map_nil, List.nil_append, List.append_nil, List.getElem?_cons_zero, List.getElem?_cons_succ, z1, z2, z3, z4]; try exact rfl) rfl ?_
  refine run2_true (by first | rfl | (simp only [wanted, aOne, aP, aR, aA, aT, aCall, aCallVal, aev, regAt_set, aput_mk, aput_none, plainV, aNilCheck, aExtract, aBin, aInt, Addr.add, Nat.zero_add, ends_some, Nat.reduceLT, Nat.reduceAdd, if_true, then_normal, Nat.reduceEqDiff, if_false, reduceIte, reduceCtorEq, decide_true, decide_false, Bool.not_true, Bool.not_false, beq_self_eq_true, beq_tf, beq_ft, aPick, List.map_cons, List.map_nil, List.nil_append, List.append_nil, List.getElem?_cons_zero, List.getElem?_cons_succ, z1, z2, z3, z4])) (by simp only [aOne, aP, aR, aA, aT, aCall, aCallVal, aev, regAt_set, aput_mk, aput_none, plainV, aNilCheck, aExtract, aBin, aInt, Addr.add, Nat.zero_add, ends_some, Nat.reduceLT, Nat.reduceAdd, if_true, then_normal, Nat.reduceEqDiff, if_false, reduceIte, reduceCtorEq, decide_true, decide_false, Bool.not_true, Bool.not_false, beq_self_eq_true, beq_tf, beq_ft, aPick, List.map_cons, List.map_nil, List.nil_append, List.append_nil, List.getElem?_cons_zero, List.getElem?_cons_succ, z1, z2, z3, z4]; try exact rfl) rfl ?_
  refine run2_true (by first | rfl | (simp only [wanted, aOne, aP, aR, aA, aT, aCall, aCallVal, aev, regAt_set, aput_mk, aput_none, plainV, aNilCheck, aExtract, aBin, aInt, Addr.add, Nat.zero_add, ends_some, Nat.reduceLT, Nat.reduceAdd, if_true, then_normal, Nat.reduceEqDiff, if_false, reduceIte, reduceCtorEq, decide_true, decide_false, Bool.not_true, Bool.not_false, beq_self_eq_true, beq_tf, beq_ft, aPick, List.map_cons, List.map_nil, List.nil_append, List.append_nil, List.getElem?_cons_zero, List.getElem?_cons_succ, z1, z2, z3, z4])) (by simp only [aOne, aP, aR, aA, aT, aCall, aCallVal, aev, regAt_set, aput_mk, aput_none, plainV, aNilCheck, aExtract, aBin, aInt, Addr.add, Nat.zero_add, ends_some, Nat.reduceLT, Nat.reduceAdd, if_true, then_normal, Nat.reduceEqDiff, if_false, reduceIte, reduceCtorEq, decide_true, decide_false, Bool.not_true, Bool.not_false, beq_self_eq_true, beq_tf, beq_ft, aPick, List.map_cons, List.map_nil, List.nil_append, List.append_nil, List.getElem?_cons_zero, List.getElem?_cons_succ, z1, z2, z3, z4]; try exact rfl) rfl ?_
  refine run2_true (by first | rfl | (simp only [wanted, aOne, aP, aR, aA, aT, aCall, aCallVal, aev, regAt_set, aput_mk, aput_none, plainV, aNilCheck, aExtract, aBin, aInt, Addr.add, Nat.zero_add, ends_some, Nat.reduceLT, Nat.reduceAdd, if_true, then_normal, Nat.reduceEqDiff, if_false, reduceIte, reduceCtorEq, decide_true, decide_false, Bool.not_true, Bool.not_false, beq_self_eq_true, beq_tf, beq_ft, aPick, List.map_cons, List.map_nil, List.nil_append, List.append_nil, List.getElem?_cons_zero, List.getElem?_cons_succ, z1, z2, z3, z4])) (by simp only [aOne, aP, aR, aA, aT, aCall, aCallVal, aev, regAt_set, aput_mk, aput_none, plainV, aNilCheck, aExtract, aBin, aInt, Addr.add, Nat.zero_add, ends_some, Nat.reduceLT, Nat.reduceAdd, if_true, then_normal, Nat.reduceEqDiff, if_false, reduceIte, reduceCtorEq, decide_true, decide_false, Bool.not_true, Bool.not_false, beq_self_eq_true, beq_tf, beq_ft, aPick, List.map_cons, List.map_nil, List.nil_append, List.append_nil, List.getElem?_cons_zero, List.getElem?_cons_succ, z1, z2, z3, z4]; try exact rfl) rfl ?_
  refine run2_true (by first | rfl | (simp only [wanted, aOne, aP, aR, aA, aT, aCall, aCallVal, aev, regAt_set, aput_mk, aput_none, plainV, aNilCheck, aExtract, aBin, aInt, Addr.add, Nat.zero_add, ends_some, Nat.reduceLT, Nat.reduceAdd, if_true, then_normal, Nat.reduceEqDiff, if_false, reduceIte, reduceCtorEq, decide_true, decide_false, Bool.not_true, Bool.not_false, beq_self_eq_true, beq_tf, beq_ft, aPick, List.map_cons, List.map_nil, List.nil_append, List.append_nil, List.getElem?_cons_zero, List.getElem?_cons_succ, z1, z2, z3, z4])) (by simp only [aOne, aP, aR, aA, aT, aCall, aCallVal, aev, regAt_set, aput_mk, aput_none, plainV, aNilCheck, aExtract, aBin, aInt, Addr.add, Nat.zero_add, ends_some, Nat.reduceLT, Nat.reduceAdd, if_true, then_normal, Nat.reduceEqDiff, if_false, reduceIte, reduceCtorEq, decide_true, decide_false, Bool.not_true, Bool.not_false, beq_self_eq_true, beq_tf, beq_ft, aPick, List.map_cons, List.map_nil, List.nil_append, List.append_nil, List.getElem?_cons_zero, List.getElem?_cons_succ, z1, z2, z3, z4]; try exact rfl) rfl ?_
  refine run2_true (by first | rfl | (simp only [wanted, aOne, aP, aR, aA, aT, aCall, aCallVal, aev, regAt_set, aput_mk, aput_none, plainV, aNilCheck, aExtract, aBin, aInt, Addr.add, Nat.zero_add, ends_some, Nat.reduceLT, Nat.reduceAdd, if_true, then_normal, Nat.reduceEqDiff, if_false, reduceIte, reduceCtorEq, decide_true, decide_false, Bool.not_true, Bool.not_false, beq_self_eq_true, beq_tf, beq_ft, aPick, List.map_cons, List.map_nil, List.nil_append, List.append_nil, List.getElem?_cons_zero, List.getElem?_cons_succ, z1, z2, z3, z4])) (by simp only [aOne, aP, aR, aA, aT, aCall, aCallVal, aev, regAt_set, aput_mk, aput_none, plainV, aNilCheck, aExtract, aBin, aInt, Addr.add, Nat.zero_add, ends_some, Nat.reduceLT, Nat.reduceAdd, if_true, then_normal, Nat.reduceEqDiff, if_false, reduceIte, reduceCtorEq, decide_true, decide_false, Bool.not_true, Bool.not_false, beq_self_eq_true, beq_tf, beq_ft, aPick, List.map_cons, List.map_nil, List.nil_append, List.append_nil, List.getElem?_cons_zero, List.getElem?_cons_succ, z1, z2, z3, z4]; try exact rfl) rfl ?_
  refine run2_true (by first | rfl | (simp only [wanted, aOne, aP, aR, aA, aT, aCall, aCallVal, aev, regAt_set, aput_mk, aput_none, plainV, aNilCheck, aExtract, aBin, aInt, Addr.add, Nat.zero_add, ends_some, Nat.reduceLT, Nat.reduceAdd, if_true, then_normal, Nat.reduceEqDiff, if_false, reduceIte, reduceCtorEq, decide_true, decide_false, Bool.not_true, Bool.not_false, beq_self_eq_true, beq_tf, beq_ft, aPick, List.map_cons, List.map_nil, List.nil_append, List.append_nil, List.getElem?_cons_zero, List.getElem?_cons_succ, z1, z2, z3, z4])) (by simp only [aOne, aP, aR, aA, aT, aCall, aCallVal, aev, regAt_set, aput_mk, aput_none, plainV, aNilCheck, aExtract, aBin, aInt, Addr.add, Nat.zero_add, ends_some, Nat.reduceLT, Nat.reduceAdd, if_true, then_normal, Nat.reduceEqDiff, if_false, reduceIte, reduceCtorEq, decide_true, decide_false, Bool.not_true, Bool.not_false, beq_self_eq_true, beq_tf, beq_ft, aPick, List.map_cons, List.map_nil, List.nil_append, List.append_nil, List.getElem?_cons_zero, List.getElem?_cons_succ, z1, z2, z3, z4]; try exact rfl) rfl ?_
  refine run2_true (by first | rfl | (simp only [wanted, aOne, aP, aR, aA, aT, aCall, aCallVal, aev, regAt_set, aput_mk, aput_none, plainV, aNilCheck, aExtract, aBin, aInt, Addr.add, Nat.zero_add, ends_some, Nat.reduceLT, Nat.reduceAdd, if_true, then_normal, Nat.reduceEqDiff, if_false, reduceIte, reduceCtorEq, decide_true, decide_false, Bool.not_true, Bool.not_false, beq_self_eq_true, beq_tf, beq_ft, aPick, List.map_cons, List.map_nil, List.nil_append, List.append_nil, List.getElem?_cons_zero, List.getElem?_cons_succ, z1, z2, z3, z4])) (by simp only [aOne, aP, aR, aA, aT, aCall, aCallVal, aev, regAt_set, aput_mk, aput_none, plainV, aNilCheck, aExtract, aBin, aInt, Addr.add, Nat.zero_add, ends_some, Nat.reduceLT, Nat.reduceAdd, if_true, then_normal, Nat.reduceEqDiff, if_false, reduceIte, reduceCtorEq, decide_true, decide_false, Bool.not_true, Bool.not_false, beq_self_eq_true, beq_tf, beq_ft, aPick, List.map_cons, List.map_nil, List.nil_append, List.append_nil, List.getElem?_cons_zero, List.getElem?_cons_succ, z1, z2, z3, z4]; try exact rfl) rfl ?_
  refine run2_true (by first | rfl | (simp only [wanted, aOne, aP, aR, aA, aT, aCall, aCallVal, aev, regAt_set, aput_mk, aput_none, plainV, aNilCheck, aExtract, aBin, aInt, Addr.add, Nat.zero_add, ends_some, Nat.reduceLT, Nat.reduceAdd, if_true, then_normal, Nat.reduceEqDiff, if_false, reduceIte, reduceCtorEq, decide_true, decide_false, Bool.not_true, Bool.not_false, beq_self_eq_true, beq_tf, beq_ft, aPick, List.map_cons, List.map_nil, List.nil_append, List.append_nil, List.getElem?_cons_zero, List.getElem?_cons_succ, z1, z2, z3, z4])) (by simp only [aOne, aP, aR, aA, aT, aCall, aCallVal, aev, regAt_set, aput_mk, aput_none, plainV, aNilCheck, aExtract, aBin, aInt, Addr.add, Nat.zero_add, ends_some, Nat.reduceLT, Nat.reduceAdd, if_true, then_normal, Nat.reduceEqDiff, if_false, reduceIte, reduceCtorEq, decide_true, decide_false, Bool.not_true, Bool.not_false, beq_self_eq_true, beq_tf, beq_ft, aPick, List.map_cons, List.map_nil, List.nil_append, List.append_nil, List.getElem?_cons_zero, List.getElem?_cons_succ, z1, z2, z3, z4]; try exact rfl) rfl ?_
  refine run2_true (by first | rfl | (simp only [wanted, aOne, aP, aR, aA, aT, aCall, aCallVal, aev, regAt_set, aput_mk, aput_none, plainV, aNilCheck, aExtract, aBin, aInt, Addr.add, Nat.zero_add, ends_some, Nat.reduceLT, Nat.reduceAdd, if_true, then_normal, Nat.reduceEqDiff, if_false, reduceIte, reduceCtorEq, decide_true, decide_false, Bool.not_true, Bool.not_false, beq_self_eq_true, beq_tf, beq_ft, aPick, List.map_cons, List.map_nil, List.nil_append, List.append_nil, List.getElem?_cons_zero, List.getElem?_cons_succ, z1, z2, z3, z4])) (by simp only [aOne, aP, aR, aA, aT, aCall, aCallVal, aev, regAt_set, aput_mk, aput_none, plainV, aNilCheck, aExtract, aBin, aInt, Addr.add, Nat.zero_add, ends_some, Nat.reduceLT, Nat.reduceAdd, if_true, then_normal, Nat.reduceEqDiff, if_false, reduceIte, reduceCtorEq, decide_true, decide_false, Bool.not_true, Bool.not_false, beq_self_eq_true, beq_tf, beq_ft, aPick, List.map_cons, List.map_nil, List.nil_append, List.append_nil, List.getElem?_cons_zero, List.getElem?_cons_succ, z1, z2, z3, z4]; try exact rfl) rfl ?_
  refine run2_true (by first | rfl | (simp only [wanted, aOne, aP, aR, aA, aT, aCall, aCallVal, aev, regAt_set, aput_mk, aput_none, plainV, aNilCheck, aExtract, aBin, aInt, Addr.add, Nat.zero_add, ends_some, Nat.reduceLT, Nat.reduceAdd, if_true, then_normal, Nat.reduceEqDiff, if_false, reduceIte, reduceCtorEq, decide_true, decide_false, Bool.not_true, Bool.not_false, beq_self_eq_true, beq_tf, beq_ft, aPick, List.map_cons, List.map_nil, List.nil_append, List.append_nil, List.getElem?_cons_zero, List.getElem?_cons_succ, z1, z2, z3, z4])) (by simp only [aOne, aP, aR, aA, aT, aCall, aCallVal, aev, regAt_set, aput_mk, aput_none, plainV, aNilCheck, aExtract, aBin, aInt, Addr.add, Nat.zero_add, ends_some, Nat.reduceLT, Nat.reduceAdd, if_true, then_normal, Nat.reduceEqDiff, if_false, reduceIte, reduceCtorEq, decide_true, decide_false, Bool.not_true, Bool.not_false, beq_self_eq_true, beq_tf, beq_ft, aPick, List.map_cons, List.map_nil, List.nil_append, List.append_nil, List.getElem?_cons_zero, List.getElem?_cons_succ, z1, z2, z3, z4]; try exact rfl) rfl ?_
  simp only [run2, ends_some, then_normal]
  refine code_cond_false ?_ ?_
  · simp only [aev, regAt_set, Nat.reduceEqDiff, reduceIte]
  refine code_skip ?_
  simp only [then_normal]
  refine code_seq ?_
  refine code_region ?_ ?_
  · rfl
  simp only [run1, aOne, aP, aR, aA, aT, aCall, aCallVal, aev, regAt_set, aput_mk, aput_none, plainV, aNilCheck, aExtract, aBin, aInt, Addr.add, Nat.zero_add, ends_some, Nat.reduceLT, Nat.reduceAdd, if_true, then_normal, Nat.reduceEqDiff, if_false, reduceIte, reduceCtorEq, decide_true, decide_false, Bool.not_true, Bool.not_false, beq_self_eq_true, beq_tf, beq_ft, aPick, List.map_cons, List.map_nil, List.nil_append, List.append_nil, List.getElem?_cons_zero, List.getElem?_cons_succ, faH0, ldA, hd0, a0, go_call (P := Tryz.prog) (X := X) (S := S0) Tryz.func81 rfl rfl, hal]
  refine code_seq ?_
  refine code_seq ?_
  refine code_region ?_ ?_
  · rfl
  simp only [run1, aOne, aP, aR, aA, aT, aCall, aCallVal, aev, regAt_set, aput_mk, aput_none, plainV, aNilCheck, aExtract, aBin, aInt, Addr.add, Nat.zero_add, ends_some, Nat.reduceLT, Nat.reduceAdd, if_true, then_normal, Nat.reduceEqDiff, if_false, reduceIte, reduceCtorEq, decide_true, decide_false, Bool.not_true, Bool.not_false, beq_self_eq_true, beq_tf, beq_ft, aPick, List.map_cons, List.map_nil, List.nil_append, List.append_nil, List.getElem?_cons_zero, List.getElem?_cons_succ]
  refine code_cond_false ?_ ?_
  · simp only [aev, regAt_set, Nat.reduceEqDiff, reduceIte]
  refine code_skip ?_
  simp only [then_normal]
  refine code_seq ?_
  refine code_draw (n := 10) (ms := [0, 1, 3, 7, 0, 0, 0, 96, 224, 511]) (ord := [5, 6, 7, 8, 0, 1, 2, 3, 4, 9]) (ds := ?_) ?_ ?_ ?_ ?_ ?_ ?_
  rotate_left
  · kernel_rfl
  · kernel_rfl
  · kernel_rfl
  · rfl
  · rfl
  simp only [dRun, wanted, aDrawOne, heavy, aP, aReads, aR, aT, aCall, aCallVal, aev, regAt_set, aput_mk, aput_none, aNilCheck, faH0, ldA, hd1', hd2, bdH2, one, Addr.add, Nat.add_zero, Nat.zero_add, befM, veq_ptr, go_call (P := Tryz.prog) (X := X) (S := S0) Tryz.func83 rfl rfl, go_call (P := Tryz.prog) (X := X) (S := S0) Tryz.func82 rfl rfl, hwe, hS, endsD_some, Nat.reduceLT, if_true, then_normal, Nat.reduceEqDiff, if_false, reduceIte, decide_true, List.map_cons, List.map_nil, List.nil_append, List.append_nil]
  refine code_seq ?_
  refine code_region ?_ ?_
  · rfl
  simp only [run1, aOne, aP, aR, aA, aT, aCall, aCallVal, aev, regAt_set, aput_mk, aput_none, plainV, aNilCheck, aExtract, aBin, aInt, Addr.add, Nat.zero_add, ends_some, Nat.reduceLT, Nat.reduceAdd, if_true, then_normal, Nat.reduceEqDiff, if_false, reduceIte, reduceCtorEq, decide_true, decide_false, Bool.not_true, Bool.not_false, beq_self_eq_true, beq_tf, beq_ft, aPick, List.map_cons, List.map_nil, List.nil_append, List.append_nil, List.getElem?_cons_zero, List.getElem?_cons_succ, go_call (P := Tryz.prog) (X := X) (S := S0) Tryz.func37 rfl rfl, single5_eq, Nat.reduceLeDiff]
  refine code_seq ?_
  refine code_seq ?_
  refine code_region ?_ ?_
  · rfl
  simp only [run1, aOne, aP, aR, aA, aT, aCall, aCallVal, aev, regAt_set, aput_mk, aput_none, plainV, aNilCheck, aExtract, aBin, aInt, Addr.add, Nat.zero_add, ends_some, Nat.reduceLT, Nat.reduceAdd, if_true, then_normal, Nat.reduceEqDiff, if_false, reduceIte, reduceCtorEq, decide_true, decide_false, Bool.not_true, Bool.not_false, beq_self_eq_true, beq_tf, beq_ft, aPick, List.map_cons, List.map_nil, List.nil_append, List.append_nil, List.getElem?_cons_zero, List.getElem?_cons_succ, go_call (P := Tryz.prog) (X := X) (S := S0) Tryz.func67 rfl rfl, hraw, Nat.reduceLeDiff]
  refine code_cond_true ?_ ?_
  · simp only [aev, regAt_set, Nat.reduceEqDiff, reduceIte]
  refine code_region ?_ ?_
  · rfl
  simp only [run1, aOne, aP, aR, aA, aT, aCall, aCallVal, aev, regAt_set, aput_mk, aput_none, plainV, aNilCheck, aExtract, aBin, aInt, Addr.add, Nat.zero_add, ends_some, Nat.reduceLT, Nat.reduceAdd, if_true, then_normal, Nat.reduceEqDiff, if_false, reduceIte, reduceCtorEq, decide_true, decide_false, Bool.not_true, Bool.not_false, beq_self_eq_true, beq_tf, beq_ft, aPick, List.map_cons, List.map_nil, List.nil_append, List.append_nil, List.getElem?_cons_zero, List.getElem?_cons_succ]
  refine code_seq ?_
  refine code_seq ?_
  refine code_region ?_ ?_
  · rfl
  simp only [run1, aOne, aP, aR, aA, aT, aCall, aCallVal, aev, regAt_set, aput_mk, aput_none, plainV, aNilCheck, aExtract, aBin, aInt, Addr.add, Nat.zero_add, ends_some, Nat.reduceLT, Nat.reduceAdd, if_true, then_normal, Nat.reduceEqDiff, if_false, reduceIte, reduceCtorEq, decide_true, decide_false, Bool.not_true, Bool.not_false, beq_self_eq_true, beq_tf, beq_ft, aPick, List.map_cons, List.map_nil, List.nil_append, List.append_nil, List.getElem?_cons_zero, List.getElem?_cons_succ]
  refine code_block ?_
  rw [show k + 390 = (k + 330 - n) + n + 60 from by omega]
  refine EndsC.mono (make_loop (q := q) (n := n) (ws := put ws q hwd) hH3.head hH3.hw hq hN (k + 330 - n) n 0 _ μ3 (by omega) (Only.refl _ _) (by rw [zeros_zero]; exact hB3.arena) ?_ ?_ ?_ ?_ ?_) ?_
  · simp only [regAt_set, Nat.reduceEqDiff, reduceIte]
  · simp only [regAt_set, Nat.reduceEqDiff, reduceIte]
  · simp only [regAt_set, Nat.reduceEqDiff, reduceIte]
  · simp only [regAt_set, Nat.reduceEqDiff, reduceIte]
  · simp only [regAt_set, Nat.reduceEqDiff, reduceIte]; rfl
  rintro x' r' μ' ⟨rfl, hO4, hA4, tm', rfl, g8⟩
  simp only [blockC, reduceIte, then_normal]
  have hB4 := hB3.only hO4 hA4
  have hC4 := hC3.only hO4 hB3.arena.apart
  have hpl : ∀ g, 40 ≤ g → aFun Tryz.prog (aCode Tryz.prog X S0 g) 84 [.int .i64 (.ofNat q)] μ' = some (.int .u64 (.ofNat (placeW q)), μ') := fun g hg => place_eq hg (by omega)
  refine code_seq ?_
  refine code_region ?_ ?_
  · rfl
  simp only [run1, aOne, aP, aR, aA, aT, aCall, aCallVal, aev, regAt_set, aput_mk, aput_none, plainV, aNilCheck, aExtract, aBin, aInt, Addr.add, Nat.zero_add, ends_some, Nat.reduceLT, Nat.reduceAdd, if_true, then_normal, Nat.reduceEqDiff, if_false, reduceIte, reduceCtorEq, decide_true, decide_false, Bool.not_true, Bool.not_false, beq_self_eq_true, beq_tf, beq_ft, aPick, List.map_cons, List.map_nil, List.nil_append, List.append_nil, List.getElem?_cons_zero, List.getElem?_cons_succ, g8, go_call (P := Tryz.prog) (X := X) (S := S0) Tryz.func84 rfl rfl, hpl, Nat.reduceLeDiff]
  refine code_ret ?_
  refine ⟨rfl, _, ?_, rfl, hH3.keeps (Keeps.only hO4) (hhw ▸ hB4), hC4, (((Keeps.kept hK1).trans (Keeps.grow hg2)).trans (Keeps.only hO3)).trans (Keeps.only hO4)⟩
  simp only [aResults, Tryz.results45, aRes, regAt_set, Nat.reduceEqDiff, reduceIte]
end

noncomputable section
variable {X : FuncId → List Value → Mem → Option (Value × Mem)}

theorem iHp : Tryz.prog.info? 60 = some Tryz.t60 := by kernel_rfl
theorem faS0 (ρ : Operand → Value) (x : Operand) : aFieldAddr Tryz.prog ρ 65 x 0 = (match ρ x with | .pointer (some a) => some (.pointer (some (a.add 0))) | _ => none) := fieldAddr_at (ft := 60) (off := 0) Tryz.underlying65 rfl iHp rfl ρ x
theorem ldHp (μ : Mem) (i o : Nat) : aLoad Tryz.prog μ 60 (.pointer (some ⟨i, o, none⟩)) = cellsAt μ i o := load_at Tryz.underlying60 rfl μ i o

theorem AB.setw {μ μ' : Mem} {ap wb lb N L : Nat} {ws ws' : Nat → Nat} {ln : Nat → Bool} (h : AB μ ap wb lb N L ws ln) (hA : Arena μ' ap wb N ws') (hle : μ.next ≤ μ'.next) (hk : ∀ j, j < μ.next → j ≠ wb → μ'.obs.get j = μ.obs.get j) : AB μ' ap wb lb N L ws' ln :=
  ⟨hA, h.lines.keep (by unfold cellsAt; rw [hk ap h.n1 h.arena.apart]) (hk lb h.n3 (Ne.symm h.d2)), by unfold Blk; rw [hk ap h.n1 h.arena.apart]; exact h.blk, Nat.lt_of_lt_of_le h.n1 hle, Nat.lt_of_lt_of_le h.n2 hle, Nat.lt_of_lt_of_le h.n3 hle, h.d1, h.d2, h.N1, h.L1⟩
theorem AC.keeps {μ μ' : Mem} {ap sf st gf gt nx : Nat} (h : AC μ ap sf st gf gt nx) (g : μ'.obs.get ap = μ.obs.get ap) : AC μ' ap sf st gf gt nx := by
  have e : ∀ p, cellsAt μ' ap p = cellsAt μ ap p := fun p => by unfold cellsAt; rw [g]
  exact ⟨(e _).trans h.c2, (e _).trans h.c3, (e _).trans h.c4, (e _).trans h.c5, (e _).trans h.c8⟩
theorem Keeps.of {μ μ' : Mem} {ap wb lb : Nat} (hle : μ.next ≤ μ'.next) (hk : ∀ j, j < μ.next → j ≠ wb → μ'.obs.get j = μ.obs.get j) : Keeps μ μ' ap wb lb := ⟨hle, fun i hi _ h2 _ => hk i hi h2⟩
theorem Keeps.cell {μ μ' : Mem} {ap wb lb i p : Nat} (h : Keeps μ μ' ap wb lb) (hi : i < μ.next) (h1 : i ≠ ap) (h2 : i ≠ wb) (h3 : i ≠ lb) : cellsAt μ' i p = cellsAt μ i p := by unfold cellsAt; rw [h.2 i hi h1 h2 h3]

/-- words written behind a head -/
def wr (ws : Nat → Nat) (q : Nat) (f : Nat → Nat) (j : Nat) : Nat → Nat := fun k => if q < k ∧ k ≤ q + j then f (k - q - 1) else ws k
theorem wr_zero (ws : Nat → Nat) (q : Nat) (f : Nat → Nat) : wr ws q f 0 = ws := by funext k; unfold wr; rw [if_neg (by omega)]
theorem wr_succ (ws : Nat → Nat) (q : Nat) (f : Nat → Nat) (j : Nat) : put (wr ws q f j) (q + 1 + j) (f j) = wr ws q f (j + 1) := by
  funext k; unfold put wr
  by_cases h : k = q + 1 + j
  · rw [if_pos h, if_pos (by omega), show k - q - 1 = j from by omega]
  · rw [if_neg h]
    by_cases h2 : q < k ∧ k ≤ q + j
    · rw [if_pos h2, if_pos (by omega)]
    · rw [if_neg h2, if_neg (by omega)]

set_option maxHeartbeats 4000000 in
theorem raw_loop {sp hp ap wb lb N L q kd n li c : Nat} {f : Nat → Nat} {ws : Nat → Nat} {ln : Nat → Bool} {μ0 : Mem} (hsp : cellsAt μ0 sp 0 = some (.pointer (some ⟨hp, 0, none⟩))) (hsn : sp < μ0.next) (s1 : sp ≠ ap) (s2 : sp ≠ wb) (s3 : sp ≠ lb)
    (hli : ∀ k, k < n → cellsAt μ0 li k = some (.int .u64 (.ofNat (f k)))) (hln : li < μ0.next) (l1 : li ≠ ap) (l2 : li ≠ wb) (l3 : li ≠ lb) (hq : q + n < N) (hw : ws q = headW kd 0 n) (hkd : kd < 32) :
    ∀ (e m j : Nat) (tm : T Value) (μ : Mem), j + m = n → HS μ hp ap wb lb N L (wr ws q f j) ln → Keeps μ0 μ ap wb lb → μ.obs.get ap = μ0.obs.get ap → regAt tm 0 = .pointer (some ⟨sp, 0, none⟩) → regAt tm 8 = .int .u64 (.ofNat (placeW q)) → regAt tm 25 = .slice (some ⟨li, 0, none⟩) n c → regAt tm 26 = .int .i64 (.ofNat n) → regAt tm 27 = .int .i64 (.ofNat j) →
      EndsC (aCode Tryz.prog X S0 (e + m + 100) (.loop (loopBody Tryz.f18 0)) ⟨42, tm, [], none⟩ μ) fun x r μ' => x = .exit 0 ∧ HS μ' hp ap wb lb N L (wr ws q f n) ln ∧ Keeps μ0 μ' ap wb lb ∧ μ'.obs.get ap = μ0.obs.get ap ∧ ∃ tm', r = ⟨42, tm', [], none⟩ ∧ regAt tm' 8 = .int .u64 (.ofNat (placeW q)) := by
  intro e m
  induction m with
  | zero =>
    intro j tm μ hj hH hK hap r0 r8 r25 r26 r27
    obtain rfl : j = n := hj
    refine code_loop ?_
    refine code_seq ?_
    refine code_region ?_ ?_
    · rfl
    simp only [run1, aOne, aP, aR, aA, aT, aCall, aCallVal, aev, regAt_set, aput_mk, aput_none, plainV, aNilCheck, aExtract, aBin, aInt, Addr.add, Nat.zero_add, ends_some, Nat.reduceLT, Nat.reduceAdd, if_true, then_normal, Nat.reduceEqDiff, if_false, reduceIte, reduceCtorEq, decide_true, decide_false, Bool.not_true, Bool.not_false, beq_self_eq_true, beq_tf, beq_ft, aPick, List.map_cons, List.map_nil, List.nil_append, List.append_nil, List.getElem?_cons_zero, List.getElem?_cons_succ, r27, r26, ilt_nat, Nat.lt_irrefl]
    refine code_seq ?_
    refine code_cond_false ?_ ?_
    · simp only [aev, regAt_set, Nat.reduceEqDiff, reduceIte]
    refine code_exit ?_
    simp only [then_exit]
    exact ⟨trivial, hH, hK, hap, _, rfl, by simp only [regAt_set, Nat.reduceEqDiff, reduceIte, r8]⟩
  | succ m ih =>
    intro j tm μ hj hH hK hap r0 r8 r25 r26 r27
    have hlt : j < n := by omega
    have hsp' := (hK.cell (p := 0) hsn s1 s2 s3).trans hsp
    have hli' := (hK.cell (p := j) hln l1 l2 l3).trans (hli j hlt)
    have hia : ∀ ρ : Operand → Value, ∀ a b', ρ a = .slice (some ⟨li, 0, none⟩) n c → ρ b' = .int .i64 (.ofNat j) → aIndexAddr Tryz.prog ρ 66 a b' = some (.pointer (some ⟨li, j, none⟩)) := fun ρ a b' g1 g2 => by
      rw [indexAddr_slice (P := Tryz.prog) Tryz.underlying66 iW rfl g1 g2 hlt, Nat.zero_add]
    have a3 : qwrap .i64 (Int.add (.ofNat j) 1) = .ofNat (j + 1) := add_nat j 1 (by have := hH.ab.N1; omega)
    have hwq : wr ws q f j q = headW kd 0 n := by unfold wr; rw [if_neg (by omega)]; exact hw
    obtain ⟨v1, μ1, hS, hv1, hA1, hn1, hk1⟩ := heap_set (X := X) (k := e + (m + 1) + 13) (w := f j) (i := j) hH.at hq hH.ab.N1 hwq hkd (by decide) hlt
    subst hv1
    have hS : aFun Tryz.prog (aCode Tryz.prog X S0 (e + (m + 1) + 93)) 46 [.pointer (some ⟨hp, 0, none⟩), .int .u64 (.ofNat (placeW q)), .int .i64 (.ofNat j), .int .u64 (.ofNat (f j))] μ = some (.int .i64 0, μ1) := hS
    rw [wr_succ] at hA1
    have hK1 : Keeps μ μ1 ap wb lb := Keeps.of hn1 hk1
    have hH1 := hH.keeps hK1 (hH.ab.setw hA1.arena hn1 hk1)
    refine code_loop ?_
    refine code_seq ?_
    refine code_region ?_ ?_
    · rfl
    simp only [run1, aOne, aP, aR, aA, aT, aCall, aCallVal, aev, regAt_set, aput_mk, aput_none, plainV, aNilCheck, aExtract, aBin, aInt, Addr.add, Nat.zero_add, ends_some, Nat.reduceLT, Nat.reduceAdd, if_true, then_normal, Nat.reduceEqDiff, if_false, reduceIte, reduceCtorEq, decide_true, decide_false, Bool.not_true, Bool.not_false, beq_self_eq_true, beq_tf, beq_ft, aPick, List.map_cons, List.map_nil, List.nil_append, List.append_nil, List.getElem?_cons_zero, List.getElem?_cons_succ, r27, r26, ilt_nat, hlt]
    refine code_seq ?_
    refine code_cond_true ?_ ?_
    · simp only [aev, regAt_set, Nat.reduceEqDiff, reduceIte]
    refine code_skip ?_
    simp only [then_normal]
    refine code_seq ?_
    refine code_block ?_
    refine code_seq ?_
    refine code_region ?_ ?_
    · rfl
    simp only [run1, aOne, aP, aR, aA, aT, aCall, aCallVal, aev, regAt_set, aput_mk, aput_none, plainV, aNilCheck, aExtract, aBin, aInt, Addr.add, Nat.zero_add, ends_some, Nat.reduceLT, Nat.reduceAdd, if_true, then_normal, Nat.reduceEqDiff, if_false, reduceIte, reduceCtorEq, decide_true, decide_false, Bool.not_true, Bool.not_false, beq_self_eq_true, beq_tf, beq_ft, aPick, List.map_cons, List.map_nil, List.nil_append, List.append_nil, List.getElem?_cons_zero, List.getElem?_cons_succ, r25, r27, hia, ldW, hli']
    refine code_region ?_ ?_
    · rfl
    simp only [run1, aOne, aP, aR, aA, aT, aCall, aCallVal, aev, regAt_set, aput_mk, aput_none, plainV, aNilCheck, aExtract, aBin, aInt, Addr.add, Nat.zero_add, ends_some, Nat.reduceLT, Nat.reduceAdd, if_true, then_normal, Nat.reduceEqDiff, if_false, reduceIte, reduceCtorEq, decide_true, decide_false, Bool.not_true, Bool.not_false, beq_self_eq_true, beq_tf, beq_ft, aPick, List.map_cons, List.map_nil, List.nil_append, List.append_nil, List.getElem?_cons_zero, List.getElem?_cons_succ, r0, r8, faS0, ldHp, hsp', go_call (P := Tryz.prog) (X := X) (S := S0) Tryz.func46 rfl rfl, hS]
    simp only [blockC, then_normal]
    refine code_region ?_ ?_
    · rfl
    simp only [run1, aOne, aP, aR, aA, aT, aCall, aCallVal, aev, regAt_set, aput_mk, aput_none, plainV, aNilCheck, aExtract, aBin, aInt, Addr.add, Nat.zero_add, ends_some, Nat.reduceLT, Nat.reduceAdd, if_true, then_normal, Nat.reduceEqDiff, if_false, reduceIte, reduceCtorEq, decide_true, decide_false, Bool.not_true, Bool.not_false, beq_self_eq_true, beq_tf, beq_ft, aPick, List.map_cons, List.map_nil, List.nil_append, List.append_nil, List.getElem?_cons_zero, List.getElem?_cons_succ, r27, a3]
    rw [show e + (m + 1) + 99 = e + m + 100 from by omega]
    refine ih (j + 1) _ _ (by omega) hH1 (hK.trans hK1) ((hk1 ap hH.ab.n1 hH.ab.arena.apart).trans hap) ?_ ?_ ?_ ?_ ?_ <;> simp only [regAt_set, Nat.reduceEqDiff, reduceIte, r0, r8, r25, r26]

set_option maxHeartbeats 4000000 in
theorem raw_ends {g sp hp ap wb lb N L q kd n li c sf' st' gf' gt' nx' : Nat} {f : Nat → Nat} {ws : Nat → Nat} {ln ln' : Nat → Bool} {μ μ1 : Mem} (hg : 500 ≤ g) (hsp : cellsAt μ sp 0 = some (.pointer (some ⟨hp, 0, none⟩))) (hsn : sp < μ.next) (s1 : sp ≠ ap) (s2 : sp ≠ wb) (s3 : sp ≠ lb)
    (hli : ∀ k, k < n → cellsAt μ li k = some (.int .u64 (.ofNat (f k)))) (hln : li < μ.next) (l1 : li ≠ ap) (l2 : li ≠ wb) (l3 : li ≠ lb) (hH : HS μ hp ap wb lb N L ws ln) (h1 : 16 ≤ kd) (h2 : kd < 32) (hn : n ≤ 240) (hq : q + n < N)
    (hal : aFun Tryz.prog (aCode Tryz.prog X S0 (g - 7)) 81 [.pointer (some ⟨ap, 0, none⟩), .int .i64 (.ofNat (n + 1))] μ = some (.tuple #[.int .i64 (.ofNat q), .bool true], μ1)) (hB1 : AB μ1 ap wb lb N L ws ln') (hC1 : AC μ1 ap sf' st' gf' gt' nx') (hK1 : Kept μ μ1 ap lb) :
    EndsF (aFun Tryz.prog (aCode Tryz.prog X S0 g) 18 [.pointer (some ⟨sp, 0, none⟩), .int .i64 (.ofNat kd), .slice (some ⟨li, 0, none⟩) n c] μ) fun v μ' => v = .tuple #[.int .u64 (.ofNat (placeW q)), .bool true] ∧ HS μ' hp ap wb lb N L (wr (zeros (put ws q (headW kd 0 n)) q n) q f n) ln' ∧ AC μ' ap sf' st' gf' gt' nx' ∧ Keeps μ μ' ap wb lb := by
  obtain ⟨k, rfl⟩ := Nat.exists_eq_add_of_le' hg
  obtain ⟨v2, μ2, hmk, hv2, hH2, hC2, hK2⟩ := heap_make (X := X) (g := k + 497) (by omega) hH h1 h2 hn hq hal hB1 hC1 hK1
  subst hv2
  have hsp2 := (hK2.cell (p := 0) hsn s1 s2 s3).trans hsp
  have hli2 : ∀ k, k < n → cellsAt μ2 li k = some (.int .u64 (.ofNat (f k))) := fun k hk => (hK2.cell hln l1 l2 l3).trans (hli k hk)
  refine fun_enter Tryz.func18 rfl rfl (Nat.le_of_ble_eq_true rfl) ?_
  simp only [T.lay, Nat.zero_add, Tryz.ntmps18, Nat.reduceAdd]
  refine code_seq ?_
  refine code_region ?_ ?_
  · rfl
  simp only [run1, aOne, aP, aR, aA, aT, aCall, aCallVal, aev, regAt_set, aput_mk, aput_none, plainV, aNilCheck, aExtract, aBin, aInt, Addr.add, Nat.zero_add, ends_some, Nat.reduceLT, Nat.reduceAdd, if_true, then_normal, Nat.reduceEqDiff, if_false, reduceIte, reduceCtorEq, decide_true, decide_false, Bool.not_true, Bool.not_false, beq_self_eq_true, beq_tf, beq_ft, aPick, List.map_cons, List.map_nil, List.nil_append, List.append_nil, List.getElem?_cons_zero, List.getElem?_cons_succ]
  refine code_seq ?_
  refine code_region ?_ ?_
  · rfl
  simp only [run1, aOne, aP, aR, aA, aT, aCall, aCallVal, aev, regAt_set, aput_mk, aput_none, plainV, aNilCheck, aExtract, aBin, aInt, Addr.add, Nat.zero_add, ends_some, Nat.reduceLT, Nat.reduceAdd, if_true, then_normal, Nat.reduceEqDiff, if_false, reduceIte, reduceCtorEq, decide_true, decide_false, Bool.not_true, Bool.not_false, beq_self_eq_true, beq_tf, beq_ft, aPick, List.map_cons, List.map_nil, List.nil_append, List.append_nil, List.getElem?_cons_zero, List.getElem?_cons_succ, faS0, ldHp, hsp, aBuiltin, aLen, Tryz.underlying66, cast_nat, go_call (P := Tryz.prog) (X := X) (S := S0) Tryz.func45 rfl rfl, hmk]
  refine code_seq ?_
  refine code_seq ?_
  refine code_region ?_ ?_
  · rfl
  simp only [run1, aOne, aP, aR, aA, aT, aCall, aCallVal, aev, regAt_set, aput_mk, aput_none, plainV, aNilCheck, aExtract, aBin, aInt, Addr.add, Nat.zero_add, ends_some, Nat.reduceLT, Nat.reduceAdd, if_true, then_normal, Nat.reduceEqDiff, if_false, reduceIte, reduceCtorEq, decide_true, decide_false, Bool.not_true, Bool.not_false, beq_self_eq_true, beq_tf, beq_ft, aPick, List.map_cons, List.map_nil, List.nil_append, List.append_nil, List.getElem?_cons_zero, List.getElem?_cons_succ]
  refine code_cond_false ?_ ?_
  · simp only [aev, regAt_set, Nat.reduceEqDiff, reduceIte]
  refine code_skip ?_
  simp only [then_normal]
  refine code_seq ?_
  refine code_seq ?_
  refine code_region ?_ ?_
  · rfl
  simp only [run1, aOne, aP, aR, aA, aT, aCall, aCallVal, aev, regAt_set, aput_mk, aput_none, plainV, aNilCheck, aExtract, aBin, aInt, Addr.add, Nat.zero_add, ends_some, Nat.reduceLT, Nat.reduceAdd, if_true, then_normal, Nat.reduceEqDiff, if_false, reduceIte, reduceCtorEq, decide_true, decide_false, Bool.not_true, Bool.not_false, beq_self_eq_true, beq_tf, beq_ft, aPick, List.map_cons, List.map_nil, List.nil_append, List.append_nil, List.getElem?_cons_zero, List.getElem?_cons_succ, aBuiltin, aLen, Tryz.underlying66, cast_nat]
  refine code_block ?_
  rw [show k + 494 = (k + 394 - n) + n + 100 from by omega]
  refine EndsC.mono (raw_loop (c := c) (f := f) (ws := zeros (put ws q (headW kd 0 n)) q n) (ln := ln') hsp2 (Nat.lt_of_lt_of_le hsn hK2.1) s1 s2 s3 hli2 (Nat.lt_of_lt_of_le hln hK2.1) l1 l2 l3 hq (by unfold zeros; rw [if_neg (by omega)]; unfold put; rw [if_pos rfl]) h2 (k + 394 - n) n 0 _ μ2 (by omega) (by rw [wr_zero]; exact hH2) ⟨Nat.le_refl _, fun _ _ _ _ _ => rfl⟩ rfl ?_ ?_ ?_ ?_ ?_) ?_
  · simp only [regAt_set, Nat.reduceEqDiff, reduceIte]
  · simp only [regAt_set, Nat.reduceEqDiff, reduceIte]
  · simp only [regAt_set, Nat.reduceEqDiff, reduceIte]
  · simp only [regAt_set, Nat.reduceEqDiff, reduceIte]
  · simp only [regAt_set, Nat.reduceEqDiff, reduceIte]; rfl
  rintro x' r' μ' ⟨rfl, hH3, hK3, hap3, tm', rfl, g8⟩
  simp only [blockC, reduceIte, then_normal]
  refine code_seq ?_
  refine code_region ?_ ?_
  · rfl
  simp only [run1, aOne, aP, aR, aA, aT, aCall, aCallVal, aev, regAt_set, aput_mk, aput_none, plainV, aNilCheck, aExtract, aBin, aInt, Addr.add, Nat.zero_add, ends_some, Nat.reduceLT, Nat.reduceAdd, if_true, then_normal, Nat.reduceEqDiff, if_false, reduceIte, reduceCtorEq, decide_true, decide_false, Bool.not_true, Bool.not_false, beq_self_eq_true, beq_tf, beq_ft, aPick, List.map_cons, List.map_nil, List.nil_append, List.append_nil, List.getElem?_cons_zero, List.getElem?_cons_succ, g8]
  refine code_ret ?_
  refine ⟨rfl, _, ?_, rfl, hH3, hC2.keeps hap3, hK2.trans hK3⟩
  simp only [aResults, Tryz.results18, aRes, regAt_set, Nat.reduceEqDiff, reduceIte]
end

noncomputable section
variable {X : FuncId → List Value → Mem → Option (Value × Mem)}

def wsO (n : Nat) : Ob := .cells n 29 #[.int .u64 0] .e 0 0 false false
theorem zW : aZeroOf Tryz.prog 29 = some (.int .u64 0) := by unfold aZeroOf; rw [iW]; rfl
theorem msW (n : Nat) (h : n < 1000000) : aMakeSlice Tryz.prog 66 (.int .i64 (.ofNat n)) (.int .i64 (.ofNat n)) = some (wsO n, fun id => .slice (some ⟨id, 0, none⟩) n (2 * n)) := by
  have e1 : Nat.ble n n = true := Nat.ble_eq_true_of_le (Nat.le_refl _)
  have e2 : Nat.ble n 1073741824 = true := Nat.ble_eq_true_of_le (by omega)
  have e3 : Nat.ble (Nat.mul n Tryz.t29.bytes) 1099511627776 = true := Nat.ble_eq_true_of_le (by show n * 8 ≤ 1099511627776; omega)
  have e4 : Nat.mul n Tryz.t29.size = n := Nat.mul_one n
  have e5 : Nat.beq (cellsL (.int .u64 0)).length Tryz.t29.size = true := rfl
  unfold aMakeSlice
  simp only [Tryz.underlying66, iW, e1, e2, e3, zW, e5, e4]
  rfl

set_option maxHeartbeats 4000000 in
theorem fields_no {g sp hp ap wb N q kd kd' pn n : Nat} {ws : Nat → Nat} {μ : Mem} (hg : 150 ≤ g) (hsp : cellsAt μ sp 0 = some (.pointer (some ⟨hp, 0, none⟩))) (hH : HeapAt μ hp ap wb N ws) (hq : q < N) (hN : N < 1000000) (hw : ws q = headW kd pn n) (h1 : kd < 32) (h2 : pn < 8) (h3 : n < 1000000) (hne : kd ≠ kd') :
    EndsF (aFun Tryz.prog (aCode Tryz.prog X S0 g) 20 [.pointer (some ⟨sp, 0, none⟩), .int .i64 (.ofNat kd'), .int .u64 (.ofNat (placeW q))] μ) fun v μ' => v = .tuple #[.slice none 0 0, .bool false] ∧ Grow μ μ' := by
  obtain ⟨k, rfl⟩ := Nat.exists_eq_add_of_le' hg
  obtain ⟨v1, μ1, hk, hv1, hg1⟩ := heap_kind (X := X) (k := k + 66) hH hq hN hw h1 h2 h3
  subst hv1
  have hk : aFun Tryz.prog (aCode Tryz.prog X S0 (k + 146)) 47 [.pointer (some ⟨hp, 0, none⟩), .int .u64 (.ofNat (placeW q))] μ = some (.int .i64 (.ofNat kd), μ1) := hk
  have hd : decide (kd = kd') = false := decide_eq_false hne
  refine fun_enter Tryz.func20 rfl rfl (Nat.le_of_ble_eq_true rfl) ?_
  simp only [T.lay, Nat.zero_add, Tryz.ntmps20, Nat.reduceAdd]
  refine code_seq ?_
  refine code_region ?_ ?_
  · rfl
  simp only [run1, aOne, aP, aR, aA, aT, aCall, aCallVal, aev, regAt_set, aput_mk, aput_none, plainV, aNilCheck, aExtract, aBin, aInt, Addr.add, Nat.zero_add, ends_some, Nat.reduceLT, Nat.reduceAdd, if_true, then_normal, Nat.reduceEqDiff, if_false, reduceIte, reduceCtorEq, decide_true, decide_false, Bool.not_true, Bool.not_false, beq_self_eq_true, beq_tf, beq_ft, aPick, List.map_cons, List.map_nil, List.nil_append, List.append_nil, List.getElem?_cons_zero, List.getElem?_cons_succ]
  refine code_seq ?_
  refine code_seq ?_
  refine code_region ?_ ?_
  · rfl
  simp only [run1, aOne, aP, aR, aA, aT, aCall, aCallVal, aev, regAt_set, aput_mk, aput_none, plainV, aNilCheck, aExtract, aBin, aInt, Addr.add, Nat.zero_add, ends_some, Nat.reduceLT, Nat.reduceAdd, if_true, then_normal, Nat.reduceEqDiff, if_false, reduceIte, reduceCtorEq, decide_true, decide_false, Bool.not_true, Bool.not_false, beq_self_eq_true, beq_tf, beq_ft, aPick, List.map_cons, List.map_nil, List.nil_append, List.append_nil, List.getElem?_cons_zero, List.getElem?_cons_succ, faS0, ldHp, hsp, go_call (P := Tryz.prog) (X := X) (S := S0) Tryz.func47 rfl rfl, hk, ieq_nat, hd]
  refine code_cond_true ?_ ?_
  · simp only [aev, regAt_set, Nat.reduceEqDiff, reduceIte]
  refine code_seq ?_
  refine code_region ?_ ?_
  · rfl
  simp only [run1, aOne, aP, aR, aA, aT, aCall, aCallVal, aev, regAt_set, aput_mk, aput_none, plainV, aNilCheck, aExtract, aBin, aInt, Addr.add, Nat.zero_add, ends_some, Nat.reduceLT, Nat.reduceAdd, if_true, then_normal, Nat.reduceEqDiff, if_false, reduceIte, reduceCtorEq, decide_true, decide_false, Bool.not_true, Bool.not_false, beq_self_eq_true, beq_tf, beq_ft, aPick, List.map_cons, List.map_nil, List.nil_append, List.append_nil, List.getElem?_cons_zero, List.getElem?_cons_succ]
  refine code_ret ?_
  refine ⟨rfl, _, ?_, rfl, hg1⟩
  simp only [aResults, Tryz.results20, aRes, regAt_set, Nat.reduceEqDiff, reduceIte]

set_option maxHeartbeats 4000000 in
theorem fields_loop {sp hp ap wb N q kd n oi c : Nat} {ws : Nat → Nat} {μ0 : Mem} (hsp : cellsAt μ0 sp 0 = some (.pointer (some ⟨hp, 0, none⟩))) (hsn : sp < μ0.next) (hH0 : HeapAt μ0 hp ap wb N ws) (hq : q + n < N) (hN : N < 1000000) (hw : ws q = headW kd 0 n) (hkd : kd < 32) (hoi : μ0.next ≤ oi) :
    ∀ (e m j : Nat) (tm : T Value) (μ : Mem), j + m = n → Grow μ0 μ → oi < μ.next → Blk μ oi n 29 → (∀ i, i < j → cellsAt μ oi i = some (.int .u64 (.ofNat (ws (q + 1 + i))))) → regAt tm 0 = .pointer (some ⟨sp, 0, none⟩) → regAt tm 2 = .int .u64 (.ofNat (placeW q)) → regAt tm 8 = .slice (some ⟨oi, 0, none⟩) n c → regAt tm 26 = .int .i64 (.ofNat n) → regAt tm 27 = .int .i64 (.ofNat j) →
      EndsC (aCode Tryz.prog X S0 (e + m + 100) (.loop (loopBody Tryz.f20 0)) ⟨45, tm, [], none⟩ μ) fun x r μ' => x = .exit 0 ∧ Grow μ0 μ' ∧ oi < μ'.next ∧ Blk μ' oi n 29 ∧ (∀ i, i < n → cellsAt μ' oi i = some (.int .u64 (.ofNat (ws (q + 1 + i))))) ∧ ∃ tm', r = ⟨45, tm', [], none⟩ ∧ regAt tm' 8 = .slice (some ⟨oi, 0, none⟩) n c := by
  intro e m
  induction m with
  | zero =>
    intro j tm μ hj hG hon hb hc r0 r2 r8 r26 r27
    obtain rfl : j = n := hj
    refine code_loop ?_
    refine code_seq ?_
    refine code_region ?_ ?_
    · rfl
    simp only [run1, aOne, aP, aR, aA, aT, aCall, aCallVal, aev, regAt_set, aput_mk, aput_none, plainV, aNilCheck, aExtract, aBin, aInt, Addr.add, Nat.zero_add, ends_some, Nat.reduceLT, Nat.reduceAdd, if_true, then_normal, Nat.reduceEqDiff, if_false, reduceIte, reduceCtorEq, decide_true, decide_false, Bool.not_true, Bool.not_false, beq_self_eq_true, beq_tf, beq_ft, aPick, List.map_cons, List.map_nil, List.nil_append, List.append_nil, List.getElem?_cons_zero, List.getElem?_cons_succ, r27, r26, ilt_nat, Nat.lt_irrefl]
    refine code_seq ?_
    refine code_cond_false ?_ ?_
    · simp only [aev, regAt_set, Nat.reduceEqDiff, reduceIte]
    refine code_exit ?_
    simp only [then_exit]
    exact ⟨trivial, hG, hon, hb, hc, _, rfl, by simp only [regAt_set, Nat.reduceEqDiff, reduceIte, r8]⟩
  | succ m ih =>
    intro j tm μ hj hG hon hb hc r0 r2 r8 r26 r27
    have hlt : j < n := by omega
    have hsp' : cellsAt μ sp 0 = some (.pointer (some ⟨hp, 0, none⟩)) := by rw [← hsp]; unfold cellsAt; rw [hG.2 sp hsn]
    have hH := hH0.keep hG
    have a3 : qwrap .i64 (Int.add (.ofNat j) 1) = .ofNat (j + 1) := add_nat j 1 (by omega)
    obtain ⟨v1, μ1, hS, hv1, hg1⟩ := heap_get (X := X) (k := e + (m + 1) + 13) (i := j) hH hq hN hw hkd (by decide) hlt
    subst hv1
    obtain ⟨w, hwd⟩ : ∃ w, w = ws (q + 1 + j) := ⟨_, rfl⟩
    rw [← hwd] at hS
    have hS : aFun Tryz.prog (aCode Tryz.prog X S0 (e + (m + 1) + 93)) 49 [.pointer (some ⟨hp, 0, none⟩), .int .u64 (.ofNat (placeW q)), .int .i64 (.ofNat j)] μ = some (.tuple #[.int .u64 (.ofNat w), .int .i64 0], μ1) := hS
    have hia : ∀ ρ : Operand → Value, ∀ a b', ρ a = .slice (some ⟨oi, 0, none⟩) n c → ρ b' = .int .i64 (.ofNat j) → aIndexAddr Tryz.prog ρ 66 a b' = some (.pointer (some ⟨oi, j, none⟩)) := fun ρ a b' g1 g2 => by
      rw [indexAddr_slice (P := Tryz.prog) Tryz.underlying66 iW rfl g1 g2 hlt, Nat.zero_add]
    have hb1 : Blk μ1 oi n 29 := by unfold Blk; rw [hg1.2 oi hon]; exact hb
    have hst := store_put (t := 29) (v := .int .u64 (.ofNat w)) iW rfl rfl hb1 hlt
    have hG1 := hG.trans hg1
    have hG2 : Grow μ0 (putL μ1 oi j [.int .u64 (.ofNat w)]) := ⟨by rw [putL_next]; exact hG1.1, fun i hi => by rw [putL_get _ _ _ _ (by omega)]; exact hG1.2 i hi⟩
    refine code_loop ?_
    refine code_seq ?_
    refine code_region ?_ ?_
    · rfl
    simp only [run1, aOne, aP, aR, aA, aT, aCall, aCallVal, aev, regAt_set, aput_mk, aput_none, plainV, aNilCheck, aExtract, aBin, aInt, Addr.add, Nat.zero_add, ends_some, Nat.reduceLT, Nat.reduceAdd, if_true, then_normal, Nat.reduceEqDiff, if_false, reduceIte, reduceCtorEq, decide_true, decide_false, Bool.not_true, Bool.not_false, beq_self_eq_true, beq_tf, beq_ft, aPick, List.map_cons, List.map_nil, List.nil_append, List.append_nil, List.getElem?_cons_zero, List.getElem?_cons_succ, r27, r26, ilt_nat, hlt]
    refine code_seq ?_
    refine code_cond_true ?_ ?_
    · simp only [aev, regAt_set, Nat.reduceEqDiff, reduceIte]
    refine code_skip ?_
    simp only [then_normal]
    refine code_seq ?_
    refine code_block ?_
    refine code_seq ?_
    refine code_region ?_ ?_
    · rfl
    simp only [run1, aOne, aP, aR, aA, aT, aCall, aCallVal, aev, regAt_set, aput_mk, aput_none, plainV, aNilCheck, aExtract, aBin, aInt, Addr.add, Nat.zero_add, ends_some, Nat.reduceLT, Nat.reduceAdd, if_true, then_normal, Nat.reduceEqDiff, if_false, reduceIte, reduceCtorEq, decide_true, decide_false, Bool.not_true, Bool.not_false, beq_self_eq_true, beq_tf, beq_ft, aPick, List.map_cons, List.map_nil, List.nil_append, List.append_nil, List.getElem?_cons_zero, List.getElem?_cons_succ, r27]
    refine code_region ?_ ?_
    · rfl
    simp only [run1, aOne, aP, aR, aA, aT, aCall, aCallVal, aev, regAt_set, aput_mk, aput_none, plainV, aNilCheck, aExtract, aBin, aInt, Addr.add, Nat.zero_add, ends_some, Nat.reduceLT, Nat.reduceAdd, if_true, then_normal, Nat.reduceEqDiff, if_false, reduceIte, reduceCtorEq, decide_true, decide_false, Bool.not_true, Bool.not_false, beq_self_eq_true, beq_tf, beq_ft, aPick, List.map_cons, List.map_nil, List.nil_append, List.append_nil, List.getElem?_cons_zero, List.getElem?_cons_succ, r0, r2, r8, faS0, ldHp, hsp', go_call (P := Tryz.prog) (X := X) (S := S0) Tryz.func49 rfl rfl, hS, hia, hst]
    simp only [blockC, then_normal]
    refine code_region ?_ ?_
    · rfl
    simp only [run1, aOne, aP, aR, aA, aT, aCall, aCallVal, aev, regAt_set, aput_mk, aput_none, plainV, aNilCheck, aExtract, aBin, aInt, Addr.add, Nat.zero_add, ends_some, Nat.reduceLT, Nat.reduceAdd, if_true, then_normal, Nat.reduceEqDiff, if_false, reduceIte, reduceCtorEq, decide_true, decide_false, Bool.not_true, Bool.not_false, beq_self_eq_true, beq_tf, beq_ft, aPick, List.map_cons, List.map_nil, List.nil_append, List.append_nil, List.getElem?_cons_zero, List.getElem?_cons_succ, r27, a3]
    rw [show e + (m + 1) + 99 = e + m + 100 from by omega]
    refine ih (j + 1) _ _ (by omega) hG2 (by rw [putL_next]; exact Nat.lt_of_lt_of_le hon hg1.1) (hb1.put _ _) (fun i hi => ?_) ?_ ?_ ?_ ?_ ?_
    · rw [cells_put hb1 (by show j + 1 ≤ n; omega)]
      by_cases hij : i = j
      · subst hij
        rw [dif_pos ⟨rfl, Nat.le_refl _, by show i < i + 1; omega⟩, ← hwd]
        simp
      · rw [dif_neg (by rintro ⟨_, g1, g2⟩; simp only [List.length_cons, List.length_nil] at g2; omega)]
        rw [← hc i (by omega)]; unfold cellsAt; rw [hg1.2 oi hon]
    all_goals simp only [regAt_set, Nat.reduceEqDiff, reduceIte, r0, r2, r8, r26]

set_option maxHeartbeats 4000000 in
theorem fields_yes {g sp hp ap wb N q kd n : Nat} {ws : Nat → Nat} {μ : Mem} (hg : 400 ≤ g) (hsp : cellsAt μ sp 0 = some (.pointer (some ⟨hp, 0, none⟩))) (hsn : sp < μ.next) (hH : HeapAt μ hp ap wb N ws) (hq : q + n < N) (hN : N < 1000000) (hw : ws q = headW kd 0 n) (h1 : kd < 32) (hn : n ≤ 240) :
    EndsF (aFun Tryz.prog (aCode Tryz.prog X S0 g) 20 [.pointer (some ⟨sp, 0, none⟩), .int .i64 (.ofNat kd), .int .u64 (.ofNat (placeW q))] μ) fun v μ' => ∃ oi, v = .tuple #[.slice (some ⟨oi, 0, none⟩) n (2 * n), .bool true] ∧ Grow μ μ' ∧ μ.next ≤ oi ∧ oi < μ'.next ∧ ∀ i, i < n → cellsAt μ' oi i = some (.int .u64 (.ofNat (ws (q + 1 + i)))) := by
  obtain ⟨k, rfl⟩ := Nat.exists_eq_add_of_le' hg
  obtain ⟨v1, μ1, hk, hv1, hg1⟩ := heap_kind (X := X) (k := k + 316) hH (by omega) hN hw h1 (by decide) (by omega)
  subst hv1
  have hk : aFun Tryz.prog (aCode Tryz.prog X S0 (k + 396)) 47 [.pointer (some ⟨hp, 0, none⟩), .int .u64 (.ofNat (placeW q))] μ = some (.int .i64 (.ofNat kd), μ1) := hk
  have hH1 := hH.keep hg1
  have hsp1 : cellsAt μ1 sp 0 = some (.pointer (some ⟨hp, 0, none⟩)) := by rw [← hsp]; unfold cellsAt; rw [hg1.2 sp hsn]
  obtain ⟨v2, μ2, hs, hv2, hg2⟩ := heap_size (X := X) (k := k + 316) hH1 (by omega) hN hw h1 (by decide) (by omega)
  subst hv2
  have hs : aFun Tryz.prog (aCode Tryz.prog X S0 (k + 396)) 48 [.pointer (some ⟨hp, 0, none⟩), .int .u64 (.ofNat (placeW q))] μ1 = some (.int .i64 (.ofNat n), μ2) := hs
  have hg12 := hg1.trans hg2
  have hsn2 := Nat.lt_of_lt_of_le hsn hg12.1
  have hH2 := hH.keep hg12
  have hsp2 : cellsAt μ2 sp 0 = some (.pointer (some ⟨hp, 0, none⟩)) := by rw [← hsp]; unfold cellsAt; rw [hg12.2 sp hsn]
  have hgn := grow1 μ2 (wsO n)
  have hd : decide (kd = kd) = true := decide_eq_true rfl
  have hms := msW n (by omega)
  refine fun_enter Tryz.func20 rfl rfl (Nat.le_of_ble_eq_true rfl) ?_
  simp only [T.lay, Nat.zero_add, Tryz.ntmps20, Nat.reduceAdd]
  refine code_seq ?_
  refine code_region ?_ ?_
  · rfl
  simp only [run1, aOne, aP, aR, aA, aT, aCall, aCallVal, aev, regAt_set, aput_mk, aput_none, plainV, aNilCheck, aExtract, aBin, aInt, Addr.add, Nat.zero_add, ends_some, Nat.reduceLT, Nat.reduceAdd, if_true, then_normal, Nat.reduceEqDiff, if_false, reduceIte, reduceCtorEq, decide_true, decide_false, Bool.not_true, Bool.not_false, beq_self_eq_true, beq_tf, beq_ft, aPick, List.map_cons, List.map_nil, List.nil_append, List.append_nil, List.getElem?_cons_zero, List.getElem?_cons_succ]
  refine code_seq ?_
  refine code_seq ?_
  refine code_region ?_ ?_
  · rfl
  simp only [run1, aOne, aP, aR, aA, aT, aCall, aCallVal, aev, regAt_set, aput_mk, aput_none, plainV, aNilCheck, aExtract, aBin, aInt, Addr.add, Nat.zero_add, ends_some, Nat.reduceLT, Nat.reduceAdd, if_true, then_normal, Nat.reduceEqDiff, if_false, reduceIte, reduceCtorEq, decide_true, decide_false, Bool.not_true, Bool.not_false, beq_self_eq_true, beq_tf, beq_ft, aPick, List.map_cons, List.map_nil, List.nil_append, List.append_nil, List.getElem?_cons_zero, List.getElem?_cons_succ, faS0, ldHp, hsp, go_call (P := Tryz.prog) (X := X) (S := S0) Tryz.func47 rfl rfl, hk, ieq_nat, hd]
  refine code_cond_false ?_ ?_
  · simp only [aev, regAt_set, Nat.reduceEqDiff, reduceIte]
  refine code_skip ?_
  simp only [then_normal]
  refine code_seq ?_
  refine code_region ?_ ?_
  · rfl
  simp only [run1, aOne, aP, aR, aA, aT, aCall, aCallVal, aev, regAt_set, aput_mk, aput_none, plainV, aNilCheck, aExtract, aBin, aInt, Addr.add, Nat.zero_add, ends_some, Nat.reduceLT, Nat.reduceAdd, if_true, then_normal, Nat.reduceEqDiff, if_false, reduceIte, reduceCtorEq, decide_true, decide_false, Bool.not_true, Bool.not_false, beq_self_eq_true, beq_tf, beq_ft, aPick, List.map_cons, List.map_nil, List.nil_append, List.append_nil, List.getElem?_cons_zero, List.getElem?_cons_succ, faS0, ldHp, hsp1, go_call (P := Tryz.prog) (X := X) (S := S0) Tryz.func48 rfl rfl, hs, hms]
  refine code_seq ?_
  refine code_seq ?_
  refine code_region ?_ ?_
  · rfl
  simp only [run1, aOne, aP, aR, aA, aT, aCall, aCallVal, aev, regAt_set, aput_mk, aput_none, plainV, aNilCheck, aExtract, aBin, aInt, Addr.add, Nat.zero_add, ends_some, Nat.reduceLT, Nat.reduceAdd, if_true, then_normal, Nat.reduceEqDiff, if_false, reduceIte, reduceCtorEq, decide_true, decide_false, Bool.not_true, Bool.not_false, beq_self_eq_true, beq_tf, beq_ft, aPick, List.map_cons, List.map_nil, List.nil_append, List.append_nil, List.getElem?_cons_zero, List.getElem?_cons_succ, aBuiltin, aLen, Tryz.underlying66, cast_nat]
  refine code_block ?_
  rw [show k + 394 = (k + 294 - n) + n + 100 from by omega]
  refine EndsC.mono (fields_loop (c := 2 * n) (oi := μ2.next) hsp2 hsn2 hH2 hq hN hw h1 (Nat.le_refl _) (k + 294 - n) n 0 _ ⟨μ2.obs.set μ2.next (wsO n), μ2.next + 1⟩ (by omega) hgn (Nat.lt_succ_self _) ⟨_, _, _, _, by show T.get _ _ = _; rw [T.get_set, if_pos rfl]; rfl⟩ (fun i hi => absurd hi (Nat.not_lt_zero i)) ?_ ?_ ?_ ?_ ?_) ?_
  · simp only [regAt_set, Nat.reduceEqDiff, reduceIte]
  · simp only [regAt_set, Nat.reduceEqDiff, reduceIte]
  · simp only [regAt_set, Nat.reduceEqDiff, reduceIte]
  · simp only [regAt_set, Nat.reduceEqDiff, reduceIte]
  · simp only [regAt_set, Nat.reduceEqDiff, reduceIte]; rfl
  rintro x' r' μ' ⟨rfl, hG, hon, hb, hc, tm', rfl, g8⟩
  simp only [blockC, reduceIte, then_normal]
  refine code_seq ?_
  refine code_region ?_ ?_
  · rfl
  simp only [run1, aOne, aP, aR, aA, aT, aCall, aCallVal, aev, regAt_set, aput_mk, aput_none, plainV, aNilCheck, aExtract, aBin, aInt, Addr.add, Nat.zero_add, ends_some, Nat.reduceLT, Nat.reduceAdd, if_true, then_normal, Nat.reduceEqDiff, if_false, reduceIte, reduceCtorEq, decide_true, decide_false, Bool.not_true, Bool.not_false, beq_self_eq_true, beq_tf, beq_ft, aPick, List.map_cons, List.map_nil, List.nil_append, List.append_nil, List.getElem?_cons_zero, List.getElem?_cons_succ, g8]
  refine code_ret ?_
  refine ⟨rfl, _, ?_, μ2.next, rfl, hg12.trans hG, hg12.1, hon, hc⟩
  simp only [aResults, Tryz.results20, aRes, regAt_set, Nat.reduceEqDiff, reduceIte]
end

noncomputable section
variable {X : FuncId → List Value → Mem → Option (Value × Mem)}

/-! ### slices of one's own, that grow -/
structure Own (e : TypeId) (μ0 μ : Mem) (v : Value) (xs : List Value) : Prop where
  good : GoodSl μ e v xs
  grow : Grow μ0 μ
  above : ∀ i, SlAt v i → μ0.next ≤ i ∧ i < μ.next

theorem Own.nil (e : TypeId) (μ : Mem) : Own e μ μ (.slice none 0 0) [] := ⟨.inl ⟨rfl, rfl⟩, Grow.refl _, fun i h => by obtain ⟨l, c, h⟩ := h; cases h⟩

theorem Own.keep {e : TypeId} {μ0 μ μ' : Mem} {v : Value} {xs : List Value} (h : Own e μ0 μ v xs) (hg : Grow μ μ') : Own e μ0 μ' v xs :=
  ⟨h.good.keep fun i hi => hg.2 i (h.above i hi).2, h.grow.trans hg, fun i hi => ⟨(h.above i hi).1, Nat.lt_of_lt_of_le (h.above i hi).2 hg.1⟩⟩

theorem Own.push {st e : TypeId} {inf : TypeInfo} {z0 : Value} (hu : Tryz.prog.underlying st = some (.slice e)) (hi : Tryz.prog.info? e = some inf) (hsz : inf.size = 1) (hby : Nat.ble inf.bytes 4096 = true) (hz : aZeroOf Tryz.prog e = some z0) (hzl : (cellsL z0).length = 1)
    {μ0 μ : Mem} {v x : Value} {xs : List Value} (h : Own e μ0 μ v xs) (hn : xs.length < 1000000) (hs : scalar x = true) :
    ∃ v' μ', aAppend Tryz.prog ⟨μ.obs.set μ.next (.cells 1 e #[x] .e 0 0 false false), Nat.add μ.next 1⟩ st st v (.slice (some ⟨μ.next, 0, none⟩) 1 2) = some (v', μ') ∧ Own e μ0 μ' v' (xs ++ [x]) := by
  have hg1 : Grow μ ⟨μ.obs.set μ.next (.cells 1 e #[x] .e 0 0 false false), Nat.add μ.next 1⟩ := grow1 μ _
  have h1 := h.keep hg1
  obtain ⟨v', μ', ha, hg, hnx, hat, hk⟩ := append_one (P := Tryz.prog) (st := st) (x := x) (q := μ.next) hu hi hsz hby hz hzl h1.good (by show T.get _ _ = _; rw [T.get_set, if_pos rfl]) hn hs
  have hnx' : μ'.next = μ.next + 1 + 1 := hnx
  refine ⟨v', μ', ha, hg, ⟨?_, fun i hi => ?_⟩, fun i hi => ?_⟩
  · have := h.grow.1; omega
  · have h0 := h.grow.1
    rw [hk i (by show i ≠ μ.next + 1; omega) (fun hv => by have := (h1.above i hv).1; omega)]
    exact h1.grow.2 i hi
  · obtain ⟨l, c, hv⟩ := hat
    obtain ⟨l', c', hv'⟩ := hi
    rw [hv] at hv'
    injection hv' with e1
    injection e1 with e2
    injection e2 with e3
    have e4 : i = μ.next + 1 := e3.symm
    have h0 := h.grow.1
    omega

/-- whole numbers as cells -/
def wl (k : IntKind) (f : Nat → Nat) (m : Nat) : List Value := (List.range m).map fun i => .int k (.ofNat (f i))
theorem wl_length (k : IntKind) (f : Nat → Nat) (m : Nat) : (wl k f m).length = m := by simp [wl]
theorem wl_succ (k : IntKind) (f : Nat → Nat) (m : Nat) : wl k f (m + 1) = wl k f m ++ [.int k (.ofNat (f m))] := by simp [wl, List.range_succ]
theorem wl_get (k : IntKind) (f : Nat → Nat) (m i : Nat) (h : i < (wl k f m).length) : (wl k f m)[i] = .int k (.ofNat (f i)) := by simp [wl]
theorem wl_congr (k : IntKind) {f g : Nat → Nat} {m : Nat} (h : ∀ i, i < m → f i = g i) : wl k f m = wl k g m := by
  unfold wl
  refine List.map_congr_left fun i hi => ?_
  rw [h i (List.mem_range.1 hi)]
theorem wl_set (k : IntKind) (f g : Nat → Nat) (m i : Nat) (hi : i < m) (h : ∀ j, j < m → j ≠ i → g j = f j) : (wl k f m).set i (.int k (.ofNat (g i))) = wl k g m := by
  apply List.ext_getElem
  · rw [List.length_set, wl_length, wl_length]
  · intro j h1 h2
    rw [List.getElem_set]
    by_cases e : i = j
    · subst e; rw [if_pos rfl, wl_get]
    · rw [if_neg e, wl_get, wl_get, h j (by rw [wl_length] at h2; exact h2) (Ne.symm e)]

theorem GoodSl.cell {μ : Mem} {e : TypeId} {v : Value} {kd : IntKind} {f : Nat → Nat} {m : Nat} (h : GoodSl μ e v (wl kd f m)) {i c k : Nat} (hv : v = .slice (some ⟨i, 0, none⟩) m c) (hk : k < m) : cellsAt μ i k = some (.int kd (.ofNat (f k))) := by
  rw [cellsAt_good h hv (by rw [wl_length]; exact hk), wl_get]

/-- one element of such a slice is turned -/
theorem Own.set {e : TypeId} {μ0 μ : Mem} {kd : IntKind} {f g : Nat → Nat} {m i c : Nat} {b : Nat} (h : Own e μ0 μ (.slice (some ⟨b, 0, none⟩) m c) (wl kd f m)) (hi : i < m) (hgf : ∀ j, j < m → j ≠ i → g j = f j) : Own e μ0 (putL μ b i [.int kd (.ofNat (g i))]) (.slice (some ⟨b, 0, none⟩) m c) (wl kd g m) := by
  obtain ⟨hg, hgr, hab⟩ := h
  have hb := hab b ⟨m, c, rfl⟩
  refine ⟨?_, ⟨by rw [putL_next]; exact hgr.1, fun j hj => by rw [putL_get _ _ _ _ (by omega)]; exact hgr.2 j hj⟩, fun j hj => by rw [putL_next]; exact hab j hj⟩
  rcases hg with ⟨h1, _⟩ | ⟨i', M, z, ov, fx, sh, c', h1, hob, hM, hc, hcc⟩
  · cases h1
  · injection h1 with e1 e2 e3
    injection e1 with e1
    injection e1 with e1
    subst e1
    refine .inr ⟨b, M, z, ov.lay i [.int kd (.ofNat (g i))], fx, sh, c, by rw [wl_length], putL_at hob, by rw [wl_length]; rw [wl_length] at hM; exact hM, fun j hj => ?_, ?_⟩
    · rw [wl_length] at hj
      rw [cellAt_lay, wl_get]
      by_cases e4 : j = i
      · subst e4
        rw [dif_pos ⟨Nat.le_refl _, by show j < j + 1; omega⟩]
        simp
      · rw [dif_neg (by rintro ⟨g1, g2⟩; simp only [List.length_cons, List.length_nil] at g2; omega), hc j (by rw [wl_length]; exact hj), wl_get, hgf j hj e4]
    · rw [wl_length]; rw [wl_length] at hcc; rw [e3]; exact hcc
theorem Own.blk {e : TypeId} {μ0 μ : Mem} {xs : List Value} {m c b : Nat} (h : Own e μ0 μ (.slice (some ⟨b, 0, none⟩) m c) xs) : ∃ M, Blk μ b M e ∧ xs.length ≤ M := by
  rcases h.good with ⟨h1, _⟩ | ⟨i', M, z, ov, fx, sh, c', h1, hob, hM, hc, hcc⟩
  · cases h1
  · injection h1 with e1 e2 e3
    injection e1 with e1
    injection e1 with e1
    subst e1
    exact ⟨M, ⟨z, ov, fx, sh, hob⟩, hM⟩
end

noncomputable section

/-! ### what is packed -/
def pw (x : Nat → Nat) (each wide : Nat) : Nat → Nat → Nat
  | 0 => fun _ => 0
  | i + 1 => fun k => if k = 1 + i / each then pw x each wide i k + x i * 2 ^ (i % each * wide) else pw x each wide i k

/-- how far a word is filled -/
theorem pw_bound (x : Nat → Nat) (each wide : Nat) (he : 0 < each) (hx : ∀ t, x t < 2 ^ wide) : ∀ i, pw x each wide i (1 + i / each) < 2 ^ (i % each * wide) ∧ ∀ k, 1 + i / each < k → pw x each wide i k = 0 := by
  intro i
  induction i with
  | zero => exact ⟨by show 0 < _; exact Nat.two_pow_pos _, fun k hk => rfl⟩
  | succ i ih =>
    obtain ⟨h1, h2⟩ := ih
    have hd := Nat.div_add_mod i each
    by_cases hm : (i + 1) % each = 0
    · have hq : (i + 1) / each = i / each + 1 := Nat.succ_div_of_mod_eq_zero hm
      refine ⟨?_, fun k hk => ?_⟩
      · rw [hm, hq, Nat.zero_mul]
        unfold pw
        rw [if_neg (by omega), h2 _ (by omega)]
        exact Nat.one_pos
      · unfold pw
        rw [if_neg (by omega), h2 _ (by omega)]
    · have hq : (i + 1) / each = i / each := Nat.succ_div_of_mod_ne_zero hm
      have hr : (i + 1) % each = i % each + 1 := by
        have := Nat.div_add_mod (i + 1) each
        rw [hq] at this
        omega
      refine ⟨?_, fun k hk => ?_⟩
      · rw [hr, hq]
        unfold pw
        rw [if_pos rfl, Nat.add_mul, Nat.one_mul, Nat.pow_add]
        have h3 := hx i
        have h4 : (x i + 1) * 2 ^ (i % each * wide) ≤ 2 ^ wide * 2 ^ (i % each * wide) := Nat.mul_le_mul_right _ h3
        rw [Nat.add_mul, Nat.one_mul] at h4
        rw [Nat.mul_comm (2 ^ (i % each * wide)) (2 ^ wide)]
        omega
      · rw [hq] at hk
        unfold pw
        rw [if_neg (by omega), h2 _ hk]

theorem pw_lt (x : Nat → Nat) (each wide : Nat) (he : 0 < each) (hx : ∀ t, x t < 2 ^ wide) : ∀ i k, pw x each wide i k < 2 ^ (each * wide) := by
  intro i
  induction i with
  | zero => exact fun k => Nat.two_pow_pos _
  | succ i ih =>
    intro k
    unfold pw
    split
    · rename_i hk
      subst hk
      have h1 := (pw_bound x each wide he hx i).1
      have h3 := hx i
      have h4 : (x i + 1) * 2 ^ (i % each * wide) ≤ 2 ^ wide * 2 ^ (i % each * wide) := Nat.mul_le_mul_right _ h3
      rw [Nat.add_mul, Nat.one_mul, ← Nat.pow_add] at h4
      have h5 : i % each < each := Nat.mod_lt _ he
      have h6 : wide + i % each * wide ≤ each * wide := by
        calc wide + i % each * wide = (i % each + 1) * wide := by rw [Nat.add_mul, Nat.one_mul, Nat.add_comm]
          _ ≤ each * wide := Nat.mul_le_mul_right _ h5
      have h7 : 2 ^ (wide + i % each * wide) ≤ 2 ^ (each * wide) := Nat.pow_le_pow_right (by decide) h6
      omega
    · exact ih k

/-- a word that grows -/
theorem pw_or (x : Nat → Nat) (each wide : Nat) (he : 0 < each) (hx : ∀ t, x t < 2 ^ wide) (i : Nat) : pw x each wide i (1 + i / each) ||| x i * 2 ^ (i % each * wide) = pw x each wide (i + 1) (1 + i / each) := by
  have h1 := (pw_bound x each wide he hx i).1
  rw [Nat.or_comm, or_add _ _ _ h1]
  conv => rhs; unfold pw
  rw [if_pos rfl, Nat.add_comm]

/-- and what is read again -/
theorem pw_read (x : Nat → Nat) (each wide : Nat) (he : 0 < each) (hx : ∀ t, x t < 2 ^ wide) : ∀ i j, j < i → pw x each wide i (1 + j / each) / 2 ^ (j % each * wide) % 2 ^ wide = x j := by
  intro i
  induction i with
  | zero => intro j hj; omega
  | succ i ih =>
    intro j hj
    by_cases hji : j = i
    · subst hji
      have h1 := (pw_bound x each wide he hx j).1
      unfold pw
      rw [if_pos rfl, Nat.add_mul_div_right _ _ (Nat.two_pow_pos _), Nat.div_eq_of_lt h1, Nat.zero_add, Nat.mod_eq_of_lt (hx j)]
    · have hj' : j < i := by omega
      have h0 := ih j hj'
      unfold pw
      split
      · rename_i hk
        have hq : j / each = i / each := by omega
        have hd1 := Nat.div_add_mod i each
        have hd2 := Nat.div_add_mod j each
        rw [hq] at hd2
        have hr : j % each + 1 ≤ i % each := by omega
        obtain ⟨d, hd⟩ : ∃ d, i % each = j % each + 1 + d := ⟨i % each - (j % each + 1), by omega⟩
        rw [← h0, hd]
        rw [show (j % each + 1 + d) * wide = j % each * wide + (wide + d * wide) from by rw [Nat.add_mul, Nat.add_mul, Nat.one_mul, Nat.add_assoc]]
        rw [Nat.pow_add, Nat.mul_comm (2 ^ (j % each * wide)), ← Nat.mul_assoc, Nat.add_mul_div_right _ _ (Nat.two_pow_pos _)]
        rw [Nat.pow_add, Nat.mul_comm (2 ^ wide), ← Nat.mul_assoc, Nat.add_mul_mod_self_right]
      · exact h0
end

noncomputable section
variable {X : FuncId → List Value → Mem → Option (Value × Mem)}

theorem rem_nat (m n r : Nat) (hn : 0 < n) (hr : r = m % n) : aDiv true .i64 .i64 (.ofNat m) (.ofNat n) = some (.int .i64 (.ofNat r)) := by
  obtain ⟨n', rfl⟩ : ∃ n', n = n' + 1 := ⟨n - 1, by omega⟩
  subst hr; rfl
theorem quo_nat (m n r : Nat) (hn : 0 < n) (hr : r = m / n) (hm : m < 4611686018427387904) : aDiv false .i64 .i64 (.ofNat m) (.ofNat n) = some (.int .i64 (.ofNat r)) := by
  obtain ⟨n', rfl⟩ : ∃ n', n = n' + 1 := ⟨n - 1, by omega⟩
  subst hr
  show some (Value.int .i64 (qwrap .i64 (.ofNat (m / (n' + 1))))) = _
  rw [q64 _ (by have := Nat.div_le_self m (n' + 1); omega)]

def nw (each : Nat) : Nat → Nat
  | 0 => 1
  | j + 1 => if j % each = 0 then nw each j + 1 else nw each j
theorem nw_succ (each : Nat) (he : 0 < each) : ∀ j, nw each (j + 1) = 2 + j / each := by
  intro j
  induction j with
  | zero => show (if 0 % each = 0 then _ else _) = _; rw [Nat.zero_mod, if_pos rfl, Nat.zero_div]; rfl
  | succ j ih =>
    show (if (j + 1) % each = 0 then nw each (j + 1) + 1 else nw each (j + 1)) = _
    rw [ih]
    by_cases hm : (j + 1) % each = 0
    · rw [if_pos hm, Nat.succ_div_of_mod_eq_zero hm]; omega
    · rw [if_neg hm, Nat.succ_div_of_mod_ne_zero hm]
theorem nw_zero (each : Nat) (he : 0 < each) (j : Nat) (h : j % each = 0) : nw each j = 1 + j / each := by
  cases j with
  | zero => rw [Nat.zero_div]; rfl
  | succ j => rw [nw_succ each he, Nat.succ_div_of_mod_eq_zero h]; omega
theorem nw_le (each : Nat) (he : 0 < each) (j : Nat) : nw each j ≤ 1 + j := by
  cases j with
  | zero => exact Nat.le_refl _
  | succ j => rw [nw_succ each he]; have := Nat.div_le_self j each; omega
/-- the words that are packed -/
def pf (x : Nat → Nat) (each wide n j : Nat) : Nat → Nat := fun k => if k = 0 then n else pw x each wide j k

theorem bsW (ρ : Operand → Value) (x : Operand) (hv : one (ρ x) = true) : aBuildSlice Tryz.prog ρ 66 1 #[(0, x)] = some (.cells 1 29 #[ρ x] .e 0 0 false false, fun id => .slice (some ⟨id, 0, none⟩) 1 2) := buildSlice_if Tryz.underlying66 iW rfl zW rfl ρ x hv

theorem bsW0 (r : Rg) : aBuildSlice Tryz.prog (aev Tryz.prog r) 66 1 #[(0, .const (.int .u64 0))] = some (.cells 1 29 #[.int .u64 0] .e 0 0 false false, fun id => .slice (some ⟨id, 0, none⟩) 1 2) := buildSlice_if Tryz.underlying66 iW rfl zW rfl (aev Tryz.prog r) (.const (.int .u64 0)) rfl

set_option maxHeartbeats 4000000 in
theorem packed_loop {n li c each wide : Nat} {ad : Option Addr} {x : Nat → Nat} {μ0 : Mem} (hli : ∀ k, k < n → ad = some ⟨li, 0, none⟩ ∧ cellsAt μ0 li k = some (.int .u64 (.ofNat (x k)))) (hln : li < μ0.next) (hn : n < 100000) (he : 0 < each) (hew : each * wide = 64) (hx : ∀ t, x t < 2 ^ wide) :
    ∀ (e m j : Nat) (tm : T Value) (v : Value) (μ : Mem), j + m = n → Own 29 μ0 μ v (wl .u64 (pf x each wide n j) (nw each j)) → regAt tm 1 = .int .i64 (.ofNat each) → regAt tm 2 = .int .i64 (.ofNat wide) → regAt tm 7 = v → regAt tm 14 = .slice ad n c → regAt tm 15 = .int .i64 (.ofNat n) → regAt tm 16 = .int .i64 (.ofNat j) →
      EndsC (aCode Tryz.prog X S0 (e + m + 60) (.loop (loopBody Tryz.f19 0)) ⟨45, tm, [], none⟩ μ) fun a r μ' => a = .exit 0 ∧ ∃ tm' v', r = ⟨45, tm', [], none⟩ ∧ Own 29 μ0 μ' v' (wl .u64 (pf x each wide n n) (nw each n)) ∧ regAt tm' 7 = v' := by
  have hwl : wide ≤ 64 := by
    have : 1 * wide ≤ each * wide := Nat.mul_le_mul_right _ he
    omega
  have hel : each ≤ 64 := by
    cases Nat.eq_zero_or_pos wide with
    | inl h => rw [h, Nat.mul_zero] at hew; omega
    | inr h => have : each * 1 ≤ each * wide := Nat.mul_le_mul_left _ h; omega
  intro e m
  induction m with
  | zero =>
    intro j tm v μ hj hO r1 r2 r7 r14 r15 r16
    obtain rfl : j = n := hj
    refine code_loop ?_
    refine code_seq ?_
    refine code_region ?_ ?_
    · rfl
    simp only [run1, aOne, aP, aR, aA, aT, aCall, aCallVal, aev, regAt_set, aput_mk, aput_none, plainV, aNilCheck, aExtract, aBin, aInt, Addr.add, Nat.zero_add, ends_some, Nat.reduceLT, Nat.reduceAdd, if_true, then_normal, Nat.reduceEqDiff, if_false, reduceIte, reduceCtorEq, decide_true, decide_false, Bool.not_true, Bool.not_false, beq_self_eq_true, beq_tf, beq_ft, aPick, List.map_cons, List.map_nil, List.nil_append, List.append_nil, List.getElem?_cons_zero, List.getElem?_cons_succ, r15, r16, ilt_nat, Nat.lt_irrefl]
    refine code_seq ?_
    refine code_cond_false ?_ ?_
    · simp only [aev, regAt_set, Nat.reduceEqDiff, reduceIte]
    refine code_exit ?_
    simp only [then_exit]
    exact ⟨trivial, _, v, rfl, hO, by simp only [regAt_set, Nat.reduceEqDiff, reduceIte, r7]⟩
  | succ m ih =>
    intro j tm v μ hj hO r1 r2 r7 r14 r15 r16
    have hlt : j < n := by omega
    obtain ⟨had, hc⟩ := hli j hlt
    subst had
    have hc' : cellsAt μ li j = some (.int .u64 (.ofNat (x j))) := by rw [← hc]; unfold cellsAt; rw [hO.grow.2 li hln]
    have hia : ∀ ρ : Operand → Value, ∀ a b', ρ a = .slice (some ⟨li, 0, none⟩) n c → ρ b' = .int .i64 (.ofNat j) → aIndexAddr Tryz.prog ρ 66 a b' = some (.pointer (some ⟨li, j, none⟩)) := fun ρ a b' g1 g2 => by
      rw [indexAddr_slice (P := Tryz.prog) Tryz.underlying66 iW rfl g1 g2 hlt, Nat.zero_add]
    have a3 : qwrap .i64 (Int.add (.ofNat j) 1) = .ofNat (j + 1) := add_nat j 1 (by omega)
    obtain ⟨rj, hrj⟩ : ∃ r, r = j % each := ⟨_, rfl⟩
    obtain ⟨dj, hdj⟩ : ∃ d, d = j / each := ⟨_, rfl⟩
    have hrl : rj < each := by rw [hrj]; exact Nat.mod_lt _ he
    have hdl : dj ≤ j := by rw [hdj]; exact Nat.div_le_self _ _
    have e1 := rem_nat j each rj he hrj
    have hnw : nw each (j + 1) = 2 + dj := by rw [hdj]; exact nw_succ each he j
    obtain ⟨sj, hsj⟩ : ∃ s, s = rj * wide := ⟨_, rfl⟩
    obtain ⟨d1, hd1⟩ : ∃ d, d = 1 + dj := ⟨_, rfl⟩
    obtain ⟨d2, hd2⟩ : ∃ d, d = 2 + dj := ⟨_, rfl⟩
    obtain ⟨w0, hw0⟩ : ∃ w, w = pw x each wide j d1 := ⟨_, rfl⟩
    obtain ⟨w1, hw1⟩ : ∃ w, w = pw x each wide (j + 1) d1 := ⟨_, rfl⟩
    obtain ⟨ys, hys⟩ : ∃ y, y = x j * 2 ^ sj := ⟨_, rfl⟩
    have hs64 : sj ≤ 64 := by rw [hsj, ← hew]; exact Nat.mul_le_mul_right _ (Nat.le_of_lt hrl)
    have hor : w0 ||| ys = w1 := by rw [hw0, hw1, hys, hsj, hrj, hd1, hdj]; exact pw_or x each wide he hx j
    have hsum : w1 = w0 + ys := by
      rw [hw0, hw1, hys, hsj, hrj, hd1, hdj]
      conv => lhs; unfold pw
      rw [if_pos rfl]
    have hb1 : w1 < 18446744073709551616 := by rw [hw1]; have := pw_lt x each wide he hx (j + 1) d1; rw [hew] at this; exact this
    have s1 : qwrap .i64 (Int.sub (.ofNat d2) 1) = .ofNat d1 := by rw [show d1 = d2 - 1 from by omega]; exact sub_nat d2 1 (by omega) (by omega)
    have e2 : qwrap .i64 (Int.mul (.ofNat rj) (.ofNat wide)) = .ofNat sj := by rw [hsj]; exact mul_nat rj wide (by rw [← hsj]; omega)
    have e3 : aShift true .u64 (.ofNat (x j)) (.ofNat sj) = some (.int .u64 (.ofNat ys)) := shl_u (x j) sj ys hs64 hys (by omega)
    have e4 : aBits Nat.lor .u64 .u64 (.ofNat w0) (.ofNat ys) = some (.int .u64 (.ofNat w1)) := lor_u w0 ys w1 hor.symm (by omega) (by omega)
    have hlen : (wl .u64 (pf x each wide n j) (nw each j)).length < 1000000 := by rw [wl_length]; have := nw_le each he j; omega
    refine code_loop ?_
    refine code_seq ?_
    refine code_region ?_ ?_
    · rfl
    simp only [run1, aOne, aP, aR, aA, aT, aCall, aCallVal, aev, regAt_set, aput_mk, aput_none, plainV, aNilCheck, aExtract, aBin, aInt, Addr.add, Nat.zero_add, ends_some, Nat.reduceLT, Nat.reduceAdd, if_true, then_normal, Nat.reduceEqDiff, if_false, reduceIte, reduceCtorEq, decide_true, decide_false, Bool.not_true, Bool.not_false, beq_self_eq_true, beq_tf, beq_ft, aPick, List.map_cons, List.map_nil, List.nil_append, List.append_nil, List.getElem?_cons_zero, List.getElem?_cons_succ, r15, r16, ilt_nat, hlt]
    refine code_seq ?_
    refine code_cond_true ?_ ?_
    · simp only [aev, regAt_set, Nat.reduceEqDiff, reduceIte]
    refine code_skip ?_
    simp only [then_normal]
    refine code_seq ?_
    refine code_block ?_
    refine code_seq ?_
    refine code_region ?_ ?_
    · rfl
    simp only [run1, aOne, aP, aR, aA, aT, aCall, aCallVal, aev, regAt_set, aput_mk, aput_none, plainV, aNilCheck, aExtract, aBin, aInt, Addr.add, Nat.zero_add, ends_some, Nat.reduceLT, Nat.reduceAdd, if_true, then_normal, Nat.reduceEqDiff, if_false, reduceIte, reduceCtorEq, decide_true, decide_false, Bool.not_true, Bool.not_false, beq_self_eq_true, beq_tf, beq_ft, aPick, List.map_cons, List.map_nil, List.nil_append, List.append_nil, List.getElem?_cons_zero, List.getElem?_cons_succ, r14, r16, hia, ldW, hc']
    refine code_seq ?_
    refine code_seq ?_
    by_cases hr0 : rj = 0
    · have hd0 : decide (rj = 0) = true := decide_eq_true hr0
      refine code_region ?_ ?_
      · rfl
      simp only [run1, aOne, aP, aR, aA, aT, aCall, aCallVal, aev, regAt_set, aput_mk, aput_none, plainV, aNilCheck, aExtract, aBin, aInt, Addr.add, Nat.zero_add, ends_some, Nat.reduceLT, Nat.reduceAdd, if_true, then_normal, Nat.reduceEqDiff, if_false, reduceIte, reduceCtorEq, decide_true, decide_false, Bool.not_true, Bool.not_false, beq_self_eq_true, beq_tf, beq_ft, aPick, List.map_cons, List.map_nil, List.nil_append, List.append_nil, List.getElem?_cons_zero, List.getElem?_cons_succ, r1, e1, ieq_lit0, hd0]
      obtain ⟨v7, μ7, hap, hO7⟩ := hO.push (st := 66) (x := .int .u64 (.ofNat 0)) Tryz.underlying66 iW rfl rfl zW rfl hlen rfl
      have hap : aAppend Tryz.prog ⟨μ.obs.set μ.next (.cells 1 29 #[.int .u64 0] .e 0 0 false false), Nat.add μ.next 1⟩ 66 66 v (.slice (some ⟨μ.next, 0, none⟩) 1 2) = some (v7, μ7) := hap
      have hO7 : Own 29 μ0 μ7 v7 (wl .u64 (pf x each wide n j) d2) := by
        have h1 : nw each j = d1 := by rw [nw_zero each he j (by omega)]; omega
        rw [h1, show Value.int .u64 (.ofNat 0) = .int .u64 (.ofNat (pf x each wide n j d1)) from by
          unfold pf
          rw [if_neg (by omega), ← hw0]
          have hz := (pw_bound x each wide he hx j).1
          rw [show j % each = 0 from by omega, Nat.zero_mul] at hz
          have : w0 < 1 := by rw [hw0, hd1, hdj]; exact hz
          rw [show w0 = 0 from by omega], ← wl_succ, show d1 + 1 = d2 from by omega] at hO7
        exact hO7
      refine code_cond_true ?_ ?_
      · simp only [aev, regAt_set, Nat.reduceEqDiff, reduceIte]
      refine code_region ?_ ?_
      · rfl
      simp only [run1, aOne, aP, aR, aA, aT, aCall, aCallVal, aev, regAt_set, aput_mk, aput_none, plainV, aNilCheck, aExtract, aBin, aInt, Addr.add, Nat.zero_add, ends_some, Nat.reduceLT, Nat.reduceAdd, if_true, then_normal, Nat.reduceEqDiff, if_false, reduceIte, reduceCtorEq, decide_true, decide_false, Bool.not_true, Bool.not_false, beq_self_eq_true, beq_tf, beq_ft, aPick, List.map_cons, List.map_nil, List.nil_append, List.append_nil, List.getElem?_cons_zero, List.getElem?_cons_succ, r7, bsW0, aBuiltin, hap]
      -- the last word
      obtain ⟨b7, c7, hv7, hb7⟩ : ∃ b7 c7, v7 = .slice (some ⟨b7, 0, none⟩) d2 c7 ∧ b7 < μ7.next := by
        obtain ⟨a7, c7, h7, ha7⟩ := good_len hO7.good
        rw [wl_length] at h7 ha7
        obtain ⟨b7, rfl⟩ := ha7 (by omega)
        exact ⟨b7, c7, h7, (hO7.above b7 ⟨_, _, h7⟩).2⟩
      subst hv7
      have hO8 := hO7.keep (grow_up μ7 16)
      have hc7 : ∀ y, cellsAt ⟨μ7.obs, y⟩ b7 d1 = some (.int .u64 (.ofNat w0)) := fun y => by
        have := GoodSl.cell hO7.good rfl (show d1 < d2 by omega)
        rw [show pf x each wide n j d1 = w0 from by unfold pf; rw [if_neg (by omega), hw0]] at this
        exact this
      have hia7 : ∀ ρ : Operand → Value, ∀ a b', ρ a = .slice (some ⟨b7, 0, none⟩) d2 c7 → ρ b' = .int .i64 (.ofNat d1) → aIndexAddr Tryz.prog ρ 66 a b' = some (.pointer (some ⟨b7, d1, none⟩)) := fun ρ a b' g1 g2 => by
        rw [indexAddr_slice (P := Tryz.prog) Tryz.underlying66 iW rfl g1 g2 (by omega), Nat.zero_add]
      obtain ⟨M7, hB7, hM7⟩ := hO8.blk
      rw [wl_length] at hM7
      have hst := store_put (t := 29) (v := .int .u64 (.ofNat w1)) iW rfl rfl hB7 (show d1 < M7 by omega)
      have hO9 := hO8.set (g := pf x each wide n (j + 1)) (i := d1) (by omega) (fun k hk hne => by
        unfold pf
        by_cases hk0 : k = 0
        · rw [if_pos hk0, if_pos hk0]
        · rw [if_neg hk0, if_neg hk0]
          show (if k = 1 + j / each then _ else _) = _
          rw [if_neg (by omega)])
      rw [show pf x each wide n (j + 1) d1 = w1 from by unfold pf; rw [if_neg (by omega), hw1]] at hO9
      refine code_draw (n := 16) (ms := [0, 0, 2, 6, 15, 31, 0, 0, 0, 384, 0, 1920, 4032, 8191, 16383, 32767]) (ord := [0, 1, 2, 3, 4, 5, 6, 7, 8, 9, 10, 11, 12, 13, 14, 15]) (ds := ?_) ?_ ?_ ?_ ?_ ?_ ?_
      rotate_left
      · kernel_rfl
      · kernel_rfl
      · kernel_rfl
      · rfl
      · rfl
      simp only [dRun, wanted, aDrawOne, heavy, aP, aReads, aR, aT, aCall, aBuiltin, aLen, Tryz.underlying66, cast_nat, aev, regAt_set, aput_mk, aput_none, plainV, r7, r1, r2, hia7, ldW, hc7, aBin, aInt, s1, e1, e2, e3, e4, hst, endsD_some, Nat.reduceLT, if_true, then_normal, Nat.reduceEqDiff, if_false, reduceIte, decide_true]
      simp only [blockC, then_normal]
      refine code_region ?_ ?_
      · rfl
      simp only [run1, aOne, aP, aR, aA, aT, aCall, aCallVal, aev, regAt_set, aput_mk, aput_none, plainV, aNilCheck, aExtract, aBin, aInt, Addr.add, Nat.zero_add, ends_some, Nat.reduceLT, Nat.reduceAdd, if_true, then_normal, Nat.reduceEqDiff, if_false, reduceIte, reduceCtorEq, decide_true, decide_false, Bool.not_true, Bool.not_false, beq_self_eq_true, beq_tf, beq_ft, aPick, List.map_cons, List.map_nil, List.nil_append, List.append_nil, List.getElem?_cons_zero, List.getElem?_cons_succ, r16, a3]
      rw [show e + (m + 1) + 59 = e + m + 60 from by omega]
      refine ih (j + 1) _ _ _ (by omega) (hnw ▸ hd2 ▸ hO9) ?_ ?_ ?_ ?_ ?_ ?_ <;> simp only [regAt_set, Nat.reduceEqDiff, reduceIte, r1, r2, r7, r14, r15, hnw, hd2]
    · have hd0 : decide (rj = 0) = false := decide_eq_false hr0
      refine code_region ?_ ?_
      · rfl
      simp only [run1, aOne, aP, aR, aA, aT, aCall, aCallVal, aev, regAt_set, aput_mk, aput_none, plainV, aNilCheck, aExtract, aBin, aInt, Addr.add, Nat.zero_add, ends_some, Nat.reduceLT, Nat.reduceAdd, if_true, then_normal, Nat.reduceEqDiff, if_false, reduceIte, reduceCtorEq, decide_true, decide_false, Bool.not_true, Bool.not_false, beq_self_eq_true, beq_tf, beq_ft, aPick, List.map_cons, List.map_nil, List.nil_append, List.append_nil, List.getElem?_cons_zero, List.getElem?_cons_succ, r1, e1, ieq_lit0, hd0]
      have hO7 : Own 29 μ0 μ v (wl .u64 (pf x each wide n j) d2) := by
        have h1 : nw each (j + 1) = nw each j := if_neg (by omega)
        rw [← h1, hnw, ← hd2] at hO
        exact hO
      refine code_cond_false ?_ ?_
      · simp only [aev, regAt_set, Nat.reduceEqDiff, reduceIte]
      refine code_skip ?_
      simp only [then_normal]
      -- the last word
      obtain ⟨b7, c7, hv7, hb7⟩ : ∃ b7 c7, v = .slice (some ⟨b7, 0, none⟩) d2 c7 ∧ b7 < μ.next := by
        obtain ⟨a7, c7, h7, ha7⟩ := good_len hO7.good
        rw [wl_length] at h7 ha7
        obtain ⟨b7, rfl⟩ := ha7 (by omega)
        exact ⟨b7, c7, h7, (hO7.above b7 ⟨_, _, h7⟩).2⟩
      subst hv7
      have hO8 := hO7.keep (grow_up μ 16)
      have hc7 : ∀ y, cellsAt ⟨μ.obs, y⟩ b7 d1 = some (.int .u64 (.ofNat w0)) := fun y => by
        have := GoodSl.cell hO7.good rfl (show d1 < d2 by omega)
        rw [show pf x each wide n j d1 = w0 from by unfold pf; rw [if_neg (by omega), hw0]] at this
        exact this
      have hia7 : ∀ ρ : Operand → Value, ∀ a b', ρ a = .slice (some ⟨b7, 0, none⟩) d2 c7 → ρ b' = .int .i64 (.ofNat d1) → aIndexAddr Tryz.prog ρ 66 a b' = some (.pointer (some ⟨b7, d1, none⟩)) := fun ρ a b' g1 g2 => by
        rw [indexAddr_slice (P := Tryz.prog) Tryz.underlying66 iW rfl g1 g2 (by omega), Nat.zero_add]
      obtain ⟨M7, hB7, hM7⟩ := hO8.blk
      rw [wl_length] at hM7
      have hst := store_put (t := 29) (v := .int .u64 (.ofNat w1)) iW rfl rfl hB7 (show d1 < M7 by omega)
      have hO9 := hO8.set (g := pf x each wide n (j + 1)) (i := d1) (by omega) (fun k hk hne => by
        unfold pf
        by_cases hk0 : k = 0
        · rw [if_pos hk0, if_pos hk0]
        · rw [if_neg hk0, if_neg hk0]
          show (if k = 1 + j / each then _ else _) = _
          rw [if_neg (by omega)])
      rw [show pf x each wide n (j + 1) d1 = w1 from by unfold pf; rw [if_neg (by omega), hw1]] at hO9
      refine code_draw (n := 16) (ms := [0, 0, 2, 6, 15, 31, 0, 0, 0, 384, 0, 1920, 4032, 8191, 16383, 32767]) (ord := [0, 1, 2, 3, 4, 5, 6, 7, 8, 9, 10, 11, 12, 13, 14, 15]) (ds := ?_) ?_ ?_ ?_ ?_ ?_ ?_
      rotate_left
      · kernel_rfl
      · kernel_rfl
      · kernel_rfl
      · rfl
      · rfl
      simp only [dRun, wanted, aDrawOne, heavy, aP, aReads, aR, aT, aCall, aBuiltin, aLen, Tryz.underlying66, cast_nat, aev, regAt_set, aput_mk, aput_none, plainV, r7, r1, r2, hia7, ldW, hc7, aBin, aInt, s1, e1, e2, e3, e4, hst, endsD_some, Nat.reduceLT, if_true, then_normal, Nat.reduceEqDiff, if_false, reduceIte, decide_true]
      simp only [blockC, then_normal]
      refine code_region ?_ ?_
      · rfl
      simp only [run1, aOne, aP, aR, aA, aT, aCall, aCallVal, aev, regAt_set, aput_mk, aput_none, plainV, aNilCheck, aExtract, aBin, aInt, Addr.add, Nat.zero_add, ends_some, Nat.reduceLT, Nat.reduceAdd, if_true, then_normal, Nat.reduceEqDiff, if_false, reduceIte, reduceCtorEq, decide_true, decide_false, Bool.not_true, Bool.not_false, beq_self_eq_true, beq_tf, beq_ft, aPick, List.map_cons, List.map_nil, List.nil_append, List.append_nil, List.getElem?_cons_zero, List.getElem?_cons_succ, r16, a3]
      rw [show e + (m + 1) + 59 = e + m + 60 from by omega]
      refine ih (j + 1) _ _ _ (by omega) (hnw ▸ hd2 ▸ hO9) ?_ ?_ ?_ ?_ ?_ ?_ <;> simp only [regAt_set, Nat.reduceEqDiff, reduceIte, r1, r2, r7, r14, r15, hnw, hd2]

set_option maxHeartbeats 4000000 in
theorem packed_ends {g n li c each wide : Nat} {ad : Option Addr} {x : Nat → Nat} {μ : Mem} (hg : 100 + n ≤ g) (hli : ∀ k, k < n → ad = some ⟨li, 0, none⟩ ∧ cellsAt μ li k = some (.int .u64 (.ofNat (x k)))) (hln : li < μ.next) (hn : n < 100000) (he : 0 < each) (hew : each * wide = 64) (hx : ∀ t, x t < 2 ^ wide) :
    EndsF (aFun Tryz.prog (aCode Tryz.prog X S0 g) 19 [.slice ad n c, .int .i64 (.ofNat each), .int .i64 (.ofNat wide)] μ) fun v μ' => ∃ b c', v = .slice (some ⟨b, 0, none⟩) (nw each n) c' ∧ Own 29 μ μ' v (wl .u64 (pf x each wide n n) (nw each n)) := by
  obtain ⟨k, rfl⟩ : ∃ k, g = k + 100 := ⟨g - 100, by omega⟩
  have hkn : n ≤ k := by omega
  have e0 := qu64 n (by omega)
  have hO1 : Own 29 μ ⟨μ.obs.set μ.next (.cells 1 29 #[.int .u64 (.ofNat n)] .e 0 0 false false), Nat.add μ.next 1⟩ (.slice (some ⟨μ.next, 0, none⟩) 1 2) (wl .u64 (pf x each wide n 0) (nw each 0)) := by
    refine ⟨.inr ⟨μ.next, 1, #[.int .u64 (.ofNat n)], .e, false, false, 2, rfl, by show T.get _ _ = _; rw [T.get_set, if_pos rfl], by rw [wl_length]; exact Nat.le_refl _, fun k hk => ?_, .inl ⟨rfl, by rw [wl_length]; rfl⟩⟩, grow1 μ _, fun i hi => ?_⟩
    · have hk0 : k = 0 := by rw [wl_length] at hk; have : k < 1 := hk; omega
      subst hk0
      rw [wl_get]
      rfl
    · obtain ⟨l, c, hv⟩ := hi
      injection hv with e1
      injection e1 with e2
      injection e2 with e3
      subst e3
      exact ⟨Nat.le_refl _, Nat.lt_succ_self _⟩
  refine fun_enter Tryz.func19 rfl rfl (Nat.le_of_ble_eq_true rfl) ?_
  simp only [T.lay, Nat.zero_add, Tryz.ntmps19, Nat.reduceAdd]
  refine code_seq ?_
  refine code_region ?_ ?_
  · rfl
  simp only [run1, aOne, aP, aR, aA, aT, aCall, aCallVal, aev, regAt_set, aput_mk, aput_none, plainV, aNilCheck, aExtract, aBin, aInt, Addr.add, Nat.zero_add, ends_some, Nat.reduceLT, Nat.reduceAdd, if_true, then_normal, Nat.reduceEqDiff, if_false, reduceIte, reduceCtorEq, decide_true, decide_false, Bool.not_true, Bool.not_false, beq_self_eq_true, beq_tf, beq_ft, aPick, List.map_cons, List.map_nil, List.nil_append, List.append_nil, List.getElem?_cons_zero, List.getElem?_cons_succ]
  refine code_seq ?_
  refine code_region ?_ ?_
  · rfl
  simp only [run1, aOne, aP, aR, aA, aT, aCall, aCallVal, aev, regAt_set, aput_mk, aput_none, plainV, aNilCheck, aExtract, aBin, aInt, Addr.add, Nat.zero_add, ends_some, Nat.reduceLT, Nat.reduceAdd, if_true, then_normal, Nat.reduceEqDiff, if_false, reduceIte, reduceCtorEq, decide_true, decide_false, Bool.not_true, Bool.not_false, beq_self_eq_true, beq_tf, beq_ft, aPick, List.map_cons, List.map_nil, List.nil_append, List.append_nil, List.getElem?_cons_zero, List.getElem?_cons_succ, aBuiltin, aLen, Tryz.underlying66, cast_nat, cviW, e0, bsW, one]
  refine code_seq ?_
  refine code_seq ?_
  refine code_region ?_ ?_
  · rfl
  simp only [run1, aOne, aP, aR, aA, aT, aCall, aCallVal, aev, regAt_set, aput_mk, aput_none, plainV, aNilCheck, aExtract, aBin, aInt, Addr.add, Nat.zero_add, ends_some, Nat.reduceLT, Nat.reduceAdd, if_true, then_normal, Nat.reduceEqDiff, if_false, reduceIte, reduceCtorEq, decide_true, decide_false, Bool.not_true, Bool.not_false, beq_self_eq_true, beq_tf, beq_ft, aPick, List.map_cons, List.map_nil, List.nil_append, List.append_nil, List.getElem?_cons_zero, List.getElem?_cons_succ, aBuiltin, aLen, Tryz.underlying66, cast_nat]
  refine code_block ?_
  rw [show k + 95 = (k - n + 35) + n + 60 from by omega]
  refine EndsC.mono (packed_loop (each := each) (wide := wide) (x := x) (c := c) hli hln hn he hew hx (k - n + 35) n 0 _ _ _ (by omega) hO1 ?_ ?_ ?_ ?_ ?_ ?_) ?_
  · simp only [regAt_set, Nat.reduceEqDiff, reduceIte]
  · simp only [regAt_set, Nat.reduceEqDiff, reduceIte]
  · simp only [regAt_set, Nat.reduceEqDiff, reduceIte]
  · simp only [regAt_set, Nat.reduceEqDiff, reduceIte]
  · simp only [regAt_set, Nat.reduceEqDiff, reduceIte]
  · simp only [regAt_set, Nat.reduceEqDiff, reduceIte]; rfl
  rintro x' r' μ' ⟨rfl, tm', v', rfl, hO, g7⟩
  simp only [blockC, reduceIte, then_normal]
  refine code_seq ?_
  refine code_region ?_ ?_
  · rfl
  simp only [run1, aOne, aP, aR, aA, aT, aCall, aCallVal, aev, regAt_set, aput_mk, aput_none, plainV, aNilCheck, aExtract, aBin, aInt, Addr.add, Nat.zero_add, ends_some, Nat.reduceLT, Nat.reduceAdd, if_true, then_normal, Nat.reduceEqDiff, if_false, reduceIte, reduceCtorEq, decide_true, decide_false, Bool.not_true, Bool.not_false, beq_self_eq_true, beq_tf, beq_ft, aPick, List.map_cons, List.map_nil, List.nil_append, List.append_nil, List.getElem?_cons_zero, List.getElem?_cons_succ, g7]
  refine code_ret ?_
  obtain ⟨a7, c7, h7, ha7⟩ := good_len hO.good
  rw [wl_length] at h7 ha7
  obtain ⟨b7, rfl⟩ := ha7 (by cases n with | zero => exact Nat.one_pos | succ n => rw [nw_succ each he]; exact Nat.add_pos_left (by decide) _)
  refine ⟨rfl, v', ?_, b7, c7, h7, hO⟩
  simp only [aResults, Tryz.results19, aRes, regAt_set, Nat.reduceEqDiff, reduceIte]
end

noncomputable section
variable {X : FuncId → List Value → Mem → Option (Value × Mem)}

set_option maxHeartbeats 4000000 in
theorem unpacked_loop {n m oi co b c each wide : Nat} {x : Nat → Nat} {μ0 : Mem} (hcell : ∀ k, k < m → cellsAt μ0 oi k = some (.int .u64 (.ofNat (pf x each wide n n k)))) (hm : m = nw each n) (hon : oi < μ0.next) (hn : n < 100000) (he : 0 < each) (hew : each * wide = 64) (hw32 : wide ≤ 32) (hx : ∀ t, x t < 2 ^ wide) (hb0 : μ0.next ≤ b) :
    ∀ (e r j : Nat) (tm : T Value) (μ : Mem), j + r = n → Grow μ0 μ → b < μ.next → Blk μ b n 29 → (∀ i, i < j → cellsAt μ b i = some (.int .u64 (.ofNat (x i)))) → regAt tm 0 = .slice (some ⟨oi, 0, none⟩) m co → regAt tm 1 = .int .i64 (.ofNat each) → regAt tm 2 = .int .i64 (.ofNat wide) → regAt tm 8 = .slice (some ⟨b, 0, none⟩) n c → regAt tm 27 = .int .i64 (.ofNat n) → regAt tm 28 = .int .i64 (.ofNat j) →
      EndsC (aCode Tryz.prog X S0 (e + r + 60) (.loop (loopBody Tryz.f21 0)) ⟨53, tm, [], none⟩ μ) fun a rg μ' => a = .exit 0 ∧ Grow μ0 μ' ∧ b < μ'.next ∧ (∀ i, i < n → cellsAt μ' b i = some (.int .u64 (.ofNat (x i)))) ∧ Blk μ' b n 29 ∧ ∃ tm', rg = ⟨53, tm', [], none⟩ ∧ regAt tm' 8 = .slice (some ⟨b, 0, none⟩) n c := by
  have hel : each ≤ 64 := by
    cases Nat.eq_zero_or_pos wide with
    | inl h => rw [h, Nat.mul_zero] at hew; omega
    | inr h => have : each * 1 ≤ each * wide := Nat.mul_le_mul_left _ h; omega
  intro e r
  induction r with
  | zero =>
    intro j tm μ hj hG hbn hB hc r0 r1 r2 r8 r27 r28
    obtain rfl : j = n := hj
    refine code_loop ?_
    refine code_seq ?_
    refine code_region ?_ ?_
    · rfl
    simp only [run1, aOne, aP, aR, aA, aT, aCall, aCallVal, aev, regAt_set, aput_mk, aput_none, plainV, aNilCheck, aExtract, aBin, aInt, Addr.add, Nat.zero_add, ends_some, Nat.reduceLT, Nat.reduceAdd, if_true, then_normal, Nat.reduceEqDiff, if_false, reduceIte, reduceCtorEq, decide_true, decide_false, Bool.not_true, Bool.not_false, beq_self_eq_true, beq_tf, beq_ft, aPick, List.map_cons, List.map_nil, List.nil_append, List.append_nil, List.getElem?_cons_zero, List.getElem?_cons_succ, r27, r28, ilt_nat, Nat.lt_irrefl]
    refine code_seq ?_
    refine code_cond_false ?_ ?_
    · simp only [aev, regAt_set, Nat.reduceEqDiff, reduceIte]
    refine code_exit ?_
    simp only [then_exit]
    exact ⟨trivial, hG, hbn, hc, hB, _, rfl, by simp only [regAt_set, Nat.reduceEqDiff, reduceIte, r8]⟩
  | succ r ih =>
    intro j tm μ hj hG hbn hB hc r0 r1 r2 r8 r27 r28
    have hlt : j < n := by omega
    have a3 : qwrap .i64 (Int.add (.ofNat j) 1) = .ofNat (j + 1) := add_nat j 1 (by omega)
    obtain ⟨rj, hrj⟩ : ∃ r, r = j % each := ⟨_, rfl⟩
    obtain ⟨dj, hdj⟩ : ∃ d, d = j / each := ⟨_, rfl⟩
    have hrl : rj < each := by rw [hrj]; exact Nat.mod_lt _ he
    have hdl : dj ≤ j := by rw [hdj]; exact Nat.div_le_self _ _
    have e1 := rem_nat j each rj he hrj
    have e1' := quo_nat j each dj he hdj (by omega)
    obtain ⟨sj, hsj⟩ : ∃ s, s = rj * wide := ⟨_, rfl⟩
    obtain ⟨d1, hd1⟩ : ∃ d, d = 1 + dj := ⟨_, rfl⟩
    have hd1m : d1 < m := by
      obtain ⟨n', rfl⟩ : ∃ n', n = n' + 1 := ⟨n - 1, by omega⟩
      have : j / each ≤ n' / each := Nat.div_le_div_right (by omega)
      rw [hm, nw_succ each he]; omega
    obtain ⟨w1, hw1⟩ : ∃ w, w = pw x each wide n d1 := ⟨_, rfl⟩
    have hb1 : w1 < 18446744073709551616 := by rw [hw1]; have := pw_lt x each wide he hx n d1; rw [hew] at this; exact this
    have hs64 : sj ≤ 64 := by rw [hsj, ← hew]; exact Nat.mul_le_mul_right _ (Nat.le_of_lt hrl)
    obtain ⟨w2, hw2⟩ : ∃ w, w = w1 / 2 ^ sj := ⟨_, rfl⟩
    have hb2 : w2 < 18446744073709551616 := by rw [hw2]; exact Nat.lt_of_le_of_lt (Nat.div_le_self _ _) hb1
    have hxj : w2 % 2 ^ wide = x j := by rw [hw2, hw1, hsj, hd1, hrj, hdj]; exact pw_read x each wide he hx n j hlt
    have hP2 : 2 ^ wide ≤ 2 ^ 32 := Nat.pow_le_pow_right (by decide) hw32
    have hP1 : 0 < 2 ^ wide := Nat.two_pow_pos _
    have e5 : aBits Nat.land .u64 .u64 (.ofNat w2) (.ofNat (2 ^ wide - 1)) = some (.int .u64 (.ofNat (x j))) := by rw [← hxj]; exact land_u w2 wide hw32 hb2
    obtain ⟨P2, hP⟩ : ∃ p, p = 2 ^ wide := ⟨_, rfl⟩
    have e6 : aShift true .u64 1 (.ofNat wide) = some (.int .u64 (.ofNat P2)) := shl_u 1 wide P2 (by omega) (by rw [hP, Nat.one_mul]) (by rw [hP]; omega)
    rw [← hP] at hP1 hP2 e5
    obtain ⟨P3, hP3⟩ : ∃ p, p = P2 - 1 := ⟨_, rfl⟩
    rw [← hP3] at e5
    have e7 : qwrap .u64 (Int.sub (.ofNat P2) 1) = .ofNat P3 := by
      rw [hP3]
      show qwrap .u64 ((P2 : Int) - 1) = _
      rw [show ((P2 : Int) - 1) = ((P2 - 1 : Nat) : Int) from by omega]
      exact qu64 (P2 - 1) (by omega)
    have s1 : qwrap .i64 (Int.add 1 (.ofNat dj)) = .ofNat d1 := by rw [hd1]; exact add_nat 1 dj (by omega)
    have e2 : qwrap .i64 (Int.mul (.ofNat rj) (.ofNat wide)) = .ofNat sj := by rw [hsj]; exact mul_nat rj wide (by rw [← hsj]; omega)
    have e3 : aShift false .u64 (.ofNat w1) (.ofNat sj) = some (.int .u64 (.ofNat w2)) := by rw [hw2]; exact shr_u w1 sj hs64
    have hia1 : ∀ ρ : Operand → Value, ∀ a b', ρ a = .slice (some ⟨oi, 0, none⟩) m co → ρ b' = .int .i64 (.ofNat d1) → aIndexAddr Tryz.prog ρ 66 a b' = some (.pointer (some ⟨oi, d1, none⟩)) := fun ρ a b' g1 g2 => by
      rw [indexAddr_slice (P := Tryz.prog) Tryz.underlying66 iW rfl g1 g2 hd1m, Nat.zero_add]
    have hia2 : ∀ ρ : Operand → Value, ∀ a b', ρ a = .slice (some ⟨b, 0, none⟩) n c → ρ b' = .int .i64 (.ofNat j) → aIndexAddr Tryz.prog ρ 66 a b' = some (.pointer (some ⟨b, j, none⟩)) := fun ρ a b' g1 g2 => by
      rw [indexAddr_slice (P := Tryz.prog) Tryz.underlying66 iW rfl g1 g2 hlt, Nat.zero_add]
    have hG1 := hG.trans (grow_up μ 21)
    have hc1 : ∀ y, cellsAt ⟨μ.obs, y⟩ oi d1 = some (.int .u64 (.ofNat w1)) := fun y => by
      have := hcell d1 hd1m
      rw [show pf x each wide n n d1 = w1 from by unfold pf; rw [if_neg (by omega), hw1]] at this
      rw [← this]; unfold cellsAt; rw [← hG.2 oi hon]
    have hB1 : Blk ⟨μ.obs, μ.next + 21⟩ b n 29 := hB
    have hst := store_put (t := 29) (v := .int .u64 (.ofNat (x j))) iW rfl rfl hB1 hlt
    have hG2 : Grow μ0 (putL ⟨μ.obs, μ.next + 21⟩ b j [.int .u64 (.ofNat (x j))]) := ⟨by rw [putL_next]; exact hG1.1, fun i hi => by rw [putL_get _ _ _ _ (by omega)]; exact hG1.2 i hi⟩
    refine code_loop ?_
    refine code_seq ?_
    refine code_region ?_ ?_
    · rfl
    simp only [run1, aOne, aP, aR, aA, aT, aCall, aCallVal, aev, regAt_set, aput_mk, aput_none, plainV, aNilCheck, aExtract, aBin, aInt, Addr.add, Nat.zero_add, ends_some, Nat.reduceLT, Nat.reduceAdd, if_true, then_normal, Nat.reduceEqDiff, if_false, reduceIte, reduceCtorEq, decide_true, decide_false, Bool.not_true, Bool.not_false, beq_self_eq_true, beq_tf, beq_ft, aPick, List.map_cons, List.map_nil, List.nil_append, List.append_nil, List.getElem?_cons_zero, List.getElem?_cons_succ, r27, r28, ilt_nat, hlt]
    refine code_seq ?_
    refine code_cond_true ?_ ?_
    · simp only [aev, regAt_set, Nat.reduceEqDiff, reduceIte]
    refine code_skip ?_
    simp only [then_normal]
    refine code_seq ?_
    refine code_block ?_
    refine code_seq ?_
    refine code_region ?_ ?_
    · rfl
    simp only [run1, aOne, aP, aR, aA, aT, aCall, aCallVal, aev, regAt_set, aput_mk, aput_none, plainV, aNilCheck, aExtract, aBin, aInt, Addr.add, Nat.zero_add, ends_some, Nat.reduceLT, Nat.reduceAdd, if_true, then_normal, Nat.reduceEqDiff, if_false, reduceIte, reduceCtorEq, decide_true, decide_false, Bool.not_true, Bool.not_false, beq_self_eq_true, beq_tf, beq_ft, aPick, List.map_cons, List.map_nil, List.nil_append, List.append_nil, List.getElem?_cons_zero, List.getElem?_cons_succ, r28]
    refine code_draw (n := 21) (ms := [0, 0, 0, 0, 0, 24, 56, 124, 252, 0, 0, 1536, 0, 7680, 16380, 0, 32768, 98304, 262140, 524287, 1048575]) (ord := [0, 1, 2, 3, 4, 5, 6, 7, 8, 9, 10, 11, 12, 13, 14, 15, 16, 17, 18, 19, 20]) (ds := ?_) ?_ ?_ ?_ ?_ ?_ ?_
    rotate_left
    · kernel_rfl
    · kernel_rfl
    · kernel_rfl
    · rfl
    · rfl
    simp only [dRun, wanted, aDrawOne, heavy, aP, aReads, aR, aT, aCall, aBuiltin, aLen, Tryz.underlying66, cast_nat, aev, regAt_set, aput_mk, aput_none, plainV, r0, r1, r2, r8, r28, hia1, hia2, ldW, hc1, aBin, aInt, s1, e1, e1', e2, e3, e5, e6, e7, hst, endsD_some, Nat.reduceLT, if_true, then_normal, Nat.reduceEqDiff, if_false, reduceIte, decide_true]
    simp only [blockC, then_normal]
    refine code_region ?_ ?_
    · rfl
    simp only [run1, aOne, aP, aR, aA, aT, aCall, aCallVal, aev, regAt_set, aput_mk, aput_none, plainV, aNilCheck, aExtract, aBin, aInt, Addr.add, Nat.zero_add, ends_some, Nat.reduceLT, Nat.reduceAdd, if_true, then_normal, Nat.reduceEqDiff, if_false, reduceIte, reduceCtorEq, decide_true, decide_false, Bool.not_true, Bool.not_false, beq_self_eq_true, beq_tf, beq_ft, aPick, List.map_cons, List.map_nil, List.nil_append, List.append_nil, List.getElem?_cons_zero, List.getElem?_cons_succ, r28, a3]
    rw [show e + (r + 1) + 59 = e + r + 60 from by omega]
    refine ih (j + 1) _ _ (by omega) hG2 (by rw [putL_next]; exact Nat.lt_of_lt_of_le hbn (Nat.le_add_right _ _)) (hB1.put _ _) (fun i hi => ?_) ?_ ?_ ?_ ?_ ?_ ?_
    · rw [cells_put hB1 (by show j + 1 ≤ n; omega)]
      by_cases hij : i = j
      · subst hij
        rw [dif_pos ⟨rfl, Nat.le_refl _, by show i < i + 1; omega⟩]
        simp
      · rw [dif_neg (by rintro ⟨_, g1, g2⟩; simp only [List.length_cons, List.length_nil] at g2; omega)]
        exact hc i (by omega)
    all_goals simp only [regAt_set, Nat.reduceEqDiff, reduceIte, r0, r1, r2, r8, r27]

theorem min_nat (a c : Nat) (h : a ≤ c) : (if (Int.ofNat c) < (Int.ofNat a) then Int.ofNat c else Int.ofNat a) = .ofNat a := by
  rw [if_neg]; simp only [Int.ofNat_eq_natCast]; omega
theorem nw_cover (each : Nat) (he : 0 < each) (n : Nat) : n ≤ (nw each n - 1) * each := by
  cases n with
  | zero => exact Nat.zero_le _
  | succ n =>
    rw [nw_succ each he, show 2 + n / each - 1 = n / each + 1 from by rw [Nat.add_comm]; rfl, Nat.add_mul, Nat.one_mul, Nat.mul_comm]
    have h1 := Nat.div_add_mod n each
    have h2 := Nat.mod_lt n he
    omega

set_option maxHeartbeats 4000000 in
theorem unpacked_ends {g n m oi co each wide : Nat} {x : Nat → Nat} {μ : Mem} (hg : 100 + n ≤ g) (hcell : ∀ k, k < m → cellsAt μ oi k = some (.int .u64 (.ofNat (pf x each wide n n k)))) (hm : m = nw each n) (hon : oi < μ.next) (hn : n < 100000) (he : 0 < each) (hew : each * wide = 64) (hw32 : wide ≤ 32) (hx : ∀ t, x t < 2 ^ wide) :
    EndsF (aFun Tryz.prog (aCode Tryz.prog X S0 g) 21 [.slice (some ⟨oi, 0, none⟩) m co, .int .i64 (.ofNat each), .int .i64 (.ofNat wide)] μ) fun v μ' => ∃ b, v = .slice (some ⟨b, 0, none⟩) n (2 * n) ∧ Grow μ μ' ∧ μ.next ≤ b ∧ b < μ'.next ∧ Blk μ' b n 29 ∧ ∀ i, i < n → cellsAt μ' b i = some (.int .u64 (.ofNat (x i))) := by
  obtain ⟨k, rfl⟩ : ∃ k, g = k + 100 := ⟨g - 100, by omega⟩
  have hkn : n ≤ k := by omega
  have hel : each ≤ 64 := by
    cases Nat.eq_zero_or_pos wide with
    | inl h => rw [h, Nat.mul_zero] at hew; omega
    | inr h => have : each * 1 ≤ each * wide := Nat.mul_le_mul_left _ h; omega
  have hm0 : 0 < m := by
    rw [hm]
    cases n with
    | zero => exact Nat.one_pos
    | succ n => rw [nw_succ each he]; exact Nat.add_pos_left (by decide) _
  have hm1 : m ≤ 1 + n := by rw [hm]; exact nw_le each he n
  obtain ⟨m1, hm1'⟩ : ∃ m1, m1 = m - 1 := ⟨_, rfl⟩
  obtain ⟨mm, hmm⟩ : ∃ mm, mm = m1 * each := ⟨_, rfl⟩
  have hmm1 : mm ≤ 100000 * 64 := by rw [hmm]; exact Nat.mul_le_mul (by omega) hel
  have hnm : n ≤ mm := by rw [hmm, hm1', hm]; exact nw_cover each he n
  have e1 : qwrap .i64 (Int.sub (.ofNat m) 1) = .ofNat m1 := by rw [hm1']; exact sub_nat m 1 (by omega) (by omega)
  have e2 : qwrap .i64 (Int.mul (.ofNat m1) (.ofNat each)) = .ofNat mm := by rw [hmm]; exact mul_nat m1 each (by omega)
  have e3 := min_nat n mm hnm
  have e4 : aBits Nat.land .u64 .u64 (.ofNat n) 4294967295 = some (.int .u64 (.ofNat n)) := by
    have := land_u n 32 (by decide) (by omega)
    rw [Nat.mod_eq_of_lt (by omega)] at this
    exact this
  have e5 : qwrap .i64 (.ofNat n) = .ofNat n := q64 n (by omega)
  have hia : ∀ (r : Rg) (a : Operand), aev Tryz.prog r a = .slice (some ⟨oi, 0, none⟩) m co → aIndexAddr Tryz.prog (aev Tryz.prog r) 66 a (.const (.int .i64 0)) = some (.pointer (some ⟨oi, 0, none⟩)) := fun r a g1 => indexAddr_slice (P := Tryz.prog) Tryz.underlying66 iW rfl g1 (m := 0) (show aev Tryz.prog r (.const (.int .i64 0)) = .int .i64 (.ofNat 0) from rfl) hm0
  have hc0 : cellsAt μ oi 0 = some (.int .u64 (.ofNat n)) := by rw [hcell 0 hm0]; rfl
  have hpos : ilt 0 (.ofNat m) = true := by
    exact (ilt_nat 0 m).trans (decide_eq_true hm0)
  have hms := msW n (by omega)
  have hgn := grow1 μ (wsO n)
  refine fun_enter Tryz.func21 rfl rfl (Nat.le_of_ble_eq_true rfl) ?_
  simp only [T.lay, Nat.zero_add, Tryz.ntmps21, Nat.reduceAdd]
  refine code_seq ?_
  refine code_region ?_ ?_
  · rfl
  simp only [run1, aOne, aP, aR, aA, aT, aCall, aCallVal, aev, regAt_set, aput_mk, aput_none, plainV, aNilCheck, aExtract, aBin, aInt, Addr.add, Nat.zero_add, ends_some, Nat.reduceLT, Nat.reduceAdd, if_true, then_normal, Nat.reduceEqDiff, if_false, reduceIte, reduceCtorEq, decide_true, decide_false, Bool.not_true, Bool.not_false, beq_self_eq_true, beq_tf, beq_ft, aPick, List.map_cons, List.map_nil, List.nil_append, List.append_nil, List.getElem?_cons_zero, List.getElem?_cons_succ]
  refine code_seq ?_
  refine code_region ?_ ?_
  · rfl
  simp only [run1, aOne, aP, aR, aA, aT, aCall, aCallVal, aev, regAt_set, aput_mk, aput_none, plainV, aNilCheck, aExtract, aBin, aInt, Addr.add, Nat.zero_add, ends_some, Nat.reduceLT, Nat.reduceAdd, if_true, then_normal, Nat.reduceEqDiff, if_false, reduceIte, reduceCtorEq, decide_true, decide_false, Bool.not_true, Bool.not_false, beq_self_eq_true, beq_tf, beq_ft, aPick, List.map_cons, List.map_nil, List.nil_append, List.append_nil, List.getElem?_cons_zero, List.getElem?_cons_succ]
  refine code_seq ?_
  refine code_seq ?_
  refine code_region ?_ ?_
  · rfl
  simp only [run1, aOne, aP, aR, aA, aT, aCall, aCallVal, aev, regAt_set, aput_mk, aput_none, plainV, aNilCheck, aExtract, aBin, aInt, Addr.add, Nat.zero_add, ends_some, Nat.reduceLT, Nat.reduceAdd, if_true, then_normal, Nat.reduceEqDiff, if_false, reduceIte, reduceCtorEq, decide_true, decide_false, Bool.not_true, Bool.not_false, beq_self_eq_true, beq_tf, beq_ft, aPick, List.map_cons, List.map_nil, List.nil_append, List.append_nil, List.getElem?_cons_zero, List.getElem?_cons_succ, aBuiltin, aLen, Tryz.underlying66, cast_nat, hpos]
  refine code_cond_true ?_ ?_
  · simp only [aev, regAt_set, Nat.reduceEqDiff, reduceIte]
  refine code_region ?_ ?_
  · rfl
  simp only [run1, aOne, aP, aR, aA, aT, aCall, aCallVal, aev, regAt_set, aput_mk, aput_none, plainV, aNilCheck, aExtract, aBin, aInt, Addr.add, Nat.zero_add, ends_some, Nat.reduceLT, Nat.reduceAdd, if_true, then_normal, Nat.reduceEqDiff, if_false, reduceIte, reduceCtorEq, decide_true, decide_false, Bool.not_true, Bool.not_false, beq_self_eq_true, beq_tf, beq_ft, aPick, List.map_cons, List.map_nil, List.nil_append, List.append_nil, List.getElem?_cons_zero, List.getElem?_cons_succ, aBuiltin, aLen, Tryz.underlying66, cast_nat, hia, ldW, hc0, e4, cvWi, e5, e1, e2, e3]
  refine code_seq ?_
  refine code_region ?_ ?_
  · rfl
  simp only [run1, aOne, aP, aR, aA, aT, aCall, aCallVal, aev, regAt_set, aput_mk, aput_none, plainV, aNilCheck, aExtract, aBin, aInt, Addr.add, Nat.zero_add, ends_some, Nat.reduceLT, Nat.reduceAdd, if_true, then_normal, Nat.reduceEqDiff, if_false, reduceIte, reduceCtorEq, decide_true, decide_false, Bool.not_true, Bool.not_false, beq_self_eq_true, beq_tf, beq_ft, aPick, List.map_cons, List.map_nil, List.nil_append, List.append_nil, List.getElem?_cons_zero, List.getElem?_cons_succ, hms]
  refine code_seq ?_
  refine code_seq ?_
  refine code_region ?_ ?_
  · rfl
  simp only [run1, aOne, aP, aR, aA, aT, aCall, aCallVal, aev, regAt_set, aput_mk, aput_none, plainV, aNilCheck, aExtract, aBin, aInt, Addr.add, Nat.zero_add, ends_some, Nat.reduceLT, Nat.reduceAdd, if_true, then_normal, Nat.reduceEqDiff, if_false, reduceIte, reduceCtorEq, decide_true, decide_false, Bool.not_true, Bool.not_false, beq_self_eq_true, beq_tf, beq_ft, aPick, List.map_cons, List.map_nil, List.nil_append, List.append_nil, List.getElem?_cons_zero, List.getElem?_cons_succ, aBuiltin, aLen, Tryz.underlying66, cast_nat]
  refine code_block ?_
  rw [show k + 93 = (k - n + 33) + n + 60 from by omega]
  refine EndsC.mono (unpacked_loop (b := μ.next) (c := 2 * n) (co := co) (each := each) (wide := wide) (x := x) hcell hm hon hn he hew hw32 hx (Nat.le_refl _) (k - n + 33) n 0 _ ⟨μ.obs.set μ.next (wsO n), μ.next + 1⟩ (by omega) hgn (Nat.lt_succ_self _) ⟨_, _, _, _, by show T.get _ _ = _; rw [T.get_set, if_pos rfl]; rfl⟩ (fun i hi => absurd hi (Nat.not_lt_zero i)) ?_ ?_ ?_ ?_ ?_ ?_) ?_
  · simp only [regAt_set, Nat.reduceEqDiff, reduceIte]
  · simp only [regAt_set, Nat.reduceEqDiff, reduceIte]
  · simp only [regAt_set, Nat.reduceEqDiff, reduceIte]
  · simp only [regAt_set, Nat.reduceEqDiff, reduceIte]
  · simp only [regAt_set, Nat.reduceEqDiff, reduceIte]
  · simp only [regAt_set, Nat.reduceEqDiff, reduceIte]; rfl
  rintro x' r' μ' ⟨rfl, hG, hbn, hc, hB, tm', rfl, g8⟩
  simp only [blockC, reduceIte, then_normal]
  refine code_seq ?_
  refine code_region ?_ ?_
  · rfl
  simp only [run1, aOne, aP, aR, aA, aT, aCall, aCallVal, aev, regAt_set, aput_mk, aput_none, plainV, aNilCheck, aExtract, aBin, aInt, Addr.add, Nat.zero_add, ends_some, Nat.reduceLT, Nat.reduceAdd, if_true, then_normal, Nat.reduceEqDiff, if_false, reduceIte, reduceCtorEq, decide_true, decide_false, Bool.not_true, Bool.not_false, beq_self_eq_true, beq_tf, beq_ft, aPick, List.map_cons, List.map_nil, List.nil_append, List.append_nil, List.getElem?_cons_zero, List.getElem?_cons_succ, g8]
  refine code_ret ?_
  refine ⟨rfl, _, ?_, μ.next, rfl, hG, Nat.le_refl _, hbn, hB, hc⟩
  simp only [aResults, Tryz.results21, aRes, regAt_set, Nat.reduceEqDiff, reduceIte]
end
end Go.Proofs.YtifoiijkaehpaaaGreatDoor.vt
