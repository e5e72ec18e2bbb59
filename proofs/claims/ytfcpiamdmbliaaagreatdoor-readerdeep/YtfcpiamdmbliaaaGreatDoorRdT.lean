/-
  distafflaw06.ReaderDeep, part T: data that are right; the law. No conditions.
-/
import Derived.Test.YtfcpiamdmbliaaaGreatDoorRdS
set_option linter.unusedSimpArgs false
set_option linter.unusedVariables false
namespace Go.Proofs.YtfcpiamdmbliaaaGreatDoor.rd
open Go Go.Proofs Go.Proofs.YtfcpiamdmbliaaaGreatDoor.Ev

noncomputable section
variable {X : FuncId → List Value → Mem → Option (Value × Mem)}

/-! ### data that are right -/
theorem kName {k : Nat} {tx : List UInt8} {μ : Mem} (h : tx = xT ∨ tx = quoteT) : aCallS Tryz.prog (aCode Tryz.prog X S0 k) S0 41 [.string ⟨tx.toArray⟩] μ = some (.bool true, μ) := by
  rcases h with rfl | rfl
  · exact call_plain (f := fName) rfl rfl rfl rfl
  · exact call_plain (f := fName) rfl rfl rfl rfl
theorem kRight {k : Nat} {μ : Mem} : aCallS Tryz.prog (aCode Tryz.prog X S0 k) S0 23 [.agg [Value.bool false, .float .f64 0, .bool false, .slice none 0 0].toArray] μ = some (.bool true, μ) := call_plain (f := fRight) rfl rfl rfl rfl
theorem kSame {k : Nat} {μ : Mem} : aCallS Tryz.prog (aCode Tryz.prog X S0 k) S0 52 [.agg [Value.bool false, .float .f64 0, .bool false, .slice none 0 0].toArray, .agg [Value.bool false, .float .f64 0, .bool false, .slice none 0 0].toArray] μ = some (.bool true, μ) := call_plain (f := fSame) rfl rfl rfl rfl

/-- a name, a list or a vector -/
def Shape (k : Nat) (tx : List UInt8) (it : Value) : Prop := (k = 4 ∧ it = .slice none 0 0 ∧ (tx = xT ∨ tx = quoteT)) ∨ ((k = 5 ∨ k = 7) ∧ tx = [] ∧ ∃ i n c, it = .slice (some ⟨i, 0, none⟩) n c ∧ (n = 1 ∨ n = 2))
theorem Shape.one {k : Nat} {tx : List UInt8} {it : Value} (h : Shape k tx it) : Go.Proofs.YtfcpiamdmbliaaaGreatDoor.Ev.one it = true := by
  rcases h with ⟨_, rfl, _⟩ | ⟨_, _, i, n, c, rfl, _⟩ <;> rfl
theorem bd39k (ρ : Operand → Value) (a : Operand) (k : Nat) (h1 : ρ a = .int .i64 (.ofNat k)) : aBuild Tryz.prog ρ 39 #[(0, a)] = some (.agg (dat k [] (.slice none 0 0)).toArray) := by
  refine build_struct (pl := [(0, 1), (1, 1), (2, 4), (6, 1), (7, 1)]) z39 Tryz.underlying39 (by kernel_rfl) ?_
  show aFill _ dat0 [(0, ρ a)] = some (dat k [] (.slice none 0 0))
  rw [aFill_one (off := 0) rfl (by rw [h1]; rfl) (by decide), h1]
  rfl
/-- a datum in a block of its own -/
theorem boxd (μ : Mem) {l : List Value} (hl : l.length = 8) : ∃ μa, μa = (⟨μ.obs.set μ.next (.cells l.length 39 l.toArray .e 0 0 false false), Nat.add μ.next 1⟩ : Mem) ∧ Grow μ μa ∧ μa.next = μ.next + 1 ∧ Has μa μ.next 0 l ∧ Blk μa μ.next 8 39 :=
  ⟨_, rfl, grow1 μ _, rfl, Has.new (t := 39) (fx := false) (sh := false) (by show T.get _ _ = _; rw [T.get_set, if_pos rfl]), ⟨_, _, _, _, by show T.get _ _ = _; rw [T.get_set, if_pos rfl, hl]⟩⟩

set_option maxRecDepth 20000 in
set_option maxHeartbeats 8000000 in
theorem bare_ends {g k : Nat} {tx : List UInt8} {it : Value} {μ : Mem} (hg : 40 ≤ g) (hk : Shape k tx it) :
    EndsF (aFun Tryz.prog (aCode Tryz.prog X S0 g) 51 [.agg (dat k tx it).toArray] μ) fun v μ' => v = .agg (dat k tx it).toArray ∧ Grow μ μ' := by
  obtain ⟨g0, rfl⟩ := Nat.exists_eq_add_of_le' hg
  obtain ⟨μ1, hμ1, hg1, hn1, hH1, _⟩ := boxd μ (l := dat k tx it) rfl
  obtain ⟨μ2, hμ2, hg2, hn2, hB2⟩ := new39 μ1
  have hH2 := hH1.keep (hg2.2 _ (by omega))
  have c0 : cellsAt μ2 μ.next 0 = some (.int .i64 (.ofNat k)) := hH2.cell 0 (Nat.zero_lt_succ _)
  obtain ⟨μ3, hμ3, hg3, hn3, hB3⟩ := new39 μ2
  have s1 := store_puts (P := Tryz.prog) (t := 39) (vs := dat k [] (.slice none 0 0)) (o := 0) i39 rfl rfl hB3 (Nat.le_refl _)
  obtain ⟨μ4, hμ4⟩ : ∃ m : Mem, m = putL μ3 μ2.next 0 (dat k [] (.slice none 0 0)) := ⟨_, rfl⟩
  rw [← hμ4] at s1
  have hn4 : μ4.next = μ3.next := by rw [hμ4, putL_next]
  have hg4 : Grow μ μ4 := by rw [hμ4]; exact ((hg1.trans hg2).trans hg3).put_new (by omega)
  have hH4 : Has μ4 μ.next 0 (dat k tx it) := by rw [hμ4]; exact (hH2.keep (hg3.2 _ (by omega))).keep (putL_get _ _ _ _ (by omega))
  have hO4 : Has μ4 μ2.next 0 (dat k [] (.slice none 0 0)) := by rw [hμ4]; exact Has.of_put hB3 (Nat.le_refl _)
  have hOb : Blk μ4 μ2.next 8 39 := by rw [hμ4]; exact hB3.put _ _
  have hBb : Blk μ4 μ1.next 8 39 := by rw [hμ4]; exact (hB2.of_get (hg3.2 _ (by omega))).of_get (putL_get _ _ _ _ (by omega))
  have d0 : cellsAt μ4 μ.next 0 = some (.int .i64 (.ofNat k)) := hH4.cell 0 (Nat.zero_lt_succ _)
  have d6 : cellsAt μ4 μ.next 6 = some (.string ⟨tx.toArray⟩) := hH4.cell 6 (Nat.le_of_ble_eq_true rfl)
  have d7 : cellsAt μ4 μ.next 7 = some it := hH4.cell 7 (Nat.le_of_ble_eq_true rfl)
  have hbd : ∀ (r : Rg) (a : Operand), aev Tryz.prog r a = .int .i64 (.ofNat k) → aBuild Tryz.prog (aev Tryz.prog r) 39 #[(0, a)] = some (.agg (dat k [] (.slice none 0 0)).toArray) := fun r a h => bd39k _ _ k h
  have fin : ∀ μ5 : Mem, Has μ5 μ2.next 0 (dat k tx it) → Blk μ5 μ1.next 8 39 → Grow μ μ5 →
      ∃ μ6, aLoad Tryz.prog μ5 39 (.pointer (some ⟨μ2.next, 0, none⟩)) = some (.agg (dat k tx it).toArray) ∧ aStore Tryz.prog μ5 39 (.pointer (some ⟨μ1.next, 0, none⟩)) (.agg (dat k tx it).toArray) = some (undef, μ6) ∧ aLoad Tryz.prog μ6 39 (.pointer (some ⟨μ1.next, 0, none⟩)) = some (.agg (dat k tx it).toArray) ∧ Grow μ μ6 := fun μ5 h1 h2 h3 =>
    ⟨_, lds39 h1 rfl, store_puts (P := Tryz.prog) (t := 39) (vs := dat k tx it) (o := 0) i39 rfl (dat_one _ _ hk.one) h2 (Nat.le_refl _), lds39 (Has.of_put (o := 0) (vs := dat k tx it) h2 (Nat.le_refl _)) rfl, h3.put_new (by omega)⟩
  refine fun_enter Tryz.func51 rfl rfl (Nat.le_of_ble_eq_true rfl) ?_
  simp only [T.lay, Nat.zero_add, Tryz.ntmps51, Nat.reduceAdd]
  refine code_seq ?_
  refine code_region ?_ ?_
  · rfl
  simp only [run1, aOne, aP, aR, aA, aT, aCall, aCallVal, aev, regAt_set, aput_mk, aput_none, plainV, aNilCheck, aExtract, aBin, aInt, Addr.add, Nat.zero_add, ends_some, Nat.reduceLT, Nat.reduceAdd, if_true, then_normal, Nat.reduceEqDiff, if_false, reduceIte, reduceCtorEq, decide_true, decide_false, Bool.not_true, Bool.not_false, beq_self_eq_true, beq_tf, beq_ft, aPick, List.map_cons, List.map_nil, List.nil_append, List.append_nil, List.getElem?_cons_zero, List.getElem?_cons_succ, box_agg, ← hμ1, al39, ← hμ2]
  refine code_seq ?_
  refine code_region ?_ ?_
  · rfl
  simp only [run1, aOne, aP, aR, aA, aT, aCall, aCallVal, aev, regAt_set, aput_mk, aput_none, plainV, aNilCheck, aExtract, aBin, aInt, Addr.add, Nat.zero_add, ends_some, Nat.reduceLT, Nat.reduceAdd, if_true, then_normal, Nat.reduceEqDiff, if_false, reduceIte, reduceCtorEq, decide_true, decide_false, Bool.not_true, Bool.not_false, beq_self_eq_true, beq_tf, beq_ft, aPick, List.map_cons, List.map_nil, List.nil_append, List.append_nil, List.getElem?_cons_zero, List.getElem?_cons_succ, fa39_0, ld3, c0, hbd, al39, ← hμ3, s1]
  refine code_seq ?_
  refine code_seq ?_
  refine code_region ?_ ?_
  · rfl
  simp only [run1, aOne, aP, aR, aA, aT, aCall, aCallVal, aev, regAt_set, aput_mk, aput_none, plainV, aNilCheck, aExtract, aBin, aInt, Addr.add, Nat.zero_add, ends_some, Nat.reduceLT, Nat.reduceAdd, if_true, then_normal, Nat.reduceEqDiff, if_false, reduceIte, reduceCtorEq, decide_true, decide_false, Bool.not_true, Bool.not_false, beq_self_eq_true, beq_tf, beq_ft, aPick, List.map_cons, List.map_nil, List.nil_append, List.append_nil, List.getElem?_cons_zero, List.getElem?_cons_succ, fa39_0, ld3, d0]
  refine code_block ?_
  rcases hk with ⟨rfl, rfl, _⟩ | ⟨hk, rfl, i, n, c, rfl, _⟩
  · have q0 : ieq (.ofNat 4) 0 = false := rfl
    have q1 : ieq (.ofNat 4) 1 = false := rfl
    have q2 : ieq (.ofNat 4) 2 = false := rfl
    have q3 : ieq (.ofNat 4) 3 = false := rfl
    have q4 : ieq (.ofNat 4) 4 = true := rfl
    have s2 := store_put (P := Tryz.prog) (t := 9) (v := .string ⟨tx.toArray⟩) i9 rfl rfl hOb (show 6 < 8 by decide)
    obtain ⟨μ6, f1, f2, f3, f4⟩ := fin (putL μ4 μ2.next 6 [.string ⟨tx.toArray⟩]) (Has.set (o := 0) (k := 6) hO4 hOb (Nat.le_of_ble_eq_true rfl)) (hBb.put _ _) (hg4.put_new (by omega))
    refine code_seq ?_
    refine code_region ?_ ?_
    · rfl
    simp only [run1, aOne, aP, aR, aA, aT, aCall, aCallVal, aev, regAt_set, aput_mk, aput_none, plainV, aNilCheck, aExtract, aBin, aInt, Addr.add, Nat.zero_add, ends_some, Nat.reduceLT, Nat.reduceAdd, if_true, then_normal, Nat.reduceEqDiff, if_false, reduceIte, reduceCtorEq, decide_true, decide_false, Bool.not_true, Bool.not_false, beq_self_eq_true, beq_tf, beq_ft, aPick, List.map_cons, List.map_nil, List.nil_append, List.append_nil, List.getElem?_cons_zero, List.getElem?_cons_succ, q0]
    refine code_cond_false ?_ ?_
    · simp only [aev, regAt_set, Nat.reduceEqDiff, reduceIte]
    refine code_seq ?_
    refine code_seq ?_
    refine code_region ?_ ?_
    · rfl
    simp only [run1, aOne, aP, aR, aA, aT, aCall, aCallVal, aev, regAt_set, aput_mk, aput_none, plainV, aNilCheck, aExtract, aBin, aInt, Addr.add, Nat.zero_add, ends_some, Nat.reduceLT, Nat.reduceAdd, if_true, then_normal, Nat.reduceEqDiff, if_false, reduceIte, reduceCtorEq, decide_true, decide_false, Bool.not_true, Bool.not_false, beq_self_eq_true, beq_tf, beq_ft, aPick, List.map_cons, List.map_nil, List.nil_append, List.append_nil, List.getElem?_cons_zero, List.getElem?_cons_succ, q1]
    refine code_cond_false ?_ ?_
    · simp only [aev, regAt_set, Nat.reduceEqDiff, reduceIte]
    refine code_region ?_ ?_
    · rfl
    simp only [run1, aOne, aP, aR, aA, aT, aCall, aCallVal, aev, regAt_set, aput_mk, aput_none, plainV, aNilCheck, aExtract, aBin, aInt, Addr.add, Nat.zero_add, ends_some, Nat.reduceLT, Nat.reduceAdd, if_true, then_normal, Nat.reduceEqDiff, if_false, reduceIte, reduceCtorEq, decide_true, decide_false, Bool.not_true, Bool.not_false, beq_self_eq_true, beq_tf, beq_ft, aPick, List.map_cons, List.map_nil, List.nil_append, List.append_nil, List.getElem?_cons_zero, List.getElem?_cons_succ, q2]
    refine code_cond_false ?_ ?_
    · simp only [aev, regAt_set, Nat.reduceEqDiff, reduceIte]
    refine code_seq ?_
    refine code_seq ?_
    refine code_region ?_ ?_
    · rfl
    simp only [run1, aOne, aP, aR, aA, aT, aCall, aCallVal, aev, regAt_set, aput_mk, aput_none, plainV, aNilCheck, aExtract, aBin, aInt, Addr.add, Nat.zero_add, ends_some, Nat.reduceLT, Nat.reduceAdd, if_true, then_normal, Nat.reduceEqDiff, if_false, reduceIte, reduceCtorEq, decide_true, decide_false, Bool.not_true, Bool.not_false, beq_self_eq_true, beq_tf, beq_ft, aPick, List.map_cons, List.map_nil, List.nil_append, List.append_nil, List.getElem?_cons_zero, List.getElem?_cons_succ, q3]
    refine code_cond_false ?_ ?_
    · simp only [aev, regAt_set, Nat.reduceEqDiff, reduceIte]
    refine code_region ?_ ?_
    · rfl
    simp only [run1, aOne, aP, aR, aA, aT, aCall, aCallVal, aev, regAt_set, aput_mk, aput_none, plainV, aNilCheck, aExtract, aBin, aInt, Addr.add, Nat.zero_add, ends_some, Nat.reduceLT, Nat.reduceAdd, if_true, then_normal, Nat.reduceEqDiff, if_false, reduceIte, reduceCtorEq, decide_true, decide_false, Bool.not_true, Bool.not_false, beq_self_eq_true, beq_tf, beq_ft, aPick, List.map_cons, List.map_nil, List.nil_append, List.append_nil, List.getElem?_cons_zero, List.getElem?_cons_succ, q4]
    refine code_cond_true ?_ ?_
    · simp only [aev, regAt_set, Nat.reduceEqDiff, reduceIte]
    refine code_region ?_ ?_
    · rfl
    simp only [run1, aOne, aP, aR, aA, aT, aCall, aCallVal, aev, regAt_set, aput_mk, aput_none, plainV, aNilCheck, aExtract, aBin, aInt, Addr.add, Nat.zero_add, ends_some, Nat.reduceLT, Nat.reduceAdd, if_true, then_normal, Nat.reduceEqDiff, if_false, reduceIte, reduceCtorEq, decide_true, decide_false, Bool.not_true, Bool.not_false, beq_self_eq_true, beq_tf, beq_ft, aPick, List.map_cons, List.map_nil, List.nil_append, List.append_nil, List.getElem?_cons_zero, List.getElem?_cons_succ, fa39_3, ld9, d6, s2]
    simp only [blockC, then_normal]
    refine code_seq ?_
    refine code_region ?_ ?_
    · rfl
    simp only [run1, aOne, aP, aR, aA, aT, aCall, aCallVal, aev, regAt_set, aput_mk, aput_none, plainV, aNilCheck, aExtract, aBin, aInt, Addr.add, Nat.zero_add, ends_some, Nat.reduceLT, Nat.reduceAdd, if_true, then_normal, Nat.reduceEqDiff, if_false, reduceIte, reduceCtorEq, decide_true, decide_false, Bool.not_true, Bool.not_false, beq_self_eq_true, beq_tf, beq_ft, aPick, List.map_cons, List.map_nil, List.nil_append, List.append_nil, List.getElem?_cons_zero, List.getElem?_cons_succ, f1, f2]
    refine code_ret ?_
    refine ⟨rfl, _, ?_, rfl, f4⟩
    simp only [aResults, Tryz.results51, aRes, regAt_set, Nat.reduceEqDiff, reduceIte, f3]
  · have q0 : ieq (.ofNat k) 0 = false := (ieq_nat k 0).trans (decide_eq_false (by omega))
    have q1 : ieq (.ofNat k) 1 = false := (ieq_nat k 1).trans (decide_eq_false (by omega))
    have q2 : ieq (.ofNat k) 2 = false := (ieq_nat k 2).trans (decide_eq_false (by omega))
    have q3 : ieq (.ofNat k) 3 = false := (ieq_nat k 3).trans (decide_eq_false (by omega))
    have q4 : ieq (.ofNat k) 4 = false := (ieq_nat k 4).trans (decide_eq_false (by omega))
    have s2 := store_put (P := Tryz.prog) (t := 24) (v := .slice (some ⟨i, 0, none⟩) n c) i24 rfl rfl hOb (show 7 < 8 by decide)
    obtain ⟨μ6, f1, f2, f3, f4⟩ := fin (putL μ4 μ2.next 7 [.slice (some ⟨i, 0, none⟩) n c]) (Has.set (o := 0) (k := 7) hO4 hOb (Nat.le_of_ble_eq_true rfl)) (hBb.put _ _) (hg4.put_new (by omega))
    refine code_seq ?_
    refine code_region ?_ ?_
    · rfl
    simp only [run1, aOne, aP, aR, aA, aT, aCall, aCallVal, aev, regAt_set, aput_mk, aput_none, plainV, aNilCheck, aExtract, aBin, aInt, Addr.add, Nat.zero_add, ends_some, Nat.reduceLT, Nat.reduceAdd, if_true, then_normal, Nat.reduceEqDiff, if_false, reduceIte, reduceCtorEq, decide_true, decide_false, Bool.not_true, Bool.not_false, beq_self_eq_true, beq_tf, beq_ft, aPick, List.map_cons, List.map_nil, List.nil_append, List.append_nil, List.getElem?_cons_zero, List.getElem?_cons_succ, q0]
    refine code_cond_false ?_ ?_
    · simp only [aev, regAt_set, Nat.reduceEqDiff, reduceIte]
    refine code_seq ?_
    refine code_seq ?_
    refine code_region ?_ ?_
    · rfl
    simp only [run1, aOne, aP, aR, aA, aT, aCall, aCallVal, aev, regAt_set, aput_mk, aput_none, plainV, aNilCheck, aExtract, aBin, aInt, Addr.add, Nat.zero_add, ends_some, Nat.reduceLT, Nat.reduceAdd, if_true, then_normal, Nat.reduceEqDiff, if_false, reduceIte, reduceCtorEq, decide_true, decide_false, Bool.not_true, Bool.not_false, beq_self_eq_true, beq_tf, beq_ft, aPick, List.map_cons, List.map_nil, List.nil_append, List.append_nil, List.getElem?_cons_zero, List.getElem?_cons_succ, q1]
    refine code_cond_false ?_ ?_
    · simp only [aev, regAt_set, Nat.reduceEqDiff, reduceIte]
    refine code_region ?_ ?_
    · rfl
    simp only [run1, aOne, aP, aR, aA, aT, aCall, aCallVal, aev, regAt_set, aput_mk, aput_none, plainV, aNilCheck, aExtract, aBin, aInt, Addr.add, Nat.zero_add, ends_some, Nat.reduceLT, Nat.reduceAdd, if_true, then_normal, Nat.reduceEqDiff, if_false, reduceIte, reduceCtorEq, decide_true, decide_false, Bool.not_true, Bool.not_false, beq_self_eq_true, beq_tf, beq_ft, aPick, List.map_cons, List.map_nil, List.nil_append, List.append_nil, List.getElem?_cons_zero, List.getElem?_cons_succ, q2]
    refine code_cond_false ?_ ?_
    · simp only [aev, regAt_set, Nat.reduceEqDiff, reduceIte]
    refine code_seq ?_
    refine code_seq ?_
    refine code_region ?_ ?_
    · rfl
    simp only [run1, aOne, aP, aR, aA, aT, aCall, aCallVal, aev, regAt_set, aput_mk, aput_none, plainV, aNilCheck, aExtract, aBin, aInt, Addr.add, Nat.zero_add, ends_some, Nat.reduceLT, Nat.reduceAdd, if_true, then_normal, Nat.reduceEqDiff, if_false, reduceIte, reduceCtorEq, decide_true, decide_false, Bool.not_true, Bool.not_false, beq_self_eq_true, beq_tf, beq_ft, aPick, List.map_cons, List.map_nil, List.nil_append, List.append_nil, List.getElem?_cons_zero, List.getElem?_cons_succ, q3]
    refine code_cond_false ?_ ?_
    · simp only [aev, regAt_set, Nat.reduceEqDiff, reduceIte]
    refine code_region ?_ ?_
    · rfl
    simp only [run1, aOne, aP, aR, aA, aT, aCall, aCallVal, aev, regAt_set, aput_mk, aput_none, plainV, aNilCheck, aExtract, aBin, aInt, Addr.add, Nat.zero_add, ends_some, Nat.reduceLT, Nat.reduceAdd, if_true, then_normal, Nat.reduceEqDiff, if_false, reduceIte, reduceCtorEq, decide_true, decide_false, Bool.not_true, Bool.not_false, beq_self_eq_true, beq_tf, beq_ft, aPick, List.map_cons, List.map_nil, List.nil_append, List.append_nil, List.getElem?_cons_zero, List.getElem?_cons_succ, q4]
    refine code_cond_false ?_ ?_
    · simp only [aev, regAt_set, Nat.reduceEqDiff, reduceIte]
    refine code_region ?_ ?_
    · rfl
    simp only [run1, aOne, aP, aR, aA, aT, aCall, aCallVal, aev, regAt_set, aput_mk, aput_none, plainV, aNilCheck, aExtract, aBin, aInt, Addr.add, Nat.zero_add, ends_some, Nat.reduceLT, Nat.reduceAdd, if_true, then_normal, Nat.reduceEqDiff, if_false, reduceIte, reduceCtorEq, decide_true, decide_false, Bool.not_true, Bool.not_false, beq_self_eq_true, beq_tf, beq_ft, aPick, List.map_cons, List.map_nil, List.nil_append, List.append_nil, List.getElem?_cons_zero, List.getElem?_cons_succ, fa39_4, ld24, d7, s2]
    simp only [blockC, then_normal]
    refine code_seq ?_
    refine code_region ?_ ?_
    · rfl
    simp only [run1, aOne, aP, aR, aA, aT, aCall, aCallVal, aev, regAt_set, aput_mk, aput_none, plainV, aNilCheck, aExtract, aBin, aInt, Addr.add, Nat.zero_add, ends_some, Nat.reduceLT, Nat.reduceAdd, if_true, then_normal, Nat.reduceEqDiff, if_false, reduceIte, reduceCtorEq, decide_true, decide_false, Bool.not_true, Bool.not_false, beq_self_eq_true, beq_tf, beq_ft, aPick, List.map_cons, List.map_nil, List.nil_append, List.append_nil, List.getElem?_cons_zero, List.getElem?_cons_succ, f1, f2]
    refine code_ret ?_
    refine ⟨rfl, _, ?_, rfl, f4⟩
    simp only [aResults, Tryz.results51, aRes, regAt_set, Nat.reduceEqDiff, reduceIte, f3]
end

noncomputable section
variable {X : FuncId → List Value → Mem → Option (Value × Mem)}

theorem bytesEq_self : ∀ l : List UInt8, bytesEq l l = true
  | [] => rfl
  | a :: l => by
    show (match Nat.beq a.toNat a.toNat with | true => bytesEq l l | false => false) = true
    rw [show Nat.beq a.toNat a.toNat = true from by simp]
    exact bytesEq_self l
theorem str_ne (tx : List UInt8) : aStr .neq ⟨tx.toArray⟩ ⟨tx.toArray⟩ = some (.bool false) := by
  show some (Value.bool (!bytesEq _ _)) = _
  rw [bytesEq_self]; rfl
theorem has_num {μ : Mem} {i k : Nat} {tx : List UInt8} {it : Value} (h : Has μ i 0 (dat k tx it)) : aLoad Tryz.prog μ 37 (.pointer (some ⟨i, 2, none⟩)) = some (.agg [Value.bool false, .float .f64 0, .bool false, .slice none 0 0].toArray) :=
  lds37 (Has.part (a := [.int .i64 (.ofNat k), .int .i64 0]) (b := [Value.bool false, .float .f64 0, .bool false, .slice none 0 0]) (c := [.string ⟨tx.toArray⟩, it]) h rfl) rfl

/-- how long a datum's items are -/
def itLen (it : Value) : Nat := match it with
  | .slice _ n _ => n
  | _ => 0
theorem Shape.lenIt {k : Nat} {tx : List UInt8} {it : Value} (h : Shape k tx it) : aLen Tryz.prog 24 it = some (itLen it) := by
  rcases h with ⟨_, rfl, _⟩ | ⟨_, _, i, n, c, rfl, _⟩
  · simp only [aLen, Tryz.underlying24]; rfl
  · simp only [aLen, Tryz.underlying24]; rfl

set_option maxRecDepth 20000 in
set_option maxHeartbeats 8000000 in
theorem extra_ends {g k : Nat} {tx : List UInt8} {it : Value} {μ : Mem} (hg : 80 ≤ g) (hk : Shape k tx it) :
    EndsF (aFun Tryz.prog (aCode Tryz.prog X S0 g) 25 [.agg (dat k tx it).toArray] μ) fun v μ' => v = .bool false ∧ Grow μ μ' := by
  obtain ⟨g0, rfl⟩ := Nat.exists_eq_add_of_le' hg
  obtain ⟨μ1, hμ1, hg1, hn1, hH1, _⟩ := boxd μ (l := dat k tx it) rfl
  have hl1 := lds39 hH1 rfl
  obtain ⟨v2, μ2, hb, hv2, hg2⟩ := bare_ends (X := X) (g := g0 + 77) (μ := μ1) (by omega) hk
  subst hv2
  obtain ⟨μ3, hμ3, hg3, hn3, hB3⟩ := new39 μ2
  have s1 := store_puts (P := Tryz.prog) (t := 39) (vs := dat k tx it) (o := 0) i39 rfl (dat_one _ _ hk.one) hB3 (Nat.le_refl _)
  obtain ⟨μ4, hμ4⟩ : ∃ m : Mem, m = putL μ3 μ2.next 0 (dat k tx it) := ⟨_, rfl⟩
  rw [← hμ4] at s1
  have hn2 := hg2.1
  have hg4 : Grow μ μ4 := by rw [hμ4]; exact ((hg1.trans hg2).trans hg3).put_new (by omega)
  have hA : Has μ4 μ.next 0 (dat k tx it) := by rw [hμ4]; exact ((hH1.keep (hg2.2 _ (by omega))).keep (hg3.2 _ (by omega))).keep (putL_get _ _ _ _ (by omega))
  have hC : Has μ4 μ2.next 0 (dat k tx it) := by rw [hμ4]; exact Has.of_put hB3 (Nat.le_refl _)
  have a1 : cellsAt μ4 μ.next 1 = some (.int .i64 0) := hA.cell 1 (Nat.le_of_ble_eq_true rfl)
  have a6 : cellsAt μ4 μ.next 6 = some (.string ⟨tx.toArray⟩) := hA.cell 6 (Nat.le_of_ble_eq_true rfl)
  have a7 : cellsAt μ4 μ.next 7 = some it := hA.cell 7 (Nat.le_of_ble_eq_true rfl)
  have c1 : cellsAt μ4 μ2.next 1 = some (.int .i64 0) := hC.cell 1 (Nat.le_of_ble_eq_true rfl)
  have c6 : cellsAt μ4 μ2.next 6 = some (.string ⟨tx.toArray⟩) := hC.cell 6 (Nat.le_of_ble_eq_true rfl)
  have c7 : cellsAt μ4 μ2.next 7 = some it := hC.cell 7 (Nat.le_of_ble_eq_true rfl)
  have a2 := has_num hA
  have c2 := has_num hC
  have q0 : ieq 0 0 = true := rfl
  have qn : ieq (.ofNat (itLen it)) (.ofNat (itLen it)) = true := (ieq_nat _ _).trans (decide_eq_true rfl)
  have hlen := hk.lenIt
  refine fun_enter Tryz.func25 rfl rfl (Nat.le_of_ble_eq_true rfl) ?_
  simp only [T.lay, Nat.zero_add, Tryz.ntmps25, Nat.reduceAdd]
  refine code_seq ?_
  refine code_region ?_ ?_
  · rfl
  simp only [run1, aOne, aP, aR, aA, aT, aCall, aCallVal, aev, regAt_set, aput_mk, aput_none, plainV, aNilCheck, aExtract, aBin, aInt, Addr.add, Nat.zero_add, ends_some, Nat.reduceLT, Nat.reduceAdd, if_true, then_normal, Nat.reduceEqDiff, if_false, reduceIte, reduceCtorEq, decide_true, decide_false, Bool.not_true, Bool.not_false, beq_self_eq_true, beq_tf, beq_ft, aPick, List.map_cons, List.map_nil, List.nil_append, List.append_nil, List.getElem?_cons_zero, List.getElem?_cons_succ, box_agg, ← hμ1]
  refine code_seq ?_
  refine code_region ?_ ?_
  · rfl
  simp only [run1, aOne, aP, aR, aA, aT, aCall, aCallVal, aev, regAt_set, aput_mk, aput_none, plainV, aNilCheck, aExtract, aBin, aInt, Addr.add, Nat.zero_add, ends_some, Nat.reduceLT, Nat.reduceAdd, if_true, then_normal, Nat.reduceEqDiff, if_false, reduceIte, reduceCtorEq, decide_true, decide_false, Bool.not_true, Bool.not_false, beq_self_eq_true, beq_tf, beq_ft, aPick, List.map_cons, List.map_nil, List.nil_append, List.append_nil, List.getElem?_cons_zero, List.getElem?_cons_succ, hl1, go_call (P := Tryz.prog) (X := X) (S := S0) Tryz.func51 rfl rfl, hb, al39, ← hμ3, s1]
  refine code_seq ?_
  refine code_guards (gs := ?_) ?_ ?_
  rotate_left
  · rfl
  iterate 30 (refine run2_true (by first | rfl | (simp only [wanted, aOne, aP, aR, aA, aT, aCall, aCallVal, aev, regAt_set, aput_mk, aput_none, plainV, aNilCheck, aExtract, aBin, aInt, Addr.add, Nat.zero_add, ends_some, Nat.reduceLT, Nat.reduceAdd, if_true, then_normal, Nat.reduceEqDiff, if_false, reduceIte, reduceCtorEq, decide_true, decide_false, Bool.not_true, Bool.not_false, beq_self_eq_true, beq_tf, beq_ft, aPick, List.map_cons, List.map_nil, List.nil_append, List.append_nil, List.getElem?_cons_zero, List.getElem?_cons_succ, fa39_1, fa39_2, fa39_3, fa39_4, ld3, ld9, ld24, a1, a2, a6, a7, c1, c2, c6, c7, q0, str_ne, aBuiltin, hlen, cast_nat, qn, go_body (P := Tryz.prog) Tryz.func52 rfl, kSame])) (by simp only [aOne, aP, aR, aA, aT, aCall, aCallVal, aev, regAt_set, aput_mk, aput_none, plainV, aNilCheck, aExtract, aBin, aInt, Addr.add, Nat.zero_add, ends_some, Nat.reduceLT, Nat.reduceAdd, if_true, then_normal, Nat.reduceEqDiff, if_false, reduceIte, reduceCtorEq, decide_true, decide_false, Bool.not_true, Bool.not_false, beq_self_eq_true, beq_tf, beq_ft, aPick, List.map_cons, List.map_nil, List.nil_append, List.append_nil, List.getElem?_cons_zero, List.getElem?_cons_succ, fa39_1, fa39_2, fa39_3, fa39_4, ld3, ld9, ld24, a1, a2, a6, a7, c1, c2, c6, c7, q0, str_ne, aBuiltin, hlen, cast_nat, qn, go_body (P := Tryz.prog) Tryz.func52 rfl, kSame]; try exact rfl) rfl ?_)
  simp only [run2, ends_some, then_normal]
  refine code_ret ?_
  refine ⟨rfl, _, ?_, rfl, hg4⟩
  simp only [aResults, Tryz.results25, aRes, regAt_set, Nat.reduceEqDiff, reduceIte]

set_option maxRecDepth 20000 in
set_option maxHeartbeats 8000000 in
theorem single_ends {g k : Nat} {tx : List UInt8} {it : Value} {μ : Mem} (hg : 80 ≤ g) (hk : Shape k tx it) :
    EndsF (aFun Tryz.prog (aCode Tryz.prog X S0 g) 24 [.agg (dat k tx it).toArray] μ) fun v μ' => v = .bool true ∧ Grow μ μ' := by
  obtain ⟨g0, rfl⟩ := Nat.exists_eq_add_of_le' hg
  obtain ⟨μ1, hμ1, hg1, hn1, hH1, _⟩ := boxd μ (l := dat k tx it) rfl
  have c0 : cellsAt μ1 μ.next 0 = some (.int .i64 (.ofNat k)) := hH1.cell 0 (Nat.zero_lt_succ _)
  have c6 : cellsAt μ1 μ.next 6 = some (.string ⟨tx.toArray⟩) := hH1.cell 6 (Nat.le_of_ble_eq_true rfl)
  have c7 : cellsAt μ1 μ.next 7 = some it := hH1.cell 7 (Nat.le_of_ble_eq_true rfl)
  have hlen := hk.lenIt
  have q0 : ieq (.ofNat k) 0 = false := (ieq_nat k 0).trans (decide_eq_false (by rcases hk with ⟨h, _⟩ | ⟨h, _⟩ <;> omega))
  have q1 : ieq (.ofNat k) 1 = false := (ieq_nat k 1).trans (decide_eq_false (by rcases hk with ⟨h, _⟩ | ⟨h, _⟩ <;> omega))
  have q2 : ieq (.ofNat k) 2 = false := (ieq_nat k 2).trans (decide_eq_false (by rcases hk with ⟨h, _⟩ | ⟨h, _⟩ <;> omega))
  have q3 : ieq (.ofNat k) 3 = false := (ieq_nat k 3).trans (decide_eq_false (by rcases hk with ⟨h, _⟩ | ⟨h, _⟩ <;> omega))
  refine fun_enter Tryz.func24 rfl rfl (Nat.le_of_ble_eq_true rfl) ?_
  simp only [T.lay, Nat.zero_add, Tryz.ntmps24, Nat.reduceAdd]
  refine code_seq ?_
  refine code_region ?_ ?_
  · rfl
  simp only [run1, aOne, aP, aR, aA, aT, aCall, aCallVal, aev, regAt_set, aput_mk, aput_none, plainV, aNilCheck, aExtract, aBin, aInt, Addr.add, Nat.zero_add, ends_some, Nat.reduceLT, Nat.reduceAdd, if_true, then_normal, Nat.reduceEqDiff, if_false, reduceIte, reduceCtorEq, decide_true, decide_false, Bool.not_true, Bool.not_false, beq_self_eq_true, beq_tf, beq_ft, aPick, List.map_cons, List.map_nil, List.nil_append, List.append_nil, List.getElem?_cons_zero, List.getElem?_cons_succ, box_agg, ← hμ1]
  refine code_seq ?_
  refine code_seq ?_
  refine code_region ?_ ?_
  · rfl
  simp only [run1, aOne, aP, aR, aA, aT, aCall, aCallVal, aev, regAt_set, aput_mk, aput_none, plainV, aNilCheck, aExtract, aBin, aInt, Addr.add, Nat.zero_add, ends_some, Nat.reduceLT, Nat.reduceAdd, if_true, then_normal, Nat.reduceEqDiff, if_false, reduceIte, reduceCtorEq, decide_true, decide_false, Bool.not_true, Bool.not_false, beq_self_eq_true, beq_tf, beq_ft, aPick, List.map_cons, List.map_nil, List.nil_append, List.append_nil, List.getElem?_cons_zero, List.getElem?_cons_succ, fa39_0, ld3, c0]
  refine code_block ?_
  refine code_seq ?_
  refine code_region ?_ ?_
  · rfl
  simp only [run1, aOne, aP, aR, aA, aT, aCall, aCallVal, aev, regAt_set, aput_mk, aput_none, plainV, aNilCheck, aExtract, aBin, aInt, Addr.add, Nat.zero_add, ends_some, Nat.reduceLT, Nat.reduceAdd, if_true, then_normal, Nat.reduceEqDiff, if_false, reduceIte, reduceCtorEq, decide_true, decide_false, Bool.not_true, Bool.not_false, beq_self_eq_true, beq_tf, beq_ft, aPick, List.map_cons, List.map_nil, List.nil_append, List.append_nil, List.getElem?_cons_zero, List.getElem?_cons_succ, q0]
  refine code_cond_false ?_ ?_
  · simp only [aev, regAt_set, Nat.reduceEqDiff, reduceIte]
  refine code_seq ?_
  refine code_region ?_ ?_
  · rfl
  simp only [run1, aOne, aP, aR, aA, aT, aCall, aCallVal, aev, regAt_set, aput_mk, aput_none, plainV, aNilCheck, aExtract, aBin, aInt, Addr.add, Nat.zero_add, ends_some, Nat.reduceLT, Nat.reduceAdd, if_true, then_normal, Nat.reduceEqDiff, if_false, reduceIte, reduceCtorEq, decide_true, decide_false, Bool.not_true, Bool.not_false, beq_self_eq_true, beq_tf, beq_ft, aPick, List.map_cons, List.map_nil, List.nil_append, List.append_nil, List.getElem?_cons_zero, List.getElem?_cons_succ, q1]
  refine code_cond_false ?_ ?_
  · simp only [aev, regAt_set, Nat.reduceEqDiff, reduceIte]
  refine code_seq ?_
  refine code_region ?_ ?_
  · rfl
  simp only [run1, aOne, aP, aR, aA, aT, aCall, aCallVal, aev, regAt_set, aput_mk, aput_none, plainV, aNilCheck, aExtract, aBin, aInt, Addr.add, Nat.zero_add, ends_some, Nat.reduceLT, Nat.reduceAdd, if_true, then_normal, Nat.reduceEqDiff, if_false, reduceIte, reduceCtorEq, decide_true, decide_false, Bool.not_true, Bool.not_false, beq_self_eq_true, beq_tf, beq_ft, aPick, List.map_cons, List.map_nil, List.nil_append, List.append_nil, List.getElem?_cons_zero, List.getElem?_cons_succ, q2]
  refine code_cond_false ?_ ?_
  · simp only [aev, regAt_set, Nat.reduceEqDiff, reduceIte]
  refine code_seq ?_
  refine code_region ?_ ?_
  · rfl
  simp only [run1, aOne, aP, aR, aA, aT, aCall, aCallVal, aev, regAt_set, aput_mk, aput_none, plainV, aNilCheck, aExtract, aBin, aInt, Addr.add, Nat.zero_add, ends_some, Nat.reduceLT, Nat.reduceAdd, if_true, then_normal, Nat.reduceEqDiff, if_false, reduceIte, reduceCtorEq, decide_true, decide_false, Bool.not_true, Bool.not_false, beq_self_eq_true, beq_tf, beq_ft, aPick, List.map_cons, List.map_nil, List.nil_append, List.append_nil, List.getElem?_cons_zero, List.getElem?_cons_succ, q3]
  refine code_cond_false ?_ ?_
  · simp only [aev, regAt_set, Nat.reduceEqDiff, reduceIte]
  rcases hk with ⟨rfl, _, htx⟩ | ⟨hk | hk, _, i, n, c, rfl, hn⟩
  · have q4 : ieq (.ofNat 4) 4 = true := rfl
    refine code_seq ?_
    refine code_region ?_ ?_
    · rfl
    simp only [run1, aOne, aP, aR, aA, aT, aCall, aCallVal, aev, regAt_set, aput_mk, aput_none, plainV, aNilCheck, aExtract, aBin, aInt, Addr.add, Nat.zero_add, ends_some, Nat.reduceLT, Nat.reduceAdd, if_true, then_normal, Nat.reduceEqDiff, if_false, reduceIte, reduceCtorEq, decide_true, decide_false, Bool.not_true, Bool.not_false, beq_self_eq_true, beq_tf, beq_ft, aPick, List.map_cons, List.map_nil, List.nil_append, List.append_nil, List.getElem?_cons_zero, List.getElem?_cons_succ, q4]
    refine code_cond_true ?_ ?_
    · simp only [aev, regAt_set, Nat.reduceEqDiff, reduceIte]
    refine code_seq ?_
    refine code_region ?_ ?_
    · rfl
    simp only [run1, aOne, aP, aR, aA, aT, aCall, aCallVal, aev, regAt_set, aput_mk, aput_none, plainV, aNilCheck, aExtract, aBin, aInt, Addr.add, Nat.zero_add, ends_some, Nat.reduceLT, Nat.reduceAdd, if_true, then_normal, Nat.reduceEqDiff, if_false, reduceIte, reduceCtorEq, decide_true, decide_false, Bool.not_true, Bool.not_false, beq_self_eq_true, beq_tf, beq_ft, aPick, List.map_cons, List.map_nil, List.nil_append, List.append_nil, List.getElem?_cons_zero, List.getElem?_cons_succ, fa39_3, ld9, c6, go_body (P := Tryz.prog) Tryz.func41 rfl, kName htx]
    refine code_ret ?_
    simp only [blockC, then_ret]
    refine ⟨rfl, _, ?_, rfl, hg1⟩
    simp only [aResults, Tryz.results24, aRes, regAt_set, Nat.reduceEqDiff, reduceIte]
  · subst hk
    have q4 : ieq (.ofNat 5) 4 = false := rfl
    have q5 : ieq (.ofNat 5) 5 = true := rfl
    refine code_seq ?_
    refine code_region ?_ ?_
    · rfl
    simp only [run1, aOne, aP, aR, aA, aT, aCall, aCallVal, aev, regAt_set, aput_mk, aput_none, plainV, aNilCheck, aExtract, aBin, aInt, Addr.add, Nat.zero_add, ends_some, Nat.reduceLT, Nat.reduceAdd, if_true, then_normal, Nat.reduceEqDiff, if_false, reduceIte, reduceCtorEq, decide_true, decide_false, Bool.not_true, Bool.not_false, beq_self_eq_true, beq_tf, beq_ft, aPick, List.map_cons, List.map_nil, List.nil_append, List.append_nil, List.getElem?_cons_zero, List.getElem?_cons_succ, q4]
    refine code_cond_false ?_ ?_
    · simp only [aev, regAt_set, Nat.reduceEqDiff, reduceIte]
    refine code_seq ?_
    refine code_region ?_ ?_
    · rfl
    simp only [run1, aOne, aP, aR, aA, aT, aCall, aCallVal, aev, regAt_set, aput_mk, aput_none, plainV, aNilCheck, aExtract, aBin, aInt, Addr.add, Nat.zero_add, ends_some, Nat.reduceLT, Nat.reduceAdd, if_true, then_normal, Nat.reduceEqDiff, if_false, reduceIte, reduceCtorEq, decide_true, decide_false, Bool.not_true, Bool.not_false, beq_self_eq_true, beq_tf, beq_ft, aPick, List.map_cons, List.map_nil, List.nil_append, List.append_nil, List.getElem?_cons_zero, List.getElem?_cons_succ, q5]
    refine code_cond_true ?_ ?_
    · simp only [aev, regAt_set, Nat.reduceEqDiff, reduceIte]
    refine code_seq ?_
    refine code_region ?_ ?_
    · rfl
    simp only [run1, aOne, aP, aR, aA, aT, aCall, aCallVal, aev, regAt_set, aput_mk, aput_none, plainV, aNilCheck, aExtract, aBin, aInt, Addr.add, Nat.zero_add, ends_some, Nat.reduceLT, Nat.reduceAdd, if_true, then_normal, Nat.reduceEqDiff, if_false, reduceIte, reduceCtorEq, decide_true, decide_false, Bool.not_true, Bool.not_false, beq_self_eq_true, beq_tf, beq_ft, aPick, List.map_cons, List.map_nil, List.nil_append, List.append_nil, List.getElem?_cons_zero, List.getElem?_cons_succ]
    refine code_ret ?_
    simp only [blockC, then_ret]
    refine ⟨rfl, _, ?_, rfl, hg1⟩
    simp only [aResults, Tryz.results24, aRes, regAt_set, Nat.reduceEqDiff, reduceIte]
  · subst hk
    have q4 : ieq (.ofNat 7) 4 = false := rfl
    have q5 : ieq (.ofNat 7) 5 = false := rfl
    have q6 : ieq (.ofNat 7) 6 = false := rfl
    have q7 : ieq (.ofNat 7) 7 = true := rfl
    have q200 : ilt 200 (.ofNat n) = false := (ilt_nat 200 n).trans (decide_eq_false (by omega))
    refine code_seq ?_
    refine code_region ?_ ?_
    · rfl
    simp only [run1, aOne, aP, aR, aA, aT, aCall, aCallVal, aev, regAt_set, aput_mk, aput_none, plainV, aNilCheck, aExtract, aBin, aInt, Addr.add, Nat.zero_add, ends_some, Nat.reduceLT, Nat.reduceAdd, if_true, then_normal, Nat.reduceEqDiff, if_false, reduceIte, reduceCtorEq, decide_true, decide_false, Bool.not_true, Bool.not_false, beq_self_eq_true, beq_tf, beq_ft, aPick, List.map_cons, List.map_nil, List.nil_append, List.append_nil, List.getElem?_cons_zero, List.getElem?_cons_succ, q4]
    refine code_cond_false ?_ ?_
    · simp only [aev, regAt_set, Nat.reduceEqDiff, reduceIte]
    refine code_seq ?_
    refine code_region ?_ ?_
    · rfl
    simp only [run1, aOne, aP, aR, aA, aT, aCall, aCallVal, aev, regAt_set, aput_mk, aput_none, plainV, aNilCheck, aExtract, aBin, aInt, Addr.add, Nat.zero_add, ends_some, Nat.reduceLT, Nat.reduceAdd, if_true, then_normal, Nat.reduceEqDiff, if_false, reduceIte, reduceCtorEq, decide_true, decide_false, Bool.not_true, Bool.not_false, beq_self_eq_true, beq_tf, beq_ft, aPick, List.map_cons, List.map_nil, List.nil_append, List.append_nil, List.getElem?_cons_zero, List.getElem?_cons_succ, q5]
    refine code_cond_false ?_ ?_
    · simp only [aev, regAt_set, Nat.reduceEqDiff, reduceIte]
    refine code_seq ?_
    refine code_region ?_ ?_
    · rfl
    simp only [run1, aOne, aP, aR, aA, aT, aCall, aCallVal, aev, regAt_set, aput_mk, aput_none, plainV, aNilCheck, aExtract, aBin, aInt, Addr.add, Nat.zero_add, ends_some, Nat.reduceLT, Nat.reduceAdd, if_true, then_normal, Nat.reduceEqDiff, if_false, reduceIte, reduceCtorEq, decide_true, decide_false, Bool.not_true, Bool.not_false, beq_self_eq_true, beq_tf, beq_ft, aPick, List.map_cons, List.map_nil, List.nil_append, List.append_nil, List.getElem?_cons_zero, List.getElem?_cons_succ, q6]
    refine code_cond_false ?_ ?_
    · simp only [aev, regAt_set, Nat.reduceEqDiff, reduceIte]
    refine code_seq ?_
    refine code_region ?_ ?_
    · rfl
    simp only [run1, aOne, aP, aR, aA, aT, aCall, aCallVal, aev, regAt_set, aput_mk, aput_none, plainV, aNilCheck, aExtract, aBin, aInt, Addr.add, Nat.zero_add, ends_some, Nat.reduceLT, Nat.reduceAdd, if_true, then_normal, Nat.reduceEqDiff, if_false, reduceIte, reduceCtorEq, decide_true, decide_false, Bool.not_true, Bool.not_false, beq_self_eq_true, beq_tf, beq_ft, aPick, List.map_cons, List.map_nil, List.nil_append, List.append_nil, List.getElem?_cons_zero, List.getElem?_cons_succ, q7]
    refine code_cond_true ?_ ?_
    · simp only [aev, regAt_set, Nat.reduceEqDiff, reduceIte]
    refine code_seq ?_
    refine code_region ?_ ?_
    · rfl
    simp only [run1, aOne, aP, aR, aA, aT, aCall, aCallVal, aev, regAt_set, aput_mk, aput_none, plainV, aNilCheck, aExtract, aBin, aInt, Addr.add, Nat.zero_add, ends_some, Nat.reduceLT, Nat.reduceAdd, if_true, then_normal, Nat.reduceEqDiff, if_false, reduceIte, reduceCtorEq, decide_true, decide_false, Bool.not_true, Bool.not_false, beq_self_eq_true, beq_tf, beq_ft, aPick, List.map_cons, List.map_nil, List.nil_append, List.append_nil, List.getElem?_cons_zero, List.getElem?_cons_succ, fa39_4, ld24, c7, aBuiltin, aLen, Tryz.underlying24, cast_nat, q200]
    refine code_ret ?_
    simp only [blockC, then_ret]
    refine ⟨rfl, _, ?_, rfl, hg1⟩
    simp only [aResults, Tryz.results24, aRes, regAt_set, Nat.reduceEqDiff, reduceIte]
end

noncomputable section
variable {X : FuncId → List Value → Mem → Option (Value × Mem)}

set_option maxRecDepth 20000 in
set_option maxHeartbeats 8000000 in
theorem clos_ends {g G bg b3 b5 deep : Nat} {l : List Value} {μ : Mem} {R : Mem → Prop} (hg : G + 20 ≤ g) (hl : l.length = 8) (hd : deep < 1000) (c3 : cellsAt μ b3 0 = some (.pointer (some ⟨bg, 0, none⟩))) (c5 : cellsAt μ b5 0 = some (.int .i64 (.ofNat deep))) (n3 : b3 < μ.next) (n5 : b5 < μ.next)
    (hR : ∀ μ1 g', Grow μ μ1 → G ≤ g' → EndsF (aFun Tryz.prog (aCode Tryz.prog X S0 g') 11 [.pointer (some ⟨bg, 0, none⟩), .agg l.toArray, .int .i64 (.ofNat (deep + 1))] μ1) fun v μ2 => v = .bool true ∧ R μ2) :
    EndsF (aFun Tryz.prog (aCode Tryz.prog X S0 g) 27 [.agg l.toArray, .pointer (some ⟨b3, 0, none⟩), .pointer (some ⟨b5, 0, none⟩)] μ) fun v μ' => v = .bool false ∧ R μ' := by
  obtain ⟨g0, rfl⟩ : ∃ g0, g = g0 + 20 := ⟨g - 20, by omega⟩
  obtain ⟨μ1, hμ1, hg1, hn1, hH1, _⟩ := boxd μ (l := l) hl
  have hl1 := lds39 hH1 (by rw [hl]; rfl)
  have c31 : cellsAt μ1 b3 0 = some (.pointer (some ⟨bg, 0, none⟩)) := by rw [← c3]; unfold cellsAt; rw [hg1.2 b3 n3]
  have c51 : cellsAt μ1 b5 0 = some (.int .i64 (.ofNat deep)) := by rw [← c5]; unfold cellsAt; rw [hg1.2 b5 n5]
  obtain ⟨v2, μ2, hr, hv2, hR2⟩ := hR μ1 (g0 + 17) hg1 (by omega)
  subst hv2
  have a1 : qwrap .i64 (Int.add (.ofNat deep) 1) = .ofNat (deep + 1) := add_nat deep 1 (by omega)
  refine fun_enter Tryz.func27 rfl rfl (Nat.le_of_ble_eq_true rfl) ?_
  simp only [T.lay, Nat.zero_add, Tryz.ntmps27, Nat.reduceAdd]
  refine code_seq ?_
  refine code_region ?_ ?_
  · rfl
  simp only [run1, aOne, aP, aR, aA, aT, aCall, aCallVal, aev, regAt_set, aput_mk, aput_none, plainV, aNilCheck, aExtract, aBin, aInt, Addr.add, Nat.zero_add, ends_some, Nat.reduceLT, Nat.reduceAdd, if_true, then_normal, Nat.reduceEqDiff, if_false, reduceIte, reduceCtorEq, decide_true, decide_false, Bool.not_true, Bool.not_false, beq_self_eq_true, beq_tf, beq_ft, aPick, List.map_cons, List.map_nil, List.nil_append, List.append_nil, List.getElem?_cons_zero, List.getElem?_cons_succ, box_agg, ← hμ1]
  refine code_seq ?_
  refine code_region ?_ ?_
  · rfl
  simp only [run1, aOne, aP, aR, aA, aT, aCall, aCallVal, aev, regAt_set, aput_mk, aput_none, plainV, aNilCheck, aExtract, aBin, aInt, Addr.add, Nat.zero_add, ends_some, Nat.reduceLT, Nat.reduceAdd, if_true, then_normal, Nat.reduceEqDiff, if_false, reduceIte, reduceCtorEq, decide_true, decide_false, Bool.not_true, Bool.not_false, beq_self_eq_true, beq_tf, beq_ft, aPick, List.map_cons, List.map_nil, List.nil_append, List.append_nil, List.getElem?_cons_zero, List.getElem?_cons_succ, ld59, ld3, c31, c51, hl1, a1, go_call (P := Tryz.prog) (X := X) (S := S0) Tryz.func11 rfl rfl, hr]
  refine code_ret ?_
  refine ⟨rfl, _, ?_, rfl, hR2⟩
  simp only [aResults, Tryz.results27, aRes, regAt_set, Nat.reduceEqDiff, reduceIte]

set_option maxRecDepth 20000 in
set_option maxHeartbeats 8000000 in
theorem index_loop {n i cp b3 b5 G : Nat} {ad : Option Addr} {P : Nat → Mem → Prop} {el : Nat → List Value} (had : 0 < n → ad = some ⟨i, 0, none⟩) (hn : n < 1000) (hH : ∀ j μ, j < n → P j μ → Has μ i (j * 8) (el j)) (hel : ∀ j, j < n → (el j).length = 8)
    (hP : ∀ j μ g, j < n → G ≤ g → P j μ → EndsF (aFun Tryz.prog (aCode Tryz.prog X S0 g) 27 [.agg (el j).toArray, .pointer (some ⟨b3, 0, none⟩), .pointer (some ⟨b5, 0, none⟩)] μ) fun v μ' => v = .bool false ∧ P (j + 1) μ') :
    ∀ (m f j : Nat) (tm : T Value) (μ : Mem), j + m = n → P j μ → regAt tm 0 = .slice ad n cp → regAt tm 1 = .func (.func 27) #[] #[.pointer (some ⟨b3, 0, none⟩), .pointer (some ⟨b5, 0, none⟩)] → regAt tm 7 = .int .i64 (.ofNat n) → regAt tm 8 = .int .i64 (.ofNat j) →
      EndsC (aCode Tryz.prog X S0 (G + f + m + 30) (.loop (loopBody Tryz.f53 0)) ⟨19, tm, [], none⟩ μ) fun a r μ' => a = .exit 0 ∧ (∃ tm', r = ⟨19, tm', [], none⟩) ∧ P n μ' := by
  intro m
  induction m with
  | zero =>
    intro f j tm μ hj hp r0 r1 r7 r8
    obtain rfl : j = n := hj
    refine code_loop ?_
    refine code_seq ?_
    refine code_region ?_ ?_
    · rfl
    simp only [run1, aOne, aP, aR, aA, aT, aCall, aCallVal, aev, regAt_set, aput_mk, aput_none, plainV, aNilCheck, aExtract, aBin, aInt, Addr.add, Nat.zero_add, ends_some, Nat.reduceLT, Nat.reduceAdd, if_true, then_normal, Nat.reduceEqDiff, if_false, reduceIte, reduceCtorEq, decide_true, decide_false, Bool.not_true, Bool.not_false, beq_self_eq_true, beq_tf, beq_ft, aPick, List.map_cons, List.map_nil, List.nil_append, List.append_nil, List.getElem?_cons_zero, List.getElem?_cons_succ, r7, r8, ilt_nat, Nat.lt_irrefl]
    refine code_seq ?_
    refine code_cond_false ?_ ?_
    · simp only [aev, regAt_set, Nat.reduceEqDiff, reduceIte]
    refine code_exit ?_
    simp only [then_exit]
    exact ⟨trivial, ⟨_, rfl⟩, hp⟩
  | succ m ih =>
    intro f j tm μ hj hp r0 r1 r7 r8
    have hlt : j < n := by omega
    obtain rfl := had (by omega)
    have hHj := hH j μ hlt hp
    have hld := lds39 hHj (by rw [hel j hlt]; rfl)
    have a3 : qwrap .i64 (Int.add (.ofNat j) 1) = .ofNat (j + 1) := add_nat j 1 (by omega)
    have hix : ∀ ρ : Operand → Value, ∀ a b, ρ a = .slice (some ⟨i, 0, none⟩) n cp → ρ b = .int .i64 (.ofNat j) → aIndexAddr Tryz.prog ρ 24 a b = some (.pointer (some ⟨i, j * 8, none⟩)) := fun ρ a b g1 g2 => by
      rw [indexAddr_sz (P := Tryz.prog) Tryz.underlying24 i39 g1 g2 hlt, Nat.zero_add]; rfl
    obtain ⟨v, μ', hc, hv, hp'⟩ := hP j μ (G + f + (m + 1) + 22) hlt (by omega) hp
    subst hv
    refine code_loop ?_
    refine code_seq ?_
    refine code_region ?_ ?_
    · rfl
    simp only [run1, aOne, aP, aR, aA, aT, aCall, aCallVal, aev, regAt_set, aput_mk, aput_none, plainV, aNilCheck, aExtract, aBin, aInt, Addr.add, Nat.zero_add, ends_some, Nat.reduceLT, Nat.reduceAdd, if_true, then_normal, Nat.reduceEqDiff, if_false, reduceIte, reduceCtorEq, decide_true, decide_false, Bool.not_true, Bool.not_false, beq_self_eq_true, beq_tf, beq_ft, aPick, List.map_cons, List.map_nil, List.nil_append, List.append_nil, List.getElem?_cons_zero, List.getElem?_cons_succ, r7, r8, ilt_nat, hlt]
    refine code_seq ?_
    refine code_cond_true ?_ ?_
    · simp only [aev, regAt_set, Nat.reduceEqDiff, reduceIte]
    refine code_skip ?_
    simp only [then_normal]
    refine code_seq ?_
    refine code_block ?_
    refine code_seq ?_
    refine code_region ?_ ?_
    · rfl
    simp only [run1, aOne, aP, aR, aA, aT, aCall, aCallVal, aev, regAt_set, aput_mk, aput_none, plainV, aNilCheck, aExtract, aBin, aInt, Addr.add, Nat.zero_add, ends_some, Nat.reduceLT, Nat.reduceAdd, if_true, then_normal, Nat.reduceEqDiff, if_false, reduceIte, reduceCtorEq, decide_true, decide_false, Bool.not_true, Bool.not_false, beq_self_eq_true, beq_tf, beq_ft, aPick, List.map_cons, List.map_nil, List.nil_append, List.append_nil, List.getElem?_cons_zero, List.getElem?_cons_succ, r8]
    refine code_seq ?_
    refine code_region ?_ ?_
    · rfl
    simp only [run1, aOne, aP, aR, aA, aT, aCall, aCallVal, aev, regAt_set, aput_mk, aput_none, plainV, aNilCheck, aExtract, aBin, aInt, Addr.add, Nat.zero_add, ends_some, Nat.reduceLT, Nat.reduceAdd, if_true, then_normal, Nat.reduceEqDiff, if_false, reduceIte, reduceCtorEq, decide_true, decide_false, Bool.not_true, Bool.not_false, beq_self_eq_true, beq_tf, beq_ft, aPick, List.map_cons, List.map_nil, List.nil_append, List.append_nil, List.getElem?_cons_zero, List.getElem?_cons_succ, r0, r1, hix, hld, List.cons_append, go_call (P := Tryz.prog) (X := X) (S := S0) Tryz.func27 rfl rfl, hc]
    refine code_cond_false ?_ ?_
    · simp only [aev, regAt_set, Nat.reduceEqDiff, reduceIte]
    refine code_skip ?_
    simp only [blockC, then_normal]
    refine code_region ?_ ?_
    · rfl
    simp only [run1, aOne, aP, aR, aA, aT, aCall, aCallVal, aev, regAt_set, aput_mk, aput_none, plainV, aNilCheck, aExtract, aBin, aInt, Addr.add, Nat.zero_add, ends_some, Nat.reduceLT, Nat.reduceAdd, if_true, then_normal, Nat.reduceEqDiff, if_false, reduceIte, reduceCtorEq, decide_true, decide_false, Bool.not_true, Bool.not_false, beq_self_eq_true, beq_tf, beq_ft, aPick, List.map_cons, List.map_nil, List.nil_append, List.append_nil, List.getElem?_cons_zero, List.getElem?_cons_succ, r8, a3]
    rw [show G + f + (m + 1) + 29 = G + f + m + 30 from by omega]
    refine ih f (j + 1) _ _ (by omega) hp' ?_ ?_ ?_ ?_ <;> simp only [regAt_set, Nat.reduceEqDiff, reduceIte, r0, r1, r7]

set_option maxRecDepth 20000 in
set_option maxHeartbeats 8000000 in
theorem contains_ends {n i cp b3 b5 G g : Nat} {ad : Option Addr} {P : Nat → Mem → Prop} {el : Nat → List Value} (hg : G + n + 80 ≤ g) (had : 0 < n → ad = some ⟨i, 0, none⟩) (hn : n < 1000) (hH : ∀ j μ, j < n → P j μ → Has μ i (j * 8) (el j)) (hel : ∀ j, j < n → (el j).length = 8)
    (hP : ∀ j μ g, j < n → G ≤ g → P j μ → EndsF (aFun Tryz.prog (aCode Tryz.prog X S0 g) 27 [.agg (el j).toArray, .pointer (some ⟨b3, 0, none⟩), .pointer (some ⟨b5, 0, none⟩)] μ) fun v μ' => v = .bool false ∧ P (j + 1) μ') {μ : Mem} (h0 : P 0 μ) :
    EndsF (aFun Tryz.prog (aCode Tryz.prog X S0 g) 26 [.slice ad n cp, .func (.func 27) #[] #[.pointer (some ⟨b3, 0, none⟩), .pointer (some ⟨b5, 0, none⟩)]] μ) fun v μ' => v = .bool false ∧ P n μ' := by
  have hI : ∀ g', G + n + 60 ≤ g' → EndsF (aFun Tryz.prog (aCode Tryz.prog X S0 g') 53 [.slice ad n cp, .func (.func 27) #[] #[.pointer (some ⟨b3, 0, none⟩), .pointer (some ⟨b5, 0, none⟩)]] μ) fun v μ' => v = .int .i64 (-1) ∧ P n μ' := by
    intro g' hg'
    obtain ⟨k, rfl⟩ : ∃ k, g' = k + 60 := ⟨g' - 60, by omega⟩
    refine fun_enter Tryz.func53 rfl rfl (Nat.le_of_ble_eq_true rfl) ?_
    simp only [T.lay, Nat.zero_add, Tryz.ntmps53, Nat.reduceAdd]
    refine code_seq ?_
    refine code_region ?_ ?_
    · rfl
    simp only [run1, aOne, aP, aR, aA, aT, aCall, aCallVal, aev, regAt_set, aput_mk, aput_none, plainV, aNilCheck, aExtract, aBin, aInt, Addr.add, Nat.zero_add, ends_some, Nat.reduceLT, Nat.reduceAdd, if_true, then_normal, Nat.reduceEqDiff, if_false, reduceIte, reduceCtorEq, decide_true, decide_false, Bool.not_true, Bool.not_false, beq_self_eq_true, beq_tf, beq_ft, aPick, List.map_cons, List.map_nil, List.nil_append, List.append_nil, List.getElem?_cons_zero, List.getElem?_cons_succ]
    refine code_seq ?_
    refine code_seq ?_
    refine code_region ?_ ?_
    · rfl
    simp only [run1, aOne, aP, aR, aA, aT, aCall, aCallVal, aev, regAt_set, aput_mk, aput_none, plainV, aNilCheck, aExtract, aBin, aInt, Addr.add, Nat.zero_add, ends_some, Nat.reduceLT, Nat.reduceAdd, if_true, then_normal, Nat.reduceEqDiff, if_false, reduceIte, reduceCtorEq, decide_true, decide_false, Bool.not_true, Bool.not_false, beq_self_eq_true, beq_tf, beq_ft, aPick, List.map_cons, List.map_nil, List.nil_append, List.append_nil, List.getElem?_cons_zero, List.getElem?_cons_succ, aBuiltin, aLen, Tryz.underlying24, cast_nat]
    refine code_block ?_
    rw [show k + 56 = G + (k - G - n + 26) + n + 30 from by omega]
    refine EndsC.mono (index_loop (X := X) (cp := cp) had hn hH hel hP n (k - G - n + 26) 0 _ μ (by omega) h0 ?_ ?_ ?_ ?_) ?_
    · simp only [regAt_set, Nat.reduceEqDiff, reduceIte]
    · simp only [regAt_set, Nat.reduceEqDiff, reduceIte]
    · simp only [regAt_set, Nat.reduceEqDiff, reduceIte]
    · simp only [regAt_set, Nat.reduceEqDiff, reduceIte]; rfl
    rintro a r μ' ⟨rfl, ⟨tm', rfl⟩, hp⟩
    simp only [blockC, reduceIte, then_normal]
    refine code_seq ?_
    refine code_region ?_ ?_
    · rfl
    simp only [run1, aOne, aP, aR, aA, aT, aCall, aCallVal, aev, regAt_set, aput_mk, aput_none, plainV, aNilCheck, aExtract, aBin, aInt, Addr.add, Nat.zero_add, ends_some, Nat.reduceLT, Nat.reduceAdd, if_true, then_normal, Nat.reduceEqDiff, if_false, reduceIte, reduceCtorEq, decide_true, decide_false, Bool.not_true, Bool.not_false, beq_self_eq_true, beq_tf, beq_ft, aPick, List.map_cons, List.map_nil, List.nil_append, List.append_nil, List.getElem?_cons_zero, List.getElem?_cons_succ]
    refine code_ret ?_
    refine ⟨rfl, _, ?_, rfl, hp⟩
    simp only [aResults, Tryz.results53, aRes, regAt_set, Nat.reduceEqDiff, reduceIte]
  obtain ⟨k, rfl⟩ : ∃ k, g = k + 20 := ⟨g - 20, by omega⟩
  obtain ⟨v, μ', hi, hv, hp⟩ := hI (k + 17) (by omega)
  subst hv
  have e1 : ilt (-1) 0 = true := rfl
  refine fun_enter Tryz.func26 rfl rfl (Nat.le_of_ble_eq_true rfl) ?_
  simp only [T.lay, Nat.zero_add, Tryz.ntmps26, Nat.reduceAdd]
  refine code_seq ?_
  refine code_region ?_ ?_
  · rfl
  simp only [run1, aOne, aP, aR, aA, aT, aCall, aCallVal, aev, regAt_set, aput_mk, aput_none, plainV, aNilCheck, aExtract, aBin, aInt, Addr.add, Nat.zero_add, ends_some, Nat.reduceLT, Nat.reduceAdd, if_true, then_normal, Nat.reduceEqDiff, if_false, reduceIte, reduceCtorEq, decide_true, decide_false, Bool.not_true, Bool.not_false, beq_self_eq_true, beq_tf, beq_ft, aPick, List.map_cons, List.map_nil, List.nil_append, List.append_nil, List.getElem?_cons_zero, List.getElem?_cons_succ]
  refine code_seq ?_
  refine code_region ?_ ?_
  · rfl
  simp only [run1, aOne, aP, aR, aA, aT, aCall, aCallVal, aev, regAt_set, aput_mk, aput_none, plainV, aNilCheck, aExtract, aBin, aInt, Addr.add, Nat.zero_add, ends_some, Nat.reduceLT, Nat.reduceAdd, if_true, then_normal, Nat.reduceEqDiff, if_false, reduceIte, reduceCtorEq, decide_true, decide_false, Bool.not_true, Bool.not_false, beq_self_eq_true, beq_tf, beq_ft, aPick, List.map_cons, List.map_nil, List.nil_append, List.append_nil, List.getElem?_cons_zero, List.getElem?_cons_succ, go_call (P := Tryz.prog) (X := X) (S := S0) Tryz.func53 rfl rfl, hi, e1]
  refine code_ret ?_
  refine ⟨rfl, _, ?_, rfl, hp⟩
  simp only [aResults, Tryz.results26, aRes, regAt_set, Nat.reduceEqDiff, reduceIte]
end

noncomputable section
variable {X : FuncId → List Value → Mem → Option (Value × Mem)}

/-! ### right -/
structure Bud (μ : Mem) (bg L : Nat) : Prop where
  cell : cellsAt μ bg 0 = some (.int .i64 (.ofNat L))
  blk : Blk μ bg 1 61
  n : bg < μ.next
theorem Bud.grow {μ μ' : Mem} {bg L : Nat} (h : Bud μ bg L) (g : Grow μ μ') : Bud μ' bg L :=
  ⟨by have := h.cell; unfold cellsAt at this ⊢; rw [g.2 bg h.n]; exact this, h.blk.of_get (g.2 bg h.n), Nat.lt_of_lt_of_le h.n g.1⟩
/-- a datum is right, and so much is taken -/
def RightOk (X : FuncId → List Value → Mem → Option (Value × Mem)) (g0 bg d need : Nat) (l : List Value) (μ0 : Mem) : Prop :=
  ∀ (μ1 : Mem) (g' L : Nat), Turns μ0 μ1 bg → Bud μ1 bg L → need ≤ L → L < 10000 → g0 ≤ g' → EndsF (aFun Tryz.prog (aCode Tryz.prog X S0 g') 11 [.pointer (some ⟨bg, 0, none⟩), .agg l.toArray, .int .i64 (.ofNat d)] μ1) fun v μ2 => v = .bool true ∧ Turns μ1 μ2 bg ∧ ∃ L', Bud μ2 bg L' ∧ L' + need = L
theorem cells_get {μ μ' : Mem} {i : Nat} (h : μ'.obs.get i = μ.obs.get i) (k : Nat) : cellsAt μ' i k = cellsAt μ i k := by unfold cellsAt; rw [h]

set_option maxRecDepth 20000 in
set_option maxHeartbeats 8000000 in
theorem right_core {g0 bg deep S k i n cp : Nat} {tx : List UInt8} {it : Value} {ad : Option Addr} {μ : Mem} {el : Nat → List Value} {sm : Nat → Nat} (hk : Shape k tx it) (hit : it = .slice ad n cp) (hd : deep ≤ 60) (hd2 : k = 4 ∨ deep < 60) (hn : n < 1000) (had : 0 < n → ad = some ⟨i, 0, none⟩ ∧ i < μ.next ∧ i ≠ bg)
    (hel : ∀ j, j < n → (el j).length = 8 ∧ Has μ i (j * 8) (el j)) (hs0 : sm 0 = 0) (hS : sm n = S) (hnS : n ≤ S) (hC : ∀ j, j < n → ∃ nd, sm (j + 1) = sm j + nd ∧ RightOk X g0 bg (deep + 1) nd (el j) μ) :
    RightOk X (g0 + n + 200) bg deep (S + 1) (dat k tx it) μ := by
  intro μ1 g L hT hB hL hL2 hg
  obtain ⟨g1, rfl⟩ : ∃ g1, g = g1 + 200 := ⟨g - 200, by omega⟩
  obtain ⟨L0, rfl⟩ : ∃ L0, L = L0 + 1 := ⟨L - 1, by omega⟩
  have hbn := hB.n
  -- boxes
  obtain ⟨μa, hμa⟩ : ∃ m : Mem, m = ⟨μ1.obs.set μ1.next (.cells 1 59 #[.pointer (some ⟨bg, 0, none⟩)] .e 0 0 false false), Nat.add μ1.next 1⟩ := ⟨_, rfl⟩
  have hga : Grow μ1 μa := by rw [hμa]; exact grow1 μ1 _
  have hna : μa.next = μ1.next + 1 := by rw [hμa]
  have hHa : Has μa μ1.next 0 [.pointer (some ⟨bg, 0, none⟩)] := Has.new (t := 59) (fx := false) (sh := false) (by rw [hμa]; show T.get _ _ = _; rw [T.get_set, if_pos rfl]; rfl)
  obtain ⟨μb, hμb, hgb, hnb, hHb, _⟩ := boxd μa (l := dat k tx it) rfl
  obtain ⟨μc, hμc⟩ : ∃ m : Mem, m = ⟨μb.obs.set μb.next (.cells 1 3 #[.int .i64 (.ofNat deep)] .e 0 0 false false), Nat.add μb.next 1⟩ := ⟨_, rfl⟩
  have hgc : Grow μb μc := by rw [hμc]; exact grow1 μb _
  have hnc : μc.next = μb.next + 1 := by rw [hμc]
  have hHc : Has μc μb.next 0 [.int .i64 (.ofNat deep)] := Has.new (t := 3) (fx := false) (sh := false) (by rw [hμc]; show T.get _ _ = _; rw [T.get_set, if_pos rfl]; rfl)
  have hG := (hga.trans hgb).trans hgc
  have hBc := hB.grow hG
  have ka : cellsAt μc μ1.next 0 = some (.pointer (some ⟨bg, 0, none⟩)) := (hHa.keep (by rw [hgc.2 _ (by omega), hgb.2 _ (by omega)])).cell 0 (Nat.zero_lt_succ _)
  have hHb2 : Has μc μa.next 0 (dat k tx it) := hHb.keep (hgc.2 _ (by omega))
  have kc : cellsAt μc μb.next 0 = some (.int .i64 (.ofNat deep)) := hHc.cell 0 (Nat.zero_lt_succ _)
  have kB := hBc.cell
  -- one is taken
  have a1 : qwrap .i64 (Int.sub (.ofNat (L0 + 1)) 1) = .ofNat L0 := sub_nat (L0 + 1) 1 (by omega) (by omega)
  have s1 := store_put (P := Tryz.prog) (t := 3) (v := .int .i64 (.ofNat L0)) i3 rfl rfl hBc.blk (show 0 < 1 by decide)
  obtain ⟨μd, hμd⟩ : ∃ m : Mem, m = putL μc bg 0 [.int .i64 (.ofNat L0)] := ⟨_, rfl⟩
  rw [← hμd] at s1
  have hnd : μd.next = μc.next := by rw [hμd, putL_next]
  have hgd : ∀ j, j ≠ bg → μd.obs.get j = μc.obs.get j := fun j hj => by rw [hμd, putL_get _ _ _ _ hj]
  have hTd : Turns μ1 μd bg := by rw [hμd]; exact (Turns.grow hG).trans (Turns.put _ _ _ _)
  have hBd : Bud μd bg L0 := by
    rw [hμd]
    exact ⟨(Has.of_put (vs := [.int .i64 (.ofNat L0)]) hBc.blk (show 0 + 1 ≤ 1 by decide)).cell 0 (Nat.zero_lt_succ _), hBc.blk.put _ _, by rw [putL_next]; exact hBc.n⟩
  have na : μ1.next ≠ bg := by omega
  have nb : μa.next ≠ bg := by omega
  have nc : μb.next ≠ bg := by omega
  have da : ∀ y, cellsAt ⟨μd.obs, y⟩ μ1.next 0 = some (.pointer (some ⟨bg, 0, none⟩)) := fun y => by rw [← ka]; exact cells_get (hgd _ na) 0
  have dc : ∀ y, cellsAt ⟨μd.obs, y⟩ μb.next 0 = some (.int .i64 (.ofNat deep)) := fun y => by rw [← kc]; exact cells_get (hgd _ nc) 0
  have dB : ∀ y, cellsAt ⟨μd.obs, y⟩ bg 0 = some (.int .i64 (.ofNat L0)) := fun y => hBd.cell
  have hHd : ∀ y, Has ⟨μd.obs, y⟩ μa.next 0 (dat k tx it) := fun y => hHb2.keep (hgd _ nb)
  have d0 : ∀ y, cellsAt ⟨μd.obs, y⟩ μa.next 0 = some (.int .i64 (.ofNat k)) := fun y => (hHd y).cell 0 (Nat.zero_lt_succ _)
  have dn := fun y => has_num (hHd y)
  have dl := fun y => lds39 (hHd y) rfl
  -- calls
  obtain ⟨ve, μe, hce, hve, hge⟩ := single_ends (X := X) (g := g1 + 195) (μ := ⟨μd.obs, μd.next + 43⟩) (by omega) hk
  subst hve
  obtain ⟨vf, μf, hcf, hvf, hgf⟩ := extra_ends (X := X) (g := g1 + 195) (μ := μe) (by omega) hk
  subst hvf
  have hgef : Grow ⟨μd.obs, μd.next + 43⟩ μf := hge.trans hgf
  have gf : ∀ j, j < μd.next → μf.obs.get j = μd.obs.get j := fun j hj => hgef.2 j (by show j < μd.next + 43; omega)
  have ge : ∀ j, j < μd.next → μe.obs.get j = μd.obs.get j := fun j hj => hge.2 j (by show j < μd.next + 43; omega)
  have hHe : Has μe μa.next 0 (dat k tx it) := (hHd 0).keep (ge _ (by omega))
  have hHf : Has μf μa.next 0 (dat k tx it) := (hHd 0).keep (gf _ (by omega))
  have el1 := lds39 hHe rfl
  have fl1 := lds39 hHf rfl
  have f7 : cellsAt μf μa.next 7 = some it := hHf.cell 7 (Nat.le_of_ble_eq_true rfl)
  have fa : cellsAt μf μ1.next 0 = some (.pointer (some ⟨bg, 0, none⟩)) := (cells_get (gf _ (by omega)) 0).trans (da 0)
  have fc : cellsAt μf μb.next 0 = some (.int .i64 (.ofNat deep)) := (cells_get (gf _ (by omega)) 0).trans (dc 0)
  have fB : cellsAt μf bg 0 = some (.int .i64 (.ofNat L0)) := (cells_get (gf _ (by omega)) 0).trans (dB 0)
  have hlen : aLen Tryz.prog 24 it = some n := by rw [hit]; simp only [aLen, Tryz.underlying24]
  have q1 : ilt (.ofNat L0) 0 = false := (ilt_nat L0 0).trans (decide_eq_false (by omega))
  have q2 : ilt 60 (.ofNat deep) = false := (ilt_nat 60 deep).trans (decide_eq_false (by omega))
  have q5 : ilt (.ofNat L0) (.ofNat n) = false := (ilt_nat L0 n).trans (decide_eq_false (by omega))
  have hTf : Turns μ1 μf bg := hTd.trans ⟨by have := hgef.1; show μd.next ≤ μf.next; exact Nat.le_trans (Nat.le_add_right _ 43) this, fun j hj _ => gf j hj⟩
  have hBf : Bud μf bg L0 := ⟨fB, hBd.blk.of_get (gf _ (by omega)), by have := hgef.1; have h2 : μd.next + 43 ≤ μf.next := this; omega⟩
  have hnf : μd.next ≤ μf.next := by have := hgef.1; have h2 : μd.next + 43 ≤ μf.next := this; omega
  have hT1 := hT.1
  -- the items
  obtain ⟨v, μz, hcz, hvz, hPz⟩ := contains_ends (X := X) (i := i) (cp := cp) (ad := ad) (b3 := μ1.next) (b5 := μb.next) (G := g0 + 40) (g := g1 + 195) (n := n) (el := el)
    (P := fun j m => Turns μf m bg ∧ ∃ L', Bud m bg L' ∧ L' + sm j = L0) (by omega) (fun h => (had h).1) hn
    (fun j m hj hp => (hel j hj).2.keep (by
      obtain ⟨_, h2, h3⟩ := had (by omega)
      rw [hp.1.2 i (by omega) h3, gf i (by omega), hgd i h3, hG.2 i (by omega), hT.2 i h2 h3]))
    (fun j hj => (hel j hj).1)
    (fun j m g' hj hg' hp => by
      obtain ⟨nd, hnd2, hR⟩ := hC j hj
      obtain ⟨hp1, L', hp2, hp3⟩ := hp
      refine clos_ends (G := g0) (bg := bg) (deep := deep) (R := fun m' => Turns μf m' bg ∧ ∃ L', Bud m' bg L' ∧ L' + sm (j + 1) = L0) (by omega) (hel j hj).1 (by omega) ((cells_get (hp1.2 _ (by omega) na) 0).trans fa) ((cells_get (hp1.2 _ (by omega) nc) 0).trans fc) (by have := hp1.1; omega) (by have := hp1.1; omega) ?_
      intro m1 g'' hgr hg''
      have hmono : sm (j + 1) ≤ S := by
        have : ∀ q, j + 1 + q ≤ n → sm (j + 1) ≤ sm (j + 1 + q) := by
          intro q
          induction q with
          | zero => intro _; exact Nat.le_refl _
          | succ q ih =>
            intro hq
            obtain ⟨nd', h', _⟩ := hC (j + 1 + q) (by omega)
            have := ih (by omega)
            rw [show j + 1 + (q + 1) = j + 1 + q + 1 from rfl, h']; omega
        have := this (n - (j + 1)) (by omega)
        rw [show j + 1 + (n - (j + 1)) = n from by omega, hS] at this
        exact this
      obtain ⟨v, m2, c1, c2, c3, L2, c4, c5⟩ := hR m1 g'' L' (((hT.trans hTf).trans hp1).trans (Turns.grow hgr)) (hp2.grow hgr) (by omega) (by omega) hg''
      exact ⟨v, m2, c1, c2, (hp1.trans (Turns.grow hgr)).trans c3, L2, c4, by omega⟩)
    (μ := μf) ⟨Turns.grow (Grow.refl _), L0, hBf, by omega⟩
  subst hvz
  obtain ⟨hz1, Lz, hz2, hz3⟩ := hPz
  have hx1 := box_one 59 (v := .pointer (some ⟨bg, 0, none⟩)) rfl
  have hx3 := box_one 3 (v := .int .i64 (.ofNat deep)) rfl
  rw [hit] at f7
  refine fun_enter Tryz.func11 rfl rfl (Nat.le_of_ble_eq_true rfl) ?_
  simp only [T.lay, Nat.zero_add, Tryz.ntmps11, Nat.reduceAdd]
  refine code_seq ?_
  refine code_region ?_ ?_
  · rfl
  simp only [run1, aOne, aP, aR, aA, aT, aCall, aCallVal, aev, regAt_set, aput_mk, aput_none, plainV, aNilCheck, aExtract, aBin, aInt, Addr.add, Nat.zero_add, ends_some, Nat.reduceLT, Nat.reduceAdd, if_true, then_normal, Nat.reduceEqDiff, if_false, reduceIte, reduceCtorEq, decide_true, decide_false, Bool.not_true, Bool.not_false, beq_self_eq_true, beq_tf, beq_ft, aPick, List.map_cons, List.map_nil, List.nil_append, List.append_nil, List.getElem?_cons_zero, List.getElem?_cons_succ, hx1, hx3, box_agg, ← hμa, ← hμb, ← hμc]
  refine code_seq ?_
  refine code_region ?_ ?_
  · rfl
  simp only [run1, aOne, aP, aR, aA, aT, aCall, aCallVal, aev, regAt_set, aput_mk, aput_none, plainV, aNilCheck, aExtract, aBin, aInt, Addr.add, Nat.zero_add, ends_some, Nat.reduceLT, Nat.reduceAdd, if_true, then_normal, Nat.reduceEqDiff, if_false, reduceIte, reduceCtorEq, decide_true, decide_false, Bool.not_true, Bool.not_false, beq_self_eq_true, beq_tf, beq_ft, aPick, List.map_cons, List.map_nil, List.nil_append, List.append_nil, List.getElem?_cons_zero, List.getElem?_cons_succ, ld59, ld3, ka, kB, fa61_0, a1, s1]
  refine code_seq ?_
  refine code_seq ?_
  refine code_draw (n := 43) (ms := [0, 1, 3, 7, 15, 31, 63, 127, 255, 511, 1023, 2047, 4095, 8191, 16383, 32767, 65535, 131071, 262143, 524287, 1048575, 2097151, 4194303, 8388607, 16777215, 33554431, 67108863, 134217727, 268435455, 536870911, 1073741823, 2147483647, 4294967295, 8589934591, 17179869183, 34359738367, 68719476735, 17179869183, 154618822655, 429496729599, 979252543487, 2199023255551, 4398046511103]) (ord := [0, 1, 2, 3, 4, 5, 6, 7, 8, 9, 10, 11, 12, 13, 14, 15, 16, 17, 18, 19, 20, 21, 22, 23, 24, 25, 26, 27, 28, 29, 30, 31, 32, 33, 34, 35, 36, 37, 38, 39, 40, 41, 42]) (ds := ?_) ?_ ?_ ?_ ?_ ?_ ?_
  rotate_left
  · kernel_rfl
  · kernel_rfl
  · kernel_rfl
  · rfl
  · rfl
  rcases hd2 with hk4 | hd2
  · have q3 : ilt (.ofNat k) 5 = true := (ilt_nat k 5).trans (decide_eq_true (by omega))
    iterate 14 (refine drun_true (by first | rfl | (simp only [wanted, aOne, aP, aR, aA, aT, aCall, aCallVal, aev, regAt_set, aput_mk, aput_none, plainV, aNilCheck, aExtract, aBin, aInt, Addr.add, Nat.zero_add, ends_some, Nat.reduceLT, Nat.reduceAdd, if_true, then_normal, Nat.reduceEqDiff, if_false, reduceIte, reduceCtorEq, decide_true, decide_false, Bool.not_true, Bool.not_false, beq_self_eq_true, beq_tf, beq_ft, aPick, List.map_cons, List.map_nil, List.nil_append, List.append_nil, List.getElem?_cons_zero, List.getElem?_cons_succ, fa39_0, fa39_2, fa39_4, fa61_0, ld59, ld3, ld24, da, dB, dc, d0, dn, dl, el1, fl1, f7, fa, fc, fB, q1, q2, q3, q5, aBuiltin, aLen, Tryz.underlying24, cast_nat, go_body (P := Tryz.prog) Tryz.func23 rfl, kRight, go_call (P := Tryz.prog) (X := X) (S := S0) Tryz.func24 rfl rfl, go_call (P := Tryz.prog) (X := X) (S := S0) Tryz.func25 rfl rfl, hce, hcf])) (by simp only [aDrawOne, heavy, aReads, eqVal_self, aOne, aP, aR, aA, aT, aCall, aCallVal, aev, regAt_set, aput_mk, aput_none, plainV, aNilCheck, aExtract, aBin, aInt, Addr.add, Nat.zero_add, ends_some, Nat.reduceLT, Nat.reduceAdd, if_true, then_normal, Nat.reduceEqDiff, if_false, reduceIte, reduceCtorEq, decide_true, decide_false, Bool.not_true, Bool.not_false, beq_self_eq_true, beq_tf, beq_ft, aPick, List.map_cons, List.map_nil, List.nil_append, List.append_nil, List.getElem?_cons_zero, List.getElem?_cons_succ, fa39_0, fa39_2, fa39_4, fa61_0, ld59, ld3, ld24, da, dB, dc, d0, dn, dl, el1, fl1, f7, fa, fc, fB, q1, q2, q3, q5, aBuiltin, aLen, Tryz.underlying24, cast_nat, go_body (P := Tryz.prog) Tryz.func23 rfl, kRight, go_call (P := Tryz.prog) (X := X) (S := S0) Tryz.func24 rfl rfl, go_call (P := Tryz.prog) (X := X) (S := S0) Tryz.func25 rfl rfl, hce, hcf]; try exact rfl) rfl ?_)
    iterate 2 (refine drun_false (by simp only [wanted, aOne, aP, aR, aA, aT, aCall, aCallVal, aev, regAt_set, aput_mk, aput_none, plainV, aNilCheck, aExtract, aBin, aInt, Addr.add, Nat.zero_add, ends_some, Nat.reduceLT, Nat.reduceAdd, if_true, then_normal, Nat.reduceEqDiff, if_false, reduceIte, reduceCtorEq, decide_true, decide_false, Bool.not_true, Bool.not_false, beq_self_eq_true, beq_tf, beq_ft, aPick, List.map_cons, List.map_nil, List.nil_append, List.append_nil, List.getElem?_cons_zero, List.getElem?_cons_succ, fa39_0, fa39_2, fa39_4, fa61_0, ld59, ld3, ld24, da, dB, dc, d0, dn, dl, el1, fl1, f7, fa, fc, fB, q1, q2, q3, q5, aBuiltin, aLen, Tryz.underlying24, cast_nat, go_body (P := Tryz.prog) Tryz.func23 rfl, kRight, go_call (P := Tryz.prog) (X := X) (S := S0) Tryz.func24 rfl rfl, go_call (P := Tryz.prog) (X := X) (S := S0) Tryz.func25 rfl rfl, hce, hcf]) rfl ?_)
    iterate 27 (refine drun_true (by first | rfl | (simp only [wanted, aOne, aP, aR, aA, aT, aCall, aCallVal, aev, regAt_set, aput_mk, aput_none, plainV, aNilCheck, aExtract, aBin, aInt, Addr.add, Nat.zero_add, ends_some, Nat.reduceLT, Nat.reduceAdd, if_true, then_normal, Nat.reduceEqDiff, if_false, reduceIte, reduceCtorEq, decide_true, decide_false, Bool.not_true, Bool.not_false, beq_self_eq_true, beq_tf, beq_ft, aPick, List.map_cons, List.map_nil, List.nil_append, List.append_nil, List.getElem?_cons_zero, List.getElem?_cons_succ, fa39_0, fa39_2, fa39_4, fa61_0, ld59, ld3, ld24, da, dB, dc, d0, dn, dl, el1, fl1, f7, fa, fc, fB, q1, q2, q3, q5, aBuiltin, aLen, Tryz.underlying24, cast_nat, go_body (P := Tryz.prog) Tryz.func23 rfl, kRight, go_call (P := Tryz.prog) (X := X) (S := S0) Tryz.func24 rfl rfl, go_call (P := Tryz.prog) (X := X) (S := S0) Tryz.func25 rfl rfl, hce, hcf])) (by simp only [aDrawOne, heavy, aReads, eqVal_self, aOne, aP, aR, aA, aT, aCall, aCallVal, aev, regAt_set, aput_mk, aput_none, plainV, aNilCheck, aExtract, aBin, aInt, Addr.add, Nat.zero_add, ends_some, Nat.reduceLT, Nat.reduceAdd, if_true, then_normal, Nat.reduceEqDiff, if_false, reduceIte, reduceCtorEq, decide_true, decide_false, Bool.not_true, Bool.not_false, beq_self_eq_true, beq_tf, beq_ft, aPick, List.map_cons, List.map_nil, List.nil_append, List.append_nil, List.getElem?_cons_zero, List.getElem?_cons_succ, fa39_0, fa39_2, fa39_4, fa61_0, ld59, ld3, ld24, da, dB, dc, d0, dn, dl, el1, fl1, f7, fa, fc, fB, q1, q2, q3, q5, aBuiltin, aLen, Tryz.underlying24, cast_nat, go_body (P := Tryz.prog) Tryz.func23 rfl, kRight, go_call (P := Tryz.prog) (X := X) (S := S0) Tryz.func24 rfl rfl, go_call (P := Tryz.prog) (X := X) (S := S0) Tryz.func25 rfl rfl, hce, hcf]; try exact rfl) rfl ?_)
    simp only [dRun, endsD_some, then_normal]
    refine code_cond_false ?_ ?_
    · simp only [aev, regAt_set, Nat.reduceEqDiff, reduceIte]
    refine code_skip ?_
    simp only [then_normal]
    refine code_seq ?_
    refine code_region ?_ ?_
    · rfl
    simp only [run1, aOne, aP, aR, aA, aT, aCall, aCallVal, aev, regAt_set, aput_mk, aput_none, plainV, aNilCheck, aExtract, aBin, aInt, Addr.add, Nat.zero_add, ends_some, Nat.reduceLT, Nat.reduceAdd, if_true, then_normal, Nat.reduceEqDiff, if_false, reduceIte, reduceCtorEq, decide_true, decide_false, Bool.not_true, Bool.not_false, beq_self_eq_true, beq_tf, beq_ft, aPick, List.map_cons, List.map_nil, List.nil_append, List.append_nil, List.getElem?_cons_zero, List.getElem?_cons_succ, fa39_4, ld24, f7, aMakeFunc, go_call (P := Tryz.prog) (X := X) (S := S0) Tryz.func26 rfl rfl, hcz]
    refine code_ret ?_
    refine ⟨rfl, _, ?_, rfl, hTf.trans hz1, Lz, hz2, by omega⟩
    simp only [aResults, Tryz.results11, aRes, regAt_set, Nat.reduceEqDiff, reduceIte]
  · have q4 : ilt (.ofNat deep) 60 = true := (ilt_nat deep 60).trans (decide_eq_true (by omega))
    by_cases hk4 : k < 5
    · have q3 : ilt (.ofNat k) 5 = true := (ilt_nat k 5).trans (decide_eq_true (by omega))
      iterate 14 (refine drun_true (by first | rfl | (simp only [wanted, aOne, aP, aR, aA, aT, aCall, aCallVal, aev, regAt_set, aput_mk, aput_none, plainV, aNilCheck, aExtract, aBin, aInt, Addr.add, Nat.zero_add, ends_some, Nat.reduceLT, Nat.reduceAdd, if_true, then_normal, Nat.reduceEqDiff, if_false, reduceIte, reduceCtorEq, decide_true, decide_false, Bool.not_true, Bool.not_false, beq_self_eq_true, beq_tf, beq_ft, aPick, List.map_cons, List.map_nil, List.nil_append, List.append_nil, List.getElem?_cons_zero, List.getElem?_cons_succ, fa39_0, fa39_2, fa39_4, fa61_0, ld59, ld3, ld24, da, dB, dc, d0, dn, dl, el1, fl1, f7, fa, fc, fB, q1, q2, q3, q5, aBuiltin, aLen, Tryz.underlying24, cast_nat, go_body (P := Tryz.prog) Tryz.func23 rfl, kRight, go_call (P := Tryz.prog) (X := X) (S := S0) Tryz.func24 rfl rfl, go_call (P := Tryz.prog) (X := X) (S := S0) Tryz.func25 rfl rfl, hce, hcf])) (by simp only [aDrawOne, heavy, aReads, eqVal_self, aOne, aP, aR, aA, aT, aCall, aCallVal, aev, regAt_set, aput_mk, aput_none, plainV, aNilCheck, aExtract, aBin, aInt, Addr.add, Nat.zero_add, ends_some, Nat.reduceLT, Nat.reduceAdd, if_true, then_normal, Nat.reduceEqDiff, if_false, reduceIte, reduceCtorEq, decide_true, decide_false, Bool.not_true, Bool.not_false, beq_self_eq_true, beq_tf, beq_ft, aPick, List.map_cons, List.map_nil, List.nil_append, List.append_nil, List.getElem?_cons_zero, List.getElem?_cons_succ, fa39_0, fa39_2, fa39_4, fa61_0, ld59, ld3, ld24, da, dB, dc, d0, dn, dl, el1, fl1, f7, fa, fc, fB, q1, q2, q3, q5, aBuiltin, aLen, Tryz.underlying24, cast_nat, go_body (P := Tryz.prog) Tryz.func23 rfl, kRight, go_call (P := Tryz.prog) (X := X) (S := S0) Tryz.func24 rfl rfl, go_call (P := Tryz.prog) (X := X) (S := S0) Tryz.func25 rfl rfl, hce, hcf]; try exact rfl) rfl ?_)
      iterate 2 (refine drun_false (by simp only [wanted, aOne, aP, aR, aA, aT, aCall, aCallVal, aev, regAt_set, aput_mk, aput_none, plainV, aNilCheck, aExtract, aBin, aInt, Addr.add, Nat.zero_add, ends_some, Nat.reduceLT, Nat.reduceAdd, if_true, then_normal, Nat.reduceEqDiff, if_false, reduceIte, reduceCtorEq, decide_true, decide_false, Bool.not_true, Bool.not_false, beq_self_eq_true, beq_tf, beq_ft, aPick, List.map_cons, List.map_nil, List.nil_append, List.append_nil, List.getElem?_cons_zero, List.getElem?_cons_succ, fa39_0, fa39_2, fa39_4, fa61_0, ld59, ld3, ld24, da, dB, dc, d0, dn, dl, el1, fl1, f7, fa, fc, fB, q1, q2, q3, q5, aBuiltin, aLen, Tryz.underlying24, cast_nat, go_body (P := Tryz.prog) Tryz.func23 rfl, kRight, go_call (P := Tryz.prog) (X := X) (S := S0) Tryz.func24 rfl rfl, go_call (P := Tryz.prog) (X := X) (S := S0) Tryz.func25 rfl rfl, hce, hcf]) rfl ?_)
      iterate 27 (refine drun_true (by first | rfl | (simp only [wanted, aOne, aP, aR, aA, aT, aCall, aCallVal, aev, regAt_set, aput_mk, aput_none, plainV, aNilCheck, aExtract, aBin, aInt, Addr.add, Nat.zero_add, ends_some, Nat.reduceLT, Nat.reduceAdd, if_true, then_normal, Nat.reduceEqDiff, if_false, reduceIte, reduceCtorEq, decide_true, decide_false, Bool.not_true, Bool.not_false, beq_self_eq_true, beq_tf, beq_ft, aPick, List.map_cons, List.map_nil, List.nil_append, List.append_nil, List.getElem?_cons_zero, List.getElem?_cons_succ, fa39_0, fa39_2, fa39_4, fa61_0, ld59, ld3, ld24, da, dB, dc, d0, dn, dl, el1, fl1, f7, fa, fc, fB, q1, q2, q3, q5, aBuiltin, aLen, Tryz.underlying24, cast_nat, go_body (P := Tryz.prog) Tryz.func23 rfl, kRight, go_call (P := Tryz.prog) (X := X) (S := S0) Tryz.func24 rfl rfl, go_call (P := Tryz.prog) (X := X) (S := S0) Tryz.func25 rfl rfl, hce, hcf])) (by simp only [aDrawOne, heavy, aReads, eqVal_self, aOne, aP, aR, aA, aT, aCall, aCallVal, aev, regAt_set, aput_mk, aput_none, plainV, aNilCheck, aExtract, aBin, aInt, Addr.add, Nat.zero_add, ends_some, Nat.reduceLT, Nat.reduceAdd, if_true, then_normal, Nat.reduceEqDiff, if_false, reduceIte, reduceCtorEq, decide_true, decide_false, Bool.not_true, Bool.not_false, beq_self_eq_true, beq_tf, beq_ft, aPick, List.map_cons, List.map_nil, List.nil_append, List.append_nil, List.getElem?_cons_zero, List.getElem?_cons_succ, fa39_0, fa39_2, fa39_4, fa61_0, ld59, ld3, ld24, da, dB, dc, d0, dn, dl, el1, fl1, f7, fa, fc, fB, q1, q2, q3, q5, aBuiltin, aLen, Tryz.underlying24, cast_nat, go_body (P := Tryz.prog) Tryz.func23 rfl, kRight, go_call (P := Tryz.prog) (X := X) (S := S0) Tryz.func24 rfl rfl, go_call (P := Tryz.prog) (X := X) (S := S0) Tryz.func25 rfl rfl, hce, hcf]; try exact rfl) rfl ?_)
      simp only [dRun, endsD_some, then_normal]
      refine code_cond_false ?_ ?_
      · simp only [aev, regAt_set, Nat.reduceEqDiff, reduceIte]
      refine code_skip ?_
      simp only [then_normal]
      refine code_seq ?_
      refine code_region ?_ ?_
      · rfl
      simp only [run1, aOne, aP, aR, aA, aT, aCall, aCallVal, aev, regAt_set, aput_mk, aput_none, plainV, aNilCheck, aExtract, aBin, aInt, Addr.add, Nat.zero_add, ends_some, Nat.reduceLT, Nat.reduceAdd, if_true, then_normal, Nat.reduceEqDiff, if_false, reduceIte, reduceCtorEq, decide_true, decide_false, Bool.not_true, Bool.not_false, beq_self_eq_true, beq_tf, beq_ft, aPick, List.map_cons, List.map_nil, List.nil_append, List.append_nil, List.getElem?_cons_zero, List.getElem?_cons_succ, fa39_4, ld24, f7, aMakeFunc, go_call (P := Tryz.prog) (X := X) (S := S0) Tryz.func26 rfl rfl, hcz]
      refine code_ret ?_
      refine ⟨rfl, _, ?_, rfl, hTf.trans hz1, Lz, hz2, by omega⟩
      simp only [aResults, Tryz.results11, aRes, regAt_set, Nat.reduceEqDiff, reduceIte]
    · have q3 : ilt (.ofNat k) 5 = false := (ilt_nat k 5).trans (decide_eq_false (by omega))
      iterate 43 (refine drun_true (by first | rfl | (simp only [wanted, aOne, aP, aR, aA, aT, aCall, aCallVal, aev, regAt_set, aput_mk, aput_none, plainV, aNilCheck, aExtract, aBin, aInt, Addr.add, Nat.zero_add, ends_some, Nat.reduceLT, Nat.reduceAdd, if_true, then_normal, Nat.reduceEqDiff, if_false, reduceIte, reduceCtorEq, decide_true, decide_false, Bool.not_true, Bool.not_false, beq_self_eq_true, beq_tf, beq_ft, aPick, List.map_cons, List.map_nil, List.nil_append, List.append_nil, List.getElem?_cons_zero, List.getElem?_cons_succ, fa39_0, fa39_2, fa39_4, fa61_0, ld59, ld3, ld24, da, dB, dc, d0, dn, dl, el1, fl1, f7, fa, fc, fB, q1, q2, q3, q4, q5, aBuiltin, aLen, Tryz.underlying24, cast_nat, go_body (P := Tryz.prog) Tryz.func23 rfl, kRight, go_call (P := Tryz.prog) (X := X) (S := S0) Tryz.func24 rfl rfl, go_call (P := Tryz.prog) (X := X) (S := S0) Tryz.func25 rfl rfl, hce, hcf])) (by simp only [aDrawOne, heavy, aReads, eqVal_self, aOne, aP, aR, aA, aT, aCall, aCallVal, aev, regAt_set, aput_mk, aput_none, plainV, aNilCheck, aExtract, aBin, aInt, Addr.add, Nat.zero_add, ends_some, Nat.reduceLT, Nat.reduceAdd, if_true, then_normal, Nat.reduceEqDiff, if_false, reduceIte, reduceCtorEq, decide_true, decide_false, Bool.not_true, Bool.not_false, beq_self_eq_true, beq_tf, beq_ft, aPick, List.map_cons, List.map_nil, List.nil_append, List.append_nil, List.getElem?_cons_zero, List.getElem?_cons_succ, fa39_0, fa39_2, fa39_4, fa61_0, ld59, ld3, ld24, da, dB, dc, d0, dn, dl, el1, fl1, f7, fa, fc, fB, q1, q2, q3, q4, q5, aBuiltin, aLen, Tryz.underlying24, cast_nat, go_body (P := Tryz.prog) Tryz.func23 rfl, kRight, go_call (P := Tryz.prog) (X := X) (S := S0) Tryz.func24 rfl rfl, go_call (P := Tryz.prog) (X := X) (S := S0) Tryz.func25 rfl rfl, hce, hcf]; try exact rfl) rfl ?_)
      simp only [dRun, endsD_some, then_normal]
      refine code_cond_false ?_ ?_
      · simp only [aev, regAt_set, Nat.reduceEqDiff, reduceIte]
      refine code_skip ?_
      simp only [then_normal]
      refine code_seq ?_
      refine code_region ?_ ?_
      · rfl
      simp only [run1, aOne, aP, aR, aA, aT, aCall, aCallVal, aev, regAt_set, aput_mk, aput_none, plainV, aNilCheck, aExtract, aBin, aInt, Addr.add, Nat.zero_add, ends_some, Nat.reduceLT, Nat.reduceAdd, if_true, then_normal, Nat.reduceEqDiff, if_false, reduceIte, reduceCtorEq, decide_true, decide_false, Bool.not_true, Bool.not_false, beq_self_eq_true, beq_tf, beq_ft, aPick, List.map_cons, List.map_nil, List.nil_append, List.append_nil, List.getElem?_cons_zero, List.getElem?_cons_succ, fa39_4, ld24, f7, aMakeFunc, go_call (P := Tryz.prog) (X := X) (S := S0) Tryz.func26 rfl rfl, hcz]
      refine code_ret ?_
      refine ⟨rfl, _, ?_, rfl, hTf.trans hz1, Lz, hz2, by omega⟩
      simp only [aResults, Tryz.results11, aRes, regAt_set, Nat.reduceEqDiff, reduceIte]
end

noncomputable section
variable {X : FuncId → List Value → Mem → Option (Value × Mem)}

theorem RightOk.more {g0 g1 bg d need : Nat} {l : List Value} {μ : Mem} (h : RightOk X g0 bg d need l μ) (hg : g0 ≤ g1) : RightOk X g1 bg d need l μ := fun μ1 g' L a b c e f => h μ1 g' L a b c e (Nat.le_trans hg f)
theorem right_leaf {bg deep : Nat} {tx : List UInt8} {μ : Mem} (hd : deep ≤ 60) (htx : tx = xT ∨ tx = quoteT) : RightOk X 200 bg deep 1 (dat 4 tx (.slice none 0 0)) μ :=
  right_core (g0 := 0) (S := 0) (n := 0) (i := 0) (el := fun _ => []) (sm := fun _ => 0) (.inl ⟨rfl, rfl, htx⟩) rfl hd (.inl rfl) (by decide) (fun h => absurd h (Nat.lt_irrefl _)) (fun j h => absurd h (Nat.not_lt_zero j)) rfl rfl (Nat.le_refl _) (fun j h => absurd h (Nat.not_lt_zero j))

theorem right_den {bg : Nat} {bad : Nat → Prop} {μ : Mem} (hbg : μ.next ≤ bg) : ∀ {ks : List Nat} {l : List Value} {deep : Nat}, Den bad μ ks l → ks.length + deep ≤ 60 → ∃ need, 1 ≤ need ∧ need ≤ 2 * ks.length + 1 ∧ RightOk X (200 + 210 * ks.length) bg deep need l μ
  | [], l, deep, h, hd => by
    rw [show l = symx from h]
    exact ⟨1, Nat.le_refl _, by simp, right_leaf (by simp at hd; omega) (.inl rfl)⟩
  | c :: ks, l, deep, h, hd => by
    obtain ⟨i, cp, sub, _, hi, _, hD, h⟩ := h
    simp only [List.length_cons] at hd
    obtain ⟨need, h1, h2, hR⟩ := right_den hbg (deep := deep + 1) hD (by omega)
    have hsl := hD.len.1
    have hib : i ≠ bg := by omega
    split at h
    · obtain ⟨rfl, hH⟩ := h
      have hA : Has μ i 0 symq := Has.part (a := []) (b := symq) (c := sub) hH rfl
      have hB : Has μ i 8 sub := Has.part (o := 0) (a := symq) (b := sub) (c := []) hH (by rw [List.append_nil])
      refine ⟨need + 1 + 1, by omega, by simp only [List.length_cons]; omega, RightOk.more (right_core (g0 := 200 + 210 * ks.length) (S := need + 1) (n := 2) (i := i) (el := fun j => if j = 0 then symq else sub) (sm := fun j => if j = 0 then 0 else if j = 1 then 1 else need + 1) (.inr ⟨.inl rfl, rfl, i, 2, cp, rfl, .inr rfl⟩) rfl (by omega) (.inr (by omega)) (by decide) (fun _ => ⟨rfl, hi, hib⟩) (fun j hj => ?_) rfl rfl (by omega) (fun j hj => ?_)) (by simp only [List.length_cons]; omega)⟩
      · match j, hj with
        | 0, _ => exact ⟨rfl, hA⟩
        | 1, _ => exact ⟨hsl, hB⟩
      · match j, hj with
        | 0, _ => exact ⟨1, rfl, RightOk.more (right_leaf (tx := quoteT) (by omega) (.inr rfl)) (by omega)⟩
        | 1, _ => exact ⟨need, by show need + 1 = 1 + need; omega, hR⟩
    · obtain ⟨rfl, hH⟩ := h
      refine ⟨need + 1, by omega, by simp only [List.length_cons]; omega, RightOk.more (right_core (g0 := 200 + 210 * ks.length) (S := need) (n := 1) (i := i) (el := fun j => sub) (sm := fun j => if j = 0 then 0 else need) (.inr ⟨?_, rfl, i, 1, cp, rfl, .inl rfl⟩) rfl (by omega) (.inr (by omega)) (by decide) (fun _ => ⟨rfl, hi, hib⟩) (fun j hj => ?_) rfl rfl (by omega) (fun j hj => ?_)) (by simp only [List.length_cons]; omega)⟩
      · by_cases hc : c = 1
        · rw [if_pos hc]; exact .inr rfl
        · rw [if_neg hc]; exact .inl rfl
      · match j, hj with
        | 0, _ => exact ⟨hsl, hH⟩
      · match j, hj with
        | 0, _ => exact ⟨need, by show need = 0 + need; omega, hR⟩

theorem z61 : aZeroOf Tryz.prog 61 = some (.agg [Value.int .i64 0].toArray) := by unfold aZeroOf; rw [i61]; rfl
theorem bd61 (r : Rg) : aBuild Tryz.prog (aev Tryz.prog r) 61 #[(0, .const (.int .i64 3000))] = some (.agg [Value.int .i64 3000].toArray) := by
  refine build_struct (pl := [(0, 1)]) z61 Tryz.underlying61 (by kernel_rfl) ?_
  show aFill _ [Value.int .i64 0] [(0, .int .i64 3000)] = some [Value.int .i64 3000]
  rw [aFill_one (off := 0) rfl rfl (by decide)]
  rfl

set_option maxRecDepth 20000 in
set_option maxHeartbeats 8000000 in
theorem right_ends {g : Nat} {bad : Nat → Prop} {ks : List Nat} {l : List Value} {μ : Mem} (hD : Den bad μ ks l) (hk : ks.length ≤ 60) (hg : 13000 ≤ g) :
    EndsF (aFun Tryz.prog (aCode Tryz.prog X S0 g) 6 [.agg l.toArray] μ) fun v μ' => v = .bool true ∧ Grow μ μ' := by
  obtain ⟨k, rfl⟩ := Nat.exists_eq_add_of_le' hg
  have hll := hD.len.1
  obtain ⟨μa, hμa, hga, hna, hHa, _⟩ := boxd μ hll
  obtain ⟨μb, hμb⟩ : ∃ m : Mem, m = ⟨μa.obs.set μa.next (.cells [Value.int .i64 3000].length 61 [Value.int .i64 3000].toArray .e 0 0 false false), Nat.add μa.next 1⟩ := ⟨_, rfl⟩
  have hgb : Grow μa μb := by rw [hμb]; exact grow1 μa _
  have ob : μb.obs.get μa.next = some (.cells [Value.int .i64 3000].length 61 [Value.int .i64 3000].toArray .e 0 0 false false) := by rw [hμb]; show T.get _ _ = _; rw [T.get_set, if_pos rfl]
  have hHb : Has μb μa.next 0 [.int .i64 3000] := Has.new ob
  obtain ⟨need, n1, n2, hR⟩ := right_den (X := X) (bg := μa.next) (deep := 0) (show μ.next ≤ μa.next by omega) hD (by omega)
  have hT : Turns μ μb μa.next := Turns.grow (hga.trans hgb)
  have hB : Bud μb μa.next 3000 := ⟨hHb.cell 0 (Nat.zero_lt_succ _), ⟨_, _, _, _, ob⟩, by rw [hμb]; exact Nat.lt_succ_self _⟩
  obtain ⟨v, μc, hc, hv, hTc, _⟩ := hR μb (k + 12996) 3000 hT hB (by omega) (by decide) (by omega)
  subst hv
  rw [show Int.ofNat 0 = 0 from rfl] at hc
  have hl := lds39 (hHa.keep (hgb.2 _ (by omega))) (by rw [hll]; rfl)
  have hbd : ∀ r : Rg, aBuild Tryz.prog (aev Tryz.prog r) 61 #[(0, .const (.int .i64 3000))] = some (.agg [Value.int .i64 3000].toArray) := fun r => bd61 _
  refine fun_enter Tryz.func6 rfl rfl (Nat.le_of_ble_eq_true rfl) ?_
  simp only [T.lay, Nat.zero_add, Tryz.ntmps6, Nat.reduceAdd]
  refine code_seq ?_
  refine code_region ?_ ?_
  · rfl
  simp only [run1, aOne, aP, aR, aA, aT, aCall, aCallVal, aev, regAt_set, aput_mk, aput_none, plainV, aNilCheck, aExtract, aBin, aInt, Addr.add, Nat.zero_add, ends_some, Nat.reduceLT, Nat.reduceAdd, if_true, then_normal, Nat.reduceEqDiff, if_false, reduceIte, reduceCtorEq, decide_true, decide_false, Bool.not_true, Bool.not_false, beq_self_eq_true, beq_tf, beq_ft, aPick, List.map_cons, List.map_nil, List.nil_append, List.append_nil, List.getElem?_cons_zero, List.getElem?_cons_succ, box_agg, ← hμa]
  refine code_seq ?_
  refine code_region ?_ ?_
  · rfl
  simp only [run1, aOne, aP, aR, aA, aT, aCall, aCallVal, aev, regAt_set, aput_mk, aput_none, plainV, aNilCheck, aExtract, aBin, aInt, Addr.add, Nat.zero_add, ends_some, Nat.reduceLT, Nat.reduceAdd, if_true, then_normal, Nat.reduceEqDiff, if_false, reduceIte, reduceCtorEq, decide_true, decide_false, Bool.not_true, Bool.not_false, beq_self_eq_true, beq_tf, beq_ft, aPick, List.map_cons, List.map_nil, List.nil_append, List.append_nil, List.getElem?_cons_zero, List.getElem?_cons_succ, hbd, box_agg, ← hμb]
  refine code_seq ?_
  refine code_region ?_ ?_
  · rfl
  simp only [run1, aOne, aP, aR, aA, aT, aCall, aCallVal, aev, regAt_set, aput_mk, aput_none, plainV, aNilCheck, aExtract, aBin, aInt, Addr.add, Nat.zero_add, ends_some, Nat.reduceLT, Nat.reduceAdd, if_true, then_normal, Nat.reduceEqDiff, if_false, reduceIte, reduceCtorEq, decide_true, decide_false, Bool.not_true, Bool.not_false, beq_self_eq_true, beq_tf, beq_ft, aPick, List.map_cons, List.map_nil, List.nil_append, List.append_nil, List.getElem?_cons_zero, List.getElem?_cons_succ, hl, go_call (P := Tryz.prog) (X := X) (S := S0) Tryz.func11 rfl rfl, hc]
  refine code_ret ?_
  have hgab := hga.trans hgb
  refine ⟨rfl, _, ?_, rfl, Nat.le_trans hgab.1 hTc.1, fun i hi => (hTc.2 i (Nat.lt_of_lt_of_le hi hgab.1) (by omega)).trans (hgab.2 i hi)⟩
  simp only [aResults, Tryz.results6, aRes, regAt_set, Nat.reduceEqDiff, reduceIte]
end

noncomputable section
variable {X : FuncId → List Value → Mem → Option (Value × Mem)}

/-! ### the text -/
def clsOf (z : Int) : Nat := if z = 0 then 0 else if z = 1 then 1 else 2
theorem clsOf_any (z : Int) : clsOf z = 0 ∨ clsOf z = 1 ∨ clsOf z = 2 := by
  unfold clsOf
  split
  · exact .inl rfl
  · split
    · exact .inr (.inl rfl)
    · exact .inr (.inr rfl)
def pc : Nat → List UInt8
  | 0 => [40]
  | 1 => [35, 40]
  | _ => [39]
def fr (cl : Nat → Nat) : Nat → List UInt8
  | 0 => []
  | d + 1 => fr cl d ++ pc (cl d)
def bk (cl : Nat → Nat) (n : Nat) : List UInt8 := List.replicate (nb cl n) 41
def txtOf (cl : Nat → Nat) (n : Nat) : List UInt8 := fr cl n ++ [120] ++ bk cl n

theorem pc_len (k : Nat) : (pc k).length ≤ 2 := by
  match k with
  | 0 => exact Nat.le_of_ble_eq_true rfl
  | 1 => exact Nat.le_of_ble_eq_true rfl
  | k + 2 => exact Nat.le_of_ble_eq_true rfl
theorem fr_len (cl : Nat → Nat) : ∀ n, (fr cl n).length ≤ 2 * n
  | 0 => Nat.le_refl _
  | n + 1 => by
    have h1 := fr_len cl n
    have h2 := pc_len (cl n)
    show (fr cl n ++ pc (cl n)).length ≤ _
    rw [List.length_append]; omega
theorem nb_le (cl : Nat → Nat) : ∀ n, nb cl n ≤ n
  | 0 => Nat.le_refl _
  | n + 1 => by
    have h1 := nb_le cl n
    show nb cl n + (if cl n = 2 then 0 else 1) ≤ _
    split <;> omega
theorem fr_split (cl : Nat → Nat) : ∀ {e n : Nat}, e < n → ∃ r, fr cl n = fr cl e ++ (pc (cl e) ++ r)
  | e, 0, h => absurd h (Nat.not_lt_zero e)
  | e, n + 1, h => by
    by_cases he : e = n
    · subst he; exact ⟨[], by rw [List.append_nil]; rfl⟩
    · obtain ⟨r, hr⟩ := fr_split cl (show e < n by omega)
      exact ⟨r ++ pc (cl n), by show fr cl n ++ pc (cl n) = _; rw [hr]; simp only [List.append_assoc]⟩
theorem get_mid {a b c : List UInt8} {i : Nat} (h : i < b.length) : ∃ g : a.length + i < (a ++ (b ++ c)).length, (a ++ (b ++ c))[a.length + i] = b[i] := by
  refine ⟨by simp only [List.length_append]; omega, ?_⟩
  rw [List.getElem_append_right (Nat.le_add_right _ _)]
  simp only [Nat.add_sub_cancel_left]
  rw [List.getElem_append_left h]

theorem txt_of (cl : Nat → Nat) (n : Nat) : Txt (txtOf cl n) cl (fun e => (fr cl e).length) n := by
  have hsp : ∀ e, e < n → ∃ r, txtOf cl n = fr cl e ++ (pc (cl e) ++ r) := fun e he => by
    obtain ⟨r, hr⟩ := fr_split cl he
    exact ⟨r ++ ([120] ++ bk cl n), by unfold txtOf; rw [hr]; simp only [List.append_assoc]⟩
  have hx : txtOf cl n = fr cl n ++ ([120] ++ bk cl n) := by unfold txtOf; rw [List.append_assoc]
  have hstep : ∀ e, (fr cl (e + 1)).length = (fr cl e).length + (pc (cl e)).length := fun e => List.length_append
  refine ⟨fun e he hc => ?_, fun e he hc => ?_, fun e he hc => ?_, ?_, ?_, fun j hj => ?_⟩
  · obtain ⟨r, hr⟩ := hsp e he
    obtain ⟨g, h⟩ := get_mid (a := fr cl e) (b := pc (cl e)) (c := r) (i := 0) (by rw [hc]; exact Nat.zero_lt_succ _)
    have := hstep e
    rw [hc] at this
    simp only [hr]
    refine ⟨g, ?_, this⟩
    have h2 : (fr cl e ++ (pc (cl e) ++ r))[(fr cl e).length + 0].toNat = 40 := by rw [h]; simp only [hc]; rfl
    exact h2
  · obtain ⟨r, hr⟩ := hsp e he
    obtain ⟨g, h⟩ := get_mid (a := fr cl e) (b := pc (cl e)) (c := r) (i := 0) (by rw [hc]; exact Nat.zero_lt_succ _)
    obtain ⟨g1, h1⟩ := get_mid (a := fr cl e) (b := pc (cl e)) (c := r) (i := 1) (by rw [hc]; exact Nat.le_of_ble_eq_true rfl)
    have := hstep e
    rw [hc] at this
    simp only [hr]
    refine ⟨g1, ?_, ?_, this⟩
    · have h2 : (fr cl e ++ (pc (cl e) ++ r))[(fr cl e).length + 0].toNat = 35 := by rw [h]; simp only [hc]; rfl
      exact h2
    · rw [h1]; simp only [hc]; rfl
  · obtain ⟨r, hr⟩ := hsp e he
    obtain ⟨g, h⟩ := get_mid (a := fr cl e) (b := pc (cl e)) (c := r) (i := 0) (by rw [hc]; exact Nat.zero_lt_succ _)
    have := hstep e
    rw [hc] at this
    simp only [hr]
    refine ⟨g, ?_, this⟩
    have h2 : (fr cl e ++ (pc (cl e) ++ r))[(fr cl e).length + 0].toNat = 39 := by rw [h]; simp only [hc]; rfl
    exact h2
  · obtain ⟨g, h⟩ := get_mid (a := fr cl n) (b := [120]) (c := bk cl n) (i := 0) (Nat.zero_lt_succ _)
    simp only [hx]
    refine ⟨g, ?_⟩
    have h2 : (fr cl n ++ ([120] ++ bk cl n))[(fr cl n).length + 0].toNat = 120 := by rw [h]; rfl
    exact h2
  · show (txtOf cl n).length = (fr cl n).length + 1 + nb cl n
    unfold txtOf bk
    rw [List.length_append, List.length_append, List.length_replicate]; rfl
  · have h41 : ∀ (a : List UInt8) (m j : Nat) (h : a.length + j < (a ++ List.replicate m (41 : UInt8)).length), (a ++ List.replicate m (41 : UInt8))[a.length + j] = 41 := fun a m j h => by
      rw [List.getElem_append_right (Nat.le_add_right _ _)]; simp
    have hl : (fr cl n ++ [120]).length = (fr cl n).length + 1 := by rw [List.length_append]; rfl
    have hj' : (fr cl n ++ [120]).length + j < (fr cl n ++ [120] ++ List.replicate (nb cl n) (41 : UInt8)).length := by rw [hl]; exact hj
    have := h41 (fr cl n ++ [120]) (nb cl n) j hj'
    simp only [hl] at this
    exact (congrArg UInt8.toNat this).trans rfl

theorem str_add (a b : List UInt8) (h : a.length + b.length < 4294967296) : aStr .add ⟨a.toArray⟩ ⟨b.toArray⟩ = some (.string ⟨(a ++ b).toArray⟩) := by
  unfold aStr
  simp only
  rw [show Nat.blt (Nat.add a.length b.length) 4294967296 = true from Nat.ble_eq_true_of_le h]
theorem bk_push (cl : Nat → Nat) (j : Nat) (h : cl j ≠ 2) : (41 : UInt8) :: bk cl j = bk cl (j + 1) := by
  unfold bk
  rw [show nb cl (j + 1) = nb cl j + 1 from by show nb cl j + (if cl j = 2 then 0 else 1) = _; rw [if_neg h]]
  rfl
theorem bk_same (cl : Nat → Nat) (j : Nat) (h : cl j = 2) : bk cl j = bk cl (j + 1) := by
  unfold bk
  rw [show nb cl (j + 1) = nb cl j from by show nb cl j + (if cl j = 2 then 0 else 1) = _; rw [if_pos h]; rfl]
theorem ieq_0 (z : Int) : ieq z 0 = decide (z = 0) := by
  cases z with
  | ofNat m => 
    show Nat.beq m 0 = _
    by_cases h : m = 0
    · subst h; rfl
    · rw [decide_eq_false (by intro e; exact h (by injection e))]
      cases m with
      | zero => exact absurd rfl h
      | succ m => rfl
  | negSucc m => rfl
theorem ieq_1 (z : Int) : ieq z 1 = decide (z = 1) := by
  cases z with
  | ofNat m => 
    show Nat.beq m 1 = _
    by_cases h : m = 1
    · subst h; rfl
    · rw [decide_eq_false (by intro e; exact h (by injection e))]
      cases hb : Nat.beq m 1 with
      | false => rfl
      | true => exact absurd (Nat.eq_of_beq_eq_true hb) h
  | negSucc m => rfl
end

noncomputable section
variable {X : FuncId → List Value → Mem → Option (Value × Mem)}

/-! ### what is handed in -/
structure Arg (μ : Mem) (hid : Nat) (ad : Option Addr) (n c o : Nat) (f : Nat → Value) : Prop where
  at_ : ad = some ⟨hid, o, none⟩ ∨ (n = 0 ∧ ad = none ∧ c = 0)
  mem : (n = 0 ∧ μ.obs.get hid = none) ∨ ∃ ch t fz, μ.obs.get hid = some (.held ch t fz) ∧ o + n ≤ ch.size ∧ ∀ k, k < n → cellAt (ch.map strip) .e (o + k) = f k
theorem Arg.cell {μ : Mem} {hid n c o k : Nat} {ad : Option Addr} {f : Nat → Value} (h : Arg μ hid ad n c o f) (hk : k < n) : ad = some ⟨hid, o, none⟩ ∧ cellsAt μ hid (o + k) = some (f k) := by
  refine ⟨h.at_.resolve_right (by rintro ⟨e, _⟩; omega), ?_⟩
  rcases h.mem with ⟨e, _⟩ | ⟨ch, t, fz, h1, h2, h3⟩
  · omega
  · unfold cellsAt
    rw [h1]
    show (if o + k < ch.size then some _ else none) = _
    rw [if_pos (by omega), h3 k hk]

set_option maxHeartbeats 4000000 in
theorem text_loop {n c o hid : Nat} {ad : Option Addr} {s : Nat → Int} {μ : Mem} (hA : Arg μ hid ad n c o fun k => .int .i64 (s k)) (hn : n ≤ 70) :
    ∀ (e m j : Nat) (tm : T Value), j + m = n → regAt tm 0 = .slice ad n c → regAt tm 3 = .string ⟨(fr (fun e => clsOf (s e)) j).toArray⟩ → regAt tm 4 = .string ⟨(bk (fun e => clsOf (s e)) j).toArray⟩ → regAt tm 14 = .slice ad n c → regAt tm 15 = .int .i64 (.ofNat n) → regAt tm 16 = .int .i64 (.ofNat j) →
      EndsC (aCode Tryz.prog X S0 (e + m + 60) (.loop (loopBody Tryz.f3 0)) ⟨65, tm, [], none⟩ μ) fun a r μ' => a = .exit 0 ∧ μ' = μ ∧ ∃ tm', r = ⟨65, tm', [], none⟩ ∧ regAt tm' 0 = .slice ad n c ∧ regAt tm' 3 = .string ⟨(fr (fun e => clsOf (s e)) n).toArray⟩ ∧ regAt tm' 4 = .string ⟨(bk (fun e => clsOf (s e)) n).toArray⟩ := by
  intro e m
  induction m with
  | zero =>
    intro j tm hj r0 r3 r4 r14 r15 r16
    obtain rfl : j = n := hj
    refine code_loop ?_
    refine code_seq ?_
    refine code_region ?_ ?_
    · rfl
    simp only [run1, aOne, aP, aR, aA, aT, aCall, aCallVal, aev, regAt_set, aput_mk, aput_none, plainV, aNilCheck, aExtract, aBin, aInt, Addr.add, Nat.zero_add, ends_some, Nat.reduceLT, Nat.reduceAdd, if_true, then_normal, Nat.reduceEqDiff, if_false, reduceIte, reduceCtorEq, decide_true, decide_false, Bool.not_true, Bool.not_false, beq_self_eq_true, beq_tf, beq_ft, aPick, List.map_cons, List.map_nil, List.nil_append, List.append_nil, List.getElem?_cons_zero, List.getElem?_cons_succ, r15, r16, ilt_nat, Nat.lt_irrefl]
    refine code_seq ?_
    refine code_cond_false ?_ ?_
    · simp only [aev, regAt_set, Nat.reduceEqDiff, reduceIte]
    refine code_exit ?_
    simp only [then_exit]
    exact ⟨trivial, trivial, _, rfl, by simp only [regAt_set, Nat.reduceEqDiff, reduceIte, r0], by simp only [regAt_set, Nat.reduceEqDiff, reduceIte, r3], by simp only [regAt_set, Nat.reduceEqDiff, reduceIte, r4]⟩
  | succ m ih =>
    intro j tm hj r0 r3 r4 r14 r15 r16
    have hlt : j < n := by omega
    obtain ⟨had, hc⟩ := hA.cell hlt
    subst had
    obtain ⟨cl, hcl⟩ : ∃ cl : Nat → Nat, cl = fun e => clsOf (s e) := ⟨_, rfl⟩
    rw [← hcl] at r3 r4 ih ⊢
    have hclj : cl j = clsOf (s j) := by rw [hcl]
    have hia : ∀ ρ : Operand → Value, ∀ a b', ρ a = .slice (some ⟨hid, o, none⟩) n c → ρ b' = .int .i64 (.ofNat j) → aIndexAddr Tryz.prog ρ 22 a b' = some (.pointer (some ⟨hid, o + j, none⟩)) := fun ρ a b' g1 g2 => by
      rw [indexAddr_slice (P := Tryz.prog) Tryz.underlying22 i3 rfl g1 g2 hlt]
    have a3 : qwrap .i64 (Int.add (.ofNat j) 1) = .ofNat (j + 1) := add_nat j 1 (by omega)
    have hfl := fr_len cl j
    have hbl : (bk cl j).length ≤ j := by unfold bk; rw [List.length_replicate]; exact nb_le cl j
    have frs : fr cl (j + 1) = fr cl j ++ pc (cl j) := rfl
    have b1 : aStr .add ⟨#[41]⟩ ⟨(bk cl j).toArray⟩ = some (.string ⟨((41 : UInt8) :: bk cl j).toArray⟩) := str_add [41] (bk cl j) (by show 1 + _ < _; omega)
    refine code_loop ?_
    refine code_seq ?_
    refine code_region ?_ ?_
    · rfl
    simp only [run1, aOne, aP, aR, aA, aT, aCall, aCallVal, aev, regAt_set, aput_mk, aput_none, plainV, aNilCheck, aExtract, aBin, aInt, Addr.add, Nat.zero_add, ends_some, Nat.reduceLT, Nat.reduceAdd, if_true, then_normal, Nat.reduceEqDiff, if_false, reduceIte, reduceCtorEq, decide_true, decide_false, Bool.not_true, Bool.not_false, beq_self_eq_true, beq_tf, beq_ft, aPick, List.map_cons, List.map_nil, List.nil_append, List.append_nil, List.getElem?_cons_zero, List.getElem?_cons_succ, r15, r16, ilt_nat, hlt]
    refine code_seq ?_
    refine code_cond_true ?_ ?_
    · simp only [aev, regAt_set, Nat.reduceEqDiff, reduceIte]
    refine code_skip ?_
    simp only [then_normal]
    refine code_seq ?_
    refine code_block ?_
    refine code_seq ?_
    refine code_region ?_ ?_
    · rfl
    simp only [run1, aOne, aP, aR, aA, aT, aCall, aCallVal, aev, regAt_set, aput_mk, aput_none, plainV, aNilCheck, aExtract, aBin, aInt, Addr.add, Nat.zero_add, ends_some, Nat.reduceLT, Nat.reduceAdd, if_true, then_normal, Nat.reduceEqDiff, if_false, reduceIte, reduceCtorEq, decide_true, decide_false, Bool.not_true, Bool.not_false, beq_self_eq_true, beq_tf, beq_ft, aPick, List.map_cons, List.map_nil, List.nil_append, List.append_nil, List.getElem?_cons_zero, List.getElem?_cons_succ, r14, r16, hia, ld3, hc]
    refine code_seq ?_
    refine code_region ?_ ?_
    · rfl
    simp only [run1, aOne, aP, aR, aA, aT, aCall, aCallVal, aev, regAt_set, aput_mk, aput_none, plainV, aNilCheck, aExtract, aBin, aInt, Addr.add, Nat.zero_add, ends_some, Nat.reduceLT, Nat.reduceAdd, if_true, then_normal, Nat.reduceEqDiff, if_false, reduceIte, reduceCtorEq, decide_true, decide_false, Bool.not_true, Bool.not_false, beq_self_eq_true, beq_tf, beq_ft, aPick, List.map_cons, List.map_nil, List.nil_append, List.append_nil, List.getElem?_cons_zero, List.getElem?_cons_succ]
    refine code_block ?_
    have hq : ∀ v3 v4 : List UInt8, v3 = fr cl (j + 1) → v4 = bk cl (j + 1) → ∀ tm' : T Value, regAt tm' 0 = .slice (some ⟨hid, o, none⟩) n c → regAt tm' 3 = .string ⟨v3.toArray⟩ → regAt tm' 4 = .string ⟨v4.toArray⟩ → regAt tm' 14 = .slice (some ⟨hid, o, none⟩) n c → regAt tm' 15 = .int .i64 (.ofNat n) → regAt tm' 16 = .int .i64 (.ofNat (j + 1)) →
      EndsC (aCode Tryz.prog X S0 (e + m + 60) (.loop (loopBody Tryz.f3 0)) ⟨65, tm', [], none⟩ μ) fun a r μ' => a = .exit 0 ∧ μ' = μ ∧ ∃ tm', r = ⟨65, tm', [], none⟩ ∧ regAt tm' 0 = .slice (some ⟨hid, o, none⟩) n c ∧ regAt tm' 3 = .string ⟨(fr cl n).toArray⟩ ∧ regAt tm' 4 = .string ⟨(bk cl n).toArray⟩ := by
      rintro v3 v4 rfl rfl tm' g0 g3 g4 g14 g15 g16
      exact ih (j + 1) tm' (by omega) g0 g3 g4 g14 g15 g16
    by_cases h0 : s j = 0
    · have hk : cl j = 0 := by rw [hclj, h0]; rfl
      have q0 : ieq (s j) 0 = true := by rw [ieq_0, decide_eq_true h0]
      have f1 : aStr .add ⟨(fr cl j).toArray⟩ ⟨#[40]⟩ = some (.string ⟨(fr cl j ++ [40]).toArray⟩) := str_add (fr cl j) [40] (by show _ + 1 < _; omega)
      refine code_seq ?_
      refine code_region ?_ ?_
      · rfl
      simp only [run1, aOne, aP, aR, aA, aT, aCall, aCallVal, aev, regAt_set, aput_mk, aput_none, plainV, aNilCheck, aExtract, aBin, aInt, Addr.add, Nat.zero_add, ends_some, Nat.reduceLT, Nat.reduceAdd, if_true, then_normal, Nat.reduceEqDiff, if_false, reduceIte, reduceCtorEq, decide_true, decide_false, Bool.not_true, Bool.not_false, beq_self_eq_true, beq_tf, beq_ft, aPick, List.map_cons, List.map_nil, List.nil_append, List.append_nil, List.getElem?_cons_zero, List.getElem?_cons_succ, q0]
      refine code_cond_true ?_ ?_
      · simp only [aev, regAt_set, Nat.reduceEqDiff, reduceIte]
      refine code_seq ?_
      refine code_region ?_ ?_
      · rfl
      simp only [run1, aOne, aP, aR, aA, aT, aCall, aCallVal, aev, regAt_set, aput_mk, aput_none, plainV, aNilCheck, aExtract, aBin, aInt, Addr.add, Nat.zero_add, ends_some, Nat.reduceLT, Nat.reduceAdd, if_true, then_normal, Nat.reduceEqDiff, if_false, reduceIte, reduceCtorEq, decide_true, decide_false, Bool.not_true, Bool.not_false, beq_self_eq_true, beq_tf, beq_ft, aPick, List.map_cons, List.map_nil, List.nil_append, List.append_nil, List.getElem?_cons_zero, List.getElem?_cons_succ, r3, f1]
      refine code_region ?_ ?_
      · rfl
      simp only [run1, aOne, aP, aR, aA, aT, aCall, aCallVal, aev, regAt_set, aput_mk, aput_none, plainV, aNilCheck, aExtract, aBin, aInt, Addr.add, Nat.zero_add, ends_some, Nat.reduceLT, Nat.reduceAdd, if_true, then_normal, Nat.reduceEqDiff, if_false, reduceIte, reduceCtorEq, decide_true, decide_false, Bool.not_true, Bool.not_false, beq_self_eq_true, beq_tf, beq_ft, aPick, List.map_cons, List.map_nil, List.nil_append, List.append_nil, List.getElem?_cons_zero, List.getElem?_cons_succ, r4, b1]
      simp only [blockC, reduceIte, then_normal]
      refine code_region ?_ ?_
      · rfl
      simp only [run1, aOne, aP, aR, aA, aT, aCall, aCallVal, aev, regAt_set, aput_mk, aput_none, plainV, aNilCheck, aExtract, aBin, aInt, Addr.add, Nat.zero_add, ends_some, Nat.reduceLT, Nat.reduceAdd, if_true, then_normal, Nat.reduceEqDiff, if_false, reduceIte, reduceCtorEq, decide_true, decide_false, Bool.not_true, Bool.not_false, beq_self_eq_true, beq_tf, beq_ft, aPick, List.map_cons, List.map_nil, List.nil_append, List.append_nil, List.getElem?_cons_zero, List.getElem?_cons_succ, r16, a3]
      rw [show e + (m + 1) + 59 = e + m + 60 from by omega]
      refine hq (fr cl j ++ [40]) _ (by rw [frs, hk]; rfl) (bk_push cl j (by omega)) _ ?_ ?_ ?_ ?_ ?_ ?_ <;> simp only [regAt_set, Nat.reduceEqDiff, reduceIte, r0, r3, r4, r14, r15]
    · have q0 : ieq (s j) 0 = false := by rw [ieq_0, decide_eq_false h0]
      by_cases h1 : s j = 1
      · have hk : cl j = 1 := by rw [hclj, h1]; rfl
        have q1 : ieq (s j) 1 = true := by rw [ieq_1, decide_eq_true h1]
        have f1 : aStr .add ⟨(fr cl j).toArray⟩ ⟨#[35, 40]⟩ = some (.string ⟨(fr cl j ++ [35, 40]).toArray⟩) := str_add (fr cl j) [35, 40] (by show _ + 2 < _; omega)
        refine code_seq ?_
        refine code_region ?_ ?_
        · rfl
        simp only [run1, aOne, aP, aR, aA, aT, aCall, aCallVal, aev, regAt_set, aput_mk, aput_none, plainV, aNilCheck, aExtract, aBin, aInt, Addr.add, Nat.zero_add, ends_some, Nat.reduceLT, Nat.reduceAdd, if_true, then_normal, Nat.reduceEqDiff, if_false, reduceIte, reduceCtorEq, decide_true, decide_false, Bool.not_true, Bool.not_false, beq_self_eq_true, beq_tf, beq_ft, aPick, List.map_cons, List.map_nil, List.nil_append, List.append_nil, List.getElem?_cons_zero, List.getElem?_cons_succ, q0]
        refine code_cond_false ?_ ?_
        · simp only [aev, regAt_set, Nat.reduceEqDiff, reduceIte]
        refine code_seq ?_
        refine code_region ?_ ?_
        · rfl
        simp only [run1, aOne, aP, aR, aA, aT, aCall, aCallVal, aev, regAt_set, aput_mk, aput_none, plainV, aNilCheck, aExtract, aBin, aInt, Addr.add, Nat.zero_add, ends_some, Nat.reduceLT, Nat.reduceAdd, if_true, then_normal, Nat.reduceEqDiff, if_false, reduceIte, reduceCtorEq, decide_true, decide_false, Bool.not_true, Bool.not_false, beq_self_eq_true, beq_tf, beq_ft, aPick, List.map_cons, List.map_nil, List.nil_append, List.append_nil, List.getElem?_cons_zero, List.getElem?_cons_succ, q1]
        refine code_cond_true ?_ ?_
        · simp only [aev, regAt_set, Nat.reduceEqDiff, reduceIte]
        refine code_seq ?_
        refine code_region ?_ ?_
        · rfl
        simp only [run1, aOne, aP, aR, aA, aT, aCall, aCallVal, aev, regAt_set, aput_mk, aput_none, plainV, aNilCheck, aExtract, aBin, aInt, Addr.add, Nat.zero_add, ends_some, Nat.reduceLT, Nat.reduceAdd, if_true, then_normal, Nat.reduceEqDiff, if_false, reduceIte, reduceCtorEq, decide_true, decide_false, Bool.not_true, Bool.not_false, beq_self_eq_true, beq_tf, beq_ft, aPick, List.map_cons, List.map_nil, List.nil_append, List.append_nil, List.getElem?_cons_zero, List.getElem?_cons_succ, r3, f1]
        refine code_region ?_ ?_
        · rfl
        simp only [run1, aOne, aP, aR, aA, aT, aCall, aCallVal, aev, regAt_set, aput_mk, aput_none, plainV, aNilCheck, aExtract, aBin, aInt, Addr.add, Nat.zero_add, ends_some, Nat.reduceLT, Nat.reduceAdd, if_true, then_normal, Nat.reduceEqDiff, if_false, reduceIte, reduceCtorEq, decide_true, decide_false, Bool.not_true, Bool.not_false, beq_self_eq_true, beq_tf, beq_ft, aPick, List.map_cons, List.map_nil, List.nil_append, List.append_nil, List.getElem?_cons_zero, List.getElem?_cons_succ, r4, b1]
        simp only [blockC, reduceIte, then_normal]
        refine code_region ?_ ?_
        · rfl
        simp only [run1, aOne, aP, aR, aA, aT, aCall, aCallVal, aev, regAt_set, aput_mk, aput_none, plainV, aNilCheck, aExtract, aBin, aInt, Addr.add, Nat.zero_add, ends_some, Nat.reduceLT, Nat.reduceAdd, if_true, then_normal, Nat.reduceEqDiff, if_false, reduceIte, reduceCtorEq, decide_true, decide_false, Bool.not_true, Bool.not_false, beq_self_eq_true, beq_tf, beq_ft, aPick, List.map_cons, List.map_nil, List.nil_append, List.append_nil, List.getElem?_cons_zero, List.getElem?_cons_succ, r16, a3]
        rw [show e + (m + 1) + 59 = e + m + 60 from by omega]
        refine hq (fr cl j ++ [35, 40]) _ (by rw [frs, hk]; rfl) (bk_push cl j (by omega)) _ ?_ ?_ ?_ ?_ ?_ ?_ <;> simp only [regAt_set, Nat.reduceEqDiff, reduceIte, r0, r3, r4, r14, r15]
      · have hk : cl j = 2 := by rw [hclj]; unfold clsOf; rw [if_neg h0, if_neg h1]
        have q1 : ieq (s j) 1 = false := by rw [ieq_1, decide_eq_false h1]
        have f1 : aStr .add ⟨(fr cl j).toArray⟩ ⟨#[39]⟩ = some (.string ⟨(fr cl j ++ [39]).toArray⟩) := str_add (fr cl j) [39] (by show _ + 1 < _; omega)
        refine code_seq ?_
        refine code_region ?_ ?_
        · rfl
        simp only [run1, aOne, aP, aR, aA, aT, aCall, aCallVal, aev, regAt_set, aput_mk, aput_none, plainV, aNilCheck, aExtract, aBin, aInt, Addr.add, Nat.zero_add, ends_some, Nat.reduceLT, Nat.reduceAdd, if_true, then_normal, Nat.reduceEqDiff, if_false, reduceIte, reduceCtorEq, decide_true, decide_false, Bool.not_true, Bool.not_false, beq_self_eq_true, beq_tf, beq_ft, aPick, List.map_cons, List.map_nil, List.nil_append, List.append_nil, List.getElem?_cons_zero, List.getElem?_cons_succ, q0]
        refine code_cond_false ?_ ?_
        · simp only [aev, regAt_set, Nat.reduceEqDiff, reduceIte]
        refine code_seq ?_
        refine code_region ?_ ?_
        · rfl
        simp only [run1, aOne, aP, aR, aA, aT, aCall, aCallVal, aev, regAt_set, aput_mk, aput_none, plainV, aNilCheck, aExtract, aBin, aInt, Addr.add, Nat.zero_add, ends_some, Nat.reduceLT, Nat.reduceAdd, if_true, then_normal, Nat.reduceEqDiff, if_false, reduceIte, reduceCtorEq, decide_true, decide_false, Bool.not_true, Bool.not_false, beq_self_eq_true, beq_tf, beq_ft, aPick, List.map_cons, List.map_nil, List.nil_append, List.append_nil, List.getElem?_cons_zero, List.getElem?_cons_succ, q1]
        refine code_cond_false ?_ ?_
        · simp only [aev, regAt_set, Nat.reduceEqDiff, reduceIte]
        refine code_region ?_ ?_
        · rfl
        simp only [run1, aOne, aP, aR, aA, aT, aCall, aCallVal, aev, regAt_set, aput_mk, aput_none, plainV, aNilCheck, aExtract, aBin, aInt, Addr.add, Nat.zero_add, ends_some, Nat.reduceLT, Nat.reduceAdd, if_true, then_normal, Nat.reduceEqDiff, if_false, reduceIte, reduceCtorEq, decide_true, decide_false, Bool.not_true, Bool.not_false, beq_self_eq_true, beq_tf, beq_ft, aPick, List.map_cons, List.map_nil, List.nil_append, List.append_nil, List.getElem?_cons_zero, List.getElem?_cons_succ, r3, f1]
        simp only [blockC, reduceIte, then_normal]
        refine code_region ?_ ?_
        · rfl
        simp only [run1, aOne, aP, aR, aA, aT, aCall, aCallVal, aev, regAt_set, aput_mk, aput_none, plainV, aNilCheck, aExtract, aBin, aInt, Addr.add, Nat.zero_add, ends_some, Nat.reduceLT, Nat.reduceAdd, if_true, then_normal, Nat.reduceEqDiff, if_false, reduceIte, reduceCtorEq, decide_true, decide_false, Bool.not_true, Bool.not_false, beq_self_eq_true, beq_tf, beq_ft, aPick, List.map_cons, List.map_nil, List.nil_append, List.append_nil, List.getElem?_cons_zero, List.getElem?_cons_succ, r16, a3]
        rw [show e + (m + 1) + 59 = e + m + 60 from by omega]
        refine hq (fr cl j ++ [39]) _ (by rw [frs, hk]; rfl) (bk_same cl j hk) _ ?_ ?_ ?_ ?_ ?_ ?_ <;> simp only [regAt_set, Nat.reduceEqDiff, reduceIte, r0, r3, r4, r14, r15]
end

noncomputable section
variable {X : FuncId → List Value → Mem → Option (Value × Mem)}

theorem aliveL (k : Nat) (μ : Mem) : aCallS Tryz.prog (aCode Tryz.prog X S0 k) S0 4 [] μ = some (.bool true, μ) := rfl
def byteL (bs : List UInt8) : List Value := bs.map fun b => .int .u8 b.toNat
def withText (μ : Mem) (bs : List UInt8) : Mem := ⟨μ.obs.set μ.next (.cells bs.length 5 (byteL bs).toArray .e 0 0 true true), Nat.add μ.next 1⟩
theorem withText_grow (μ : Mem) (bs : List UInt8) : Grow μ (withText μ bs) := grow1 μ _
theorem withText_text (μ : Mem) (bs : List UInt8) (h : bs.length < 20000) : TextAt (withText μ bs) μ.next bs := by
  have o : (withText μ bs).obs.get μ.next = some (.cells bs.length 5 (byteL bs).toArray .e 0 0 true true) := by unfold withText; show T.get _ _ = _; rw [T.get_set, if_pos rfl]
  have hl : (byteL bs).length = bs.length := List.length_map _
  have o2 : (withText μ bs).obs.get μ.next = some (.cells (byteL bs).length 5 (byteL bs).toArray .e 0 0 true true) := by rw [hl]; exact o
  refine ⟨⟨_, _, _, _, _, _, _, o⟩, fun k hk => ?_, Nat.lt_succ_self _, h⟩
  have h1 := (Has.new o2).cell k (by rw [hl]; exact hk)
  rw [Nat.zero_add] at h1
  rw [h1]
  unfold byteL
  rw [List.getElem_map]; rfl
theorem to_bytes {cf : FuncId → List Value → Mem → Option (Value × Mem)} {rf : Nat → List Value → Mem → Option (Value × Mem)} {r : Rg} {μ : Mem} {o : Oper} {x : Operand} {bs : List UInt8} (ho : o.op = .convert 9 30 x) (hx : aev Tryz.prog r x = .string ⟨bs.toArray⟩) : aOne Tryz.prog X cf rf r μ o = some (.slice (some ⟨μ.next, 0, none⟩) bs.length 3, withText μ bs) := by
  have h1 : aP Tryz.prog (aev Tryz.prog r) o = none := by
    unfold aP aPlain
    simp only [ho, hx, aConvInt, opsOf, plains, execOp]
    kernel_rfl
  have h2 : aR Tryz.prog μ (aev Tryz.prog r) o = none := by
    unfold aR aUnsafe
    simp only [ho, hx]
    rfl
  have h3 : aA Tryz.prog (aev Tryz.prog r) o = some (.cells bs.length 5 (byteL bs).toArray .e 0 0 true true, fun id => .slice (some ⟨id, 0, none⟩) bs.length 3) := by
    unfold aA aStringToBytes
    simp only [ho, hx, Tryz.underlying9, Tryz.underlying30, Tryz.underlying5]
    rfl
  unfold aOne
  rw [h1]
  simp only [h2, h3]
  rfl

theorem first_one {cf : FuncId → List Value → Mem → Option (Value × Mem)} {rf : Nat → List Value → Mem → Option (Value × Mem)} {r : Rg} {μ : Mem} {o : Oper} {x y : Operand} {b : Nat} (ho : o.op = .indexAddr 24 x y) (hx : aev Tryz.prog r x = .slice (some ⟨b, 0, none⟩) 1 17) (hy : aev Tryz.prog r y = .int .i64 0) : aOne Tryz.prog X cf rf r μ o = some (.pointer (some ⟨b, 0, none⟩), μ) := by
  have h0 : aIndexAddr Tryz.prog (aev Tryz.prog r) 24 x y = some (.pointer (some ⟨b, 0, none⟩)) := by
    rw [indexAddr_sz (P := Tryz.prog) Tryz.underlying24 i39 hx (show _ = Value.int .i64 (.ofNat 0) from hy) (by decide), Nat.zero_mul]
  have h1 : aP Tryz.prog (aev Tryz.prog r) o = some (.pointer (some ⟨b, 0, none⟩)) := by
    unfold aP
    simp only [ho, h0]
  unfold aOne
  rw [h1]

set_option maxRecDepth 20000 in
set_option maxHeartbeats 8000000 in
theorem law_ends {k n c o h0 : Nat} {ad : Option Addr} {s : Nat → Int} {μ : Mem} (hA : Arg μ h0 ad n c o fun k => .int .i64 (s k)) (hn0 : 0 < n) (hh : h0 < μ.next) :
    EndsF (aFun Tryz.prog (aCode Tryz.prog X S0 (k + 14000)) 3 [.slice ad n c] μ) fun v μ' => v = .bool true ∧ μ'.obs.get h0 = μ.obs.get h0 := by
  obtain ⟨cl, hcl⟩ : ∃ cl : Nat → Nat, cl = fun e => clsOf (s e) := ⟨_, rfl⟩
  refine fun_enter Tryz.func3 rfl rfl (Nat.le_of_ble_eq_true rfl) ?_
  simp only [T.lay, Nat.zero_add, Tryz.ntmps3, Nat.reduceAdd]
  refine code_seq ?_
  refine code_region ?_ ?_
  · rfl
  simp only [run1, aOne, aP, aR, aA, aT, aCall, aCallVal, aev, regAt_set, aput_mk, aput_none, plainV, aNilCheck, aExtract, aBin, aInt, Addr.add, Nat.zero_add, ends_some, Nat.reduceLT, Nat.reduceAdd, if_true, then_normal, Nat.reduceEqDiff, if_false, reduceIte, reduceCtorEq, decide_true, decide_false, Bool.not_true, Bool.not_false, beq_self_eq_true, beq_tf, beq_ft, aPick, List.map_cons, List.map_nil, List.nil_append, List.append_nil, List.getElem?_cons_zero, List.getElem?_cons_succ]
  refine code_seq ?_
  refine code_seq ?_
  refine code_region ?_ ?_
  · rfl
  simp only [run1, aOne, aP, aR, aA, aT, aCall, aCallVal, aev, regAt_set, aput_mk, aput_none, plainV, aNilCheck, aExtract, aBin, aInt, Addr.add, Nat.zero_add, ends_some, Nat.reduceLT, Nat.reduceAdd, if_true, then_normal, Nat.reduceEqDiff, if_false, reduceIte, reduceCtorEq, decide_true, decide_false, Bool.not_true, Bool.not_false, beq_self_eq_true, beq_tf, beq_ft, aPick, List.map_cons, List.map_nil, List.nil_append, List.append_nil, List.getElem?_cons_zero, List.getElem?_cons_succ, go_body (P := Tryz.prog) Tryz.func4 rfl, aliveL]
  refine code_cond_false ?_ ?_
  · simp only [aev, regAt_set, Nat.reduceEqDiff, reduceIte]
  refine code_skip ?_
  simp only [then_normal]
  refine code_seq ?_
  by_cases hn1 : 70 < n
  · have e1 : ilt 70 (.ofNat n) = true := (ilt_nat 70 n).trans (decide_eq_true hn1)
    refine code_seq ?_
    refine code_region ?_ ?_
    · rfl
    simp only [run1, aOne, aP, aR, aA, aT, aCall, aCallVal, aev, regAt_set, aput_mk, aput_none, plainV, aNilCheck, aExtract, aBin, aInt, Addr.add, Nat.zero_add, ends_some, Nat.reduceLT, Nat.reduceAdd, if_true, then_normal, Nat.reduceEqDiff, if_false, reduceIte, reduceCtorEq, decide_true, decide_false, Bool.not_true, Bool.not_false, beq_self_eq_true, beq_tf, beq_ft, aPick, List.map_cons, List.map_nil, List.nil_append, List.append_nil, List.getElem?_cons_zero, List.getElem?_cons_succ, aBuiltin, aLen, Tryz.underlying22, cast_nat, e1]
    refine code_cond_true ?_ ?_
    · simp only [aev, regAt_set, Nat.reduceEqDiff, reduceIte]
    refine code_seq ?_
    refine code_region ?_ ?_
    · rfl
    simp only [run1, aOne, aP, aR, aA, aT, aCall, aCallVal, aev, regAt_set, aput_mk, aput_none, plainV, aNilCheck, aExtract, aBin, aInt, Addr.add, Nat.zero_add, ends_some, Nat.reduceLT, Nat.reduceAdd, if_true, then_normal, Nat.reduceEqDiff, if_false, reduceIte, reduceCtorEq, decide_true, decide_false, Bool.not_true, Bool.not_false, beq_self_eq_true, beq_tf, beq_ft, aPick, List.map_cons, List.map_nil, List.nil_append, List.append_nil, List.getElem?_cons_zero, List.getElem?_cons_succ]
    refine code_ret ?_
    refine ⟨rfl, _, ?_, rfl, rfl⟩
    simp only [aResults, Tryz.results3, aRes, regAt_set, Nat.reduceEqDiff, reduceIte]
  have e1 : ilt 70 (.ofNat n) = false := (ilt_nat 70 n).trans (decide_eq_false hn1)
  refine code_seq ?_
  refine code_region ?_ ?_
  · rfl
  simp only [run1, aOne, aP, aR, aA, aT, aCall, aCallVal, aev, regAt_set, aput_mk, aput_none, plainV, aNilCheck, aExtract, aBin, aInt, Addr.add, Nat.zero_add, ends_some, Nat.reduceLT, Nat.reduceAdd, if_true, then_normal, Nat.reduceEqDiff, if_false, reduceIte, reduceCtorEq, decide_true, decide_false, Bool.not_true, Bool.not_false, beq_self_eq_true, beq_tf, beq_ft, aPick, List.map_cons, List.map_nil, List.nil_append, List.append_nil, List.getElem?_cons_zero, List.getElem?_cons_succ, aBuiltin, aLen, Tryz.underlying22, cast_nat, e1]
  refine code_cond_false ?_ ?_
  · simp only [aev, regAt_set, Nat.reduceEqDiff, reduceIte]
  refine code_skip ?_
  simp only [then_normal]
  refine code_seq ?_
  refine code_region ?_ ?_
  · rfl
  simp only [run1, aOne, aP, aR, aA, aT, aCall, aCallVal, aev, regAt_set, aput_mk, aput_none, plainV, aNilCheck, aExtract, aBin, aInt, Addr.add, Nat.zero_add, ends_some, Nat.reduceLT, Nat.reduceAdd, if_true, then_normal, Nat.reduceEqDiff, if_false, reduceIte, reduceCtorEq, decide_true, decide_false, Bool.not_true, Bool.not_false, beq_self_eq_true, beq_tf, beq_ft, aPick, List.map_cons, List.map_nil, List.nil_append, List.append_nil, List.getElem?_cons_zero, List.getElem?_cons_succ]
  refine code_seq ?_
  refine code_seq ?_
  refine code_region ?_ ?_
  · rfl
  simp only [run1, aOne, aP, aR, aA, aT, aCall, aCallVal, aev, regAt_set, aput_mk, aput_none, plainV, aNilCheck, aExtract, aBin, aInt, Addr.add, Nat.zero_add, ends_some, Nat.reduceLT, Nat.reduceAdd, if_true, then_normal, Nat.reduceEqDiff, if_false, reduceIte, reduceCtorEq, decide_true, decide_false, Bool.not_true, Bool.not_false, beq_self_eq_true, beq_tf, beq_ft, aPick, List.map_cons, List.map_nil, List.nil_append, List.append_nil, List.getElem?_cons_zero, List.getElem?_cons_succ, aBuiltin, aLen, Tryz.underlying22, cast_nat]
  refine code_block ?_
  rw [show k + 13993 = (k + 13933 - n) + n + 60 from by omega]
  refine EndsC.mono (text_loop hA (by omega) (k + 13933 - n) n 0 _ (by omega) ?_ ?_ ?_ ?_ ?_ ?_) ?_
  · simp only [regAt_set, Nat.reduceEqDiff, reduceIte]
  · simp only [regAt_set, Nat.reduceEqDiff, reduceIte]; rfl
  · simp only [regAt_set, Nat.reduceEqDiff, reduceIte]; rfl
  · simp only [regAt_set, Nat.reduceEqDiff, reduceIte]
  · simp only [regAt_set, Nat.reduceEqDiff, reduceIte]
  · simp only [regAt_set, Nat.reduceEqDiff, reduceIte]; rfl
  rintro a r μ' ⟨rfl, rfl, tm1, rfl, g0, g3, g4⟩
  rw [← hcl] at g3 g4
  simp only [blockC, reduceIte, then_normal]
  -- the text is read
  have hfl := fr_len cl n
  have hbl : (bk cl n).length ≤ n := by unfold bk; rw [List.length_replicate]; exact nb_le cl n
  have hx1 : aStr .add ⟨(fr cl n).toArray⟩ ⟨#[120]⟩ = some (.string ⟨(fr cl n ++ [120]).toArray⟩) := str_add (fr cl n) [120] (by show _ + 1 < _; omega)
  have hlx : (fr cl n ++ [120]).length = (fr cl n).length + 1 := List.length_append
  have hx2 : aStr .add ⟨(fr cl n ++ [120]).toArray⟩ ⟨(bk cl n).toArray⟩ = some (.string ⟨(txtOf cl n).toArray⟩) := str_add (fr cl n ++ [120]) (bk cl n) (by omega)
  have hlt : (txtOf cl n).length = (fr cl n).length + 1 + (bk cl n).length := by unfold txtOf; rw [List.length_append, hlx]
  have hgw := withText_grow μ' (txtOf cl n)
  obtain ⟨v2, μ2, hrd, ⟨hh2, hfr⟩, hok, herr⟩ := read_ends (X := X) (g := k + 13993) (hid := h0) (by omega) (txt_of cl n) rfl (fun e => by rw [hcl]; exact clsOf_any _) hn0 (by omega) (withText_text μ' (txtOf cl n) (by omega)) (Nat.lt_of_lt_of_le hh hgw.1)
  have hfr1 : μ2.obs.get h0 = μ'.obs.get h0 := hfr.trans (hgw.2 h0 hh)
  have hb0 : (fun e => clsOf (s e)) = cl := hcl.symm
  -- what is answered
  have hz := al27
  by_cases h6 : n ≤ 60
  · obtain ⟨bad, b, l, ks, hv2, hbd, hHb, hD, hks⟩ := hok h6
    subst hv2
    have hq60 : ilt 60 (.ofNat n) = false := (ilt_nat 60 n).trans (decide_eq_false (by omega))
    obtain ⟨μ3, hμ3⟩ : ∃ m : Mem, m = ⟨μ2.obs.set μ2.next (.cells 2 27 [Value.int .i64 0, .int .i64 0].toArray .e 0 0 false false), Nat.add μ2.next 1⟩ := ⟨_, rfl⟩
    have hg3 : Grow μ2 μ3 := by rw [hμ3]; exact grow1 μ2 _
    have hB3 : Blk μ3 μ2.next 2 27 := ⟨_, _, _, _, by rw [hμ3]; show T.get _ _ = _; rw [T.get_set, if_pos rfl]⟩
    have s3 := store_puts (P := Tryz.prog) (t := 27) (vs := [Value.int .i64 (.ofNat 0), .int .i64 (.ofNat 0)]) (o := 0) i27 rfl rfl hB3 (Nat.le_refl _)
    obtain ⟨μ4, hμ4⟩ : ∃ m : Mem, m = putL μ3 μ2.next 0 [Value.int .i64 (.ofNat 0), .int .i64 (.ofNat 0)] := ⟨_, rfl⟩
    have hH4 : Has μ4 μ2.next 0 [.int .i64 (.ofNat 0), .int .i64 (.ofNat 0)] := by rw [hμ4]; exact Has.of_put hB3 (Nat.le_refl _)
    have c4 : cellsAt μ4 μ2.next 0 = some (.int .i64 (.ofNat 0)) := hH4.cell 0 (Nat.zero_lt_succ _)
    rw [← hμ4] at s3
    have hg4 : Grow μ2 μ4 := by rw [hμ4]; exact hg3.put_new (Nat.le_refl _)
    have hll := hD.len.1
    have hbn : b < μ2.next := hbd
    have hHb4 : Has μ4 b 0 l := hHb.keep (hg4.2 b hbn)
    have hD4 : Den bad μ4 ks l := Den.keep hg4.1 (fun i hi _ => hg4.2 i hi) hD
    have hlb := lds39 hHb4 (by rw [hll]; rfl)
    obtain ⟨v5, μ5, hrt, hv5, hg5⟩ := right_ends (X := X) (g := k + 13991) hD4 (by omega) (by omega)
    subst hv5
    have q0 : ieq (.ofNat 0) 0 = true := rfl
    have q1 : ieq (.ofNat 1) 1 = true := rfl
    refine code_seq ?_
    refine code_guards (gs := ?_) ?_ ?_
    rotate_left
    · rfl
    iterate 4 (refine run2_true (by first | rfl | (simp only [wanted, aOne, aP, aR, aA, aT, aCall, aCallVal, aev, regAt_set, aput_mk, aput_none, plainV, aNilCheck, aExtract, aBin, aInt, Addr.add, Nat.zero_add, ends_some, Nat.reduceLT, Nat.reduceAdd, if_true, then_normal, Nat.reduceEqDiff, if_false, reduceIte, reduceCtorEq, decide_true, decide_false, Bool.not_true, Bool.not_false, beq_self_eq_true, beq_tf, beq_ft, aPick, List.map_cons, List.map_nil, List.nil_append, List.append_nil, List.getElem?_cons_zero, List.getElem?_cons_succ, g3, g4, hx1, hx2])) (by simp only [aOne, aP, aR, aA, aT, aCall, aCallVal, aev, regAt_set, aput_mk, aput_none, plainV, aNilCheck, aExtract, aBin, aInt, Addr.add, Nat.zero_add, ends_some, Nat.reduceLT, Nat.reduceAdd, if_true, then_normal, Nat.reduceEqDiff, if_false, reduceIte, reduceCtorEq, decide_true, decide_false, Bool.not_true, Bool.not_false, beq_self_eq_true, beq_tf, beq_ft, aPick, List.map_cons, List.map_nil, List.nil_append, List.append_nil, List.getElem?_cons_zero, List.getElem?_cons_succ, g3, g4, hx1, hx2]; try exact rfl) rfl ?_)
    refine run2_true (by first | rfl | (simp only [wanted, aOne, aP, aR, aA, aT, aCall, aCallVal, aev, regAt_set, aput_mk, aput_none, plainV, aNilCheck, aExtract, aBin, aInt, Addr.add, Nat.zero_add, ends_some, Nat.reduceLT, Nat.reduceAdd, if_true, then_normal, Nat.reduceEqDiff, if_false, reduceIte, reduceCtorEq, decide_true, decide_false, Bool.not_true, Bool.not_false, beq_self_eq_true, beq_tf, beq_ft, aPick, List.map_cons, List.map_nil, List.nil_append, List.append_nil, List.getElem?_cons_zero, List.getElem?_cons_succ])) (to_bytes (bs := txtOf cl n) rfl (by simp only [aev, regAt_set, Nat.reduceEqDiff, reduceIte])) rfl ?_
    iterate 7 (refine run2_true (by first | rfl | (simp only [wanted, aOne, aP, aR, aA, aT, aCall, aCallVal, aev, regAt_set, aput_mk, aput_none, plainV, aNilCheck, aExtract, aBin, aInt, Addr.add, Nat.zero_add, ends_some, Nat.reduceLT, Nat.reduceAdd, if_true, then_normal, Nat.reduceEqDiff, if_false, reduceIte, reduceCtorEq, decide_true, decide_false, Bool.not_true, Bool.not_false, beq_self_eq_true, beq_tf, beq_ft, aPick, List.map_cons, List.map_nil, List.nil_append, List.append_nil, List.getElem?_cons_zero, List.getElem?_cons_succ, go_call (P := Tryz.prog) (X := X) (S := S0) Tryz.func5 rfl rfl, hrd, hz, ← hμ3, s3])) (by simp only [aOne, aP, aR, aA, aT, aCall, aCallVal, aev, regAt_set, aput_mk, aput_none, plainV, aNilCheck, aExtract, aBin, aInt, Addr.add, Nat.zero_add, ends_some, Nat.reduceLT, Nat.reduceAdd, if_true, then_normal, Nat.reduceEqDiff, if_false, reduceIte, reduceCtorEq, decide_true, decide_false, Bool.not_true, Bool.not_false, beq_self_eq_true, beq_tf, beq_ft, aPick, List.map_cons, List.map_nil, List.nil_append, List.append_nil, List.getElem?_cons_zero, List.getElem?_cons_succ, go_call (P := Tryz.prog) (X := X) (S := S0) Tryz.func5 rfl rfl, hrd, hz, ← hμ3, s3]; try exact rfl) rfl ?_)
    simp only [run2, ends_some, then_normal]
    refine code_seq ?_
    refine code_seq ?_
    refine code_region ?_ ?_
    · rfl
    simp only [run1, aOne, aP, aR, aA, aT, aCall, aCallVal, aev, regAt_set, aput_mk, aput_none, plainV, aNilCheck, aExtract, aBin, aInt, Addr.add, Nat.zero_add, ends_some, Nat.reduceLT, Nat.reduceAdd, if_true, then_normal, Nat.reduceEqDiff, if_false, reduceIte, reduceCtorEq, decide_true, decide_false, Bool.not_true, Bool.not_false, beq_self_eq_true, beq_tf, beq_ft, aPick, List.map_cons, List.map_nil, List.nil_append, List.append_nil, List.getElem?_cons_zero, List.getElem?_cons_succ, g0, aBuiltin, aLen, Tryz.underlying22, cast_nat, hq60]
    refine code_cond_false ?_ ?_
    · simp only [aev, regAt_set, Nat.reduceEqDiff, reduceIte]
    refine code_skip ?_
    simp only [then_normal]
    refine code_seq ?_
    refine code_guards (gs := ?_) ?_ ?_
    rotate_left
    · rfl
    iterate 9 (refine run2_true (by first | rfl | (simp only [wanted, aOne, aP, aR, aA, aT, aCall, aCallVal, aev, regAt_set, aput_mk, aput_none, plainV, aNilCheck, aExtract, aBin, aInt, Addr.add, Nat.zero_add, ends_some, Nat.reduceLT, Nat.reduceAdd, if_true, then_normal, Nat.reduceEqDiff, if_false, reduceIte, reduceCtorEq, decide_true, decide_false, Bool.not_true, Bool.not_false, beq_self_eq_true, beq_tf, beq_ft, aPick, List.map_cons, List.map_nil, List.nil_append, List.append_nil, List.getElem?_cons_zero, List.getElem?_cons_succ, fa27_0, ld25, c4, q0, aBuiltin, aLen, Tryz.underlying24, cast_nat, q1])) (by simp only [aOne, aP, aR, aA, aT, aCall, aCallVal, aev, regAt_set, aput_mk, aput_none, plainV, aNilCheck, aExtract, aBin, aInt, Addr.add, Nat.zero_add, ends_some, Nat.reduceLT, Nat.reduceAdd, if_true, then_normal, Nat.reduceEqDiff, if_false, reduceIte, reduceCtorEq, decide_true, decide_false, Bool.not_true, Bool.not_false, beq_self_eq_true, beq_tf, beq_ft, aPick, List.map_cons, List.map_nil, List.nil_append, List.append_nil, List.getElem?_cons_zero, List.getElem?_cons_succ, fa27_0, ld25, c4, q0, aBuiltin, aLen, Tryz.underlying24, cast_nat, q1]; try exact rfl) rfl ?_)
    refine run2_true (by first | rfl | (simp only [wanted, aOne, aP, aR, aA, aT, aCall, aCallVal, aev, regAt_set, aput_mk, aput_none, plainV, aNilCheck, aExtract, aBin, aInt, Addr.add, Nat.zero_add, ends_some, Nat.reduceLT, Nat.reduceAdd, if_true, then_normal, Nat.reduceEqDiff, if_false, reduceIte, reduceCtorEq, decide_true, decide_false, Bool.not_true, Bool.not_false, beq_self_eq_true, beq_tf, beq_ft, aPick, List.map_cons, List.map_nil, List.nil_append, List.append_nil, List.getElem?_cons_zero, List.getElem?_cons_succ])) (by simp only [aOne, aP, aR, aA, aT, aCall, aCallVal, aev, regAt_set, aput_mk, aput_none, plainV, aNilCheck, aExtract, aBin, aInt, Addr.add, Nat.zero_add, ends_some, Nat.reduceLT, Nat.reduceAdd, if_true, then_normal, Nat.reduceEqDiff, if_false, reduceIte, reduceCtorEq, decide_true, decide_false, Bool.not_true, Bool.not_false, beq_self_eq_true, beq_tf, beq_ft, aPick, List.map_cons, List.map_nil, List.nil_append, List.append_nil, List.getElem?_cons_zero, List.getElem?_cons_succ]; try exact rfl) rfl ?_
    refine run2_true (by first | rfl | (simp only [wanted, aOne, aP, aR, aA, aT, aCall, aCallVal, aev, regAt_set, aput_mk, aput_none, plainV, aNilCheck, aExtract, aBin, aInt, Addr.add, Nat.zero_add, ends_some, Nat.reduceLT, Nat.reduceAdd, if_true, then_normal, Nat.reduceEqDiff, if_false, reduceIte, reduceCtorEq, decide_true, decide_false, Bool.not_true, Bool.not_false, beq_self_eq_true, beq_tf, beq_ft, aPick, List.map_cons, List.map_nil, List.nil_append, List.append_nil, List.getElem?_cons_zero, List.getElem?_cons_succ])) (first_one (b := b) rfl (by simp only [aev, regAt_set, Nat.reduceEqDiff, reduceIte]) (by simp only [aev, plainV])) rfl ?_
    iterate 4 (refine run2_true (by first | rfl | (simp only [wanted, aOne, aP, aR, aA, aT, aCall, aCallVal, aev, regAt_set, aput_mk, aput_none, plainV, aNilCheck, aExtract, aBin, aInt, Addr.add, Nat.zero_add, ends_some, Nat.reduceLT, Nat.reduceAdd, if_true, then_normal, Nat.reduceEqDiff, if_false, reduceIte, reduceCtorEq, decide_true, decide_false, Bool.not_true, Bool.not_false, beq_self_eq_true, beq_tf, beq_ft, aPick, List.map_cons, List.map_nil, List.nil_append, List.append_nil, List.getElem?_cons_zero, List.getElem?_cons_succ, hlb, go_call (P := Tryz.prog) (X := X) (S := S0) Tryz.func6 rfl rfl, hrt])) (by simp only [aOne, aP, aR, aA, aT, aCall, aCallVal, aev, regAt_set, aput_mk, aput_none, plainV, aNilCheck, aExtract, aBin, aInt, Addr.add, Nat.zero_add, ends_some, Nat.reduceLT, Nat.reduceAdd, if_true, then_normal, Nat.reduceEqDiff, if_false, reduceIte, reduceCtorEq, decide_true, decide_false, Bool.not_true, Bool.not_false, beq_self_eq_true, beq_tf, beq_ft, aPick, List.map_cons, List.map_nil, List.nil_append, List.append_nil, List.getElem?_cons_zero, List.getElem?_cons_succ, hlb, go_call (P := Tryz.prog) (X := X) (S := S0) Tryz.func6 rfl rfl, hrt]; try exact rfl) rfl ?_)
    simp only [run2, ends_some, then_normal]
    refine code_ret ?_
    refine ⟨rfl, _, ?_, rfl, by rw [hg5.2 h0 (by have := hg4.1; omega), hg4.2 h0 (by omega), hfr1]⟩
    simp only [aResults, Tryz.results3, aRes, regAt_set, Nat.reduceEqDiff, reduceIte]
  · obtain ⟨p, hv2⟩ := herr (by omega)
    subst hv2
    have hq60 : ilt 60 (.ofNat n) = true := (ilt_nat 60 n).trans (decide_eq_true (by omega))
    obtain ⟨μ3, hμ3⟩ : ∃ m : Mem, m = ⟨μ2.obs.set μ2.next (.cells 2 27 [Value.int .i64 0, .int .i64 0].toArray .e 0 0 false false), Nat.add μ2.next 1⟩ := ⟨_, rfl⟩
    have hg3 : Grow μ2 μ3 := by rw [hμ3]; exact grow1 μ2 _
    have hB3 : Blk μ3 μ2.next 2 27 := ⟨_, _, _, _, by rw [hμ3]; show T.get _ _ = _; rw [T.get_set, if_pos rfl]⟩
    have s3 := store_puts (P := Tryz.prog) (t := 27) (vs := [Value.int .i64 (.ofNat 64), .int .i64 (.ofNat p)]) (o := 0) i27 rfl rfl hB3 (Nat.le_refl _)
    obtain ⟨μ4, hμ4⟩ : ∃ m : Mem, m = putL μ3 μ2.next 0 [Value.int .i64 (.ofNat 64), .int .i64 (.ofNat p)] := ⟨_, rfl⟩
    have hH4 : Has μ4 μ2.next 0 [.int .i64 (.ofNat 64), .int .i64 (.ofNat p)] := by rw [hμ4]; exact Has.of_put hB3 (Nat.le_refl _)
    have c4 : cellsAt μ4 μ2.next 0 = some (.int .i64 (.ofNat 64)) := hH4.cell 0 (Nat.zero_lt_succ _)
    rw [← hμ4] at s3
    have q64 : ieq (.ofNat 64) 64 = true := rfl
    refine code_seq ?_
    refine code_guards (gs := ?_) ?_ ?_
    rotate_left
    · rfl
    iterate 4 (refine run2_true (by first | rfl | (simp only [wanted, aOne, aP, aR, aA, aT, aCall, aCallVal, aev, regAt_set, aput_mk, aput_none, plainV, aNilCheck, aExtract, aBin, aInt, Addr.add, Nat.zero_add, ends_some, Nat.reduceLT, Nat.reduceAdd, if_true, then_normal, Nat.reduceEqDiff, if_false, reduceIte, reduceCtorEq, decide_true, decide_false, Bool.not_true, Bool.not_false, beq_self_eq_true, beq_tf, beq_ft, aPick, List.map_cons, List.map_nil, List.nil_append, List.append_nil, List.getElem?_cons_zero, List.getElem?_cons_succ, g3, g4, hx1, hx2])) (by simp only [aOne, aP, aR, aA, aT, aCall, aCallVal, aev, regAt_set, aput_mk, aput_none, plainV, aNilCheck, aExtract, aBin, aInt, Addr.add, Nat.zero_add, ends_some, Nat.reduceLT, Nat.reduceAdd, if_true, then_normal, Nat.reduceEqDiff, if_false, reduceIte, reduceCtorEq, decide_true, decide_false, Bool.not_true, Bool.not_false, beq_self_eq_true, beq_tf, beq_ft, aPick, List.map_cons, List.map_nil, List.nil_append, List.append_nil, List.getElem?_cons_zero, List.getElem?_cons_succ, g3, g4, hx1, hx2]; try exact rfl) rfl ?_)
    refine run2_true (by first | rfl | (simp only [wanted, aOne, aP, aR, aA, aT, aCall, aCallVal, aev, regAt_set, aput_mk, aput_none, plainV, aNilCheck, aExtract, aBin, aInt, Addr.add, Nat.zero_add, ends_some, Nat.reduceLT, Nat.reduceAdd, if_true, then_normal, Nat.reduceEqDiff, if_false, reduceIte, reduceCtorEq, decide_true, decide_false, Bool.not_true, Bool.not_false, beq_self_eq_true, beq_tf, beq_ft, aPick, List.map_cons, List.map_nil, List.nil_append, List.append_nil, List.getElem?_cons_zero, List.getElem?_cons_succ])) (to_bytes (bs := txtOf cl n) rfl (by simp only [aev, regAt_set, Nat.reduceEqDiff, reduceIte])) rfl ?_
    iterate 7 (refine run2_true (by first | rfl | (simp only [wanted, aOne, aP, aR, aA, aT, aCall, aCallVal, aev, regAt_set, aput_mk, aput_none, plainV, aNilCheck, aExtract, aBin, aInt, Addr.add, Nat.zero_add, ends_some, Nat.reduceLT, Nat.reduceAdd, if_true, then_normal, Nat.reduceEqDiff, if_false, reduceIte, reduceCtorEq, decide_true, decide_false, Bool.not_true, Bool.not_false, beq_self_eq_true, beq_tf, beq_ft, aPick, List.map_cons, List.map_nil, List.nil_append, List.append_nil, List.getElem?_cons_zero, List.getElem?_cons_succ, go_call (P := Tryz.prog) (X := X) (S := S0) Tryz.func5 rfl rfl, hrd, hz, ← hμ3, s3])) (by simp only [aOne, aP, aR, aA, aT, aCall, aCallVal, aev, regAt_set, aput_mk, aput_none, plainV, aNilCheck, aExtract, aBin, aInt, Addr.add, Nat.zero_add, ends_some, Nat.reduceLT, Nat.reduceAdd, if_true, then_normal, Nat.reduceEqDiff, if_false, reduceIte, reduceCtorEq, decide_true, decide_false, Bool.not_true, Bool.not_false, beq_self_eq_true, beq_tf, beq_ft, aPick, List.map_cons, List.map_nil, List.nil_append, List.append_nil, List.getElem?_cons_zero, List.getElem?_cons_succ, go_call (P := Tryz.prog) (X := X) (S := S0) Tryz.func5 rfl rfl, hrd, hz, ← hμ3, s3]; try exact rfl) rfl ?_)
    simp only [run2, ends_some, then_normal]
    refine code_seq ?_
    refine code_seq ?_
    refine code_region ?_ ?_
    · rfl
    simp only [run1, aOne, aP, aR, aA, aT, aCall, aCallVal, aev, regAt_set, aput_mk, aput_none, plainV, aNilCheck, aExtract, aBin, aInt, Addr.add, Nat.zero_add, ends_some, Nat.reduceLT, Nat.reduceAdd, if_true, then_normal, Nat.reduceEqDiff, if_false, reduceIte, reduceCtorEq, decide_true, decide_false, Bool.not_true, Bool.not_false, beq_self_eq_true, beq_tf, beq_ft, aPick, List.map_cons, List.map_nil, List.nil_append, List.append_nil, List.getElem?_cons_zero, List.getElem?_cons_succ, g0, aBuiltin, aLen, Tryz.underlying22, cast_nat, hq60]
    refine code_cond_true ?_ ?_
    · simp only [aev, regAt_set, Nat.reduceEqDiff, reduceIte]
    refine code_seq ?_
    refine code_region ?_ ?_
    · rfl
    simp only [run1, aOne, aP, aR, aA, aT, aCall, aCallVal, aev, regAt_set, aput_mk, aput_none, plainV, aNilCheck, aExtract, aBin, aInt, Addr.add, Nat.zero_add, ends_some, Nat.reduceLT, Nat.reduceAdd, if_true, then_normal, Nat.reduceEqDiff, if_false, reduceIte, reduceCtorEq, decide_true, decide_false, Bool.not_true, Bool.not_false, beq_self_eq_true, beq_tf, beq_ft, aPick, List.map_cons, List.map_nil, List.nil_append, List.append_nil, List.getElem?_cons_zero, List.getElem?_cons_succ, fa27_0, ld25, c4, q64]
    refine code_ret ?_
    refine ⟨rfl, _, ?_, rfl, by rw [hμ4, putL_get _ _ _ _ (by have := hg3.1; omega)]; exact (hg3.2 h0 (by omega)).trans hfr1⟩
    simp only [aResults, Tryz.results3, aRes, regAt_set, Nat.reduceEqDiff, reduceIte]
end
end Go.Proofs.YtfcpiamdmbliaaaGreatDoor.rd
