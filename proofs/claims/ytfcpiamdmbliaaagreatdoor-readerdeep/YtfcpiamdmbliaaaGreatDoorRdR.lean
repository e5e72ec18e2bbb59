/-
  distafflaw06.ReaderDeep, part R: the builder. No conditions.
-/
import Derived.Test.YtfcpiamdmbliaaaGreatDoorRdQ
set_option linter.unusedSimpArgs false
set_option linter.unusedVariables false
namespace Go.Proofs.YtfcpiamdmbliaaaGreatDoor.rd
open Go Go.Proofs Go.Proofs.YtfcpiamdmbliaaaGreatDoor.Ev

noncomputable section
variable {X : FuncId → List Value → Mem → Option (Value × Mem)}

/-! ### the builder -/
structure Bd (μ : Mem) (bb : Nat) (st : Value) (nodes : Nat) (da : Value) : Prop where
  c0 : cellsAt μ bb 0 = some st
  c1 : cellsAt μ bb 1 = some (.int .i64 (.ofNat nodes))
  c2 : cellsAt μ bb 2 = some da
  blk : Blk μ bb 3 49
  n : bb < μ.next
theorem Bd.of_get {μ μ' : Mem} {bb nodes : Nat} {st da : Value} (h : Bd μ bb st nodes da) (g : μ'.obs.get bb = μ.obs.get bb) (hn : μ.next ≤ μ'.next) : Bd μ' bb st nodes da := by
  have e : ∀ k, cellsAt μ' bb k = cellsAt μ bb k := fun k => by unfold cellsAt; rw [g]
  exact ⟨(e 0).trans h.c0, (e 1).trans h.c1, (e 2).trans h.c2, h.blk.of_get g, Nat.lt_of_lt_of_le h.n hn⟩
theorem Bd.grow {μ μ' : Mem} {bb nodes : Nat} {st da : Value} (h : Bd μ bb st nodes da) (g : Grow μ μ') : Bd μ' bb st nodes da := h.of_get (g.2 _ h.n) g.1
theorem Bd.put0 {μ : Mem} {bb nodes : Nat} {st da st' : Value} (h : Bd μ bb st nodes da) : Bd (putL μ bb 0 [st']) bb st' nodes da := by
  refine ⟨?_, ?_, ?_, h.blk.put _ _, by rw [putL_next]; exact h.n⟩
  · rw [cells_put h.blk (by show 0 + 1 ≤ 3; decide), dif_pos ⟨rfl, Nat.le_refl _, Nat.lt_succ_self _⟩]; rfl
  · rw [cells_put h.blk (by show 0 + 1 ≤ 3; decide), dif_neg (by rintro ⟨_, _, g⟩; simp only [List.length_cons, List.length_nil] at g; omega)]; exact h.c1
  · rw [cells_put h.blk (by show 0 + 1 ≤ 3; decide), dif_neg (by rintro ⟨_, _, g⟩; simp only [List.length_cons, List.length_nil] at g; omega)]; exact h.c2
theorem Bd.put1 {μ : Mem} {bb nodes n' : Nat} {st da : Value} (h : Bd μ bb st nodes da) : Bd (putL μ bb 1 [.int .i64 (.ofNat n')]) bb st n' da := by
  refine ⟨?_, ?_, ?_, h.blk.put _ _, by rw [putL_next]; exact h.n⟩
  · rw [cells_put h.blk (by show 1 + 1 ≤ 3; decide), dif_neg (by rintro ⟨_, g, _⟩; exact absurd g (by decide))]; exact h.c0
  · rw [cells_put h.blk (by show 1 + 1 ≤ 3; decide), dif_pos ⟨rfl, Nat.le_refl _, Nat.lt_succ_self _⟩]; rfl
  · rw [cells_put h.blk (by show 1 + 1 ≤ 3; decide), dif_neg (by rintro ⟨_, _, g⟩; simp only [List.length_cons, List.length_nil] at g; omega)]; exact h.c2
theorem Bd.put2 {μ : Mem} {bb nodes : Nat} {st da da' : Value} (h : Bd μ bb st nodes da) : Bd (putL μ bb 2 [da']) bb st nodes da' := by
  refine ⟨?_, ?_, ?_, h.blk.put _ _, by rw [putL_next]; exact h.n⟩
  · rw [cells_put h.blk (by show 2 + 1 ≤ 3; decide), dif_neg (by rintro ⟨_, g, _⟩; exact absurd g (by decide))]; exact h.c0
  · rw [cells_put h.blk (by show 2 + 1 ≤ 3; decide), dif_neg (by rintro ⟨_, g, _⟩; exact absurd g (by decide))]; exact h.c1
  · rw [cells_put h.blk (by show 2 + 1 ≤ 3; decide), dif_pos ⟨rfl, Nat.le_refl _, Nat.lt_succ_self _⟩]; rfl
theorem Bd.put_off {μ : Mem} {bb nodes i o : Nat} {st da : Value} {vs : List Value} (h : Bd μ bb st nodes da) (hi : bb ≠ i) : Bd (putL μ i o vs) bb st nodes da := h.of_get (putL_get _ _ _ _ hi) (by rw [putL_next]; exact Nat.le_refl _)

set_option maxHeartbeats 4000000 in
theorem top_nil {g bb nodes c : Nat} {a : Option Addr} {da : Value} {μ : Mem} (hg : 20 ≤ g) (hB : Bd μ bb (.slice a 0 c) nodes da) :
    aFun Tryz.prog (aCode Tryz.prog X S0 g) 10 [.pointer (some ⟨bb, 0, none⟩)] μ = some (.pointer none, μ) := by
  obtain ⟨k, rfl⟩ := Nat.exists_eq_add_of_le' hg
  refine ends_eq ?_
  have e0 : ieq (.ofNat 0) 0 = true := rfl
  refine fun_enter Tryz.func10 rfl rfl (Nat.le_of_ble_eq_true rfl) ?_
  simp only [T.lay, Nat.zero_add, Tryz.ntmps10, Nat.reduceAdd]
  refine code_seq ?_
  refine code_region ?_ ?_
  · rfl
  simp only [run1, aOne, aP, aR, aA, aT, aCall, aCallVal, aev, regAt_set, aput_mk, aput_none, plainV, aNilCheck, aExtract, aBin, aInt, Addr.add, Nat.zero_add, ends_some, Nat.reduceLT, Nat.reduceAdd, if_true, then_normal, Nat.reduceEqDiff, if_false, reduceIte, reduceCtorEq, decide_true, decide_false, Bool.not_true, Bool.not_false, beq_self_eq_true, beq_tf, beq_ft, aPick, List.map_cons, List.map_nil, List.nil_append, List.append_nil, List.getElem?_cons_zero, List.getElem?_cons_succ]
  refine code_seq ?_
  refine code_seq ?_
  refine code_region ?_ ?_
  · rfl
  simp only [run1, aOne, aP, aR, aA, aT, aCall, aCallVal, aev, regAt_set, aput_mk, aput_none, plainV, aNilCheck, aExtract, aBin, aInt, Addr.add, Nat.zero_add, ends_some, Nat.reduceLT, Nat.reduceAdd, if_true, then_normal, Nat.reduceEqDiff, if_false, reduceIte, reduceCtorEq, decide_true, decide_false, Bool.not_true, Bool.not_false, beq_self_eq_true, beq_tf, beq_ft, aPick, List.map_cons, List.map_nil, List.nil_append, List.append_nil, List.getElem?_cons_zero, List.getElem?_cons_succ, aBuiltin, aLen, Tryz.underlying47, cast_nat, fa49_0, ld47, hB.c0, e0]
  refine code_cond_true ?_ ?_
  · simp only [aev, regAt_set, Nat.reduceEqDiff, reduceIte]
  refine code_seq ?_
  refine code_region ?_ ?_
  · rfl
  simp only [run1, aOne, aP, aR, aA, aT, aCall, aCallVal, aev, regAt_set, aput_mk, aput_none, plainV, aNilCheck, aExtract, aBin, aInt, Addr.add, Nat.zero_add, ends_some, Nat.reduceLT, Nat.reduceAdd, if_true, then_normal, Nat.reduceEqDiff, if_false, reduceIte, reduceCtorEq, decide_true, decide_false, Bool.not_true, Bool.not_false, beq_self_eq_true, beq_tf, beq_ft, aPick, List.map_cons, List.map_nil, List.nil_append, List.append_nil, List.getElem?_cons_zero, List.getElem?_cons_succ]
  refine code_ret ?_
  refine ⟨rfl, _, ?_, rfl, rfl⟩
  simp only [aResults, Tryz.results10, aRes, regAt_set, Nat.reduceEqDiff, reduceIte]

set_option maxHeartbeats 4000000 in
theorem top_some {g bb nodes c d sb : Nat} {da : Value} {μ : Mem} (hg : 20 ≤ g) (hB : Bd μ bb (.slice (some ⟨sb, 0, none⟩) (d + 1) c) nodes da) (hd : d < 100000) :
    aFun Tryz.prog (aCode Tryz.prog X S0 g) 10 [.pointer (some ⟨bb, 0, none⟩)] μ = some (.pointer (some ⟨sb, d * 14, none⟩), ⟨μ.obs, μ.next + 12⟩) := by
  obtain ⟨k, rfl⟩ := Nat.exists_eq_add_of_le' hg
  refine ends_eq ?_
  have e0 : ieq (.ofNat (d + 1)) 0 = false := (ieq_nat (d + 1) 0).trans (decide_eq_false (by omega))
  have hc : ∀ y, cellsAt ⟨μ.obs, y⟩ bb 0 = some (.slice (some ⟨sb, 0, none⟩) (d + 1) c) := fun y => hB.c0
  have a1 : qwrap .i64 (Int.sub (.ofNat (d + 1)) 1) = .ofNat d := sub_nat (d + 1) 1 (by omega) (by omega)
  have hi : ∀ (r : Rg) (a b : Operand), aev Tryz.prog r a = .slice (some ⟨sb, 0, none⟩) (d + 1) c → aev Tryz.prog r b = .int .i64 (.ofNat d) → aIndexAddr Tryz.prog (aev Tryz.prog r) 47 a b = some (.pointer (some ⟨sb, d * 14, none⟩)) := fun r a b g1 g2 => by
    rw [indexAddr_sz (P := Tryz.prog) Tryz.underlying47 i56 g1 g2 (by omega), Nat.zero_add]
    rfl
  refine fun_enter Tryz.func10 rfl rfl (Nat.le_of_ble_eq_true rfl) ?_
  simp only [T.lay, Nat.zero_add, Tryz.ntmps10, Nat.reduceAdd]
  refine code_seq ?_
  refine code_region ?_ ?_
  · rfl
  simp only [run1, aOne, aP, aR, aA, aT, aCall, aCallVal, aev, regAt_set, aput_mk, aput_none, plainV, aNilCheck, aExtract, aBin, aInt, Addr.add, Nat.zero_add, ends_some, Nat.reduceLT, Nat.reduceAdd, if_true, then_normal, Nat.reduceEqDiff, if_false, reduceIte, reduceCtorEq, decide_true, decide_false, Bool.not_true, Bool.not_false, beq_self_eq_true, beq_tf, beq_ft, aPick, List.map_cons, List.map_nil, List.nil_append, List.append_nil, List.getElem?_cons_zero, List.getElem?_cons_succ]
  refine code_seq ?_
  refine code_seq ?_
  refine code_region ?_ ?_
  · rfl
  simp only [run1, aOne, aP, aR, aA, aT, aCall, aCallVal, aev, regAt_set, aput_mk, aput_none, plainV, aNilCheck, aExtract, aBin, aInt, Addr.add, Nat.zero_add, ends_some, Nat.reduceLT, Nat.reduceAdd, if_true, then_normal, Nat.reduceEqDiff, if_false, reduceIte, reduceCtorEq, decide_true, decide_false, Bool.not_true, Bool.not_false, beq_self_eq_true, beq_tf, beq_ft, aPick, List.map_cons, List.map_nil, List.nil_append, List.append_nil, List.getElem?_cons_zero, List.getElem?_cons_succ, aBuiltin, aLen, Tryz.underlying47, cast_nat, fa49_0, ld47, hB.c0, e0]
  refine code_cond_false ?_ ?_
  · simp only [aev, regAt_set, Nat.reduceEqDiff, reduceIte]
  refine code_skip ?_
  simp only [then_normal]
  refine code_seq ?_
  refine code_draw (n := 12) (ms := [0, 1, 3, 7, 0, 16, 48, 112, 240, 496, 1023, 2047]) (ord := [0, 1, 2, 3, 4, 5, 6, 7, 8, 9, 10, 11]) (ds := ?_) ?_ ?_ ?_ ?_ ?_ ?_
  rotate_left
  · kernel_rfl
  · kernel_rfl
  · kernel_rfl
  · rfl
  · rfl
  simp only [dRun, wanted, aDrawOne, heavy, aReads, bef, aOne, aP, aR, aA, aT, aCall, aCallVal, aev, regAt_set, aput_mk, aput_none, plainV, aNilCheck, aExtract, aBin, aInt, Addr.add, Nat.zero_add, ends_some, Nat.reduceLT, Nat.reduceAdd, if_true, then_normal, Nat.reduceEqDiff, if_false, reduceIte, reduceCtorEq, decide_true, decide_false, Bool.not_true, Bool.not_false, beq_self_eq_true, beq_tf, beq_ft, aPick, List.map_cons, List.map_nil, List.nil_append, List.append_nil, List.getElem?_cons_zero, List.getElem?_cons_succ, endsD_some, eqVal_self, aBuiltin, aLen, Tryz.underlying47, cast_nat, fa49_0, Nat.add_zero, ld47, hc, a1, hi]
  refine code_ret ?_
  refine ⟨rfl, _, ?_, rfl, rfl⟩
  simp only [aResults, Tryz.results10, aRes, regAt_set, Nat.reduceEqDiff, reduceIte]

theorem pl_eq {r : Rg} {x : Operand} {dst : Option Nat} {ty : TypeId} {pos : String} {af : Array Edge} {gd : Option (Nat × Bool)} (hx : aev Tryz.prog r x = .pointer none) : aPlain Tryz.prog (aev Tryz.prog r) ⟨dst, .binOp .eql 57 x (.const (.pointer none)) 57, ty, pos, af, gd⟩ = some (.bool true) := by
  unfold aPlain
  simp only [opsOf, plains, hx, execOp]
  kernel_rfl
theorem pl_ne {r : Rg} {x : Operand} {dst : Option Nat} {ty : TypeId} {pos : String} {af : Array Edge} {gd : Option (Nat × Bool)} (hx : aev Tryz.prog r x = .pointer none) : aPlain Tryz.prog (aev Tryz.prog r) ⟨dst, .binOp .neq 57 x (.const (.pointer none)) 57, ty, pos, af, gd⟩ = some (.bool false) := by
  unfold aPlain
  simp only [opsOf, plains, hx, execOp]
  kernel_rfl

/-- where a stack stands -/
def Top (μ : Mem) (st : Value) (d : Nat) : Prop := (d = 0 ∧ ∃ a c, st = .slice a 0 c) ∨ ∃ e sb c, d = e + 1 ∧ st = .slice (some ⟨sb, 0, none⟩) (e + 1) c ∧ cellsAt μ sb (e * 14 + 13) = some (.bool false)

set_option maxHeartbeats 4000000 in
theorem starts_nil {g bb nodes n c : Nat} {a : Option Addr} {da : Value} {ob : Bool} {μ : Mem} (hg : 60 ≤ g) (hB : Bd μ bb (.slice a 0 c) nodes da) (hn : nodes + n ≤ 3000) :
    EndsF (aFun Tryz.prog (aCode Tryz.prog X S0 g) 21 [.pointer (some ⟨bb, 0, none⟩), .int .i64 (.ofNat n), .bool ob] μ) fun v μ' => v = .int .i64 0 ∧ Bd μ' bb (.slice a 0 c) (nodes + n) da ∧ Turns μ μ' bb := by
  obtain ⟨k, rfl⟩ := Nat.exists_eq_add_of_le' hg
  have ht := top_nil (X := X) (g := k + 56) (by omega) hB
  have a1 : qwrap .i64 (Int.add (.ofNat nodes) (.ofNat n)) = .ofNat (nodes + n) := add_nat nodes n (by omega)
  have hst := store_put (P := Tryz.prog) (t := 3) (v := .int .i64 (.ofNat (nodes + n))) i3 rfl rfl hB.blk (show 1 < 3 by decide)
  have hB2 := hB.put1 (n' := nodes + n)
  have hT := Turns.put μ bb 1 [.int .i64 (.ofNat (nodes + n))]
  obtain ⟨μ2, hμ2⟩ : ∃ m : Mem, m = putL μ bb 1 [.int .i64 (.ofNat (nodes + n))] := ⟨_, rfl⟩
  rw [← hμ2] at hst hB2 hT
  have e1 : ilt 3000 (.ofNat (nodes + n)) = false := (ilt_nat 3000 _).trans (decide_eq_false (by omega))
  have e2 : ilt (.ofNat 0) 60 = true := rfl
  refine fun_enter Tryz.func21 rfl rfl (Nat.le_of_ble_eq_true rfl) ?_
  simp only [T.lay, Nat.zero_add, Tryz.ntmps21, Nat.reduceAdd]
  refine code_seq ?_
  refine code_region ?_ ?_
  · rfl
  simp only [run1, aOne, aP, aR, aA, aT, aCall, aCallVal, aev, regAt_set, aput_mk, aput_none, plainV, aNilCheck, aExtract, aBin, aInt, Addr.add, Nat.zero_add, ends_some, Nat.reduceLT, Nat.reduceAdd, if_true, then_normal, Nat.reduceEqDiff, if_false, reduceIte, reduceCtorEq, decide_true, decide_false, Bool.not_true, Bool.not_false, beq_self_eq_true, beq_tf, beq_ft, aPick, List.map_cons, List.map_nil, List.nil_append, List.append_nil, List.getElem?_cons_zero, List.getElem?_cons_succ]
  refine code_seq ?_
  refine code_seq ?_
  refine code_region ?_ ?_
  · rfl
  simp only [run1, aOne, aP, aR, aA, aT, aCall, aCallVal, aev, regAt_set, aput_mk, aput_none, plainV, aNilCheck, aExtract, aBin, aInt, Addr.add, Nat.zero_add, ends_some, Nat.reduceLT, Nat.reduceAdd, if_true, then_normal, Nat.reduceEqDiff, if_false, reduceIte, reduceCtorEq, decide_true, decide_false, Bool.not_true, Bool.not_false, beq_self_eq_true, beq_tf, beq_ft, aPick, List.map_cons, List.map_nil, List.nil_append, List.append_nil, List.getElem?_cons_zero, List.getElem?_cons_succ, go_call (P := Tryz.prog) (X := X) (S := S0) Tryz.func10 rfl rfl, ht]
  refine code_seq ?_
  refine code_guards (gs := ?_) ?_ ?_
  rotate_left
  · rfl
  iterate 3 (refine run2_true (by first | rfl | (simp only [wanted, aOne, aP, aR, aA, aT, aCall, aCallVal, aev, regAt_set, aput_mk, aput_none, plainV, aNilCheck, aExtract, aBin, aInt, Addr.add, Nat.zero_add, ends_some, Nat.reduceLT, Nat.reduceAdd, if_true, then_normal, Nat.reduceEqDiff, if_false, reduceIte, reduceCtorEq, decide_true, decide_false, Bool.not_true, Bool.not_false, beq_self_eq_true, beq_tf, beq_ft, aPick, List.map_cons, List.map_nil, List.nil_append, List.append_nil, List.getElem?_cons_zero, List.getElem?_cons_succ, aNil, Tryz.underlying57, pl_ne])) (by simp only [aOne, aP, aR, aA, aT, aCall, aCallVal, aev, regAt_set, aput_mk, aput_none, plainV, aNilCheck, aExtract, aBin, aInt, Addr.add, Nat.zero_add, ends_some, Nat.reduceLT, Nat.reduceAdd, if_true, then_normal, Nat.reduceEqDiff, if_false, reduceIte, reduceCtorEq, decide_true, decide_false, Bool.not_true, Bool.not_false, beq_self_eq_true, beq_tf, beq_ft, aPick, List.map_cons, List.map_nil, List.nil_append, List.append_nil, List.getElem?_cons_zero, List.getElem?_cons_succ, aNil, Tryz.underlying57, pl_ne]; try exact rfl) rfl ?_)
  iterate 4 (refine run2_false (by simp only [wanted, aOne, aP, aR, aA, aT, aCall, aCallVal, aev, regAt_set, aput_mk, aput_none, plainV, aNilCheck, aExtract, aBin, aInt, Addr.add, Nat.zero_add, ends_some, Nat.reduceLT, Nat.reduceAdd, if_true, then_normal, Nat.reduceEqDiff, if_false, reduceIte, reduceCtorEq, decide_true, decide_false, Bool.not_true, Bool.not_false, beq_self_eq_true, beq_tf, beq_ft, aPick, List.map_cons, List.map_nil, List.nil_append, List.append_nil, List.getElem?_cons_zero, List.getElem?_cons_succ, aNil, Tryz.underlying57, pl_ne]) rfl ?_)
  refine run2_true (by first | rfl | (simp only [wanted, aOne, aP, aR, aA, aT, aCall, aCallVal, aev, regAt_set, aput_mk, aput_none, plainV, aNilCheck, aExtract, aBin, aInt, Addr.add, Nat.zero_add, ends_some, Nat.reduceLT, Nat.reduceAdd, if_true, then_normal, Nat.reduceEqDiff, if_false, reduceIte, reduceCtorEq, decide_true, decide_false, Bool.not_true, Bool.not_false, beq_self_eq_true, beq_tf, beq_ft, aPick, List.map_cons, List.map_nil, List.nil_append, List.append_nil, List.getElem?_cons_zero, List.getElem?_cons_succ, aNil, Tryz.underlying57, pl_ne])) (by simp only [aOne, aP, aR, aA, aT, aCall, aCallVal, aev, regAt_set, aput_mk, aput_none, plainV, aNilCheck, aExtract, aBin, aInt, Addr.add, Nat.zero_add, ends_some, Nat.reduceLT, Nat.reduceAdd, if_true, then_normal, Nat.reduceEqDiff, if_false, reduceIte, reduceCtorEq, decide_true, decide_false, Bool.not_true, Bool.not_false, beq_self_eq_true, beq_tf, beq_ft, aPick, List.map_cons, List.map_nil, List.nil_append, List.append_nil, List.getElem?_cons_zero, List.getElem?_cons_succ, aNil, Tryz.underlying57, pl_ne]; try exact rfl) rfl ?_
  simp only [run2, ends_some, then_normal]
  refine code_cond_false ?_ ?_
  · simp only [aev, regAt_set, Nat.reduceEqDiff, reduceIte]
  refine code_skip ?_
  simp only [then_normal]
  refine code_seq ?_
  refine code_seq ?_
  cases ob with
  | false =>
    refine code_guards (gs := ?_) ?_ ?_
    rotate_left
    · rfl
    iterate 2 (refine run2_true (by first | rfl | (simp only [wanted, aOne, aP, aR, aA, aT, aCall, aCallVal, aev, regAt_set, aput_mk, aput_none, plainV, aNilCheck, aExtract, aBin, aInt, Addr.add, Nat.zero_add, ends_some, Nat.reduceLT, Nat.reduceAdd, if_true, then_normal, Nat.reduceEqDiff, if_false, reduceIte, reduceCtorEq, decide_true, decide_false, Bool.not_true, Bool.not_false, beq_self_eq_true, beq_tf, beq_ft, aPick, List.map_cons, List.map_nil, List.nil_append, List.append_nil, List.getElem?_cons_zero, List.getElem?_cons_succ, aBuiltin, aLen, Tryz.underlying47, cast_nat, fa49_0, ld47, hB.c0, e2])) (by simp only [aOne, aP, aR, aA, aT, aCall, aCallVal, aev, regAt_set, aput_mk, aput_none, plainV, aNilCheck, aExtract, aBin, aInt, Addr.add, Nat.zero_add, ends_some, Nat.reduceLT, Nat.reduceAdd, if_true, then_normal, Nat.reduceEqDiff, if_false, reduceIte, reduceCtorEq, decide_true, decide_false, Bool.not_true, Bool.not_false, beq_self_eq_true, beq_tf, beq_ft, aPick, List.map_cons, List.map_nil, List.nil_append, List.append_nil, List.getElem?_cons_zero, List.getElem?_cons_succ, aBuiltin, aLen, Tryz.underlying47, cast_nat, fa49_0, ld47, hB.c0, e2]; try exact rfl) rfl ?_)
    iterate 6 (refine run2_false (by simp only [wanted, aOne, aP, aR, aA, aT, aCall, aCallVal, aev, regAt_set, aput_mk, aput_none, plainV, aNilCheck, aExtract, aBin, aInt, Addr.add, Nat.zero_add, ends_some, Nat.reduceLT, Nat.reduceAdd, if_true, then_normal, Nat.reduceEqDiff, if_false, reduceIte, reduceCtorEq, decide_true, decide_false, Bool.not_true, Bool.not_false, beq_self_eq_true, beq_tf, beq_ft, aPick, List.map_cons, List.map_nil, List.nil_append, List.append_nil, List.getElem?_cons_zero, List.getElem?_cons_succ, aBuiltin, aLen, Tryz.underlying47, cast_nat, fa49_0, ld47, hB.c0, e2]) rfl ?_)
    refine run2_true (by first | rfl | (simp only [wanted, aOne, aP, aR, aA, aT, aCall, aCallVal, aev, regAt_set, aput_mk, aput_none, plainV, aNilCheck, aExtract, aBin, aInt, Addr.add, Nat.zero_add, ends_some, Nat.reduceLT, Nat.reduceAdd, if_true, then_normal, Nat.reduceEqDiff, if_false, reduceIte, reduceCtorEq, decide_true, decide_false, Bool.not_true, Bool.not_false, beq_self_eq_true, beq_tf, beq_ft, aPick, List.map_cons, List.map_nil, List.nil_append, List.append_nil, List.getElem?_cons_zero, List.getElem?_cons_succ, aBuiltin, aLen, Tryz.underlying47, cast_nat, fa49_0, ld47, hB.c0, e2])) (by simp only [aOne, aP, aR, aA, aT, aCall, aCallVal, aev, regAt_set, aput_mk, aput_none, plainV, aNilCheck, aExtract, aBin, aInt, Addr.add, Nat.zero_add, ends_some, Nat.reduceLT, Nat.reduceAdd, if_true, then_normal, Nat.reduceEqDiff, if_false, reduceIte, reduceCtorEq, decide_true, decide_false, Bool.not_true, Bool.not_false, beq_self_eq_true, beq_tf, beq_ft, aPick, List.map_cons, List.map_nil, List.nil_append, List.append_nil, List.getElem?_cons_zero, List.getElem?_cons_succ, aBuiltin, aLen, Tryz.underlying47, cast_nat, fa49_0, ld47, hB.c0, e2]; try exact rfl) rfl ?_
    simp only [run2, ends_some, then_normal]
    refine code_cond_false ?_ ?_
    · simp only [aev, regAt_set, Nat.reduceEqDiff, reduceIte]
    refine code_skip ?_
    simp only [then_normal]
    refine code_seq ?_
    refine code_region ?_ ?_
    · rfl
    simp only [run1, aOne, aP, aR, aA, aT, aCall, aCallVal, aev, regAt_set, aput_mk, aput_none, plainV, aNilCheck, aExtract, aBin, aInt, Addr.add, Nat.zero_add, ends_some, Nat.reduceLT, Nat.reduceAdd, if_true, then_normal, Nat.reduceEqDiff, if_false, reduceIte, reduceCtorEq, decide_true, decide_false, Bool.not_true, Bool.not_false, beq_self_eq_true, beq_tf, beq_ft, aPick, List.map_cons, List.map_nil, List.nil_append, List.append_nil, List.getElem?_cons_zero, List.getElem?_cons_succ, fa49_1, ld3, hB.c1, a1, hst]
    refine code_seq ?_
    refine code_seq ?_
    refine code_region ?_ ?_
    · rfl
    simp only [run1, aOne, aP, aR, aA, aT, aCall, aCallVal, aev, regAt_set, aput_mk, aput_none, plainV, aNilCheck, aExtract, aBin, aInt, Addr.add, Nat.zero_add, ends_some, Nat.reduceLT, Nat.reduceAdd, if_true, then_normal, Nat.reduceEqDiff, if_false, reduceIte, reduceCtorEq, decide_true, decide_false, Bool.not_true, Bool.not_false, beq_self_eq_true, beq_tf, beq_ft, aPick, List.map_cons, List.map_nil, List.nil_append, List.append_nil, List.getElem?_cons_zero, List.getElem?_cons_succ, fa49_1, ld3, hB2.c1, e1]
    refine code_cond_false ?_ ?_
    · simp only [aev, regAt_set, Nat.reduceEqDiff, reduceIte]
    refine code_skip ?_
    simp only [then_normal]
    refine code_seq ?_
    refine code_region ?_ ?_
    · rfl
    simp only [run1, aOne, aP, aR, aA, aT, aCall, aCallVal, aev, regAt_set, aput_mk, aput_none, plainV, aNilCheck, aExtract, aBin, aInt, Addr.add, Nat.zero_add, ends_some, Nat.reduceLT, Nat.reduceAdd, if_true, then_normal, Nat.reduceEqDiff, if_false, reduceIte, reduceCtorEq, decide_true, decide_false, Bool.not_true, Bool.not_false, beq_self_eq_true, beq_tf, beq_ft, aPick, List.map_cons, List.map_nil, List.nil_append, List.append_nil, List.getElem?_cons_zero, List.getElem?_cons_succ]
    refine code_ret ?_
    refine ⟨rfl, _, ?_, rfl, hB2, hT⟩
    simp only [aResults, Tryz.results21, aRes, regAt_set, Nat.reduceEqDiff, reduceIte]
  | true =>
    refine code_guards (gs := ?_) ?_ ?_
    rotate_left
    · rfl
    iterate 9 (refine run2_true (by first | rfl | (simp only [wanted, aOne, aP, aR, aA, aT, aCall, aCallVal, aev, regAt_set, aput_mk, aput_none, plainV, aNilCheck, aExtract, aBin, aInt, Addr.add, Nat.zero_add, ends_some, Nat.reduceLT, Nat.reduceAdd, if_true, then_normal, Nat.reduceEqDiff, if_false, reduceIte, reduceCtorEq, decide_true, decide_false, Bool.not_true, Bool.not_false, beq_self_eq_true, beq_tf, beq_ft, aPick, List.map_cons, List.map_nil, List.nil_append, List.append_nil, List.getElem?_cons_zero, List.getElem?_cons_succ, aBuiltin, aLen, Tryz.underlying47, cast_nat, fa49_0, ld47, hB.c0, e2])) (by simp only [aOne, aP, aR, aA, aT, aCall, aCallVal, aev, regAt_set, aput_mk, aput_none, plainV, aNilCheck, aExtract, aBin, aInt, Addr.add, Nat.zero_add, ends_some, Nat.reduceLT, Nat.reduceAdd, if_true, then_normal, Nat.reduceEqDiff, if_false, reduceIte, reduceCtorEq, decide_true, decide_false, Bool.not_true, Bool.not_false, beq_self_eq_true, beq_tf, beq_ft, aPick, List.map_cons, List.map_nil, List.nil_append, List.append_nil, List.getElem?_cons_zero, List.getElem?_cons_succ, aBuiltin, aLen, Tryz.underlying47, cast_nat, fa49_0, ld47, hB.c0, e2]; try exact rfl) rfl ?_)
    simp only [run2, ends_some, then_normal]
    refine code_cond_false ?_ ?_
    · simp only [aev, regAt_set, Nat.reduceEqDiff, reduceIte]
    refine code_skip ?_
    simp only [then_normal]
    refine code_seq ?_
    refine code_region ?_ ?_
    · rfl
    simp only [run1, aOne, aP, aR, aA, aT, aCall, aCallVal, aev, regAt_set, aput_mk, aput_none, plainV, aNilCheck, aExtract, aBin, aInt, Addr.add, Nat.zero_add, ends_some, Nat.reduceLT, Nat.reduceAdd, if_true, then_normal, Nat.reduceEqDiff, if_false, reduceIte, reduceCtorEq, decide_true, decide_false, Bool.not_true, Bool.not_false, beq_self_eq_true, beq_tf, beq_ft, aPick, List.map_cons, List.map_nil, List.nil_append, List.append_nil, List.getElem?_cons_zero, List.getElem?_cons_succ, fa49_1, ld3, hB.c1, a1, hst]
    refine code_seq ?_
    refine code_seq ?_
    refine code_region ?_ ?_
    · rfl
    simp only [run1, aOne, aP, aR, aA, aT, aCall, aCallVal, aev, regAt_set, aput_mk, aput_none, plainV, aNilCheck, aExtract, aBin, aInt, Addr.add, Nat.zero_add, ends_some, Nat.reduceLT, Nat.reduceAdd, if_true, then_normal, Nat.reduceEqDiff, if_false, reduceIte, reduceCtorEq, decide_true, decide_false, Bool.not_true, Bool.not_false, beq_self_eq_true, beq_tf, beq_ft, aPick, List.map_cons, List.map_nil, List.nil_append, List.append_nil, List.getElem?_cons_zero, List.getElem?_cons_succ, fa49_1, ld3, hB2.c1, e1]
    refine code_cond_false ?_ ?_
    · simp only [aev, regAt_set, Nat.reduceEqDiff, reduceIte]
    refine code_skip ?_
    simp only [then_normal]
    refine code_seq ?_
    refine code_region ?_ ?_
    · rfl
    simp only [run1, aOne, aP, aR, aA, aT, aCall, aCallVal, aev, regAt_set, aput_mk, aput_none, plainV, aNilCheck, aExtract, aBin, aInt, Addr.add, Nat.zero_add, ends_some, Nat.reduceLT, Nat.reduceAdd, if_true, then_normal, Nat.reduceEqDiff, if_false, reduceIte, reduceCtorEq, decide_true, decide_false, Bool.not_true, Bool.not_false, beq_self_eq_true, beq_tf, beq_ft, aPick, List.map_cons, List.map_nil, List.nil_append, List.append_nil, List.getElem?_cons_zero, List.getElem?_cons_succ]
    refine code_ret ?_
    refine ⟨rfl, _, ?_, rfl, hB2, hT⟩
    simp only [aResults, Tryz.results21, aRes, regAt_set, Nat.reduceEqDiff, reduceIte]

set_option maxHeartbeats 4000000 in
theorem starts_some {g bb nodes n c e sb : Nat} {da : Value} {ob : Bool} {μ : Mem} (hg : 60 ≤ g) (hB : Bd μ bb (.slice (some ⟨sb, 0, none⟩) (e + 1) c) nodes da) (htl : cellsAt μ sb (e * 14 + 13) = some (.bool false)) (he : e < 100000) (hn : nodes + n ≤ 3000) (ho : ob = false ∨ e + 1 < 60) :
    EndsF (aFun Tryz.prog (aCode Tryz.prog X S0 g) 21 [.pointer (some ⟨bb, 0, none⟩), .int .i64 (.ofNat n), .bool ob] μ) fun v μ' => v = .int .i64 0 ∧ Bd μ' bb (.slice (some ⟨sb, 0, none⟩) (e + 1) c) (nodes + n) da ∧ Turns μ μ' bb := by
  obtain ⟨k, rfl⟩ := Nat.exists_eq_add_of_le' hg
  have ht := top_some (X := X) (g := k + 56) (by omega) hB he
  have hBu : Bd ⟨μ.obs, μ.next + 12⟩ bb (.slice (some ⟨sb, 0, none⟩) (e + 1) c) nodes da := hB.grow (grow_up μ 12)
  have a1 : qwrap .i64 (Int.add (.ofNat nodes) (.ofNat n)) = .ofNat (nodes + n) := add_nat nodes n (by omega)
  have hst := store_put (P := Tryz.prog) (t := 3) (v := .int .i64 (.ofNat (nodes + n))) i3 rfl rfl hBu.blk (show 1 < 3 by decide)
  have hB2 := hBu.put1 (n' := nodes + n)
  have hT := (Turns.grow (grow_up μ 12)).trans (Turns.put ⟨μ.obs, μ.next + 12⟩ bb 1 [.int .i64 (.ofNat (nodes + n))])
  obtain ⟨μ2, hμ2⟩ : ∃ m : Mem, m = putL ⟨μ.obs, μ.next + 12⟩ bb 1 [.int .i64 (.ofNat (nodes + n))] := ⟨_, rfl⟩
  rw [← hμ2] at hst hB2 hT
  have hc0 : cellsAt ⟨μ.obs, μ.next + 12⟩ bb 0 = some (.slice (some ⟨sb, 0, none⟩) (e + 1) c) := hB.c0
  have hc1 : cellsAt ⟨μ.obs, μ.next + 12⟩ bb 1 = some (.int .i64 (.ofNat nodes)) := hB.c1
  have htl' : cellsAt ⟨μ.obs, μ.next + 12⟩ sb (e * 14 + 13) = some (.bool false) := htl
  have e1 : ilt 3000 (.ofNat (nodes + n)) = false := (ilt_nat 3000 _).trans (decide_eq_false (by omega))
  refine fun_enter Tryz.func21 rfl rfl (Nat.le_of_ble_eq_true rfl) ?_
  simp only [T.lay, Nat.zero_add, Tryz.ntmps21, Nat.reduceAdd]
  refine code_seq ?_
  refine code_region ?_ ?_
  · rfl
  simp only [run1, aOne, aP, aR, aA, aT, aCall, aCallVal, aev, regAt_set, aput_mk, aput_none, plainV, aNilCheck, aExtract, aBin, aInt, Addr.add, Nat.zero_add, ends_some, Nat.reduceLT, Nat.reduceAdd, if_true, then_normal, Nat.reduceEqDiff, if_false, reduceIte, reduceCtorEq, decide_true, decide_false, Bool.not_true, Bool.not_false, beq_self_eq_true, beq_tf, beq_ft, aPick, List.map_cons, List.map_nil, List.nil_append, List.append_nil, List.getElem?_cons_zero, List.getElem?_cons_succ]
  refine code_seq ?_
  refine code_seq ?_
  refine code_region ?_ ?_
  · rfl
  simp only [run1, aOne, aP, aR, aA, aT, aCall, aCallVal, aev, regAt_set, aput_mk, aput_none, plainV, aNilCheck, aExtract, aBin, aInt, Addr.add, Nat.zero_add, ends_some, Nat.reduceLT, Nat.reduceAdd, if_true, then_normal, Nat.reduceEqDiff, if_false, reduceIte, reduceCtorEq, decide_true, decide_false, Bool.not_true, Bool.not_false, beq_self_eq_true, beq_tf, beq_ft, aPick, List.map_cons, List.map_nil, List.nil_append, List.append_nil, List.getElem?_cons_zero, List.getElem?_cons_succ, go_call (P := Tryz.prog) (X := X) (S := S0) Tryz.func10 rfl rfl, ht]
  refine code_seq ?_
  refine code_guards (gs := ?_) ?_ ?_
  rotate_left
  · rfl
  iterate 8 (refine run2_true (by first | rfl | (simp only [wanted, aOne, aP, aR, aA, aT, aCall, aCallVal, aev, regAt_set, aput_mk, aput_none, plainV, aNilCheck, aExtract, aBin, aInt, Addr.add, Nat.zero_add, ends_some, Nat.reduceLT, Nat.reduceAdd, if_true, then_normal, Nat.reduceEqDiff, if_false, reduceIte, reduceCtorEq, decide_true, decide_false, Bool.not_true, Bool.not_false, beq_self_eq_true, beq_tf, beq_ft, aPick, List.map_cons, List.map_nil, List.nil_append, List.append_nil, List.getElem?_cons_zero, List.getElem?_cons_succ, aNil, Tryz.underlying57, fa56_3, ld4, htl'])) (by simp only [aOne, aP, aR, aA, aT, aCall, aCallVal, aev, regAt_set, aput_mk, aput_none, plainV, aNilCheck, aExtract, aBin, aInt, Addr.add, Nat.zero_add, ends_some, Nat.reduceLT, Nat.reduceAdd, if_true, then_normal, Nat.reduceEqDiff, if_false, reduceIte, reduceCtorEq, decide_true, decide_false, Bool.not_true, Bool.not_false, beq_self_eq_true, beq_tf, beq_ft, aPick, List.map_cons, List.map_nil, List.nil_append, List.append_nil, List.getElem?_cons_zero, List.getElem?_cons_succ, aNil, Tryz.underlying57, fa56_3, ld4, htl']; try exact rfl) rfl ?_)
  simp only [run2, ends_some, then_normal]
  refine code_cond_false ?_ ?_
  · simp only [aev, regAt_set, Nat.reduceEqDiff, reduceIte]
  refine code_skip ?_
  simp only [then_normal]
  refine code_seq ?_
  refine code_seq ?_
  cases ob with
  | false =>
    refine code_guards (gs := ?_) ?_ ?_
    rotate_left
    · rfl
    iterate 2 (refine run2_true (by first | rfl | (simp only [wanted, aOne, aP, aR, aA, aT, aCall, aCallVal, aev, regAt_set, aput_mk, aput_none, plainV, aNilCheck, aExtract, aBin, aInt, Addr.add, Nat.zero_add, ends_some, Nat.reduceLT, Nat.reduceAdd, if_true, then_normal, Nat.reduceEqDiff, if_false, reduceIte, reduceCtorEq, decide_true, decide_false, Bool.not_true, Bool.not_false, beq_self_eq_true, beq_tf, beq_ft, aPick, List.map_cons, List.map_nil, List.nil_append, List.append_nil, List.getElem?_cons_zero, List.getElem?_cons_succ])) (by simp only [aOne, aP, aR, aA, aT, aCall, aCallVal, aev, regAt_set, aput_mk, aput_none, plainV, aNilCheck, aExtract, aBin, aInt, Addr.add, Nat.zero_add, ends_some, Nat.reduceLT, Nat.reduceAdd, if_true, then_normal, Nat.reduceEqDiff, if_false, reduceIte, reduceCtorEq, decide_true, decide_false, Bool.not_true, Bool.not_false, beq_self_eq_true, beq_tf, beq_ft, aPick, List.map_cons, List.map_nil, List.nil_append, List.append_nil, List.getElem?_cons_zero, List.getElem?_cons_succ]; try exact rfl) rfl ?_)
    iterate 6 (refine run2_false (by simp only [wanted, aOne, aP, aR, aA, aT, aCall, aCallVal, aev, regAt_set, aput_mk, aput_none, plainV, aNilCheck, aExtract, aBin, aInt, Addr.add, Nat.zero_add, ends_some, Nat.reduceLT, Nat.reduceAdd, if_true, then_normal, Nat.reduceEqDiff, if_false, reduceIte, reduceCtorEq, decide_true, decide_false, Bool.not_true, Bool.not_false, beq_self_eq_true, beq_tf, beq_ft, aPick, List.map_cons, List.map_nil, List.nil_append, List.append_nil, List.getElem?_cons_zero, List.getElem?_cons_succ]) rfl ?_)
    refine run2_true (by first | rfl | (simp only [wanted, aOne, aP, aR, aA, aT, aCall, aCallVal, aev, regAt_set, aput_mk, aput_none, plainV, aNilCheck, aExtract, aBin, aInt, Addr.add, Nat.zero_add, ends_some, Nat.reduceLT, Nat.reduceAdd, if_true, then_normal, Nat.reduceEqDiff, if_false, reduceIte, reduceCtorEq, decide_true, decide_false, Bool.not_true, Bool.not_false, beq_self_eq_true, beq_tf, beq_ft, aPick, List.map_cons, List.map_nil, List.nil_append, List.append_nil, List.getElem?_cons_zero, List.getElem?_cons_succ])) (by simp only [aOne, aP, aR, aA, aT, aCall, aCallVal, aev, regAt_set, aput_mk, aput_none, plainV, aNilCheck, aExtract, aBin, aInt, Addr.add, Nat.zero_add, ends_some, Nat.reduceLT, Nat.reduceAdd, if_true, then_normal, Nat.reduceEqDiff, if_false, reduceIte, reduceCtorEq, decide_true, decide_false, Bool.not_true, Bool.not_false, beq_self_eq_true, beq_tf, beq_ft, aPick, List.map_cons, List.map_nil, List.nil_append, List.append_nil, List.getElem?_cons_zero, List.getElem?_cons_succ]; try exact rfl) rfl ?_
    simp only [run2, ends_some, then_normal]
    refine code_cond_false ?_ ?_
    · simp only [aev, regAt_set, Nat.reduceEqDiff, reduceIte]
    refine code_skip ?_
    simp only [then_normal]
    refine code_seq ?_
    refine code_region ?_ ?_
    · rfl
    simp only [run1, aOne, aP, aR, aA, aT, aCall, aCallVal, aev, regAt_set, aput_mk, aput_none, plainV, aNilCheck, aExtract, aBin, aInt, Addr.add, Nat.zero_add, ends_some, Nat.reduceLT, Nat.reduceAdd, if_true, then_normal, Nat.reduceEqDiff, if_false, reduceIte, reduceCtorEq, decide_true, decide_false, Bool.not_true, Bool.not_false, beq_self_eq_true, beq_tf, beq_ft, aPick, List.map_cons, List.map_nil, List.nil_append, List.append_nil, List.getElem?_cons_zero, List.getElem?_cons_succ, fa49_1, ld3, hc1, a1, hst]
    refine code_seq ?_
    refine code_seq ?_
    refine code_region ?_ ?_
    · rfl
    simp only [run1, aOne, aP, aR, aA, aT, aCall, aCallVal, aev, regAt_set, aput_mk, aput_none, plainV, aNilCheck, aExtract, aBin, aInt, Addr.add, Nat.zero_add, ends_some, Nat.reduceLT, Nat.reduceAdd, if_true, then_normal, Nat.reduceEqDiff, if_false, reduceIte, reduceCtorEq, decide_true, decide_false, Bool.not_true, Bool.not_false, beq_self_eq_true, beq_tf, beq_ft, aPick, List.map_cons, List.map_nil, List.nil_append, List.append_nil, List.getElem?_cons_zero, List.getElem?_cons_succ, fa49_1, ld3, hB2.c1, e1]
    refine code_cond_false ?_ ?_
    · simp only [aev, regAt_set, Nat.reduceEqDiff, reduceIte]
    refine code_skip ?_
    simp only [then_normal]
    refine code_seq ?_
    refine code_region ?_ ?_
    · rfl
    simp only [run1, aOne, aP, aR, aA, aT, aCall, aCallVal, aev, regAt_set, aput_mk, aput_none, plainV, aNilCheck, aExtract, aBin, aInt, Addr.add, Nat.zero_add, ends_some, Nat.reduceLT, Nat.reduceAdd, if_true, then_normal, Nat.reduceEqDiff, if_false, reduceIte, reduceCtorEq, decide_true, decide_false, Bool.not_true, Bool.not_false, beq_self_eq_true, beq_tf, beq_ft, aPick, List.map_cons, List.map_nil, List.nil_append, List.append_nil, List.getElem?_cons_zero, List.getElem?_cons_succ]
    refine code_ret ?_
    refine ⟨rfl, _, ?_, rfl, hB2, hT⟩
    simp only [aResults, Tryz.results21, aRes, regAt_set, Nat.reduceEqDiff, reduceIte]
  | true =>
    have e2 : ilt (.ofNat (e + 1)) 60 = true := (ilt_nat (e + 1) 60).trans (decide_eq_true (ho.resolve_left (by simp)))
    refine code_guards (gs := ?_) ?_ ?_
    rotate_left
    · rfl
    iterate 9 (refine run2_true (by first | rfl | (simp only [wanted, aOne, aP, aR, aA, aT, aCall, aCallVal, aev, regAt_set, aput_mk, aput_none, plainV, aNilCheck, aExtract, aBin, aInt, Addr.add, Nat.zero_add, ends_some, Nat.reduceLT, Nat.reduceAdd, if_true, then_normal, Nat.reduceEqDiff, if_false, reduceIte, reduceCtorEq, decide_true, decide_false, Bool.not_true, Bool.not_false, beq_self_eq_true, beq_tf, beq_ft, aPick, List.map_cons, List.map_nil, List.nil_append, List.append_nil, List.getElem?_cons_zero, List.getElem?_cons_succ, aBuiltin, aLen, Tryz.underlying47, cast_nat, fa49_0, ld47, hc0, e2])) (by simp only [aOne, aP, aR, aA, aT, aCall, aCallVal, aev, regAt_set, aput_mk, aput_none, plainV, aNilCheck, aExtract, aBin, aInt, Addr.add, Nat.zero_add, ends_some, Nat.reduceLT, Nat.reduceAdd, if_true, then_normal, Nat.reduceEqDiff, if_false, reduceIte, reduceCtorEq, decide_true, decide_false, Bool.not_true, Bool.not_false, beq_self_eq_true, beq_tf, beq_ft, aPick, List.map_cons, List.map_nil, List.nil_append, List.append_nil, List.getElem?_cons_zero, List.getElem?_cons_succ, aBuiltin, aLen, Tryz.underlying47, cast_nat, fa49_0, ld47, hc0, e2]; try exact rfl) rfl ?_)
    simp only [run2, ends_some, then_normal]
    refine code_cond_false ?_ ?_
    · simp only [aev, regAt_set, Nat.reduceEqDiff, reduceIte]
    refine code_skip ?_
    simp only [then_normal]
    refine code_seq ?_
    refine code_region ?_ ?_
    · rfl
    simp only [run1, aOne, aP, aR, aA, aT, aCall, aCallVal, aev, regAt_set, aput_mk, aput_none, plainV, aNilCheck, aExtract, aBin, aInt, Addr.add, Nat.zero_add, ends_some, Nat.reduceLT, Nat.reduceAdd, if_true, then_normal, Nat.reduceEqDiff, if_false, reduceIte, reduceCtorEq, decide_true, decide_false, Bool.not_true, Bool.not_false, beq_self_eq_true, beq_tf, beq_ft, aPick, List.map_cons, List.map_nil, List.nil_append, List.append_nil, List.getElem?_cons_zero, List.getElem?_cons_succ, fa49_1, ld3, hc1, a1, hst]
    refine code_seq ?_
    refine code_seq ?_
    refine code_region ?_ ?_
    · rfl
    simp only [run1, aOne, aP, aR, aA, aT, aCall, aCallVal, aev, regAt_set, aput_mk, aput_none, plainV, aNilCheck, aExtract, aBin, aInt, Addr.add, Nat.zero_add, ends_some, Nat.reduceLT, Nat.reduceAdd, if_true, then_normal, Nat.reduceEqDiff, if_false, reduceIte, reduceCtorEq, decide_true, decide_false, Bool.not_true, Bool.not_false, beq_self_eq_true, beq_tf, beq_ft, aPick, List.map_cons, List.map_nil, List.nil_append, List.append_nil, List.getElem?_cons_zero, List.getElem?_cons_succ, fa49_1, ld3, hB2.c1, e1]
    refine code_cond_false ?_ ?_
    · simp only [aev, regAt_set, Nat.reduceEqDiff, reduceIte]
    refine code_skip ?_
    simp only [then_normal]
    refine code_seq ?_
    refine code_region ?_ ?_
    · rfl
    simp only [run1, aOne, aP, aR, aA, aT, aCall, aCallVal, aev, regAt_set, aput_mk, aput_none, plainV, aNilCheck, aExtract, aBin, aInt, Addr.add, Nat.zero_add, ends_some, Nat.reduceLT, Nat.reduceAdd, if_true, then_normal, Nat.reduceEqDiff, if_false, reduceIte, reduceCtorEq, decide_true, decide_false, Bool.not_true, Bool.not_false, beq_self_eq_true, beq_tf, beq_ft, aPick, List.map_cons, List.map_nil, List.nil_append, List.append_nil, List.getElem?_cons_zero, List.getElem?_cons_succ]
    refine code_ret ?_
    refine ⟨rfl, _, ?_, rfl, hB2, hT⟩
    simp only [aResults, Tryz.results21, aRes, regAt_set, Nat.reduceEqDiff, reduceIte]

set_option maxHeartbeats 4000000 in
theorem starts_deep {g bb nodes n c e sb : Nat} {da : Value} {μ : Mem} (hg : 60 ≤ g) (hB : Bd μ bb (.slice (some ⟨sb, 0, none⟩) (e + 1) c) nodes da) (htl : cellsAt μ sb (e * 14 + 13) = some (.bool false)) (he : e < 100000) (ho : 60 ≤ e + 1) :
    EndsF (aFun Tryz.prog (aCode Tryz.prog X S0 g) 21 [.pointer (some ⟨bb, 0, none⟩), .int .i64 (.ofNat n), .bool true] μ) fun v μ' => v = .int .i64 64 ∧ μ' = ⟨μ.obs, μ.next + 12⟩ := by
  obtain ⟨k, rfl⟩ := Nat.exists_eq_add_of_le' hg
  have ht := top_some (X := X) (g := k + 56) (by omega) hB he
  have hc0 : cellsAt ⟨μ.obs, μ.next + 12⟩ bb 0 = some (.slice (some ⟨sb, 0, none⟩) (e + 1) c) := hB.c0
  have htl' : cellsAt ⟨μ.obs, μ.next + 12⟩ sb (e * 14 + 13) = some (.bool false) := htl
  have e2 : ilt (.ofNat (e + 1)) 60 = false := (ilt_nat (e + 1) 60).trans (decide_eq_false (by omega))
  refine fun_enter Tryz.func21 rfl rfl (Nat.le_of_ble_eq_true rfl) ?_
  simp only [T.lay, Nat.zero_add, Tryz.ntmps21, Nat.reduceAdd]
  refine code_seq ?_
  refine code_region ?_ ?_
  · rfl
  simp only [run1, aOne, aP, aR, aA, aT, aCall, aCallVal, aev, regAt_set, aput_mk, aput_none, plainV, aNilCheck, aExtract, aBin, aInt, Addr.add, Nat.zero_add, ends_some, Nat.reduceLT, Nat.reduceAdd, if_true, then_normal, Nat.reduceEqDiff, if_false, reduceIte, reduceCtorEq, decide_true, decide_false, Bool.not_true, Bool.not_false, beq_self_eq_true, beq_tf, beq_ft, aPick, List.map_cons, List.map_nil, List.nil_append, List.append_nil, List.getElem?_cons_zero, List.getElem?_cons_succ]
  refine code_seq ?_
  refine code_seq ?_
  refine code_region ?_ ?_
  · rfl
  simp only [run1, aOne, aP, aR, aA, aT, aCall, aCallVal, aev, regAt_set, aput_mk, aput_none, plainV, aNilCheck, aExtract, aBin, aInt, Addr.add, Nat.zero_add, ends_some, Nat.reduceLT, Nat.reduceAdd, if_true, then_normal, Nat.reduceEqDiff, if_false, reduceIte, reduceCtorEq, decide_true, decide_false, Bool.not_true, Bool.not_false, beq_self_eq_true, beq_tf, beq_ft, aPick, List.map_cons, List.map_nil, List.nil_append, List.append_nil, List.getElem?_cons_zero, List.getElem?_cons_succ, go_call (P := Tryz.prog) (X := X) (S := S0) Tryz.func10 rfl rfl, ht]
  refine code_seq ?_
  refine code_guards (gs := ?_) ?_ ?_
  rotate_left
  · rfl
  iterate 8 (refine run2_true (by first | rfl | (simp only [wanted, aOne, aP, aR, aA, aT, aCall, aCallVal, aev, regAt_set, aput_mk, aput_none, plainV, aNilCheck, aExtract, aBin, aInt, Addr.add, Nat.zero_add, ends_some, Nat.reduceLT, Nat.reduceAdd, if_true, then_normal, Nat.reduceEqDiff, if_false, reduceIte, reduceCtorEq, decide_true, decide_false, Bool.not_true, Bool.not_false, beq_self_eq_true, beq_tf, beq_ft, aPick, List.map_cons, List.map_nil, List.nil_append, List.append_nil, List.getElem?_cons_zero, List.getElem?_cons_succ, aNil, Tryz.underlying57, fa56_3, ld4, htl'])) (by simp only [aOne, aP, aR, aA, aT, aCall, aCallVal, aev, regAt_set, aput_mk, aput_none, plainV, aNilCheck, aExtract, aBin, aInt, Addr.add, Nat.zero_add, ends_some, Nat.reduceLT, Nat.reduceAdd, if_true, then_normal, Nat.reduceEqDiff, if_false, reduceIte, reduceCtorEq, decide_true, decide_false, Bool.not_true, Bool.not_false, beq_self_eq_true, beq_tf, beq_ft, aPick, List.map_cons, List.map_nil, List.nil_append, List.append_nil, List.getElem?_cons_zero, List.getElem?_cons_succ, aNil, Tryz.underlying57, fa56_3, ld4, htl']; try exact rfl) rfl ?_)
  simp only [run2, ends_some, then_normal]
  refine code_cond_false ?_ ?_
  · simp only [aev, regAt_set, Nat.reduceEqDiff, reduceIte]
  refine code_skip ?_
  simp only [then_normal]
  refine code_seq ?_
  refine code_seq ?_
  refine code_guards (gs := ?_) ?_ ?_
  rotate_left
  · rfl
  iterate 9 (refine run2_true (by first | rfl | (simp only [wanted, aOne, aP, aR, aA, aT, aCall, aCallVal, aev, regAt_set, aput_mk, aput_none, plainV, aNilCheck, aExtract, aBin, aInt, Addr.add, Nat.zero_add, ends_some, Nat.reduceLT, Nat.reduceAdd, if_true, then_normal, Nat.reduceEqDiff, if_false, reduceIte, reduceCtorEq, decide_true, decide_false, Bool.not_true, Bool.not_false, beq_self_eq_true, beq_tf, beq_ft, aPick, List.map_cons, List.map_nil, List.nil_append, List.append_nil, List.getElem?_cons_zero, List.getElem?_cons_succ, aBuiltin, aLen, Tryz.underlying47, cast_nat, fa49_0, ld47, hc0, e2])) (by simp only [aOne, aP, aR, aA, aT, aCall, aCallVal, aev, regAt_set, aput_mk, aput_none, plainV, aNilCheck, aExtract, aBin, aInt, Addr.add, Nat.zero_add, ends_some, Nat.reduceLT, Nat.reduceAdd, if_true, then_normal, Nat.reduceEqDiff, if_false, reduceIte, reduceCtorEq, decide_true, decide_false, Bool.not_true, Bool.not_false, beq_self_eq_true, beq_tf, beq_ft, aPick, List.map_cons, List.map_nil, List.nil_append, List.append_nil, List.getElem?_cons_zero, List.getElem?_cons_succ, aBuiltin, aLen, Tryz.underlying47, cast_nat, fa49_0, ld47, hc0, e2]; try exact rfl) rfl ?_)
  simp only [run2, ends_some, then_normal]
  refine code_cond_true ?_ ?_
  · simp only [aev, regAt_set, Nat.reduceEqDiff, reduceIte]
  refine code_seq ?_
  refine code_region ?_ ?_
  · rfl
  simp only [run1, aOne, aP, aR, aA, aT, aCall, aCallVal, aev, regAt_set, aput_mk, aput_none, plainV, aNilCheck, aExtract, aBin, aInt, Addr.add, Nat.zero_add, ends_some, Nat.reduceLT, Nat.reduceAdd, if_true, then_normal, Nat.reduceEqDiff, if_false, reduceIte, reduceCtorEq, decide_true, decide_false, Bool.not_true, Bool.not_false, beq_self_eq_true, beq_tf, beq_ft, aPick, List.map_cons, List.map_nil, List.nil_append, List.append_nil, List.getElem?_cons_zero, List.getElem?_cons_succ]
  refine code_ret ?_
  refine ⟨rfl, _, ?_, rfl, rfl⟩
  simp only [aResults, Tryz.results21, aRes, regAt_set, Nat.reduceEqDiff, reduceIte]
end

noncomputable section
variable {X : FuncId → List Value → Mem → Option (Value × Mem)}

/-- the last one's tail is empty -/
def NoTail (d : Nat) (xs : List Value) : Prop := ∀ e, d = e + 1 → xs[e * 14 + 13]? = some (.bool false)

theorem starts_any {g bb nodes n d : Nat} {st da : Value} {xs : List Value} {μ : Mem} (hg : 60 ≤ g) (hB : Bd μ bb st nodes da) (hW : GoodW μ 56 14 st d xs) (hT : NoTail d xs) (hn : nodes + n ≤ 3000) (hd : d < 1000) :
    ∃ e n' μ', aFun Tryz.prog (aCode Tryz.prog X S0 g) 21 [.pointer (some ⟨bb, 0, none⟩), .int .i64 (.ofNat n), .bool true] μ = some (.int .i64 (.ofNat e), μ') ∧ Bd μ' bb st n' da ∧ Turns μ μ' bb ∧ (d < 60 → e = 0 ∧ n' = nodes + n) ∧ (60 ≤ d → e = 64) := by
  obtain ⟨hl, ⟨rfl, rfl⟩ | ⟨i, m, z, ov, fx, sh, rfl, hob, hm, hc⟩⟩ := hW
  · obtain ⟨v, μ', h1, rfl, h2, h3⟩ := starts_nil (X := X) (ob := true) hg hB hn
    exact ⟨0, _, μ', h1, h2, h3, fun _ => ⟨rfl, rfl⟩, fun h => by omega⟩
  · cases d with
    | zero =>
      obtain ⟨v, μ', h1, rfl, h2, h3⟩ := starts_nil (X := X) (ob := true) hg hB hn
      exact ⟨0, _, μ', h1, h2, h3, fun _ => ⟨rfl, rfl⟩, fun h => by omega⟩
    | succ e =>
      have htl : cellsAt μ i (e * 14 + 13) = some (.bool false) := by
        have h1 := hT e rfl
        obtain ⟨h2, h3⟩ := List.getElem?_eq_some_iff.1 h1
        have h4 := hc (e * 14 + 13) h2
        unfold cellsAt
        rw [hob]
        show (if e * 14 + 13 < m then _ else _) = _
        rw [if_pos (by omega), h4, h3]
      by_cases h60 : e + 1 < 60
      · obtain ⟨v, μ', h1, rfl, h2, h3⟩ := starts_some (X := X) (ob := true) hg hB htl (by omega) hn (.inr h60)
        exact ⟨0, _, μ', h1, h2, h3, fun _ => ⟨rfl, rfl⟩, fun h => by omega⟩
      · obtain ⟨v, μ', h1, rfl, h2⟩ := starts_deep (X := X) (n := n) hg hB htl (by omega) (by omega)
        subst h2
        exact ⟨64, _, _, h1, hB.grow (grow_up μ 12), Turns.grow (grow_up μ 12), fun h => absurd h h60, fun _ => rfl⟩

theorem z56 : aZeroOf Tryz.prog 56 = some (.agg (opn 0 0 [] (.slice none 0 0) false).toArray) := by unfold aZeroOf; rw [i56]; rfl
theorem bd56 (ρ : Operand → Value) (a : Operand) (k p : Nat) (tx : List UInt8) (h1 : ρ a = .agg (tok k p tx dat0).toArray) : aBuild Tryz.prog ρ 56 #[(0, a)] = some (.agg (opn k p tx (.slice none 0 0) false).toArray) := by
  refine build_struct (pl := [(0, 11), (11, 1), (12, 1), (13, 1)]) z56 Tryz.underlying56 (by kernel_rfl) ?_
  show aFill _ (opn 0 0 [] (.slice none 0 0) false) [(0, ρ a)] = some (opn k p tx (.slice none 0 0) false)
  rw [h1]
  rfl
theorem bs47 (ρ : Operand → Value) (a : Operand) (l : List Value) (h1 : ρ a = .agg l.toArray) (hl : l.length = 14) : aBuildSlice Tryz.prog ρ 47 1 #[(0, a)] = some (.cells 14 56 l.toArray .e 0 0 false false, fun id => .slice (some ⟨id, 0, none⟩) 1 2) := by
  match l, hl with
  | [a0, a1, a2, a3, a4, a5, a6, a7, a8, a9, a10, a11, a12, a13], _ =>
    unfold aBuildSlice
    simp only [Tryz.underlying47, i56, z56]
    show (match aFill _ _ [(0, ρ a)] with | some cs => _ | none => _) = _
    rw [h1]
    rfl

theorem opn_len (k p : Nat) (tx : List UInt8) (it : Value) (tl : Bool) : (opn k p tx it tl).length = 14 := rfl
theorem opn_one (k p : Nat) (tx : List UInt8) {it : Value} (tl : Bool) (h : one it = true) : (opn k p tx it tl).all one = true := by
  show (true && (true && (true && (true && (true && (true && (true && (true && (true && (true && (true && (one it && (true && (true && true)))))))))))))) = true
  rw [h]; rfl

set_option maxHeartbeats 8000000 in
theorem take_open {g bb nodes d k p nk : Nat} {tx : List UInt8} {st da : Value} {xs : List Value} {μ : Mem} (hg : 100 ≤ g) (hk : (k = 1 ∧ nk = 1) ∨ (k = 2 ∧ nk = 1) ∨ (k = 4 ∧ nk = 2)) (hB : Bd μ bb st nodes da) (hW : GoodW μ 56 14 st d xs) (hT : NoTail d xs) (hd : d < 1000) (hn : nodes + nk ≤ 3000) (hsb : ∀ i o c, st = .slice (some ⟨i, 0, none⟩) o c → i ≠ bb ∧ i < μ.next) :
    ∃ e n' sb μ', aFun Tryz.prog (aCode Tryz.prog X S0 g) 9 [.pointer (some ⟨bb, 0, none⟩), .agg (tok k p tx dat0).toArray] μ = some (.int .i64 (.ofNat e), μ') ∧
      Bd μ' bb (.slice (some ⟨sb, 0, none⟩) (d + 1) 29) n' da ∧ GoodW μ' 56 14 (.slice (some ⟨sb, 0, none⟩) (d + 1) 29) (d + 1) (xs ++ opn k p tx (.slice none 0 0) false) ∧ μ.next ≤ sb ∧ sb < μ'.next ∧ μ.next ≤ μ'.next ∧
      (∀ i, i < μ.next → i ≠ bb → (∀ o c, st ≠ .slice (some ⟨i, 0, none⟩) o c) → μ'.obs.get i = μ.obs.get i) ∧ (d < 60 → e = 0 ∧ n' = nodes + nk) ∧ (60 ≤ d → e = 64) := by
  obtain ⟨g0, rfl⟩ := Nat.exists_eq_add_of_le' hg
  -- the token
  have hga := grow1 μ (.cells 11 51 (tok k p tx dat0).toArray .e 0 0 false false)
  obtain ⟨μa, hμa⟩ : ∃ m : Mem, m = ⟨μ.obs.set μ.next (.cells 11 51 (tok k p tx dat0).toArray .e 0 0 false false), μ.next + 1⟩ := ⟨_, rfl⟩
  rw [← hμa] at hga
  have hμa' : (⟨μ.obs.set μ.next (.cells (tok k p tx dat0).length 51 (tok k p tx dat0).toArray .e 0 0 false false), Nat.add μ.next 1⟩ : Mem) = μa := hμa.symm
  have hna : μa.next = μ.next + 1 := by rw [hμa]
  have hta : Has μa μ.next 0 (tok k p tx dat0) := Has.new (t := 51) (fx := false) (sh := false) (by rw [hμa]; show T.get _ _ = _; rw [T.get_set, if_pos rfl]; rfl)
  have hka : cellsAt μa μ.next 0 = some (.int .i64 (.ofNat k)) := hta.cell 0 (Nat.zero_lt_succ _)
  have hBa := hB.grow hga
  have hWa : GoodW μa 56 14 st d xs := by
    obtain ⟨h1, h2 | ⟨i, m, z, ov, fx, sh, h3, h4, h5⟩⟩ := hW
    · exact ⟨h1, .inl h2⟩
    · exact ⟨h1, .inr ⟨i, m, z, ov, fx, sh, h3, (hga.2 i (hsb i _ _ h3).2).trans h4, h5⟩⟩
  obtain ⟨e, n', μb, hs, hBb, hTb, he1, he2⟩ := starts_any (X := X) (g := g0 + 94) (n := nk) (by omega) hBa hWa hT hn hd
  have hnb := hTb.1
  have hbbn : bb < μ.next := hB.n
  have hWb : GoodW ⟨μb.obs.set (Nat.add μb.next 7) (.cells 14 56 (opn k p tx (.slice none 0 0) false).toArray .e 0 0 false false), μb.next + 12⟩ 56 14 st d xs := by
    obtain ⟨h1, h2 | ⟨i, m, z, ov, fx, sh, h3, h4, h5⟩⟩ := hWa
    · exact ⟨h1, .inl h2⟩
    · have h6 := hsb i _ _ h3
      refine ⟨h1, .inr ⟨i, m, z, ov, fx, sh, h3, ?_, h5⟩⟩
      show T.get _ i = _
      rw [T.get_set, if_neg (by show ¬ i = μb.next + 7; omega)]
      exact (hTb.2 i (by omega) h6.1).trans h4
  have htb : Has μb μ.next 0 (tok k p tx dat0) := hta.keep (hTb.2 _ (by omega) (by omega))
  have hlt : ∀ y, aLoad Tryz.prog ⟨μb.obs, y⟩ 51 (.pointer (some ⟨μ.next, 0, none⟩)) = some (.agg (tok k p tx dat0).toArray) := fun y => lds51 (show Has ⟨μb.obs, y⟩ μ.next 0 (tok k p tx dat0) from htb) rfl
  have hkb : cellsAt μb μ.next 0 = some (.int .i64 (.ofNat k)) := htb.cell 0 (Nat.zero_lt_succ _)
  obtain ⟨μc, hap, hWc, hnc, _, hkc⟩ := append_wide (P := Tryz.prog) (st := 47) (e := 56) (s := 14) Tryz.underlying47 i56 rfl (by decide) (by decide) rfl z56 rfl (q := Nat.add μb.next 7) (l := opn k p tx (.slice none 0 0) false) hWb (by show T.get _ _ = _; rw [T.get_set, if_pos rfl]) rfl (by omega) (scalars_one _ (opn_one k p tx false rfl))
  have hnc : μc.next = μb.next + 12 + 1 := hnc
  have hap : aAppend Tryz.prog ⟨μb.obs.set (Nat.add μb.next 7) (.cells 14 56 (opn k p tx (.slice none 0 0) false).toArray .e 0 0 false false), μb.next + 12⟩ 47 47 st (.slice (some ⟨Nat.add μb.next 7, 0, none⟩) 1 2) = some (.slice (some ⟨μb.next + 12, 0, none⟩) (d + 1) 29, μc) := hap
  have hWc : GoodW μc 56 14 (.slice (some ⟨μb.next + 12, 0, none⟩) (d + 1) 29) (d + 1) (xs ++ opn k p tx (.slice none 0 0) false) := hWc
  have hgc : ∀ i, i < μb.next → (∀ o c, st ≠ .slice (some ⟨i, 0, none⟩) o c) → μc.obs.get i = μb.obs.get i := fun i hi hne => by
    rw [hkc i (by show i ≠ μb.next + 12; omega) hne]
    show T.get _ i = _
    rw [T.get_set, if_neg (by show ¬ i = μb.next + 7; omega)]
  have hBc : Bd μc bb st n' da := hBb.of_get (hgc bb (by omega) (fun o c h => (hsb bb o c h).1 rfl)) (by omega)
  have hst := store_put (P := Tryz.prog) (t := 47) (v := .slice (some ⟨μb.next + 12, 0, none⟩) (d + 1) 29) i47 rfl rfl hBc.blk (show 0 < 3 by decide)
  have hBd := hBc.put0 (st' := .slice (some ⟨μb.next + 12, 0, none⟩) (d + 1) 29)
  obtain ⟨μd, hμd⟩ : ∃ m : Mem, m = putL μc bb 0 [.slice (some ⟨μb.next + 12, 0, none⟩) (d + 1) 29] := ⟨_, rfl⟩
  rw [← hμd] at hst hBd
  have hnd : μd.next = μc.next := by rw [hμd, putL_next]
  have hWd : GoodW μd 56 14 (.slice (some ⟨μb.next + 12, 0, none⟩) (d + 1) 29) (d + 1) (xs ++ opn k p tx (.slice none 0 0) false) := by
    obtain ⟨h1, ⟨h2, _⟩ | ⟨i, m, z, ov, fx, sh, h3, h4, h5⟩⟩ := hWc
    · cases h2
    · refine ⟨h1, .inr ⟨i, m, z, ov, fx, sh, h3, ?_, h5⟩⟩
      rw [hμd, putL_get _ _ _ _ (by injection h3 with h3; injection h3 with h3; injection h3 with h3; omega)]
      exact h4
  have hc0 : ∀ y, cellsAt ⟨μb.obs, y⟩ bb 0 = some st := fun y => hBb.c0
  have hbd : ∀ (r : Rg) (a : Operand), aev Tryz.prog r a = .agg (tok k p tx dat0).toArray → aBuild Tryz.prog (aev Tryz.prog r) 56 #[(0, a)] = some (.agg (opn k p tx (.slice none 0 0) false).toArray) := fun r a h => bd56 _ _ k p tx h
  have hbs : ∀ (r : Rg) (a : Operand), aev Tryz.prog r a = .agg (opn k p tx (.slice none 0 0) false).toArray → aBuildSlice Tryz.prog (aev Tryz.prog r) 47 1 #[(0, a)] = some (.cells 14 56 (opn k p tx (.slice none 0 0) false).toArray .e 0 0 false false, fun id => .slice (some ⟨id, 0, none⟩) 1 2) := fun r a h => bs47 _ _ _ h rfl
  have q3 : ieq (.ofNat k) 3 = false := (ieq_nat k 3).trans (decide_eq_false (by omega))
  have q5 : ieq (.ofNat k) 5 = false := (ieq_nat k 5).trans (decide_eq_false (by omega))
  have q6 : ieq (.ofNat k) 6 = false := (ieq_nat k 6).trans (decide_eq_false (by omega))
  have fin : EndsF (aFun Tryz.prog (aCode Tryz.prog X S0 (g0 + 100)) 9 [.pointer (some ⟨bb, 0, none⟩), .agg (tok k p tx dat0).toArray] μ) fun v μ' => v = .int .i64 (.ofNat e) ∧ μ' = μd := by
    refine fun_enter Tryz.func9 rfl rfl (Nat.le_of_ble_eq_true rfl) ?_
    simp only [T.lay, Nat.zero_add, Tryz.ntmps9, Nat.reduceAdd]
    refine code_seq ?_
    refine code_region ?_ ?_
    · rfl
    simp only [run1, aOne, aP, aR, aA, aT, aCall, aCallVal, aev, regAt_set, aput_mk, aput_none, plainV, aNilCheck, aExtract, aBin, aInt, Addr.add, Nat.zero_add, ends_some, Nat.reduceLT, Nat.reduceAdd, if_true, then_normal, Nat.reduceEqDiff, if_false, reduceIte, reduceCtorEq, decide_true, decide_false, Bool.not_true, Bool.not_false, beq_self_eq_true, beq_tf, beq_ft, aPick, List.map_cons, List.map_nil, List.nil_append, List.append_nil, List.getElem?_cons_zero, List.getElem?_cons_succ, box_agg, hμa']
    refine code_seq ?_
    refine code_seq ?_
    refine code_region ?_ ?_
    · rfl
    simp only [run1, aOne, aP, aR, aA, aT, aCall, aCallVal, aev, regAt_set, aput_mk, aput_none, plainV, aNilCheck, aExtract, aBin, aInt, Addr.add, Nat.zero_add, ends_some, Nat.reduceLT, Nat.reduceAdd, if_true, then_normal, Nat.reduceEqDiff, if_false, reduceIte, reduceCtorEq, decide_true, decide_false, Bool.not_true, Bool.not_false, beq_self_eq_true, beq_tf, beq_ft, aPick, List.map_cons, List.map_nil, List.nil_append, List.append_nil, List.getElem?_cons_zero, List.getElem?_cons_succ, fa51_0, ld3, hka]
    refine code_block ?_
    refine code_seq ?_
    refine code_region ?_ ?_
    · rfl
    simp only [run1, aOne, aP, aR, aA, aT, aCall, aCallVal, aev, regAt_set, aput_mk, aput_none, plainV, aNilCheck, aExtract, aBin, aInt, Addr.add, Nat.zero_add, ends_some, Nat.reduceLT, Nat.reduceAdd, if_true, then_normal, Nat.reduceEqDiff, if_false, reduceIte, reduceCtorEq, decide_true, decide_false, Bool.not_true, Bool.not_false, beq_self_eq_true, beq_tf, beq_ft, aPick, List.map_cons, List.map_nil, List.nil_append, List.append_nil, List.getElem?_cons_zero, List.getElem?_cons_succ, q3]
    refine code_cond_false ?_ ?_
    · simp only [aev, regAt_set, Nat.reduceEqDiff, reduceIte]
    refine code_seq ?_
    refine code_region ?_ ?_
    · rfl
    simp only [run1, aOne, aP, aR, aA, aT, aCall, aCallVal, aev, regAt_set, aput_mk, aput_none, plainV, aNilCheck, aExtract, aBin, aInt, Addr.add, Nat.zero_add, ends_some, Nat.reduceLT, Nat.reduceAdd, if_true, then_normal, Nat.reduceEqDiff, if_false, reduceIte, reduceCtorEq, decide_true, decide_false, Bool.not_true, Bool.not_false, beq_self_eq_true, beq_tf, beq_ft, aPick, List.map_cons, List.map_nil, List.nil_append, List.append_nil, List.getElem?_cons_zero, List.getElem?_cons_succ, q5]
    refine code_cond_false ?_ ?_
    · simp only [aev, regAt_set, Nat.reduceEqDiff, reduceIte]
    refine code_seq ?_
    refine code_region ?_ ?_
    · rfl
    simp only [run1, aOne, aP, aR, aA, aT, aCall, aCallVal, aev, regAt_set, aput_mk, aput_none, plainV, aNilCheck, aExtract, aBin, aInt, Addr.add, Nat.zero_add, ends_some, Nat.reduceLT, Nat.reduceAdd, if_true, then_normal, Nat.reduceEqDiff, if_false, reduceIte, reduceCtorEq, decide_true, decide_false, Bool.not_true, Bool.not_false, beq_self_eq_true, beq_tf, beq_ft, aPick, List.map_cons, List.map_nil, List.nil_append, List.append_nil, List.getElem?_cons_zero, List.getElem?_cons_succ, q6]
    refine code_cond_false ?_ ?_
    · simp only [aev, regAt_set, Nat.reduceEqDiff, reduceIte]
    refine code_skip ?_
    simp only [blockC, then_normal]
    refine code_seq ?_
    refine code_region ?_ ?_
    · rfl
    simp only [run1, aOne, aP, aR, aA, aT, aCall, aCallVal, aev, regAt_set, aput_mk, aput_none, plainV, aNilCheck, aExtract, aBin, aInt, Addr.add, Nat.zero_add, ends_some, Nat.reduceLT, Nat.reduceAdd, if_true, then_normal, Nat.reduceEqDiff, if_false, reduceIte, reduceCtorEq, decide_true, decide_false, Bool.not_true, Bool.not_false, beq_self_eq_true, beq_tf, beq_ft, aPick, List.map_cons, List.map_nil, List.nil_append, List.append_nil, List.getElem?_cons_zero, List.getElem?_cons_succ]
    refine code_seq ?_
    rcases hk with ⟨rfl, rfl⟩ | ⟨rfl, rfl⟩ | ⟨rfl, rfl⟩
    · have hs : aFun Tryz.prog (aCode Tryz.prog X S0 (g0 + 94)) 21 [.pointer (some ⟨bb, 0, none⟩), .int .i64 1, .bool true] μa = some (.int .i64 (.ofNat e), μb) := hs
      have q4 : ieq (.ofNat 1) 4 = false := rfl
      refine code_seq ?_
      refine code_region ?_ ?_
      · rfl
      simp only [run1, aOne, aP, aR, aA, aT, aCall, aCallVal, aev, regAt_set, aput_mk, aput_none, plainV, aNilCheck, aExtract, aBin, aInt, Addr.add, Nat.zero_add, ends_some, Nat.reduceLT, Nat.reduceAdd, if_true, then_normal, Nat.reduceEqDiff, if_false, reduceIte, reduceCtorEq, decide_true, decide_false, Bool.not_true, Bool.not_false, beq_self_eq_true, beq_tf, beq_ft, aPick, List.map_cons, List.map_nil, List.nil_append, List.append_nil, List.getElem?_cons_zero, List.getElem?_cons_succ, fa51_0, ld3, hka, q4]
      refine code_cond_false ?_ ?_
      · simp only [aev, regAt_set, Nat.reduceEqDiff, reduceIte]
      refine code_skip ?_
      simp only [then_normal]
      refine code_seq ?_
      refine code_region ?_ ?_
      · rfl
      simp only [run1, aOne, aP, aR, aA, aT, aCall, aCallVal, aev, regAt_set, aput_mk, aput_none, plainV, aNilCheck, aExtract, aBin, aInt, Addr.add, Nat.zero_add, ends_some, Nat.reduceLT, Nat.reduceAdd, if_true, then_normal, Nat.reduceEqDiff, if_false, reduceIte, reduceCtorEq, decide_true, decide_false, Bool.not_true, Bool.not_false, beq_self_eq_true, beq_tf, beq_ft, aPick, List.map_cons, List.map_nil, List.nil_append, List.append_nil, List.getElem?_cons_zero, List.getElem?_cons_succ, go_call (P := Tryz.prog) (X := X) (S := S0) Tryz.func21 rfl rfl, hs]
      refine code_seq ?_
      refine code_draw (n := 12) (ms := [0, 0, 2, 6, 14, 0, 32, 96, 254, 511, 1023, 2047]) (ord := [1, 2, 3, 4, 5, 6, 7, 8, 0, 9, 10, 11]) (ds := ?_) ?_ ?_ ?_ ?_ ?_ ?_
      rotate_left
      · kernel_rfl
      · kernel_rfl
      · kernel_rfl
      · rfl
      · rfl
      iterate 12 (refine drun_true (by first | rfl | (simp only [wanted, aOne, aP, aR, aA, aT, aCall, aCallVal, aev, regAt_set, aput_mk, aput_none, plainV, aNilCheck, aExtract, aBin, aInt, Addr.add, Nat.zero_add, ends_some, Nat.reduceLT, Nat.reduceAdd, if_true, then_normal, Nat.reduceEqDiff, if_false, reduceIte, reduceCtorEq, decide_true, decide_false, Bool.not_true, Bool.not_false, beq_self_eq_true, beq_tf, beq_ft, aPick, List.map_cons, List.map_nil, List.nil_append, List.append_nil, List.getElem?_cons_zero, List.getElem?_cons_succ, fa49_0, Nat.add_zero, ld47, hc0, hlt, hbd, hbs, aBuiltin, hap, hst])) (by simp only [aDrawOne, heavy, aReads, eqVal_self, aOne, aP, aR, aA, aT, aCall, aCallVal, aev, regAt_set, aput_mk, aput_none, plainV, aNilCheck, aExtract, aBin, aInt, Addr.add, Nat.zero_add, ends_some, Nat.reduceLT, Nat.reduceAdd, if_true, then_normal, Nat.reduceEqDiff, if_false, reduceIte, reduceCtorEq, decide_true, decide_false, Bool.not_true, Bool.not_false, beq_self_eq_true, beq_tf, beq_ft, aPick, List.map_cons, List.map_nil, List.nil_append, List.append_nil, List.getElem?_cons_zero, List.getElem?_cons_succ, fa49_0, Nat.add_zero, ld47, hc0, hlt, hbd, hbs, aBuiltin, hap, hst]; try exact rfl) rfl ?_)
      simp only [dRun, endsD_some, then_normal]
      refine code_seq ?_
      refine code_region ?_ ?_
      · rfl
      simp only [run1, aOne, aP, aR, aA, aT, aCall, aCallVal, aev, regAt_set, aput_mk, aput_none, plainV, aNilCheck, aExtract, aBin, aInt, Addr.add, Nat.zero_add, ends_some, Nat.reduceLT, Nat.reduceAdd, if_true, then_normal, Nat.reduceEqDiff, if_false, reduceIte, reduceCtorEq, decide_true, decide_false, Bool.not_true, Bool.not_false, beq_self_eq_true, beq_tf, beq_ft, aPick, List.map_cons, List.map_nil, List.nil_append, List.append_nil, List.getElem?_cons_zero, List.getElem?_cons_succ]
      refine code_ret ?_
      refine ⟨rfl, _, ?_, rfl, rfl⟩
      simp only [aResults, Tryz.results9, aRes, regAt_set, Nat.reduceEqDiff, reduceIte]
    · have hs : aFun Tryz.prog (aCode Tryz.prog X S0 (g0 + 94)) 21 [.pointer (some ⟨bb, 0, none⟩), .int .i64 1, .bool true] μa = some (.int .i64 (.ofNat e), μb) := hs
      have q4 : ieq (.ofNat 2) 4 = false := rfl
      refine code_seq ?_
      refine code_region ?_ ?_
      · rfl
      simp only [run1, aOne, aP, aR, aA, aT, aCall, aCallVal, aev, regAt_set, aput_mk, aput_none, plainV, aNilCheck, aExtract, aBin, aInt, Addr.add, Nat.zero_add, ends_some, Nat.reduceLT, Nat.reduceAdd, if_true, then_normal, Nat.reduceEqDiff, if_false, reduceIte, reduceCtorEq, decide_true, decide_false, Bool.not_true, Bool.not_false, beq_self_eq_true, beq_tf, beq_ft, aPick, List.map_cons, List.map_nil, List.nil_append, List.append_nil, List.getElem?_cons_zero, List.getElem?_cons_succ, fa51_0, ld3, hka, q4]
      refine code_cond_false ?_ ?_
      · simp only [aev, regAt_set, Nat.reduceEqDiff, reduceIte]
      refine code_skip ?_
      simp only [then_normal]
      refine code_seq ?_
      refine code_region ?_ ?_
      · rfl
      simp only [run1, aOne, aP, aR, aA, aT, aCall, aCallVal, aev, regAt_set, aput_mk, aput_none, plainV, aNilCheck, aExtract, aBin, aInt, Addr.add, Nat.zero_add, ends_some, Nat.reduceLT, Nat.reduceAdd, if_true, then_normal, Nat.reduceEqDiff, if_false, reduceIte, reduceCtorEq, decide_true, decide_false, Bool.not_true, Bool.not_false, beq_self_eq_true, beq_tf, beq_ft, aPick, List.map_cons, List.map_nil, List.nil_append, List.append_nil, List.getElem?_cons_zero, List.getElem?_cons_succ, go_call (P := Tryz.prog) (X := X) (S := S0) Tryz.func21 rfl rfl, hs]
      refine code_seq ?_
      refine code_draw (n := 12) (ms := [0, 0, 2, 6, 14, 0, 32, 96, 254, 511, 1023, 2047]) (ord := [1, 2, 3, 4, 5, 6, 7, 8, 0, 9, 10, 11]) (ds := ?_) ?_ ?_ ?_ ?_ ?_ ?_
      rotate_left
      · kernel_rfl
      · kernel_rfl
      · kernel_rfl
      · rfl
      · rfl
      iterate 12 (refine drun_true (by first | rfl | (simp only [wanted, aOne, aP, aR, aA, aT, aCall, aCallVal, aev, regAt_set, aput_mk, aput_none, plainV, aNilCheck, aExtract, aBin, aInt, Addr.add, Nat.zero_add, ends_some, Nat.reduceLT, Nat.reduceAdd, if_true, then_normal, Nat.reduceEqDiff, if_false, reduceIte, reduceCtorEq, decide_true, decide_false, Bool.not_true, Bool.not_false, beq_self_eq_true, beq_tf, beq_ft, aPick, List.map_cons, List.map_nil, List.nil_append, List.append_nil, List.getElem?_cons_zero, List.getElem?_cons_succ, fa49_0, Nat.add_zero, ld47, hc0, hlt, hbd, hbs, aBuiltin, hap, hst])) (by simp only [aDrawOne, heavy, aReads, eqVal_self, aOne, aP, aR, aA, aT, aCall, aCallVal, aev, regAt_set, aput_mk, aput_none, plainV, aNilCheck, aExtract, aBin, aInt, Addr.add, Nat.zero_add, ends_some, Nat.reduceLT, Nat.reduceAdd, if_true, then_normal, Nat.reduceEqDiff, if_false, reduceIte, reduceCtorEq, decide_true, decide_false, Bool.not_true, Bool.not_false, beq_self_eq_true, beq_tf, beq_ft, aPick, List.map_cons, List.map_nil, List.nil_append, List.append_nil, List.getElem?_cons_zero, List.getElem?_cons_succ, fa49_0, Nat.add_zero, ld47, hc0, hlt, hbd, hbs, aBuiltin, hap, hst]; try exact rfl) rfl ?_)
      simp only [dRun, endsD_some, then_normal]
      refine code_seq ?_
      refine code_region ?_ ?_
      · rfl
      simp only [run1, aOne, aP, aR, aA, aT, aCall, aCallVal, aev, regAt_set, aput_mk, aput_none, plainV, aNilCheck, aExtract, aBin, aInt, Addr.add, Nat.zero_add, ends_some, Nat.reduceLT, Nat.reduceAdd, if_true, then_normal, Nat.reduceEqDiff, if_false, reduceIte, reduceCtorEq, decide_true, decide_false, Bool.not_true, Bool.not_false, beq_self_eq_true, beq_tf, beq_ft, aPick, List.map_cons, List.map_nil, List.nil_append, List.append_nil, List.getElem?_cons_zero, List.getElem?_cons_succ]
      refine code_ret ?_
      refine ⟨rfl, _, ?_, rfl, rfl⟩
      simp only [aResults, Tryz.results9, aRes, regAt_set, Nat.reduceEqDiff, reduceIte]
    · have hs : aFun Tryz.prog (aCode Tryz.prog X S0 (g0 + 94)) 21 [.pointer (some ⟨bb, 0, none⟩), .int .i64 2, .bool true] μa = some (.int .i64 (.ofNat e), μb) := hs
      have q4 : ieq (.ofNat 4) 4 = true := rfl
      refine code_seq ?_
      refine code_region ?_ ?_
      · rfl
      simp only [run1, aOne, aP, aR, aA, aT, aCall, aCallVal, aev, regAt_set, aput_mk, aput_none, plainV, aNilCheck, aExtract, aBin, aInt, Addr.add, Nat.zero_add, ends_some, Nat.reduceLT, Nat.reduceAdd, if_true, then_normal, Nat.reduceEqDiff, if_false, reduceIte, reduceCtorEq, decide_true, decide_false, Bool.not_true, Bool.not_false, beq_self_eq_true, beq_tf, beq_ft, aPick, List.map_cons, List.map_nil, List.nil_append, List.append_nil, List.getElem?_cons_zero, List.getElem?_cons_succ, fa51_0, ld3, hka, q4]
      refine code_cond_true ?_ ?_
      · simp only [aev, regAt_set, Nat.reduceEqDiff, reduceIte]
      refine code_region ?_ ?_
      · rfl
      simp only [run1, aOne, aP, aR, aA, aT, aCall, aCallVal, aev, regAt_set, aput_mk, aput_none, plainV, aNilCheck, aExtract, aBin, aInt, Addr.add, Nat.zero_add, ends_some, Nat.reduceLT, Nat.reduceAdd, if_true, then_normal, Nat.reduceEqDiff, if_false, reduceIte, reduceCtorEq, decide_true, decide_false, Bool.not_true, Bool.not_false, beq_self_eq_true, beq_tf, beq_ft, aPick, List.map_cons, List.map_nil, List.nil_append, List.append_nil, List.getElem?_cons_zero, List.getElem?_cons_succ]
      refine code_seq ?_
      refine code_region ?_ ?_
      · rfl
      simp only [run1, aOne, aP, aR, aA, aT, aCall, aCallVal, aev, regAt_set, aput_mk, aput_none, plainV, aNilCheck, aExtract, aBin, aInt, Addr.add, Nat.zero_add, ends_some, Nat.reduceLT, Nat.reduceAdd, if_true, then_normal, Nat.reduceEqDiff, if_false, reduceIte, reduceCtorEq, decide_true, decide_false, Bool.not_true, Bool.not_false, beq_self_eq_true, beq_tf, beq_ft, aPick, List.map_cons, List.map_nil, List.nil_append, List.append_nil, List.getElem?_cons_zero, List.getElem?_cons_succ, go_call (P := Tryz.prog) (X := X) (S := S0) Tryz.func21 rfl rfl, hs]
      refine code_seq ?_
      refine code_draw (n := 12) (ms := [0, 0, 2, 6, 14, 0, 32, 96, 254, 511, 1023, 2047]) (ord := [1, 2, 3, 4, 5, 6, 7, 8, 0, 9, 10, 11]) (ds := ?_) ?_ ?_ ?_ ?_ ?_ ?_
      rotate_left
      · kernel_rfl
      · kernel_rfl
      · kernel_rfl
      · rfl
      · rfl
      iterate 12 (refine drun_true (by first | rfl | (simp only [wanted, aOne, aP, aR, aA, aT, aCall, aCallVal, aev, regAt_set, aput_mk, aput_none, plainV, aNilCheck, aExtract, aBin, aInt, Addr.add, Nat.zero_add, ends_some, Nat.reduceLT, Nat.reduceAdd, if_true, then_normal, Nat.reduceEqDiff, if_false, reduceIte, reduceCtorEq, decide_true, decide_false, Bool.not_true, Bool.not_false, beq_self_eq_true, beq_tf, beq_ft, aPick, List.map_cons, List.map_nil, List.nil_append, List.append_nil, List.getElem?_cons_zero, List.getElem?_cons_succ, fa49_0, Nat.add_zero, ld47, hc0, hlt, hbd, hbs, aBuiltin, hap, hst])) (by simp only [aDrawOne, heavy, aReads, eqVal_self, aOne, aP, aR, aA, aT, aCall, aCallVal, aev, regAt_set, aput_mk, aput_none, plainV, aNilCheck, aExtract, aBin, aInt, Addr.add, Nat.zero_add, ends_some, Nat.reduceLT, Nat.reduceAdd, if_true, then_normal, Nat.reduceEqDiff, if_false, reduceIte, reduceCtorEq, decide_true, decide_false, Bool.not_true, Bool.not_false, beq_self_eq_true, beq_tf, beq_ft, aPick, List.map_cons, List.map_nil, List.nil_append, List.append_nil, List.getElem?_cons_zero, List.getElem?_cons_succ, fa49_0, Nat.add_zero, ld47, hc0, hlt, hbd, hbs, aBuiltin, hap, hst]; try exact rfl) rfl ?_)
      simp only [dRun, endsD_some, then_normal]
      refine code_seq ?_
      refine code_region ?_ ?_
      · rfl
      simp only [run1, aOne, aP, aR, aA, aT, aCall, aCallVal, aev, regAt_set, aput_mk, aput_none, plainV, aNilCheck, aExtract, aBin, aInt, Addr.add, Nat.zero_add, ends_some, Nat.reduceLT, Nat.reduceAdd, if_true, then_normal, Nat.reduceEqDiff, if_false, reduceIte, reduceCtorEq, decide_true, decide_false, Bool.not_true, Bool.not_false, beq_self_eq_true, beq_tf, beq_ft, aPick, List.map_cons, List.map_nil, List.nil_append, List.append_nil, List.getElem?_cons_zero, List.getElem?_cons_succ]
      refine code_ret ?_
      refine ⟨rfl, _, ?_, rfl, rfl⟩
      simp only [aResults, Tryz.results9, aRes, regAt_set, Nat.reduceEqDiff, reduceIte]
  refine ⟨e, n', μb.next + 12, μd, ends_eq fin, hBd, hWd, by omega, by omega, by omega, fun i hi hne hnst => ?_, he1, he2⟩
  rw [hμd, putL_get _ _ _ _ hne, hgc i (by omega) hnst, hTb.2 i (by omega) hne, hga.2 i hi]
end

noncomputable section
variable {X : FuncId → List Value → Mem → Option (Value × Mem)}

theorem bd39 (ρ : Operand → Value) (a b : Operand) (k : Nat) {it : Value} (h1 : ρ a = .int .i64 (.ofNat k)) (h2 : ρ b = it) (ho : one it = true) : aBuild Tryz.prog ρ 39 #[(0, a), (4, b)] = some (.agg (dat k [] it).toArray) := by
  refine build_struct (pl := [(0, 1), (1, 1), (2, 4), (6, 1), (7, 1)]) z39 Tryz.underlying39 (by kernel_rfl) ?_
  show aFill _ dat0 [(0, ρ a), (4, ρ b)] = some (dat k [] it)
  rw [aFill_one (off := 0) rfl (by rw [h1]; rfl) (by decide), aFill_one (off := 7) rfl (by rw [h2]; exact ho) (by rw [List.length_set]; decide), h1, h2]
  rfl
theorem bd39s (ρ : Operand → Value) (a b : Operand) (k : Nat) {tx : List UInt8} (h1 : ρ a = .int .i64 (.ofNat k)) (h2 : ρ b = .string ⟨tx.toArray⟩) : aBuild Tryz.prog ρ 39 #[(0, a), (3, b)] = some (.agg (dat k tx (.slice none 0 0)).toArray) := by
  refine build_struct (pl := [(0, 1), (1, 1), (2, 4), (6, 1), (7, 1)]) z39 Tryz.underlying39 (by kernel_rfl) ?_
  show aFill _ dat0 [(0, ρ a), (3, ρ b)] = some (dat k tx (.slice none 0 0))
  rw [aFill_one (off := 0) rfl (by rw [h1]; rfl) (by decide), aFill_one (off := 6) rfl (by rw [h2]; rfl) (by rw [List.length_set]; decide), h1, h2]
  rfl
theorem bs24 (ρ : Operand → Value) : aBuildSlice Tryz.prog ρ 24 0 #[] = some (.cells 0 39 #[] .e 0 0 false false, fun id => .slice (some ⟨id, 0, none⟩) 0 0) := by
  unfold aBuildSlice
  simp only [Tryz.underlying24, i39]
  rfl

/-- a copy of a slice of one or two data -/
theorem clone_append {μ : Mem} {i n cp : Nat} {l : List Value} (h : Has μ i 0 l) (hl : l.length = n * 8) (hn : n = 1 ∨ n = 2) (hi : i < μ.next) (hcl : ∃ m te z ov lo hi fx sh, μ.obs.get i = some (.cells m te z ov lo hi fx sh)) :
    ∃ μ', aAppend Tryz.prog ⟨μ.obs.set μ.next (.cells 0 39 #[] .e 0 0 false false), Nat.add μ.next 1⟩ 24 24 (.slice (some ⟨μ.next, 0, none⟩) 0 0) (.slice (some ⟨i, 0, none⟩) n cp) = some (.slice (some ⟨μ.next + 1, 0, none⟩) n 17, μ') ∧ Grow μ μ' ∧ μ'.next = μ.next + 2 ∧ μ'.obs.get (μ.next + 1) = some (.cells l.length 39 l.toArray .e 0 0 true false) := by
  obtain ⟨m, te, z, ov, lo, hi', fx, sh, hob⟩ := hcl
  obtain ⟨m', z', ov', h1, h2, h3⟩ := h
  rw [hob] at h1
  cases h1
  have hob' : (⟨μ.obs.set μ.next (.cells 0 39 #[] .e 0 0 false false), Nat.add μ.next 1⟩ : Mem).obs.get i = some (.cells m te z ov lo hi' fx sh) := by show T.get _ i = _; rw [T.get_set, if_neg (by omega)]; exact hob
  have hcf : cellsFrom z ov 0 (n * 8) = l := cellsFrom_eq (n * 8) 0 l hl h3
  have hsrc : srcCells ⟨μ.obs.set μ.next (.cells 0 39 #[] .e 0 0 false false), Nat.add μ.next 1⟩ Tryz.t39.size n (.slice (some ⟨i, 0, none⟩) n cp) = some l := by
    unfold srcCells
    rw [← hcf]
    rcases hn with rfl | rfl
    · simp only [show Nat.mul 1 Tryz.t39.size = 7 + 1 from rfl, hob']
      rw [show Nat.ble (Nat.add 0 (7 + 1)) m = true from Nat.ble_eq_true_of_le (by show 0 + 8 ≤ m; omega)]
    · simp only [show Nat.mul 2 Tryz.t39.size = 15 + 1 from rfl, hob']
      rw [show Nat.ble (Nat.add 0 (15 + 1)) m = true from Nat.ble_eq_true_of_le (by show 0 + 16 ≤ m; omega)]
  have hg : Grow μ ⟨(μ.obs.set μ.next (.cells 0 39 #[] .e 0 0 false false)).set (μ.next + 1) (.cells ([] ++ l).length 39 ([] ++ l).toArray .e 0 0 true false), μ.next + 1 + 1⟩ := ⟨by show μ.next ≤ μ.next + 1 + 1; omega, fun j hj => by show T.get _ j = _; rw [T.get_set, if_neg (by omega), T.get_set, if_neg (by omega)]⟩
  refine ⟨⟨(μ.obs.set μ.next (.cells 0 39 #[] .e 0 0 false false)).set (μ.next + 1) (.cells ([] ++ l).length 39 ([] ++ l).toArray .e 0 0 true false), μ.next + 1 + 1⟩, ?_, hg, rfl, by show T.get _ _ = _; rw [T.get_set, if_pos rfl]; rfl⟩
  have e1 : Nat.beq (cellsL (.agg dat0.toArray)).length Tryz.t39.size = true := rfl
  have e2 : Nat.ble Tryz.t39.bytes 4096 = true := rfl
  have e3 : Nat.beq l.length (Nat.mul n Tryz.t39.size) = true := by rw [hl, show Nat.mul n Tryz.t39.size = n * 8 from rfl]; simp
  unfold aAppend
  simp only [Tryz.underlying24, i39, e2, z39, e1, lenV, hsrc, e3]
  rcases hn with rfl | rfl <;> rfl

set_option maxHeartbeats 4000000 in
theorem clone_ends {g i n cp : Nat} {l : List Value} {μ : Mem} (hg : 20 ≤ g) (h : Has μ i 0 l) (hl : l.length = n * 8) (hn : n = 1 ∨ n = 2) (hi : i < μ.next) (hcl : ∃ m te z ov lo hi fx sh, μ.obs.get i = some (.cells m te z ov lo hi fx sh)) :
    EndsF (aFun Tryz.prog (aCode Tryz.prog X S0 g) 71 [.slice (some ⟨i, 0, none⟩) n cp] μ) fun v μ' => v = .slice (some ⟨μ.next + 1, 0, none⟩) n 17 ∧ Grow μ μ' ∧ μ'.next = μ.next + 2 ∧ μ'.obs.get (μ.next + 1) = some (.cells l.length 39 l.toArray .e 0 0 true false) := by
  obtain ⟨k, rfl⟩ := Nat.exists_eq_add_of_le' hg
  obtain ⟨μ', hap, h1, h2, h3⟩ := clone_append (cp := cp) h hl hn hi hcl
  refine fun_enter Tryz.func71 rfl rfl (Nat.le_of_ble_eq_true rfl) ?_
  simp only [T.lay, Nat.zero_add, Tryz.ntmps71, Nat.reduceAdd]
  refine code_seq ?_
  refine code_region ?_ ?_
  · rfl
  simp only [run1, aOne, aP, aR, aA, aT, aCall, aCallVal, aev, regAt_set, aput_mk, aput_none, plainV, aNilCheck, aExtract, aBin, aInt, Addr.add, Nat.zero_add, ends_some, Nat.reduceLT, Nat.reduceAdd, if_true, then_normal, Nat.reduceEqDiff, if_false, reduceIte, reduceCtorEq, decide_true, decide_false, Bool.not_true, Bool.not_false, beq_self_eq_true, beq_tf, beq_ft, aPick, List.map_cons, List.map_nil, List.nil_append, List.append_nil, List.getElem?_cons_zero, List.getElem?_cons_succ]
  refine code_seq ?_
  refine code_seq ?_
  refine code_region ?_ ?_
  · rfl
  simp only [run1, aOne, aP, aR, aA, aT, aCall, aCallVal, aev, regAt_set, aput_mk, aput_none, plainV, aNilCheck, aExtract, aBin, aInt, Addr.add, Nat.zero_add, ends_some, Nat.reduceLT, Nat.reduceAdd, if_true, then_normal, Nat.reduceEqDiff, if_false, reduceIte, reduceCtorEq, decide_true, decide_false, Bool.not_true, Bool.not_false, beq_self_eq_true, beq_tf, beq_ft, aPick, List.map_cons, List.map_nil, List.nil_append, List.append_nil, List.getElem?_cons_zero, List.getElem?_cons_succ, aNil, Tryz.underlying24]
  refine code_cond_false ?_ ?_
  · simp only [aev, regAt_set, Nat.reduceEqDiff, reduceIte]
  refine code_skip ?_
  simp only [then_normal]
  refine code_seq ?_
  refine code_region ?_ ?_
  · rfl
  simp only [run1, aOne, aP, aR, aA, aT, aCall, aCallVal, aev, regAt_set, aput_mk, aput_none, plainV, aNilCheck, aExtract, aBin, aInt, Addr.add, Nat.zero_add, ends_some, Nat.reduceLT, Nat.reduceAdd, if_true, then_normal, Nat.reduceEqDiff, if_false, reduceIte, reduceCtorEq, decide_true, decide_false, Bool.not_true, Bool.not_false, beq_self_eq_true, beq_tf, beq_ft, aPick, List.map_cons, List.map_nil, List.nil_append, List.append_nil, List.getElem?_cons_zero, List.getElem?_cons_succ, bs24, aBuiltin, hap]
  refine code_ret ?_
  refine ⟨rfl, _, ?_, rfl, h1, h2, h3⟩
  simp only [aResults, Tryz.results71, aRes, regAt_set, Nat.reduceEqDiff, reduceIte]
end

noncomputable section
variable {X : FuncId → List Value → Mem → Option (Value × Mem)}

/-- cells lie there -/
def Cl (μ : Mem) (i : Nat) : Prop := ∃ m te z ov lo hi fx sh, μ.obs.get i = some (.cells m te z ov lo hi fx sh)
theorem dat_one (k : Nat) (tx : List UInt8) {it : Value} (h : one it = true) : (dat k tx it).all one = true := by
  show (true && (true && (true && (true && (true && (true && (true && (one it && true)))))))) = true
  rw [h]; rfl
/-- a new datum of its own block -/
theorem new39 (μ : Mem) : ∃ μa, μa = (⟨μ.obs.set μ.next (.cells 8 39 dat0.toArray .e 0 0 false false), Nat.add μ.next 1⟩ : Mem) ∧ Grow μ μa ∧ μa.next = μ.next + 1 ∧ Blk μa μ.next 8 39 :=
  ⟨_, rfl, grow1 μ _, rfl, ⟨_, _, _, _, by show T.get _ _ = _; rw [T.get_set, if_pos rfl]⟩⟩

set_option maxHeartbeats 4000000 in
theorem list_ends {g i n cp : Nat} {l : List Value} {μ : Mem} (hg : 40 ≤ g) (h : Has μ i 0 l) (hl : l.length = n * 8) (hn : n = 1 ∨ n = 2) (hi : i < μ.next) (hcl : Cl μ i) :
    EndsF (aFun Tryz.prog (aCode Tryz.prog X S0 g) 45 [.slice (some ⟨i, 0, none⟩) n cp] μ) fun v μ' => ∃ b, v = .agg (dat 5 [] (.slice (some ⟨b, 0, none⟩) n 17)).toArray ∧ Grow μ μ' ∧ μ.next ≤ b ∧ b < μ'.next ∧ Has μ' b 0 l ∧ Cl μ' b := by
  obtain ⟨k, rfl⟩ := Nat.exists_eq_add_of_le' hg
  obtain ⟨μa, hμa, hga, hna, hba⟩ := new39 μ
  have hcla : Cl μa i := by unfold Cl; rw [hga.2 i hi]; exact hcl
  obtain ⟨v1, μb, hc, hv1, hgb, hnb, hob⟩ := clone_ends (X := X) (g := k + 37) (cp := cp) (by omega) (h.keep (hga.2 i hi)) hl hn (by omega) hcla
  subst hv1
  have hbb : Blk μb μ.next 8 39 := hba.of_get (hgb.2 _ (by omega))
  have hst := store_puts (P := Tryz.prog) (t := 39) (vs := dat 5 [] (.slice (some ⟨μa.next + 1, 0, none⟩) n 17)) (o := 0) i39 rfl rfl hbb (Nat.le_refl _)
  have hl2 := lds39 (Has.of_put (o := 0) (vs := dat 5 [] (.slice (some ⟨μa.next + 1, 0, none⟩) n 17)) hbb (Nat.le_refl _)) rfl
  have hbd : ∀ (r : Rg) (b : Operand), aev Tryz.prog r b = .slice (some ⟨μa.next + 1, 0, none⟩) n 17 → aBuild Tryz.prog (aev Tryz.prog r) 39 #[(0, .const (.int .i64 5)), (4, b)] = some (.agg (dat 5 [] (.slice (some ⟨μa.next + 1, 0, none⟩) n 17)).toArray) := fun r b h => bd39 _ _ _ 5 rfl h rfl
  refine fun_enter Tryz.func45 rfl rfl (Nat.le_of_ble_eq_true rfl) ?_
  simp only [T.lay, Nat.zero_add, Tryz.ntmps45, Nat.reduceAdd]
  refine code_seq ?_
  refine code_region ?_ ?_
  · rfl
  simp only [run1, aOne, aP, aR, aA, aT, aCall, aCallVal, aev, regAt_set, aput_mk, aput_none, plainV, aNilCheck, aExtract, aBin, aInt, Addr.add, Nat.zero_add, ends_some, Nat.reduceLT, Nat.reduceAdd, if_true, then_normal, Nat.reduceEqDiff, if_false, reduceIte, reduceCtorEq, decide_true, decide_false, Bool.not_true, Bool.not_false, beq_self_eq_true, beq_tf, beq_ft, aPick, List.map_cons, List.map_nil, List.nil_append, List.append_nil, List.getElem?_cons_zero, List.getElem?_cons_succ, al39, ← hμa]
  refine code_seq ?_
  refine code_region ?_ ?_
  · rfl
  simp only [run1, aOne, aP, aR, aA, aT, aCall, aCallVal, aev, regAt_set, aput_mk, aput_none, plainV, aNilCheck, aExtract, aBin, aInt, Addr.add, Nat.zero_add, ends_some, Nat.reduceLT, Nat.reduceAdd, if_true, then_normal, Nat.reduceEqDiff, if_false, reduceIte, reduceCtorEq, decide_true, decide_false, Bool.not_true, Bool.not_false, beq_self_eq_true, beq_tf, beq_ft, aPick, List.map_cons, List.map_nil, List.nil_append, List.append_nil, List.getElem?_cons_zero, List.getElem?_cons_succ, go_call (P := Tryz.prog) (X := X) (S := S0) Tryz.func71 rfl rfl, hc, hbd, hst]
  refine code_ret ?_
  refine ⟨rfl, .agg (dat 5 [] (.slice (some ⟨μa.next + 1, 0, none⟩) n 17)).toArray, ?_, μa.next + 1, rfl, (hga.trans hgb).put_new (Nat.le_refl _), by omega, by rw [putL_next]; omega, ?_, ?_⟩
  · simp only [aResults, Tryz.results45, aRes, regAt_set, Nat.reduceEqDiff, reduceIte, hl2]
  · exact (Has.new hob).keep (putL_get _ _ _ _ (by omega))
  · unfold Cl; rw [putL_get _ _ _ _ (by omega)]; exact ⟨_, _, _, _, _, _, _, _, hob⟩

set_option maxHeartbeats 4000000 in
theorem sym_ends {g : Nat} {tx : List UInt8} {μ : Mem} (hg : 20 ≤ g) :
    EndsF (aFun Tryz.prog (aCode Tryz.prog X S0 g) 42 [.string ⟨tx.toArray⟩] μ) fun v μ' => v = .agg (dat 4 tx (.slice none 0 0)).toArray ∧ Grow μ μ' := by
  obtain ⟨k, rfl⟩ := Nat.exists_eq_add_of_le' hg
  obtain ⟨μa, hμa, hga, hna, hba⟩ := new39 μ
  have hst := store_puts (P := Tryz.prog) (t := 39) (vs := dat 4 tx (.slice none 0 0)) (o := 0) i39 rfl rfl hba (Nat.le_refl _)
  have hl2 := lds39 (Has.of_put (o := 0) (vs := dat 4 tx (.slice none 0 0)) hba (Nat.le_refl _)) rfl
  have hbd : ∀ (r : Rg) (b : Operand), aev Tryz.prog r b = .string ⟨tx.toArray⟩ → aBuild Tryz.prog (aev Tryz.prog r) 39 #[(0, .const (.int .i64 4)), (3, b)] = some (.agg (dat 4 tx (.slice none 0 0)).toArray) := fun r b h => bd39s _ _ _ 4 rfl h
  refine fun_enter Tryz.func42 rfl rfl (Nat.le_of_ble_eq_true rfl) ?_
  simp only [T.lay, Nat.zero_add, Tryz.ntmps42, Nat.reduceAdd]
  refine code_seq ?_
  refine code_region ?_ ?_
  · rfl
  simp only [run1, aOne, aP, aR, aA, aT, aCall, aCallVal, aev, regAt_set, aput_mk, aput_none, plainV, aNilCheck, aExtract, aBin, aInt, Addr.add, Nat.zero_add, ends_some, Nat.reduceLT, Nat.reduceAdd, if_true, then_normal, Nat.reduceEqDiff, if_false, reduceIte, reduceCtorEq, decide_true, decide_false, Bool.not_true, Bool.not_false, beq_self_eq_true, beq_tf, beq_ft, aPick, List.map_cons, List.map_nil, List.nil_append, List.append_nil, List.getElem?_cons_zero, List.getElem?_cons_succ, al39, ← hμa]
  refine code_seq ?_
  refine code_region ?_ ?_
  · rfl
  simp only [run1, aOne, aP, aR, aA, aT, aCall, aCallVal, aev, regAt_set, aput_mk, aput_none, plainV, aNilCheck, aExtract, aBin, aInt, Addr.add, Nat.zero_add, ends_some, Nat.reduceLT, Nat.reduceAdd, if_true, then_normal, Nat.reduceEqDiff, if_false, reduceIte, reduceCtorEq, decide_true, decide_false, Bool.not_true, Bool.not_false, beq_self_eq_true, beq_tf, beq_ft, aPick, List.map_cons, List.map_nil, List.nil_append, List.append_nil, List.getElem?_cons_zero, List.getElem?_cons_succ, hbd, hst]
  refine code_ret ?_
  refine ⟨rfl, .agg (dat 4 tx (.slice none 0 0)).toArray, ?_, rfl, hga.put_new (Nat.le_refl _)⟩
  simp only [aResults, Tryz.results42, aRes, regAt_set, Nat.reduceEqDiff, reduceIte, hl2]

set_option maxHeartbeats 4000000 in
theorem made_ends {g k p i cp : Nat} {tx : List UInt8} {l : List Value} {μ : Mem} (hg : 100 ≤ g) (hk : k = 1 ∨ k = 2) (h : Has μ i 0 l) (hl : l.length = 8) (hi : i < μ.next) (hcl : Cl μ i) :
    EndsF (aFun Tryz.prog (aCode Tryz.prog X S0 g) 44 [.agg (opn k p tx (.slice (some ⟨i, 0, none⟩) 1 cp) false).toArray] μ) fun v μ' => ∃ b c', v = .agg (dat (if k = 2 then 7 else 5) [] (.slice (some ⟨b, 0, none⟩) 1 c')).toArray ∧ Grow μ μ' ∧ (b = i ∨ μ.next ≤ b) ∧ b < μ'.next ∧ Has μ' b 0 l ∧ Cl μ' b := by
  obtain ⟨g0, rfl⟩ := Nat.exists_eq_add_of_le' hg
  have hg1 := grow1 μ (.cells 14 56 (opn k p tx (.slice (some ⟨i, 0, none⟩) 1 cp) false).toArray .e 0 0 false false)
  obtain ⟨μ1, hμ1⟩ : ∃ m : Mem, m = ⟨μ.obs.set μ.next (.cells 14 56 (opn k p tx (.slice (some ⟨i, 0, none⟩) 1 cp) false).toArray .e 0 0 false false), μ.next + 1⟩ := ⟨_, rfl⟩
  rw [← hμ1] at hg1
  have hμ1' : (⟨μ.obs.set μ.next (.cells (opn k p tx (.slice (some ⟨i, 0, none⟩) 1 cp) false).length 56 (opn k p tx (.slice (some ⟨i, 0, none⟩) 1 cp) false).toArray .e 0 0 false false), Nat.add μ.next 1⟩ : Mem) = μ1 := hμ1.symm
  have hn1 : μ1.next = μ.next + 1 := by rw [hμ1]
  have ho1 : Has μ1 μ.next 0 (opn k p tx (.slice (some ⟨i, 0, none⟩) 1 cp) false) := Has.new (t := 56) (fx := false) (sh := false) (by rw [hμ1]; show T.get _ _ = _; rw [T.get_set, if_pos rfl]; rfl)
  obtain ⟨μa, hμa, hga, hna, hba⟩ := new39 μ1
  have hg2 := hg1.trans hga
  have ho2 := ho1.keep (hga.2 _ (by omega))
  have c0 : cellsAt μa μ.next 0 = some (.int .i64 (.ofNat k)) := ho2.cell 0 (Nat.le_of_ble_eq_true rfl)
  have c11 : cellsAt μa μ.next 11 = some (.slice (some ⟨i, 0, none⟩) 1 cp) := ho2.cell 11 (Nat.le_of_ble_eq_true rfl)
  have c12 : cellsAt μa μ.next 12 = some (.bool false) := ho2.cell 12 (Nat.le_of_ble_eq_true rfl)
  have hha := h.keep (hg2.2 i hi)
  have hcla : Cl μa i := by unfold Cl; rw [hg2.2 i hi]; exact hcl
  refine fun_enter Tryz.func44 rfl rfl (Nat.le_of_ble_eq_true rfl) ?_
  simp only [T.lay, Nat.zero_add, Tryz.ntmps44, Nat.reduceAdd]
  refine code_seq ?_
  refine code_region ?_ ?_
  · rfl
  simp only [run1, aOne, aP, aR, aA, aT, aCall, aCallVal, aev, regAt_set, aput_mk, aput_none, plainV, aNilCheck, aExtract, aBin, aInt, Addr.add, Nat.zero_add, ends_some, Nat.reduceLT, Nat.reduceAdd, if_true, then_normal, Nat.reduceEqDiff, if_false, reduceIte, reduceCtorEq, decide_true, decide_false, Bool.not_true, Bool.not_false, beq_self_eq_true, beq_tf, beq_ft, aPick, List.map_cons, List.map_nil, List.nil_append, List.append_nil, List.getElem?_cons_zero, List.getElem?_cons_succ, box_agg, hμ1', al39, ← hμa]
  refine code_seq ?_
  refine code_block ?_
  rcases hk with rfl | rfl
  · have q2 : ieq (.ofNat 1) 2 = false := rfl
    obtain ⟨v1, μb, hls, b, hv1, hgb, hb1, hb2, hb3, hb4⟩ := list_ends (X := X) (g := g0 + 91) (n := 1) (cp := cp) (by omega) hha hl (.inl rfl) (by omega) hcla
    subst hv1
    have hbb : Blk μb μ1.next 8 39 := hba.of_get (hgb.2 _ (by omega))
    have hst := store_puts (P := Tryz.prog) (t := 39) (vs := dat 5 [] (.slice (some ⟨b, 0, none⟩) 1 17)) (o := 0) i39 rfl rfl hbb (Nat.le_refl _)
    have hl2 := lds39 (Has.of_put (o := 0) (vs := dat 5 [] (.slice (some ⟨b, 0, none⟩) 1 17)) hbb (Nat.le_refl _)) rfl
    refine code_seq ?_
    refine code_region ?_ ?_
    · rfl
    simp only [run1, aOne, aP, aR, aA, aT, aCall, aCallVal, aev, regAt_set, aput_mk, aput_none, plainV, aNilCheck, aExtract, aBin, aInt, Addr.add, Nat.zero_add, ends_some, Nat.reduceLT, Nat.reduceAdd, if_true, then_normal, Nat.reduceEqDiff, if_false, reduceIte, reduceCtorEq, decide_true, decide_false, Bool.not_true, Bool.not_false, beq_self_eq_true, beq_tf, beq_ft, aPick, List.map_cons, List.map_nil, List.nil_append, List.append_nil, List.getElem?_cons_zero, List.getElem?_cons_succ, fa56_0, fa51_0, ld3, c0, q2]
    refine code_cond_false ?_ ?_
    · simp only [aev, regAt_set, Nat.reduceEqDiff, reduceIte]
    refine code_seq ?_
    refine code_region ?_ ?_
    · rfl
    simp only [run1, aOne, aP, aR, aA, aT, aCall, aCallVal, aev, regAt_set, aput_mk, aput_none, plainV, aNilCheck, aExtract, aBin, aInt, Addr.add, Nat.zero_add, ends_some, Nat.reduceLT, Nat.reduceAdd, if_true, then_normal, Nat.reduceEqDiff, if_false, reduceIte, reduceCtorEq, decide_true, decide_false, Bool.not_true, Bool.not_false, beq_self_eq_true, beq_tf, beq_ft, aPick, List.map_cons, List.map_nil, List.nil_append, List.append_nil, List.getElem?_cons_zero, List.getElem?_cons_succ, fa56_2, ld4, c12]
    refine code_cond_true ?_ ?_
    · simp only [aev, regAt_set, Nat.reduceEqDiff, reduceIte]
    refine code_seq ?_
    refine code_region ?_ ?_
    · rfl
    simp only [run1, aOne, aP, aR, aA, aT, aCall, aCallVal, aev, regAt_set, aput_mk, aput_none, plainV, aNilCheck, aExtract, aBin, aInt, Addr.add, Nat.zero_add, ends_some, Nat.reduceLT, Nat.reduceAdd, if_true, then_normal, Nat.reduceEqDiff, if_false, reduceIte, reduceCtorEq, decide_true, decide_false, Bool.not_true, Bool.not_false, beq_self_eq_true, beq_tf, beq_ft, aPick, List.map_cons, List.map_nil, List.nil_append, List.append_nil, List.getElem?_cons_zero, List.getElem?_cons_succ, fa56_1, ld24, c11, go_call (P := Tryz.prog) (X := X) (S := S0) Tryz.func45 rfl rfl, hls, hst]
    refine code_ret ?_
    simp only [blockC, then_ret]
    refine ⟨rfl, .agg (dat 5 [] (.slice (some ⟨b, 0, none⟩) 1 17)).toArray, ?_, b, 17, rfl, (hg2.trans hgb).put_new (by omega), .inr (by omega), by rw [putL_next]; exact hb2, hb3.keep (putL_get _ _ _ _ (by omega)), by unfold Cl; rw [putL_get _ _ _ _ (by omega)]; exact hb4⟩
    simp only [aResults, Tryz.results44, aRes, regAt_set, Nat.reduceEqDiff, reduceIte, hl2]
  · have q2 : ieq (.ofNat 2) 2 = true := rfl
    have hst := store_puts (P := Tryz.prog) (t := 39) (vs := dat 7 [] (.slice (some ⟨i, 0, none⟩) 1 cp)) (o := 0) i39 rfl rfl hba (Nat.le_refl _)
    have hl2 := lds39 (Has.of_put (o := 0) (vs := dat 7 [] (.slice (some ⟨i, 0, none⟩) 1 cp)) hba (Nat.le_refl _)) rfl
    have hbd : ∀ (r : Rg) (b : Operand), aev Tryz.prog r b = .slice (some ⟨i, 0, none⟩) 1 cp → aBuild Tryz.prog (aev Tryz.prog r) 39 #[(0, .const (.int .i64 7)), (4, b)] = some (.agg (dat 7 [] (.slice (some ⟨i, 0, none⟩) 1 cp)).toArray) := fun r b h => bd39 _ _ _ 7 rfl h rfl
    refine code_seq ?_
    refine code_region ?_ ?_
    · rfl
    simp only [run1, aOne, aP, aR, aA, aT, aCall, aCallVal, aev, regAt_set, aput_mk, aput_none, plainV, aNilCheck, aExtract, aBin, aInt, Addr.add, Nat.zero_add, ends_some, Nat.reduceLT, Nat.reduceAdd, if_true, then_normal, Nat.reduceEqDiff, if_false, reduceIte, reduceCtorEq, decide_true, decide_false, Bool.not_true, Bool.not_false, beq_self_eq_true, beq_tf, beq_ft, aPick, List.map_cons, List.map_nil, List.nil_append, List.append_nil, List.getElem?_cons_zero, List.getElem?_cons_succ, fa56_0, fa51_0, ld3, c0, q2]
    refine code_cond_true ?_ ?_
    · simp only [aev, regAt_set, Nat.reduceEqDiff, reduceIte]
    refine code_seq ?_
    refine code_region ?_ ?_
    · rfl
    simp only [run1, aOne, aP, aR, aA, aT, aCall, aCallVal, aev, regAt_set, aput_mk, aput_none, plainV, aNilCheck, aExtract, aBin, aInt, Addr.add, Nat.zero_add, ends_some, Nat.reduceLT, Nat.reduceAdd, if_true, then_normal, Nat.reduceEqDiff, if_false, reduceIte, reduceCtorEq, decide_true, decide_false, Bool.not_true, Bool.not_false, beq_self_eq_true, beq_tf, beq_ft, aPick, List.map_cons, List.map_nil, List.nil_append, List.append_nil, List.getElem?_cons_zero, List.getElem?_cons_succ, fa56_1, ld24, c11, hbd, hst]
    refine code_ret ?_
    simp only [blockC, then_ret]
    refine ⟨rfl, .agg (dat 7 [] (.slice (some ⟨i, 0, none⟩) 1 cp)).toArray, ?_, i, cp, rfl, hg2.put_new (by omega), .inl rfl, by rw [putL_next]; omega, hha.keep (putL_get _ _ _ _ (by omega)), by unfold Cl; rw [putL_get _ _ _ _ (by omega)]; exact hcla⟩
    simp only [aResults, Tryz.results44, aRes, regAt_set, Nat.reduceEqDiff, reduceIte, hl2]
end

noncomputable section
variable {X : FuncId → List Value → Mem → Option (Value × Mem)}

/-! ### what is built -/
def knd : Nat → Nat
  | 0 => 1
  | 1 => 2
  | _ => 4
def txt : Nat → List UInt8
  | 0 => []
  | 1 => []
  | _ => quoteT
def symq : List Value := dat 4 quoteT (.slice none 0 0)
/-- a datum of so many brackets and quotes -/
def Den (bad : Nat → Prop) (μ : Mem) : List Nat → List Value → Prop
  | [], l => l = symx
  | c :: ks, l => ∃ i cp sub, ¬ bad i ∧ i < μ.next ∧ Cl μ i ∧ Den bad μ ks sub ∧
      (if c = 2 then l = dat 5 [] (.slice (some ⟨i, 0, none⟩) 2 cp) ∧ Has μ i 0 (symq ++ sub) else l = dat (if c = 1 then 7 else 5) [] (.slice (some ⟨i, 0, none⟩) 1 cp) ∧ Has μ i 0 sub)
theorem Den.len {bad : Nat → Prop} {μ : Mem} : ∀ {ks : List Nat} {l : List Value}, Den bad μ ks l → l.length = 8 ∧ l.all one = true
  | [], l, h => by rw [show l = symx from h]; exact ⟨rfl, rfl⟩
  | c :: ks, l, h => by
    obtain ⟨i, cp, sub, _, _, _, _, h⟩ := h
    split at h
    · rw [h.1]; exact ⟨rfl, dat_one _ _ rfl⟩
    · rw [h.1]; exact ⟨rfl, dat_one _ _ rfl⟩
theorem Den.keep {bad : Nat → Prop} {μ μ' : Mem} (hn : μ.next ≤ μ'.next) (hk : ∀ i, i < μ.next → ¬ bad i → μ'.obs.get i = μ.obs.get i) : ∀ {ks : List Nat} {l : List Value}, Den bad μ ks l → Den bad μ' ks l
  | [], l, h => h
  | c :: ks, l, h => by
    obtain ⟨i, cp, sub, h1, h2, h3, h4, h5⟩ := h
    have e := hk i h2 h1
    refine ⟨i, cp, sub, h1, Nat.lt_of_lt_of_le h2 hn, by unfold Cl; rw [e]; exact h3, Den.keep hn hk h4, ?_⟩
    split at h5
    · rename_i hc; rw [if_pos hc]; exact ⟨h5.1, h5.2.keep e⟩
    · rename_i hc; rw [if_neg hc]; exact ⟨h5.1, h5.2.keep e⟩
theorem Den.more {bad bad' : Nat → Prop} {μ : Mem} (hb : ∀ i, bad' i → bad i ∨ μ.next ≤ i) : ∀ {ks : List Nat} {l : List Value}, Den bad μ ks l → Den bad' μ ks l
  | [], l, h => h
  | c :: ks, l, h => by
    obtain ⟨i, cp, sub, h1, h2, h3, h4, h5⟩ := h
    exact ⟨i, cp, sub, fun h => (hb i h).elim h1 (fun g => by omega), h2, h3, Den.more hb h4, h5⟩

def StkAt (μ : Mem) (sb d : Nat) (cl : Nat → Nat) : Prop := ∀ e, e < d → ∃ p, Has μ sb (e * 14) (opn (knd (cl e)) p (txt (cl e)) (.slice none 0 0) false)
theorem StkAt.keep {μ μ' : Mem} {sb d : Nat} {cl : Nat → Nat} (h : StkAt μ sb d cl) (g : μ'.obs.get sb = μ.obs.get sb) : StkAt μ' sb d cl := fun e he => let ⟨p, hp⟩ := h e he; ⟨p, hp.keep g⟩
theorem StkAt.less {μ : Mem} {sb d d' : Nat} {cl : Nat → Nat} (h : StkAt μ sb d cl) (g : d' ≤ d) : StkAt μ sb d' cl := fun e he => h e (by omega)

/-- what is left when quotes are taken off -/
def pops (cl : Nat → Nat) : Nat → List Nat → Nat × List Nat
  | 0, ks => (0, ks)
  | d + 1, ks => if cl d = 2 then pops cl d (2 :: ks) else (d + 1, ks)

structure AddQ (bad : Nat → Prop) (cl : Nat → Nat) (sb bb M nodes : Nat) (q : Nat × List Nat) (μ μ' : Mem) : Prop where
  next : μ.next ≤ μ'.next
  same : ∀ i, i < μ.next → ¬ bad i → μ'.obs.get i = μ.obs.get i
  blk : Blk μ' sb M 56
  res : ∃ b l, ¬ bad b ∧ b < μ'.next ∧ Has μ' b 0 l ∧ Cl μ' b ∧ Den bad μ' q.2 l ∧
    ((q.1 = 0 ∧ Bd μ' bb (.slice (some ⟨sb, 0, none⟩) 0 29) nodes (.slice (some ⟨b, 0, none⟩) 1 17)) ∨
      ∃ e p, q.1 = e + 1 ∧ Bd μ' bb (.slice (some ⟨sb, 0, none⟩) (e + 1) 29) nodes (.slice none 0 0) ∧ StkAt μ' sb e cl ∧ Has μ' sb (e * 14) (opn (knd (cl e)) p (txt (cl e)) (.slice (some ⟨b, 0, none⟩) 1 17) false))

theorem same_end {ops : List Oper} {tl ids : List Nat} {s1 s2 : Rg × Mem × List (Nat × Mem)} (h1 : ∀ j, s1.2.1.obs.get j = s2.2.1.obs.get j) (h2 : ∀ d, regAt s1.1.tm d = regAt s2.1.tm d) : sameEnd ops tl ids s1 s2 = true := by
  unfold sameEnd
  rw [Bool.and_eq_true]
  refine ⟨List.all_eq_true.2 fun j _ => by rw [h1 j]; exact eqOb_self _, List.all_eq_true.2 fun i _ => ?_⟩
  split
  · split
    · rw [h2]; exact eqVal_self _
    · rfl
  · rfl

theorem z8 : (cellsL (.agg dat0.toArray)).length = 8 := rfl
theorem bs24z (r : Rg) : aBuildSlice Tryz.prog (aev Tryz.prog r) 24 1 #[(0, .const (.agg #[.int .i64 0, .int .i64 0, .bool false, .float .f64 0, .bool false, .slice none 0 0, .string ⟨#[]⟩, .slice none 0 0]))] = some (.cells 8 39 dat0.toArray .e 0 0 false false, fun id => .slice (some ⟨id, 0, none⟩) 1 2) := by
  unfold aBuildSlice
  simp only [Tryz.underlying24, i39, z39]
  rfl

/-- the first element of a slice of data: room for it is made -/
theorem first_room (μ : Mem) (n q : Nat) (hq : q < n) : ∃ μ', aAppend Tryz.prog ⟨μ.obs.set (Nat.add μ.next q) (.cells 8 39 dat0.toArray .e 0 0 false false), μ.next + n⟩ 24 24 (.slice none 0 0) (.slice (some ⟨Nat.add μ.next q, 0, none⟩) 1 2) = some (.slice (some ⟨μ.next + n, 0, none⟩) 1 17, μ') ∧ Grow μ μ' ∧ μ'.next = μ.next + n + 1 ∧ Blk μ' (μ.next + n) 8 39 := by
  have hW : GoodW ⟨μ.obs.set (Nat.add μ.next q) (.cells 8 39 dat0.toArray .e 0 0 false false), μ.next + n⟩ 39 8 (.slice none 0 0) 0 [] := ⟨rfl, .inl ⟨rfl, rfl⟩⟩
  obtain ⟨μ', h1, _, h3, ⟨fx, sh, h4⟩, h5⟩ := append_wide (P := Tryz.prog) (st := 24) (e := 39) (s := 8) Tryz.underlying24 i39 rfl (by decide) (by decide) rfl z39 z8 (q := Nat.add μ.next q) (l := dat0) hW (by show T.get _ _ = _; rw [T.get_set, if_pos rfl]) rfl (by decide) rfl
  refine ⟨μ', h1, ⟨by rw [h3]; show μ.next ≤ μ.next + n + 1; omega, fun i hi => ?_⟩, h3, ⟨_, _, _, _, h4⟩⟩
  rw [h5 i (by show i ≠ μ.next + n; omega) (fun o c h => by cases h)]
  show T.get _ i = _
  rw [T.get_set, if_neg (by show ¬ i = μ.next + q; omega)]
end

noncomputable section
variable {X : FuncId → List Value → Mem → Option (Value × Mem)}

set_option maxRecDepth 20000 in
set_option maxHeartbeats 8000000 in
theorem add_empty {cl : Nat → Nat} {sb bb t3 M nodes g : Nat} {bad : Nat → Prop} (hbb : bad bb) (hsb : bad sb) (ht3 : bad t3) (hne : sb ≠ bb) (n3b : t3 ≠ bb) (n3s : t3 ≠ sb) {ks : List Nat} {l : List Value} {tm : T Value} {μ : Mem} (hg : 100 ≤ g)
    (hB : Bd μ bb (.slice (some ⟨sb, 0, none⟩) 0 29) nodes (.slice none 0 0)) (hM : Blk μ sb M 56) (hl : Has μ t3 0 l) (hs : sb < μ.next) (h3 : t3 < μ.next) (hbd : ∀ i, bad i → i < μ.next) (hD : Den bad μ ks l) (r0 : regAt tm 0 = .pointer (some ⟨bb, 0, none⟩)) (r3 : regAt tm 3 = .pointer (some ⟨t3, 0, none⟩)) :
    EndsC (aCode Tryz.prog X S0 g (.loop (loopBody Tryz.f22 0)) ⟨69, tm, [], none⟩ μ) fun a r μ' => a = .ret ∧ r.ds = [] ∧ AddQ bad cl sb bb M nodes (0, ks) μ μ' := by
  obtain ⟨k, rfl⟩ := Nat.exists_eq_add_of_le' hg
  obtain ⟨hll, hlo⟩ := hD.len
  have ht := top_nil (X := X) (g := k + 96) (by omega) hB
  obtain ⟨m7, hap, hg7, hn7, hb7⟩ := first_room μ 13 6 (by decide)
  have hbbn := hB.n
  have hB7 := hB.grow hg7
  have hld : ∀ y, aLoad Tryz.prog ⟨μ.obs, y⟩ 39 (.pointer (some ⟨t3, 0, none⟩)) = some (.agg l.toArray) := fun y => lds39 (show Has ⟨μ.obs, y⟩ t3 0 l from hl) (by rw [hll]; rfl)
  have hc2 : ∀ y, cellsAt ⟨μ.obs, y⟩ bb 2 = some (.slice none 0 0) := fun y => hB.c2
  have hnb : μ.next + 13 ≠ bb := by omega
  have hix : ∀ (r : Rg) (a b : Operand), aev Tryz.prog r a = .slice (some ⟨μ.next + 13, 0, none⟩) 1 17 → aev Tryz.prog r b = .int .i64 (.ofNat 0) → aIndexAddr Tryz.prog (aev Tryz.prog r) 24 a b = some (.pointer (some ⟨μ.next + 13, 0, none⟩)) := fun r a b g1 g2 => by
    rw [indexAddr_sz (P := Tryz.prog) Tryz.underlying24 i39 g1 g2 (by decide), Nat.zero_mul]
  -- both orders
  have s9 := store_puts (P := Tryz.prog) (t := 39) (vs := l) (o := 0) i39 (by rw [hll]; rfl) hlo hb7 (by rw [hll]; exact Nat.le_refl _)
  have s12 := store_put (P := Tryz.prog) (t := 24) (v := .slice (some ⟨μ.next + 13, 0, none⟩) 1 17) i24 rfl rfl (Blk.put (i := μ.next + 13) 0 l hB7.blk) (show 2 < 3 by decide)
  have s12' := store_put (P := Tryz.prog) (t := 24) (v := .slice (some ⟨μ.next + 13, 0, none⟩) 1 17) i24 rfl rfl hB7.blk (show 2 < 3 by decide)
  have s9' := store_puts (P := Tryz.prog) (t := 39) (vs := l) (o := 0) i39 (by rw [hll]; rfl) hlo (Blk.put (i := bb) 2 [.slice (some ⟨μ.next + 13, 0, none⟩) 1 17] hb7) (by rw [hll]; exact Nat.le_refl _)
  have hcomm := putL_comm (o := 0) (p := 2) (vs := l) (us := [.slice (some ⟨μ.next + 13, 0, none⟩) 1 17]) hb7 hB7.blk hnb
  refine code_loop ?_
  refine code_block ?_
  refine code_seq ?_
  refine code_region ?_ ?_
  · rfl
  simp only [run1, aOne, aP, aR, aA, aT, aCall, aCallVal, aev, regAt_set, aput_mk, aput_none, plainV, aNilCheck, aExtract, aBin, aInt, Addr.add, Nat.zero_add, ends_some, Nat.reduceLT, Nat.reduceAdd, if_true, then_normal, Nat.reduceEqDiff, if_false, reduceIte, reduceCtorEq, decide_true, decide_false, Bool.not_true, Bool.not_false, beq_self_eq_true, beq_tf, beq_ft, aPick, List.map_cons, List.map_nil, List.nil_append, List.append_nil, List.getElem?_cons_zero, List.getElem?_cons_succ, r0, go_call (P := Tryz.prog) (X := X) (S := S0) Tryz.func10 rfl rfl, ht]
  refine code_seq ?_
  refine code_block ?_
  refine code_seq ?_
  refine code_region ?_ ?_
  · rfl
  simp only [run1, aOne, aP, aR, aA, aT, aCall, aCallVal, aev, regAt_set, aput_mk, aput_none, plainV, aNilCheck, aExtract, aBin, aInt, Addr.add, Nat.zero_add, ends_some, Nat.reduceLT, Nat.reduceAdd, if_true, then_normal, Nat.reduceEqDiff, if_false, reduceIte, reduceCtorEq, decide_true, decide_false, Bool.not_true, Bool.not_false, beq_self_eq_true, beq_tf, beq_ft, aPick, List.map_cons, List.map_nil, List.nil_append, List.append_nil, List.getElem?_cons_zero, List.getElem?_cons_succ, aNil, pl_eq]
  refine code_cond_true ?_ ?_
  · simp only [aev, regAt_set, Nat.reduceEqDiff, reduceIte]
  refine code_seq ?_
  refine code_splitP (n := 13) (f := 9) (g := 12) (ms := [0, 1, 3, 7, 0, 15, 0, 127, 255, 511, 255, 1279, 3327]) (pre := [0, 1, 2, 3, 4, 5, 6, 7]) (la := [8, 9]) (lb := [10, 11, 12]) (dp := ?_) (d1 := ?_) (d2 := ?_) ?_ ?_ ?_ ?_ ?_ ?_ ?_ ?_ ?_
  rotate_left 3
  · kernel_rfl
  · kernel_rfl
  · kernel_rfl
  · kernel_rfl
  · rfl
  · rfl
  · rfl
  · rfl
  simp only [dRun, wanted, aDrawOne, heavy, aReads, bef, aOne, aP, aR, aA, aT, aCall, aCallVal, aev, regAt_set, aput_mk, aput_none, plainV, aNilCheck, aExtract, aBin, aInt, Addr.add, Nat.zero_add, ends_some, Nat.reduceLT, Nat.reduceAdd, if_true, then_normal, Nat.reduceEqDiff, if_false, reduceIte, reduceCtorEq, decide_true, decide_false, Bool.not_true, Bool.not_false, beq_self_eq_true, beq_tf, beq_ft, aPick, List.map_cons, List.map_nil, List.nil_append, List.append_nil, List.getElem?_cons_zero, List.getElem?_cons_succ, eqVal_self, endsP_some, r0, r3, fa49_2, ld24, hc2, hld, aBuiltin, aLen, Tryz.underlying24, cast_nat, bs24z, hap]
  simp only [tRun, tailOp, wanted, aDrawOne, heavy, aReads, bef, aOne, aP, aR, aA, aT, aCall, aCallVal, aev, regAt_set, aput_mk, aput_none, plainV, aNilCheck, aExtract, aBin, aInt, Addr.add, Nat.zero_add, ends_some, Nat.reduceLT, Nat.reduceAdd, if_true, then_normal, Nat.reduceEqDiff, if_false, reduceIte, reduceCtorEq, decide_true, decide_false, Bool.not_true, Bool.not_false, beq_self_eq_true, beq_tf, beq_ft, aPick, List.map_cons, List.map_nil, List.nil_append, List.append_nil, List.getElem?_cons_zero, List.getElem?_cons_succ, eqVal_self, endsT_some, r0, r3, fa49_2, hix, s9, s12, s12', s9']
  refine ⟨same_end (fun j => hcomm j) (fun d => ?_), ?_⟩
  · simp only [regAt_set]
    by_cases a : d = 18
    · subst a; rfl
    · by_cases b : d = 19
      · subst b; rfl
      · by_cases c : d = 20
        · subst c; rfl
        · simp only [if_neg a, if_neg b, if_neg c]
  refine code_ret ?_
  simp only [blockC, then_ret]
  have h3l : t3 < μ.next := h3
  refine ⟨trivial, trivial, ⟨by simp only [putL_next]; omega, fun i hi hb => ?_, (Blk.of_get hM (hg7.2 sb hs) |>.put _ _).put _ _, μ.next + 13, l, fun h => absurd (hbd _ h) (by omega), by simp only [putL_next]; omega, ?_, ?_, ?_, .inl ⟨rfl, ?_⟩⟩⟩
  · rw [putL_get _ _ _ _ (show i ≠ bb from fun e => hb (by rw [e]; exact hbb)), putL_get _ _ _ _ (by omega), hg7.2 i hi]
  · exact (Has.of_put hb7 (by rw [hll]; exact Nat.le_refl _)).keep (putL_get _ _ _ _ hnb)
  · obtain ⟨z, ov, fx, sh, hz⟩ := hb7
    unfold Cl
    rw [putL_get _ _ _ _ hnb, putL_at hz]
    exact ⟨_, _, _, _, _, _, _, _, rfl⟩
  · refine Den.keep (by simp only [putL_next]; omega) (fun i hi hb => ?_) hD
    rw [putL_get _ _ _ _ (show i ≠ bb from fun e => hb (by rw [e]; exact hbb)), putL_get _ _ _ _ (by omega), hg7.2 i hi]
  · exact (hB7.put_off (Ne.symm hnb)).put2
end

noncomputable section
variable {X : FuncId → List Value → Mem → Option (Value × Mem)}

set_option maxRecDepth 20000 in
set_option maxHeartbeats 8000000 in
theorem add_bracket {cl : Nat → Nat} {sb bb t3 M nodes g e : Nat} {bad : Nat → Prop} (hbb : bad bb) (hsb : bad sb) (ht3 : bad t3) (hne : sb ≠ bb) (n3b : t3 ≠ bb) (n3s : t3 ≠ sb) {ks : List Nat} {l : List Value} {tm : T Value} {μ : Mem} (hg : 100 ≤ g) (hce : cl e = 0 ∨ cl e = 1) (heM : (e + 1) * 14 ≤ M) (he : e < 1000)
    (hB : Bd μ bb (.slice (some ⟨sb, 0, none⟩) (e + 1) 29) nodes (.slice none 0 0)) (hK : StkAt μ sb (e + 1) cl) (hM : Blk μ sb M 56) (hl : Has μ t3 0 l) (hs : sb < μ.next) (h3 : t3 < μ.next) (hbd : ∀ i, bad i → i < μ.next) (hD : Den bad μ ks l) (r0 : regAt tm 0 = .pointer (some ⟨bb, 0, none⟩)) (r3 : regAt tm 3 = .pointer (some ⟨t3, 0, none⟩)) :
    EndsC (aCode Tryz.prog X S0 g (.loop (loopBody Tryz.f22 0)) ⟨69, tm, [], none⟩ μ) fun a r μ' => a = .ret ∧ r.ds = [] ∧ AddQ bad cl sb bb M nodes (e + 1, ks) μ μ' := by
  obtain ⟨k, rfl⟩ := Nat.exists_eq_add_of_le' hg
  obtain ⟨hll, hlo⟩ := hD.len
  have ht := top_some (X := X) (g := k + 96) (by omega) hB (by omega)
  obtain ⟨p, hE⟩ := hK e (Nat.lt_succ_self e)
  have hk4 : ieq (.ofNat (knd (cl e))) 4 = false := by rcases hce with h | h <;> rw [h] <;> rfl
  -- tail
  have hMu : Blk ⟨μ.obs, μ.next + 12⟩ sb M 56 := hM
  have hEu : Has ⟨μ.obs, μ.next + 12⟩ sb (e * 14) (opn (knd (cl e)) p (txt (cl e)) (.slice none 0 0) false) := hE
  have c0 : cellsAt ⟨μ.obs, μ.next + 12⟩ sb (e * 14) = some (.int .i64 (.ofNat (knd (cl e)))) := hEu.cell 0 (Nat.le_of_ble_eq_true rfl)
  have c12 : cellsAt ⟨μ.obs, μ.next + 12⟩ sb (e * 14 + 12) = some (.bool false) := hEu.cell 12 (Nat.le_of_ble_eq_true rfl)
  have s5 := store_put (P := Tryz.prog) (t := 4) (v := .bool false) i4 rfl rfl hMu (show e * 14 + 13 < M by omega)
  obtain ⟨μ1, hμ1⟩ : ∃ m : Mem, m = putL ⟨μ.obs, μ.next + 12⟩ sb (e * 14 + 13) [.bool false] := ⟨_, rfl⟩
  rw [← hμ1] at s5
  have hn1 : μ1.next = μ.next + 12 := by rw [hμ1, putL_next]
  have hg1 : ∀ i, i ≠ sb → μ1.obs.get i = μ.obs.get i := fun i hi => by rw [hμ1, putL_get _ _ _ _ hi]
  have hB1 : Bd μ1 bb (.slice (some ⟨sb, 0, none⟩) (e + 1) 29) nodes (.slice none 0 0) := hB.of_get (hg1 bb (Ne.symm hne)) (by omega)
  have hE1 : Has μ1 sb (e * 14) (opn (knd (cl e)) p (txt (cl e)) (.slice none 0 0) false) := by rw [hμ1]; exact Has.set (k := 13) hEu hMu (Nat.le_of_ble_eq_true rfl)
  have hM1 : Blk μ1 sb M 56 := by rw [hμ1]; exact hMu.put _ _
  have hK1 : StkAt μ1 sb e cl := fun e' he' => by
    obtain ⟨p', h'⟩ := hK e' (by omega)
    refine ⟨p', ?_⟩
    rw [hμ1]
    exact Has.put (show Has ⟨μ.obs, μ.next + 12⟩ sb (e' * 14) _ from h') hMu (.inr (.inr (by rw [opn_len]; omega)))
  have hl1 : Has μ1 t3 0 l := hl.keep (hg1 t3 n3s)
  -- items
  obtain ⟨m7, hap, hg7, hn7, hb7⟩ := first_room μ1 13 6 (by decide)
  have hbbn := hB.n
  have hM7 : Blk m7 sb M 56 := hM1.of_get (hg7.2 sb (by omega))
  have hE7 : Has m7 sb (e * 14) (opn (knd (cl e)) p (txt (cl e)) (.slice none 0 0) false) := hE1.keep (hg7.2 sb (by omega))
  have hld : ∀ y, aLoad Tryz.prog ⟨μ1.obs, y⟩ 39 (.pointer (some ⟨t3, 0, none⟩)) = some (.agg l.toArray) := fun y => lds39 (show Has ⟨μ1.obs, y⟩ t3 0 l from hl1) (by rw [hll]; rfl)
  have c11 : ∀ y, cellsAt ⟨μ1.obs, y⟩ sb (e * 14 + 11) = some (.slice none 0 0) := fun y => (show Has ⟨μ1.obs, y⟩ sb (e * 14) (opn (knd (cl e)) p (txt (cl e)) (.slice none 0 0) false) from hE1).cell 11 (Nat.le_of_ble_eq_true rfl)
  have hnb : μ1.next + 13 ≠ sb := by omega
  have hix : ∀ (r : Rg) (a b : Operand), aev Tryz.prog r a = .slice (some ⟨μ1.next + 13, 0, none⟩) 1 17 → aev Tryz.prog r b = .int .i64 (.ofNat 0) → aIndexAddr Tryz.prog (aev Tryz.prog r) 24 a b = some (.pointer (some ⟨μ1.next + 13, 0, none⟩)) := fun r a b g1 g2 => by
    rw [indexAddr_sz (P := Tryz.prog) Tryz.underlying24 i39 g1 g2 (by decide), Nat.zero_mul]
  have s9 := store_puts (P := Tryz.prog) (t := 39) (vs := l) (o := 0) i39 (by rw [hll]; rfl) hlo hb7 (by rw [hll]; exact Nat.le_refl _)
  have s12 := store_put (P := Tryz.prog) (t := 24) (v := .slice (some ⟨μ1.next + 13, 0, none⟩) 1 17) i24 rfl rfl (Blk.put (i := μ1.next + 13) 0 l hM7) (show e * 14 + 11 < M by omega)
  have s12' := store_put (P := Tryz.prog) (t := 24) (v := .slice (some ⟨μ1.next + 13, 0, none⟩) 1 17) i24 rfl rfl hM7 (show e * 14 + 11 < M by omega)
  have s9' := store_puts (P := Tryz.prog) (t := 39) (vs := l) (o := 0) i39 (by rw [hll]; rfl) hlo (Blk.put (i := sb) (e * 14 + 11) [.slice (some ⟨μ1.next + 13, 0, none⟩) 1 17] hb7) (by rw [hll]; exact Nat.le_refl _)
  have hcomm := putL_comm (o := 0) (p := e * 14 + 11) (vs := l) (us := [.slice (some ⟨μ1.next + 13, 0, none⟩) 1 17]) hb7 hM7 hnb
  refine code_loop ?_
  refine code_block ?_
  refine code_seq ?_
  refine code_region ?_ ?_
  · rfl
  simp only [run1, aOne, aP, aR, aA, aT, aCall, aCallVal, aev, regAt_set, aput_mk, aput_none, plainV, aNilCheck, aExtract, aBin, aInt, Addr.add, Nat.zero_add, ends_some, Nat.reduceLT, Nat.reduceAdd, if_true, then_normal, Nat.reduceEqDiff, if_false, reduceIte, reduceCtorEq, decide_true, decide_false, Bool.not_true, Bool.not_false, beq_self_eq_true, beq_tf, beq_ft, aPick, List.map_cons, List.map_nil, List.nil_append, List.append_nil, List.getElem?_cons_zero, List.getElem?_cons_succ, r0, go_call (P := Tryz.prog) (X := X) (S := S0) Tryz.func10 rfl rfl, ht]
  refine code_seq ?_
  refine code_block ?_
  refine code_seq ?_
  refine code_region ?_ ?_
  · rfl
  simp only [run1, aOne, aP, aR, aA, aT, aCall, aCallVal, aev, regAt_set, aput_mk, aput_none, plainV, aNilCheck, aExtract, aBin, aInt, Addr.add, Nat.zero_add, ends_some, Nat.reduceLT, Nat.reduceAdd, if_true, then_normal, Nat.reduceEqDiff, if_false, reduceIte, reduceCtorEq, decide_true, decide_false, Bool.not_true, Bool.not_false, beq_self_eq_true, beq_tf, beq_ft, aPick, List.map_cons, List.map_nil, List.nil_append, List.append_nil, List.getElem?_cons_zero, List.getElem?_cons_succ, aNil, Tryz.underlying57]
  refine code_cond_false ?_ ?_
  · simp only [aev, regAt_set, Nat.reduceEqDiff, reduceIte]
  refine code_seq ?_
  refine code_region ?_ ?_
  · rfl
  simp only [run1, aOne, aP, aR, aA, aT, aCall, aCallVal, aev, regAt_set, aput_mk, aput_none, plainV, aNilCheck, aExtract, aBin, aInt, Addr.add, Nat.zero_add, ends_some, Nat.reduceLT, Nat.reduceAdd, if_true, then_normal, Nat.reduceEqDiff, if_false, reduceIte, reduceCtorEq, decide_true, decide_false, Bool.not_true, Bool.not_false, beq_self_eq_true, beq_tf, beq_ft, aPick, List.map_cons, List.map_nil, List.nil_append, List.append_nil, List.getElem?_cons_zero, List.getElem?_cons_succ, fa56_0, fa51_0, ld3, c0, hk4]
  refine code_cond_true ?_ ?_
  · simp only [aev, regAt_set, Nat.reduceEqDiff, reduceIte]
  refine code_seq ?_
  refine code_region ?_ ?_
  · rfl
  simp only [run1, aOne, aP, aR, aA, aT, aCall, aCallVal, aev, regAt_set, aput_mk, aput_none, plainV, aNilCheck, aExtract, aBin, aInt, Addr.add, Nat.zero_add, ends_some, Nat.reduceLT, Nat.reduceAdd, if_true, then_normal, Nat.reduceEqDiff, if_false, reduceIte, reduceCtorEq, decide_true, decide_false, Bool.not_true, Bool.not_false, beq_self_eq_true, beq_tf, beq_ft, aPick, List.map_cons, List.map_nil, List.nil_append, List.append_nil, List.getElem?_cons_zero, List.getElem?_cons_succ, fa56_2, fa56_3, ld4, c12, s5]
  refine code_seq ?_
  refine code_splitP (n := 13) (f := 9) (g := 12) (ms := [0, 1, 3, 7, 0, 15, 0, 127, 255, 511, 255, 1279, 3327]) (pre := [0, 1, 2, 3, 4, 5, 6, 7]) (la := [8, 9]) (lb := [10, 11, 12]) (dp := ?_) (d1 := ?_) (d2 := ?_) ?_ ?_ ?_ ?_ ?_ ?_ ?_ ?_ ?_
  rotate_left 3
  · kernel_rfl
  · kernel_rfl
  · kernel_rfl
  · kernel_rfl
  · rfl
  · rfl
  · rfl
  · rfl
  simp only [dRun, wanted, aDrawOne, heavy, aReads, bef, aOne, aP, aR, aA, aT, aCall, aCallVal, aev, regAt_set, aput_mk, aput_none, plainV, aNilCheck, aExtract, aBin, aInt, Addr.add, Nat.zero_add, ends_some, Nat.reduceLT, Nat.reduceAdd, if_true, then_normal, Nat.reduceEqDiff, if_false, reduceIte, reduceCtorEq, decide_true, decide_false, Bool.not_true, Bool.not_false, beq_self_eq_true, beq_tf, beq_ft, aPick, List.map_cons, List.map_nil, List.nil_append, List.append_nil, List.getElem?_cons_zero, List.getElem?_cons_succ, eqVal_self, endsP_some, r0, r3, fa56_1, ld24, c11, hld, aBuiltin, aLen, Tryz.underlying24, cast_nat, bs24z, hap]
  simp only [tRun, tailOp, wanted, aDrawOne, heavy, aReads, bef, aOne, aP, aR, aA, aT, aCall, aCallVal, aev, regAt_set, aput_mk, aput_none, plainV, aNilCheck, aExtract, aBin, aInt, Addr.add, Nat.zero_add, ends_some, Nat.reduceLT, Nat.reduceAdd, if_true, then_normal, Nat.reduceEqDiff, if_false, reduceIte, reduceCtorEq, decide_true, decide_false, Bool.not_true, Bool.not_false, beq_self_eq_true, beq_tf, beq_ft, aPick, List.map_cons, List.map_nil, List.nil_append, List.append_nil, List.getElem?_cons_zero, List.getElem?_cons_succ, eqVal_self, endsT_some, r0, r3, fa56_1, hix, s9, s12, s12', s9']
  refine ⟨same_end (fun j => hcomm j) (fun d => ?_), ?_⟩
  · simp only [regAt_set]
    by_cases a : d = 43
    · subst a; rfl
    · by_cases b : d = 44
      · subst b; rfl
      · by_cases c : d = 45
        · subst c; rfl
        · simp only [if_neg a, if_neg b, if_neg c]
  refine code_ret ?_
  simp only [blockC, then_ret]
  have fr : ∀ i, i < μ.next → ¬ bad i → (putL (putL m7 (μ1.next + 13) 0 l) sb (e * 14 + 11) [.slice (some ⟨μ1.next + 13, 0, none⟩) 1 17]).obs.get i = μ.obs.get i := fun i hi hb => by
    have hns : i ≠ sb := fun e => hb (by rw [e]; exact hsb)
    rw [putL_get _ _ _ _ hns, putL_get _ _ _ _ (by omega), hg7.2 i (by omega), hg1 i hns]
  refine ⟨trivial, trivial, ⟨by simp only [putL_next]; omega, fr, (hM7.put _ _).put _ _, μ1.next + 13, l, fun h => absurd (hbd _ h) (by omega), by simp only [putL_next]; omega, ?_, ?_, Den.keep (by simp only [putL_next]; omega) fr hD, .inr ⟨e, p, rfl, ?_, ?_, ?_⟩⟩⟩
  · exact (Has.of_put hb7 (by rw [hll]; exact Nat.le_refl _)).keep (putL_get _ _ _ _ hnb)
  · obtain ⟨z, ov, fx, sh, hz⟩ := hb7
    unfold Cl
    rw [putL_get _ _ _ _ hnb, putL_at hz]
    exact ⟨_, _, _, _, _, _, _, _, rfl⟩
  · exact hB1.of_get (by rw [putL_get _ _ _ _ (Ne.symm hne), putL_get _ _ _ _ (by omega), hg7.2 bb (by omega)]) (by simp only [putL_next]; omega)
  · refine fun e' he' => ?_
    obtain ⟨p', h'⟩ := hK1 e' he'
    refine ⟨p', Has.put ((h'.keep (hg7.2 sb (by omega))).keep (putL_get _ _ _ _ (Ne.symm hnb))) (hM7.put _ _) (.inr (.inr (by rw [opn_len]; omega)))⟩
  · exact Has.set (k := 11) (hE7.keep (putL_get _ _ _ _ (Ne.symm hnb))) (hM7.put _ _) (Nat.le_of_ble_eq_true rfl)
end

noncomputable section
variable {X : FuncId → List Value → Mem → Option (Value × Mem)}

theorem bs24p (ρ : Operand → Value) (a b : Operand) (l1 l2 : List Value) (h1 : ρ a = .agg l1.toArray) (h2 : ρ b = .agg l2.toArray) (hl1 : l1.length = 8) (hl2 : l2.length = 8) : aBuildSlice Tryz.prog ρ 24 2 #[(0, a), (1, b)] = some (.cells 16 39 (l1 ++ l2).toArray .e 0 0 false false, fun id => .slice (some ⟨id, 0, none⟩) 2 4) := by
  match l1, hl1 with
  | [a0, a1, a2, a3, a4, a5, a6, a7], _ =>
    match l2, hl2 with
    | [b0, b1, b2, b3, b4, b5, b6, b7], _ =>
      unfold aBuildSlice
      simp only [Tryz.underlying24, i39, z39]
      show (match aFill _ _ [(0, ρ a), (1, ρ b)] with | some cs => _ | none => _) = _
      rw [h1, h2]
      rfl

/-- a slice without its last element -/
theorem slice_less {ρ : Operand → Value} {t e : TypeId} {inf : TypeInfo} {x y : Operand} {a : Addr} {n i s : Nat} {kd : IntKind} (hu : Tryz.prog.underlying t = some (.slice e)) (hi : Tryz.prog.info? e = some inf) (hx : ρ x = .slice (some a) n (2 * s + 1)) (hy : ρ y = .int kd (.ofNat i)) (hin : i ≤ n) :
    aSlice Tryz.prog ρ t x none (some y) none = some (.slice (some a) i (2 * s + 1)) := by
  unfold aSlice
  have e1 : Nat.beq (Nat.mod (2 * s + 1) 2) 0 = false := by rw [show Nat.mod (2 * s + 1) 2 = 1 from by show (2 * s + 1) % 2 = 1; omega]; rfl
  have e3 : Nat.ble i n = true := Nat.ble_eq_true_of_le hin
  simp only [hx, hu, hi, e1, aBounds, aBound, hy, e3, isSome]

set_option maxRecDepth 20000 in
set_option maxHeartbeats 8000000 in
theorem add_loop {cl : Nat → Nat} {sb bb t3 M nodes : Nat} {bad : Nat → Prop} (hbb : bad bb) (hsb : bad sb) (ht3 : bad t3) (hne : sb ≠ bb) (n3b : t3 ≠ bb) (n3s : t3 ≠ sb) (hcl : ∀ e, cl e = 0 ∨ cl e = 1 ∨ cl e = 2) :
    ∀ (d f : Nat) (ks : List Nat) (l : List Value) (tm : T Value) (μ : Mem), d * 14 ≤ M → d < 1000 → Bd μ bb (.slice (some ⟨sb, 0, none⟩) d 29) nodes (.slice none 0 0) → StkAt μ sb d cl → Blk μ sb M 56 → Has μ t3 0 l → Blk μ t3 8 39 → sb < μ.next → t3 < μ.next → (∀ i, bad i → i < μ.next) → Den bad μ ks l → regAt tm 0 = .pointer (some ⟨bb, 0, none⟩) → regAt tm 3 = .pointer (some ⟨t3, 0, none⟩) →
      EndsC (aCode Tryz.prog X S0 (f + d + 150) (.loop (loopBody Tryz.f22 0)) ⟨69, tm, [], none⟩ μ) fun a r μ' => a = .ret ∧ r.ds = [] ∧ AddQ bad cl sb bb M nodes (pops cl d ks) μ μ' := by
  intro d
  induction d with
  | zero =>
    intro f ks l tm μ hdM hd hB hK hM hl hlb hs h3 hbd hD r0 r3
    exact add_empty hbb hsb ht3 hne n3b n3s (by omega) hB hM hl hs h3 hbd hD r0 r3
  | succ e ih =>
    intro f ks l tm μ hdM hd hB hK hM hl hlb hs h3 hbd hD r0 r3
    by_cases h2 : cl e = 2
    · have hp : pops cl (e + 1) ks = pops cl e (2 :: ks) := by show (if cl e = 2 then _ else _) = _; rw [if_pos h2]
      rw [hp]
      obtain ⟨hll, hlo⟩ := hD.len
      have ht := top_some (X := X) (g := f + (e + 1) + 146) (by omega) hB (by omega)
      obtain ⟨p, hE⟩ := hK e (Nat.lt_succ_self e)
      rw [h2] at hE
      have hE : Has μ sb (e * 14) (opn 4 p quoteT (.slice none 0 0) false) := hE
      have hk4 : ieq (.ofNat 4) 4 = true := rfl
      have c0 : cellsAt ⟨μ.obs, μ.next + 12⟩ sb (e * 14) = some (.int .i64 (.ofNat 4)) := hE.cell 0 (Nat.le_of_ble_eq_true rfl)
      have c2 : ∀ y, cellsAt ⟨μ.obs, y⟩ sb (e * 14 + 2) = some (.string ⟨quoteT.toArray⟩) := fun y => hE.cell 2 (Nat.le_of_ble_eq_true rfl)
      have hbbn := hB.n
      -- region 7
      obtain ⟨v5, m5, hsym, hv5, hg5⟩ := sym_ends (X := X) (g := f + (e + 1) + 144) (tx := quoteT) (μ := ⟨μ.obs, μ.next + 12 + 10⟩) (by omega)
      subst hv5
      have hgu : Grow μ m5 := ((grow_up μ 12).trans (grow_up ⟨μ.obs, μ.next + 12⟩ 10)).trans hg5
      have hn5 : μ.next + 12 + 10 ≤ m5.next := hg5.1
      have hl5 : Has m5 t3 0 l := hl.keep (hgu.2 t3 h3)
      have ld0 : aLoad Tryz.prog ⟨μ.obs, μ.next + 12 + 10⟩ 39 (.pointer (some ⟨t3, 0, none⟩)) = some (.agg l.toArray) := lds39 (show Has ⟨μ.obs, μ.next + 12 + 10⟩ t3 0 l from hl) (by rw [hll]; rfl)
      have ld5 : aLoad Tryz.prog m5 39 (.pointer (some ⟨t3, 0, none⟩)) = some (.agg l.toArray) := lds39 hl5 (by rw [hll]; rfl)
      obtain ⟨m7, hm7⟩ : ∃ m : Mem, m = ⟨m5.obs.set (Nat.add (μ.next + 12) 7) (.cells 16 39 (symq ++ l).toArray .e 0 0 false false), m5.next⟩ := ⟨_, rfl⟩
      have hn7 : m7.next = m5.next := by rw [hm7]
      have hg7 : Grow μ m7 := ⟨by rw [hn7]; exact hgu.1, fun i hi => by rw [hm7]; show T.get _ i = _; rw [T.get_set, if_neg (by show ¬ i = μ.next + 12 + 7; omega)]; exact hgu.2 i hi⟩
      have hob7 : m7.obs.get (μ.next + 12 + 7) = some (.cells 16 39 (symq ++ l).toArray .e 0 0 false false) := by rw [hm7]; show T.get _ (μ.next + 12 + 7) = _; rw [T.get_set, if_pos rfl]
      have hsl : (symq ++ l).length = 16 := by rw [List.length_append, hll]; rfl
      obtain ⟨v8, m8, hls, b, hv8, hg8, hb1, hb2, hb3, hb4⟩ := list_ends (X := X) (g := f + (e + 1) + 144) (i := μ.next + 12 + 7) (n := 2) (cp := 4) (l := symq ++ l) (μ := m7) (by omega) (Has.new (t := 39) (fx := false) (sh := false) (by rw [hsl]; exact hob7)) hsl (.inr rfl) (by omega) ⟨_, _, _, _, _, _, _, _, hob7⟩
      subst hv8
      have hls : aFun Tryz.prog (aCode Tryz.prog X S0 (f + (e + 1) + 144)) 45 [.slice (some ⟨Nat.add (μ.next + 12) 7, 0, none⟩) 2 4] m7 = some (.agg (dat 5 [] (.slice (some ⟨b, 0, none⟩) 2 17)).toArray, m8) := hls
      have hgm8 := hg7.trans hg8
      have hlb8 : Blk m8 t3 8 39 := hlb.of_get (hgm8.2 t3 h3)
      have s9 := store_puts (P := Tryz.prog) (t := 39) (vs := dat 5 [] (.slice (some ⟨b, 0, none⟩) 2 17)) (o := 0) i39 rfl rfl hlb8 (Nat.le_refl _)
      have hbs : ∀ (r : Rg) (x y : Operand), aev Tryz.prog r x = .agg (dat 4 quoteT (.slice none 0 0)).toArray → aev Tryz.prog r y = .agg l.toArray → aBuildSlice Tryz.prog (aev Tryz.prog r) 24 2 #[(0, x), (1, y)] = some (.cells 16 39 (symq ++ l).toArray .e 0 0 false false, fun id => .slice (some ⟨id, 0, none⟩) 2 4) := fun r x y g1 g2 => bs24p _ _ _ symq l g1 g2 rfl hll
      obtain ⟨m9, hm9⟩ : ∃ m : Mem, m = putL m8 t3 0 (dat 5 [] (.slice (some ⟨b, 0, none⟩) 2 17)) := ⟨_, rfl⟩
      rw [← hm9] at s9
      have hn9 : m9.next = m8.next := by rw [hm9, putL_next]
      have hk9 : ∀ i, i < μ.next → i ≠ t3 → m9.obs.get i = μ.obs.get i := fun i hi hn => by rw [hm9, putL_get _ _ _ _ hn]; exact hgm8.2 i hi
      have hn8 := hg8.1
      -- region 8
      have hB9 : Bd m9 bb (.slice (some ⟨sb, 0, none⟩) (e + 1) 29) nodes (.slice none 0 0) := hB.of_get (hk9 bb hbbn (Ne.symm n3b)) (by omega)
      have c90 : ∀ y, cellsAt ⟨m9.obs, y⟩ bb 0 = some (.slice (some ⟨sb, 0, none⟩) (e + 1) 29) := fun y => hB9.c0
      have a1 : qwrap .i64 (Int.sub (.ofNat (e + 1)) 1) = .ofNat e := sub_nat (e + 1) 1 (by omega) (by omega)
      have hsl8 : ∀ (r : Rg) (x y : Operand), aev Tryz.prog r x = .slice (some ⟨sb, 0, none⟩) (e + 1) 29 → aev Tryz.prog r y = .int .i64 (.ofNat e) → aSlice Tryz.prog (aev Tryz.prog r) 47 x none (some y) none = some (.slice (some ⟨sb, 0, none⟩) e 29) := fun r x y g1 g2 => slice_less (s := 14) Tryz.underlying47 i56 g1 g2 (Nat.le_succ e)
      have hB9u : Bd ⟨m9.obs, m9.next + 15⟩ bb (.slice (some ⟨sb, 0, none⟩) (e + 1) 29) nodes (.slice none 0 0) := hB9.grow (grow_up m9 15)
      have s14 := store_put (P := Tryz.prog) (t := 47) (v := .slice (some ⟨sb, 0, none⟩) e 29) i47 rfl rfl hB9u.blk (show 0 < 3 by decide)
      have hBx := hB9u.put0 (st' := .slice (some ⟨sb, 0, none⟩) e 29)
      obtain ⟨mx, hmx⟩ : ∃ m : Mem, m = putL ⟨m9.obs, m9.next + 15⟩ bb 0 [.slice (some ⟨sb, 0, none⟩) e 29] := ⟨_, rfl⟩
      rw [← hmx] at s14 hBx
      have hnx : mx.next = m9.next + 15 := by rw [hmx, putL_next]
      have hkx : ∀ i, i ≠ bb → mx.obs.get i = m9.obs.get i := fun i hi => by rw [hmx, putL_get _ _ _ _ hi]
      have hkμ : ∀ i, i < μ.next → ¬ bad i → mx.obs.get i = μ.obs.get i := fun i hi hb => by
        rw [hkx i (fun h => hb (by rw [h]; exact hbb)), hk9 i hi (fun h => hb (by rw [h]; exact ht3))]
      have hsx : mx.obs.get sb = μ.obs.get sb := by rw [hkx sb hne, hk9 sb hs (Ne.symm n3s)]
      have hxb : mx.obs.get b = m8.obs.get b := by rw [hkx b (by omega), hm9, putL_get _ _ _ _ (by omega)]
      have hDx : Den bad mx (2 :: ks) (dat 5 [] (.slice (some ⟨b, 0, none⟩) 2 17)) := by
        refine ⟨b, 17, l, fun h => absurd (hbd b h) (by omega), by omega, by unfold Cl; rw [hxb]; exact hb4, Den.keep (by omega) hkμ hD, ?_⟩
        rw [if_pos rfl]
        exact ⟨rfl, hb3.keep hxb⟩
      refine code_loop ?_
      refine code_block ?_
      refine code_seq ?_
      refine code_region ?_ ?_
      · rfl
      simp only [run1, aOne, aP, aR, aA, aT, aCall, aCallVal, aev, regAt_set, aput_mk, aput_none, plainV, aNilCheck, aExtract, aBin, aInt, Addr.add, Nat.zero_add, ends_some, Nat.reduceLT, Nat.reduceAdd, if_true, then_normal, Nat.reduceEqDiff, if_false, reduceIte, reduceCtorEq, decide_true, decide_false, Bool.not_true, Bool.not_false, beq_self_eq_true, beq_tf, beq_ft, aPick, List.map_cons, List.map_nil, List.nil_append, List.append_nil, List.getElem?_cons_zero, List.getElem?_cons_succ, r0, go_call (P := Tryz.prog) (X := X) (S := S0) Tryz.func10 rfl rfl, ht]
      refine code_seq ?_
      refine code_block ?_
      refine code_seq ?_
      refine code_region ?_ ?_
      · rfl
      simp only [run1, aOne, aP, aR, aA, aT, aCall, aCallVal, aev, regAt_set, aput_mk, aput_none, plainV, aNilCheck, aExtract, aBin, aInt, Addr.add, Nat.zero_add, ends_some, Nat.reduceLT, Nat.reduceAdd, if_true, then_normal, Nat.reduceEqDiff, if_false, reduceIte, reduceCtorEq, decide_true, decide_false, Bool.not_true, Bool.not_false, beq_self_eq_true, beq_tf, beq_ft, aPick, List.map_cons, List.map_nil, List.nil_append, List.append_nil, List.getElem?_cons_zero, List.getElem?_cons_succ, aNil, Tryz.underlying57]
      refine code_cond_false ?_ ?_
      · simp only [aev, regAt_set, Nat.reduceEqDiff, reduceIte]
      refine code_seq ?_
      refine code_region ?_ ?_
      · rfl
      simp only [run1, aOne, aP, aR, aA, aT, aCall, aCallVal, aev, regAt_set, aput_mk, aput_none, plainV, aNilCheck, aExtract, aBin, aInt, Addr.add, Nat.zero_add, ends_some, Nat.reduceLT, Nat.reduceAdd, if_true, then_normal, Nat.reduceEqDiff, if_false, reduceIte, reduceCtorEq, decide_true, decide_false, Bool.not_true, Bool.not_false, beq_self_eq_true, beq_tf, beq_ft, aPick, List.map_cons, List.map_nil, List.nil_append, List.append_nil, List.getElem?_cons_zero, List.getElem?_cons_succ, fa56_0, fa51_0, ld3, c0, hk4]
      refine code_cond_false ?_ ?_
      · simp only [aev, regAt_set, Nat.reduceEqDiff, reduceIte]
      refine code_skip ?_
      simp only [blockC, then_normal]
      refine code_seq ?_
      refine code_draw (n := 10) (ms := [0, 1, 3, 7, 15, 31, 0, 127, 255, 511]) (ord := [0, 1, 2, 3, 4, 5, 6, 7, 8, 9]) (ds := ?_) ?_ ?_ ?_ ?_ ?_ ?_
      rotate_left
      · kernel_rfl
      · kernel_rfl
      · kernel_rfl
      · rfl
      · rfl
      iterate 10 (refine drun_true (by first | rfl | (simp only [wanted, aOne, aP, aR, aA, aT, aCall, aCallVal, aev, regAt_set, aput_mk, aput_none, plainV, aNilCheck, aExtract, aBin, aInt, Addr.add, Nat.zero_add, ends_some, Nat.reduceLT, Nat.reduceAdd, if_true, then_normal, Nat.reduceEqDiff, if_false, reduceIte, reduceCtorEq, decide_true, decide_false, Bool.not_true, Bool.not_false, beq_self_eq_true, beq_tf, beq_ft, aPick, List.map_cons, List.map_nil, List.nil_append, List.append_nil, List.getElem?_cons_zero, List.getElem?_cons_succ, r3, fa56_0, fa51_2, ld9, c2, go_call (P := Tryz.prog) (X := X) (S := S0) Tryz.func42 rfl rfl, hsym, ld0, ld5, hbs, ← hm7, go_call (P := Tryz.prog) (X := X) (S := S0) Tryz.func45 rfl rfl, hls, s9])) (by simp only [aDrawOne, heavy, aReads, eqVal_self, aOne, aP, aR, aA, aT, aCall, aCallVal, aev, regAt_set, aput_mk, aput_none, plainV, aNilCheck, aExtract, aBin, aInt, Addr.add, Nat.zero_add, ends_some, Nat.reduceLT, Nat.reduceAdd, if_true, then_normal, Nat.reduceEqDiff, if_false, reduceIte, reduceCtorEq, decide_true, decide_false, Bool.not_true, Bool.not_false, beq_self_eq_true, beq_tf, beq_ft, aPick, List.map_cons, List.map_nil, List.nil_append, List.append_nil, List.getElem?_cons_zero, List.getElem?_cons_succ, r3, fa56_0, fa51_2, ld9, c2, go_call (P := Tryz.prog) (X := X) (S := S0) Tryz.func42 rfl rfl, hsym, ld0, ld5, hbs, ← hm7, go_call (P := Tryz.prog) (X := X) (S := S0) Tryz.func45 rfl rfl, hls, s9]; try exact rfl) rfl ?_)
      simp only [dRun, endsD_some, then_normal]
      refine code_draw (n := 15) (ms := [0, 0, 2, 6, 14, 0, 32, 96, 224, 480, 992, 2046, 4095, 8191, 16383]) (ord := [0, 1, 2, 3, 4, 5, 6, 7, 8, 9, 10, 11, 12, 13, 14]) (ds := ?_) ?_ ?_ ?_ ?_ ?_ ?_
      rotate_left
      · kernel_rfl
      · kernel_rfl
      · kernel_rfl
      · rfl
      · rfl
      iterate 15 (refine drun_true (by first | rfl | (simp only [wanted, aOne, aP, aR, aA, aT, aCall, aCallVal, aev, regAt_set, aput_mk, aput_none, plainV, aNilCheck, aExtract, aBin, aInt, Addr.add, Nat.zero_add, ends_some, Nat.reduceLT, Nat.reduceAdd, if_true, then_normal, Nat.reduceEqDiff, if_false, reduceIte, reduceCtorEq, decide_true, decide_false, Bool.not_true, Bool.not_false, beq_self_eq_true, beq_tf, beq_ft, aPick, List.map_cons, List.map_nil, List.nil_append, List.append_nil, List.getElem?_cons_zero, List.getElem?_cons_succ, r0, fa49_0, Nat.add_zero, ld47, c90, aBuiltin, aLen, Tryz.underlying47, cast_nat, a1, hsl8, s14])) (by simp only [aDrawOne, heavy, aReads, eqVal_self, aOne, aP, aR, aA, aT, aCall, aCallVal, aev, regAt_set, aput_mk, aput_none, plainV, aNilCheck, aExtract, aBin, aInt, Addr.add, Nat.zero_add, ends_some, Nat.reduceLT, Nat.reduceAdd, if_true, then_normal, Nat.reduceEqDiff, if_false, reduceIte, reduceCtorEq, decide_true, decide_false, Bool.not_true, Bool.not_false, beq_self_eq_true, beq_tf, beq_ft, aPick, List.map_cons, List.map_nil, List.nil_append, List.append_nil, List.getElem?_cons_zero, List.getElem?_cons_succ, r0, fa49_0, Nat.add_zero, ld47, c90, aBuiltin, aLen, Tryz.underlying47, cast_nat, a1, hsl8, s14]; try exact rfl) rfl ?_)
      simp only [dRun, endsD_some, then_normal]
      simp only [blockC, then_normal]
      rw [show f + (e + 1) + 149 = f + e + 150 from by omega]
      have hBkM : Blk mx sb M 56 := hM.of_get hsx
      have ht3x : Has mx t3 0 (dat 5 [] (.slice (some ⟨b, 0, none⟩) 2 17)) := (by rw [hm9]; exact Has.of_put hlb8 (Nat.le_refl _) : Has m9 t3 0 _).keep (hkx t3 n3b)
      have hb3x : Blk mx t3 8 39 := (by rw [hm9]; exact hlb8.put _ _ : Blk m9 t3 8 39).of_get (hkx t3 n3b)
      refine EndsC.mono (ih f (2 :: ks) _ _ mx (by omega) (by omega) hBx ((hK.less (Nat.le_succ e)).keep hsx) hBkM ht3x hb3x (by omega) (by omega) (fun i hi => Nat.lt_of_lt_of_le (hbd i hi) (by omega)) hDx ?_ ?_) ?_
      · simp only [regAt_set, Nat.reduceEqDiff, reduceIte, r0]
      · simp only [regAt_set, Nat.reduceEqDiff, reduceIte, r3]
      rintro a r μ' ⟨h1, h2, h3⟩
      exact ⟨h1, h2, ⟨by have := h3.next; omega, fun i hi hb => (h3.same i (by omega) hb).trans (hkμ i hi hb), h3.blk, h3.res⟩⟩
    · have hp : pops cl (e + 1) ks = (e + 1, ks) := by show (if cl e = 2 then _ else _) = _; rw [if_neg h2]
      rw [hp]
      exact add_bracket hbb hsb ht3 hne n3b n3s (by omega) (by have := hcl e; omega) hdM (by omega) hB hK hM hl hs h3 hbd hD r0 r3
end

noncomputable section
variable {X : FuncId → List Value → Mem → Option (Value × Mem)}

set_option maxHeartbeats 8000000 in
theorem add_ends {cl : Nat → Nat} {sb bb M nodes g d : Nat} {bad : Nat → Prop} (hg : 1200 ≤ g) (hbb : bad bb) (hsb : bad sb) (hne : sb ≠ bb) (hcl : ∀ e, cl e = 0 ∨ cl e = 1 ∨ cl e = 2) {ks : List Nat} {l : List Value} {μ : Mem} (hdM : d * 14 ≤ M) (hd : d < 1000)
    (hB : Bd μ bb (.slice (some ⟨sb, 0, none⟩) d 29) nodes (.slice none 0 0)) (hK : StkAt μ sb d cl) (hM : Blk μ sb M 56) (hs : sb < μ.next) (hbd : ∀ i, bad i → i < μ.next) (hD : Den bad μ ks l) :
    EndsF (aFun Tryz.prog (aCode Tryz.prog X S0 g) 22 [.pointer (some ⟨bb, 0, none⟩), .agg l.toArray] μ) fun v μ' => v = .tuple #[] ∧ AddQ bad cl sb bb M nodes (pops cl d ks) μ μ' := by
  obtain ⟨k, rfl⟩ := Nat.exists_eq_add_of_le' hg
  obtain ⟨hll, hlo⟩ := hD.len
  have hga := grow1 μ (.cells 8 39 l.toArray .e 0 0 false false)
  obtain ⟨μa, hμa⟩ : ∃ m : Mem, m = ⟨μ.obs.set μ.next (.cells 8 39 l.toArray .e 0 0 false false), μ.next + 1⟩ := ⟨_, rfl⟩
  rw [← hμa] at hga
  have hμa' : (⟨μ.obs.set μ.next (.cells l.length 39 l.toArray .e 0 0 false false), Nat.add μ.next 1⟩ : Mem) = μa := by rw [hll]; exact hμa.symm
  have hna : μa.next = μ.next + 1 := by rw [hμa]
  have hob : μa.obs.get μ.next = some (.cells 8 39 l.toArray .e 0 0 false false) := by rw [hμa]; show T.get _ _ = _; rw [T.get_set, if_pos rfl]
  have hbbn := hB.n
  have hbd' : ∀ i, (bad i ∨ i = μ.next) → i < μa.next := fun i hi => by
    rcases hi with hi | rfl
    · have := hbd i hi; omega
    · omega
  have hDa : Den (fun i => bad i ∨ i = μ.next) μa ks l := Den.keep hga.1 (fun i hi _ => hga.2 i hi) (Den.more (bad' := fun i => bad i ∨ i = μ.next) (fun i hi => hi.imp id (fun h => by omega)) hD)
  refine fun_enter Tryz.func22 rfl rfl (Nat.le_of_ble_eq_true rfl) ?_
  simp only [T.lay, Nat.zero_add, Tryz.ntmps22, Nat.reduceAdd]
  refine code_seq ?_
  refine code_region ?_ ?_
  · rfl
  simp only [run1, aOne, aP, aR, aA, aT, aCall, aCallVal, aev, regAt_set, aput_mk, aput_none, plainV, aNilCheck, aExtract, aBin, aInt, Addr.add, Nat.zero_add, ends_some, Nat.reduceLT, Nat.reduceAdd, if_true, then_normal, Nat.reduceEqDiff, if_false, reduceIte, reduceCtorEq, decide_true, decide_false, Bool.not_true, Bool.not_false, beq_self_eq_true, beq_tf, beq_ft, aPick, List.map_cons, List.map_nil, List.nil_append, List.append_nil, List.getElem?_cons_zero, List.getElem?_cons_succ, box_agg, hμa']
  refine code_block ?_
  rw [show k + 1198 = (k + 1048 - d) + d + 150 from by omega]
  refine EndsC.mono (add_loop (cl := cl) (sb := sb) (bb := bb) (t3 := μ.next) (M := M) (nodes := nodes) (bad := fun i => bad i ∨ i = μ.next) (.inl hbb) (.inl hsb) (.inr rfl) hne (by omega) (by omega) hcl d (k + 1048 - d) ks l _ μa hdM hd (hB.grow hga) (hK.keep (hga.2 sb hs)) (hM.of_get (hga.2 sb hs)) (Has.new (t := 39) (fx := false) (sh := false) (by rw [hll]; exact hob)) ⟨_, _, _, _, hob⟩ (by omega) (by omega) hbd' hDa ?_ ?_) ?_
  · simp only [regAt_set, Nat.reduceEqDiff, reduceIte]
  · simp only [regAt_set, Nat.reduceEqDiff, reduceIte]
  rintro a r μ' ⟨rfl, hr, hQ⟩
  simp only [blockC, then_ret]
  refine ⟨hr, .tuple #[], rfl, rfl, ⟨by have := hQ.next; omega, fun i hi hb => ?_, hQ.blk, ?_⟩⟩
  · exact (hQ.same i (by omega) (by rintro (h | h); exact hb h; omega)).trans (hga.2 i hi)
  · obtain ⟨b, l', h1, h2, h3, h4, h5, h6⟩ := hQ.res
    exact ⟨b, l', fun h => h1 (.inl h), h2, h3, h4, Den.more (fun i hi => .inl (.inl hi)) h5, h6⟩
end
end Go.Proofs.YtfcpiamdmbliaaaGreatDoor.rd
