/-
  distafflaw06.ReaderDeep, part Q: the scanner's words. No conditions.
-/
import Derived.Test.YtfcpiamdmbliaaaGreatDoorRdP
set_option linter.unusedSimpArgs false
set_option linter.unusedVariables false
namespace Go.Proofs.YtfcpiamdmbliaaaGreatDoor.rd
open Go Go.Proofs Go.Proofs.YtfcpiamdmbliaaaGreatDoor.Ev

noncomputable section
variable {X : FuncId → List Value → Mem → Option (Value × Mem)}

set_option maxRecDepth 10000 in
set_option maxHeartbeats 4000000 in
theorem run_end {k sc tb p : Nat} {bs : List UInt8} {μ : Mem} (hS : Scan μ sc tb bs p) (hp : p < bs.length) (hb : bs[p].toNat = 120) (hn : bs.length = p + 1) :
    EndsF (aFun Tryz.prog (aCode Tryz.prog X S0 (k + 60)) 17 [.pointer (some ⟨sc, 0, none⟩)] μ) fun v μ' => v = .string ⟨xT.toArray⟩ ∧ Scan μ' sc tb bs (p + 1) ∧ Turns μ μ' sc := by
  have hlen := hS.len
  have hc : ∀ y, cellsAt ⟨μ.obs, y⟩ sc 0 = some (.slice (some ⟨tb, 0, none⟩) bs.length 3) := fun y => hS.tx
  have ha : ∀ y, cellsAt ⟨μ.obs, y⟩ sc 1 = some (.int .i64 (.ofNat p)) := fun y => hS.at_
  have ha0 : cellsAt μ sc 1 = some (.int .i64 (.ofNat p)) := hS.at_
  have ht : ∀ y, cellsAt ⟨μ.obs, y⟩ tb p = some (.int .u8 (.ofNat 120)) := fun y => by rw [← hb]; exact hS.txt p hp
  have hi := idx30 (tb := tb) (c := 3) hp
  have a1 : qwrap .i64 (Int.add (.ofNat p) 1) = .ofNat (p + 1) := add_nat p 1 (by omega)
  have hS1 : Scan ⟨μ.obs, μ.next + 24⟩ sc tb bs p := hS.grow (grow_up μ 24)
  have hst := store_put (P := Tryz.prog) (t := 3) (v := .int .i64 (.ofNat (p + 1))) i3 rfl rfl hS1.blk (show 1 < 2 by decide)
  have hS2 := hS1.step (q := p + 1)
  obtain ⟨μ2, hμ2⟩ : ∃ m : Mem, m = putL ⟨μ.obs, μ.next + 24⟩ sc 1 [.int .i64 (.ofNat (p + 1))] := ⟨_, rfl⟩
  rw [← hμ2] at hst hS2
  have hT2 : Turns μ μ2 sc := by rw [hμ2]; exact (Turns.grow (grow_up μ 24)).trans (Turns.put _ _ _ _)
  have hc2 : ∀ y, cellsAt ⟨μ2.obs, y⟩ sc 0 = some (.slice (some ⟨tb, 0, none⟩) bs.length 3) := fun y => hS2.tx
  have ha2 : ∀ y, cellsAt ⟨μ2.obs, y⟩ sc 1 = some (.int .i64 (.ofNat (p + 1))) := fun y => hS2.at_
  have e2 : decide (p + 1 < bs.length) = false := decide_eq_false (by omega)
  have hS3 : Scan ⟨μ2.obs, μ2.next + 24⟩ sc tb bs (p + 1) := hS2.grow (grow_up μ2 24)
  have hS4 : Scan ⟨μ2.obs, μ2.next + 24 + 12⟩ sc tb bs (p + 1) := hS3.grow (grow_up ⟨μ2.obs, μ2.next + 24⟩ 12)
  have hsl : ∃ c, ∀ (r : Rg) (a b c' : Operand), aev Tryz.prog r a = .slice (some ⟨tb, 0, none⟩) bs.length 3 → aev Tryz.prog r b = .int .i64 (.ofNat p) → aev Tryz.prog r c' = .int .i64 (.ofNat (p + 1)) → aSlice Tryz.prog (aev Tryz.prog r) 30 a (some b) (some c') none = some (.slice (some ⟨tb, p, none⟩) 1 c) := slice_xs hp
  obtain ⟨c, hsl⟩ := hsl
  have htx : ∀ y, aBytesToString Tryz.prog ⟨μ2.obs, y⟩ 30 9 (.slice (some ⟨tb, p, none⟩) 1 c) = some (.string ⟨xT.toArray⟩) := fun y => text_x (q := p + 1) (μ := ⟨μ2.obs, μ2.next⟩) hS2 hp hb (fun _ _ _ => none) 0 c
  have hcp : ∀ (r : Rg) (o : Oper), o.op = .convert 30 9 (.tmp 48) → aev Tryz.prog r (.tmp 48) = .slice (some ⟨tb, p, none⟩) 1 c → aPlain Tryz.prog (aev Tryz.prog r) o = none := fun r o ho hx => by
    unfold aPlain
    simp only [ho, opsOf, plains, hx, plainV]
  refine fun_enter Tryz.func17 rfl rfl (Nat.le_of_ble_eq_true rfl) ?_
  simp only [T.lay, Nat.zero_add, Tryz.ntmps17, Nat.reduceAdd]
  refine code_seq ?_
  refine code_region ?_ ?_
  · rfl
  simp only [run1, aOne, aP, aR, aA, aT, aCall, aCallVal, aev, regAt_set, aput_mk, aput_none, plainV, aNilCheck, aExtract, aBin, aInt, Addr.add, Nat.zero_add, ends_some, Nat.reduceLT, Nat.reduceAdd, if_true, then_normal, Nat.reduceEqDiff, if_false, reduceIte, reduceCtorEq, decide_true, decide_false, Bool.not_true, Bool.not_false, beq_self_eq_true, beq_tf, beq_ft, aPick, List.map_cons, List.map_nil, List.nil_append, List.append_nil, List.getElem?_cons_zero, List.getElem?_cons_succ]
  refine code_seq ?_
  refine code_region ?_ ?_
  · rfl
  simp only [run1, aOne, aP, aR, aA, aT, aCall, aCallVal, aev, regAt_set, aput_mk, aput_none, plainV, aNilCheck, aExtract, aBin, aInt, Addr.add, Nat.zero_add, ends_some, Nat.reduceLT, Nat.reduceAdd, if_true, then_normal, Nat.reduceEqDiff, if_false, reduceIte, reduceCtorEq, decide_true, decide_false, Bool.not_true, Bool.not_false, beq_self_eq_true, beq_tf, beq_ft, aPick, List.map_cons, List.map_nil, List.nil_append, List.append_nil, List.getElem?_cons_zero, List.getElem?_cons_succ, fa45_1, ld3, ha0]
  refine code_seq ?_
  refine code_block ?_
  refine code_loop ?_
  refine code_seq ?_
  refine code_seq ?_
  refine code_draw (n := 24) (ms := [0, 1, 3, 7, 0, 16, 48, 112, 240, 511, 1023, 2047, 4095, 8191, 16383, 2047, 34815, 100351, 231423, 524287, 1048575, 2097151, 4194303, 8388607]) (ord := [0, 1, 2, 3, 4, 5, 6, 7, 8, 9, 10, 11, 12, 13, 14, 15, 16, 17, 18, 19, 20, 21, 22, 23]) (ds := ?_) ?_ ?_ ?_ ?_ ?_ ?_
  rotate_left
  · kernel_rfl
  · kernel_rfl
  · kernel_rfl
  · rfl
  · rfl
  iterate 24 (refine drun_true (by first | rfl | (simp only [wanted, aOne, aP, aR, aA, aT, aCall, aCallVal, aev, regAt_set, aput_mk, aput_none, plainV, aNilCheck, aExtract, aBin, aInt, Addr.add, Nat.zero_add, ends_some, Nat.reduceLT, Nat.reduceAdd, if_true, then_normal, Nat.reduceEqDiff, if_false, reduceIte, reduceCtorEq, decide_true, decide_false, Bool.not_true, Bool.not_false, beq_self_eq_true, beq_tf, beq_ft, aPick, List.map_cons, List.map_nil, List.nil_append, List.append_nil, List.getElem?_cons_zero, List.getElem?_cons_succ, aBuiltin, aLen, Tryz.underlying30, cast_nat, fa45_0, fa45_1, Nat.add_zero, ld3, ld5, ld30, hc, ha, hi, ht, ilt_nat, hp, go_body (P := Tryz.prog) Tryz.func39 rfl, kDelimX])) (by simp only [aDrawOne, heavy, aReads, eqVal_self, aOne, aP, aR, aA, aT, aCall, aCallVal, aev, regAt_set, aput_mk, aput_none, plainV, aNilCheck, aExtract, aBin, aInt, Addr.add, Nat.zero_add, ends_some, Nat.reduceLT, Nat.reduceAdd, if_true, then_normal, Nat.reduceEqDiff, if_false, reduceIte, reduceCtorEq, decide_true, decide_false, Bool.not_true, Bool.not_false, beq_self_eq_true, beq_tf, beq_ft, aPick, List.map_cons, List.map_nil, List.nil_append, List.append_nil, List.getElem?_cons_zero, List.getElem?_cons_succ, aBuiltin, aLen, Tryz.underlying30, cast_nat, fa45_0, fa45_1, Nat.add_zero, ld3, ld5, ld30, hc, ha, hi, ht, ilt_nat, hp, go_body (P := Tryz.prog) Tryz.func39 rfl, kDelimX]; try exact rfl) rfl ?_)
  simp only [dRun, endsD_some, then_normal]
  refine code_cond_true ?_ ?_
  · simp only [aev, regAt_set, Nat.reduceEqDiff, reduceIte]
  refine code_skip ?_
  simp only [then_normal]
  refine code_block ?_
  refine code_region ?_ ?_
  · rfl
  simp only [run1, aOne, aP, aR, aA, aT, aCall, aCallVal, aev, regAt_set, aput_mk, aput_none, plainV, aNilCheck, aExtract, aBin, aInt, Addr.add, Nat.zero_add, ends_some, Nat.reduceLT, Nat.reduceAdd, if_true, then_normal, Nat.reduceEqDiff, if_false, reduceIte, reduceCtorEq, decide_true, decide_false, Bool.not_true, Bool.not_false, beq_self_eq_true, beq_tf, beq_ft, aPick, List.map_cons, List.map_nil, List.nil_append, List.append_nil, List.getElem?_cons_zero, List.getElem?_cons_succ, fa45_1, ld3, ha, a1, hst]
  simp only [blockC, then_normal]
  refine code_loop ?_
  refine code_seq ?_
  refine code_seq ?_
  refine code_draw (n := 24) (ms := [0, 1, 3, 7, 0, 16, 48, 112, 240, 511, 1023, 2047, 4095, 8191, 16383, 2047, 34815, 100351, 231423, 524287, 1048575, 2097151, 4194303, 8388607]) (ord := [0, 1, 2, 3, 4, 5, 6, 7, 8, 9, 10, 11, 12, 13, 14, 15, 16, 17, 18, 19, 20, 21, 22, 23]) (ds := ?_) ?_ ?_ ?_ ?_ ?_ ?_
  rotate_left
  · kernel_rfl
  · kernel_rfl
  · kernel_rfl
  · rfl
  · rfl
  iterate 11 (refine drun_true (by first | rfl | (simp only [wanted, aOne, aP, aR, aA, aT, aCall, aCallVal, aev, regAt_set, aput_mk, aput_none, plainV, aNilCheck, aExtract, aBin, aInt, Addr.add, Nat.zero_add, ends_some, Nat.reduceLT, Nat.reduceAdd, if_true, then_normal, Nat.reduceEqDiff, if_false, reduceIte, reduceCtorEq, decide_true, decide_false, Bool.not_true, Bool.not_false, beq_self_eq_true, beq_tf, beq_ft, aPick, List.map_cons, List.map_nil, List.nil_append, List.append_nil, List.getElem?_cons_zero, List.getElem?_cons_succ, aBuiltin, aLen, Tryz.underlying30, cast_nat, fa45_0, fa45_1, Nat.add_zero, ld3, ld5, ld30, hc2, ha2, ilt_nat, e2])) (by simp only [aDrawOne, heavy, aReads, eqVal_self, aOne, aP, aR, aA, aT, aCall, aCallVal, aev, regAt_set, aput_mk, aput_none, plainV, aNilCheck, aExtract, aBin, aInt, Addr.add, Nat.zero_add, ends_some, Nat.reduceLT, Nat.reduceAdd, if_true, then_normal, Nat.reduceEqDiff, if_false, reduceIte, reduceCtorEq, decide_true, decide_false, Bool.not_true, Bool.not_false, beq_self_eq_true, beq_tf, beq_ft, aPick, List.map_cons, List.map_nil, List.nil_append, List.append_nil, List.getElem?_cons_zero, List.getElem?_cons_succ, aBuiltin, aLen, Tryz.underlying30, cast_nat, fa45_0, fa45_1, Nat.add_zero, ld3, ld5, ld30, hc2, ha2, ilt_nat, e2]; try exact rfl) rfl ?_)
  iterate 12 (refine drun_false (by simp only [wanted, aOne, aP, aR, aA, aT, aCall, aCallVal, aev, regAt_set, aput_mk, aput_none, plainV, aNilCheck, aExtract, aBin, aInt, Addr.add, Nat.zero_add, ends_some, Nat.reduceLT, Nat.reduceAdd, if_true, then_normal, Nat.reduceEqDiff, if_false, reduceIte, reduceCtorEq, decide_true, decide_false, Bool.not_true, Bool.not_false, beq_self_eq_true, beq_tf, beq_ft, aPick, List.map_cons, List.map_nil, List.nil_append, List.append_nil, List.getElem?_cons_zero, List.getElem?_cons_succ, aBuiltin, aLen, Tryz.underlying30, cast_nat, fa45_0, fa45_1, Nat.add_zero, ld3, ld5, ld30, hc2, ha2, ilt_nat, e2]) rfl ?_)
  refine drun_true (by first | rfl | (simp only [wanted, aOne, aP, aR, aA, aT, aCall, aCallVal, aev, regAt_set, aput_mk, aput_none, plainV, aNilCheck, aExtract, aBin, aInt, Addr.add, Nat.zero_add, ends_some, Nat.reduceLT, Nat.reduceAdd, if_true, then_normal, Nat.reduceEqDiff, if_false, reduceIte, reduceCtorEq, decide_true, decide_false, Bool.not_true, Bool.not_false, beq_self_eq_true, beq_tf, beq_ft, aPick, List.map_cons, List.map_nil, List.nil_append, List.append_nil, List.getElem?_cons_zero, List.getElem?_cons_succ, aBuiltin, aLen, Tryz.underlying30, cast_nat, fa45_0, fa45_1, Nat.add_zero, ld3, ld5, ld30, hc2, ha2, ilt_nat, e2])) (by simp only [aDrawOne, heavy, aReads, eqVal_self, aOne, aP, aR, aA, aT, aCall, aCallVal, aev, regAt_set, aput_mk, aput_none, plainV, aNilCheck, aExtract, aBin, aInt, Addr.add, Nat.zero_add, ends_some, Nat.reduceLT, Nat.reduceAdd, if_true, then_normal, Nat.reduceEqDiff, if_false, reduceIte, reduceCtorEq, decide_true, decide_false, Bool.not_true, Bool.not_false, beq_self_eq_true, beq_tf, beq_ft, aPick, List.map_cons, List.map_nil, List.nil_append, List.append_nil, List.getElem?_cons_zero, List.getElem?_cons_succ, aBuiltin, aLen, Tryz.underlying30, cast_nat, fa45_0, fa45_1, Nat.add_zero, ld3, ld5, ld30, hc2, ha2, ilt_nat, e2]; try exact rfl) rfl ?_
  simp only [dRun, endsD_some, then_normal]
  refine code_cond_false ?_ ?_
  · simp only [aev, regAt_set, Nat.reduceEqDiff, reduceIte]
  refine code_exit ?_
  simp only [then_exit]
  simp only [blockC, reduceIte, then_normal]
  refine code_seq ?_
  refine code_draw (n := 12) (ms := [0, 1, 3, 7, 0, 0, 32, 96, 224, 511, 1023, 2047]) (ord := [0, 1, 2, 3, 4, 5, 6, 7, 8, 9, 10, 11]) (ds := ?_) ?_ ?_ ?_ ?_ ?_ ?_
  rotate_left
  · kernel_rfl
  · kernel_rfl
  · kernel_rfl
  · rfl
  · rfl
  iterate 12 (refine drun_true (by first | rfl | (simp only [wanted, aOne, aP, aR, aA, aT, aCall, aCallVal, aev, regAt_set, aput_mk, aput_none, plainV, aNilCheck, aExtract, aBin, aInt, Addr.add, Nat.zero_add, ends_some, Nat.reduceLT, Nat.reduceAdd, if_true, then_normal, Nat.reduceEqDiff, if_false, reduceIte, reduceCtorEq, decide_true, decide_false, Bool.not_true, Bool.not_false, beq_self_eq_true, beq_tf, beq_ft, aPick, List.map_cons, List.map_nil, List.nil_append, List.append_nil, List.getElem?_cons_zero, List.getElem?_cons_succ, fa45_0, fa45_1, Nat.add_zero, ld3, ld30, hc2, ha2, hsl, htx, hcp, aConvInt, aUnsafe])) (by simp only [aDrawOne, heavy, aReads, eqVal_self, aOne, aP, aR, aA, aT, aCall, aCallVal, aev, regAt_set, aput_mk, aput_none, plainV, aNilCheck, aExtract, aBin, aInt, Addr.add, Nat.zero_add, ends_some, Nat.reduceLT, Nat.reduceAdd, if_true, then_normal, Nat.reduceEqDiff, if_false, reduceIte, reduceCtorEq, decide_true, decide_false, Bool.not_true, Bool.not_false, beq_self_eq_true, beq_tf, beq_ft, aPick, List.map_cons, List.map_nil, List.nil_append, List.append_nil, List.getElem?_cons_zero, List.getElem?_cons_succ, fa45_0, fa45_1, Nat.add_zero, ld3, ld30, hc2, ha2, hsl, htx, hcp, aConvInt, aUnsafe]; try exact rfl) rfl ?_)
  simp only [dRun, endsD_some, then_normal]
  refine code_ret ?_
  refine ⟨rfl, .string ⟨xT.toArray⟩, ?_, rfl, hS4, hT2.trans (Turns.grow ((grow_up μ2 24).trans (grow_up ⟨μ2.obs, μ2.next + 24⟩ 12)))⟩
  simp only [aResults, Tryz.results17, aRes, regAt_set, Nat.reduceEqDiff, reduceIte]

set_option maxRecDepth 10000 in
set_option maxHeartbeats 4000000 in
theorem run_close {k sc tb p : Nat} {bs : List UInt8} {μ : Mem} (hS : Scan μ sc tb bs p) (hp : p < bs.length) (hb : bs[p].toNat = 120) (hn : p + 1 < bs.length) (hb2 : bs[p + 1].toNat = 41) :
    EndsF (aFun Tryz.prog (aCode Tryz.prog X S0 (k + 60)) 17 [.pointer (some ⟨sc, 0, none⟩)] μ) fun v μ' => v = .string ⟨xT.toArray⟩ ∧ Scan μ' sc tb bs (p + 1) ∧ Turns μ μ' sc := by
  have hlen := hS.len
  have hc : ∀ y, cellsAt ⟨μ.obs, y⟩ sc 0 = some (.slice (some ⟨tb, 0, none⟩) bs.length 3) := fun y => hS.tx
  have ha : ∀ y, cellsAt ⟨μ.obs, y⟩ sc 1 = some (.int .i64 (.ofNat p)) := fun y => hS.at_
  have ha0 : cellsAt μ sc 1 = some (.int .i64 (.ofNat p)) := hS.at_
  have ht : ∀ y, cellsAt ⟨μ.obs, y⟩ tb p = some (.int .u8 (.ofNat 120)) := fun y => by rw [← hb]; exact hS.txt p hp
  have hi := idx30 (tb := tb) (c := 3) hp
  have a1 : qwrap .i64 (Int.add (.ofNat p) 1) = .ofNat (p + 1) := add_nat p 1 (by omega)
  have hS1 : Scan ⟨μ.obs, μ.next + 24⟩ sc tb bs p := hS.grow (grow_up μ 24)
  have hst := store_put (P := Tryz.prog) (t := 3) (v := .int .i64 (.ofNat (p + 1))) i3 rfl rfl hS1.blk (show 1 < 2 by decide)
  have hS2 := hS1.step (q := p + 1)
  obtain ⟨μ2, hμ2⟩ : ∃ m : Mem, m = putL ⟨μ.obs, μ.next + 24⟩ sc 1 [.int .i64 (.ofNat (p + 1))] := ⟨_, rfl⟩
  rw [← hμ2] at hst hS2
  have hT2 : Turns μ μ2 sc := by rw [hμ2]; exact (Turns.grow (grow_up μ 24)).trans (Turns.put _ _ _ _)
  have hc2 : ∀ y, cellsAt ⟨μ2.obs, y⟩ sc 0 = some (.slice (some ⟨tb, 0, none⟩) bs.length 3) := fun y => hS2.tx
  have ha2 : ∀ y, cellsAt ⟨μ2.obs, y⟩ sc 1 = some (.int .i64 (.ofNat (p + 1))) := fun y => hS2.at_
  have e2 : decide (p + 1 < bs.length) = true := decide_eq_true hn
  have ht2 : ∀ y, cellsAt ⟨μ2.obs, y⟩ tb (p + 1) = some (.int .u8 (.ofNat 41)) := fun y => by rw [← hb2]; exact hS2.txt (p + 1) hn
  have hi2 := idx30 (tb := tb) (c := 3) hn
  have hS3 : Scan ⟨μ2.obs, μ2.next + 24⟩ sc tb bs (p + 1) := hS2.grow (grow_up μ2 24)
  have hS4 : Scan ⟨μ2.obs, μ2.next + 24 + 12⟩ sc tb bs (p + 1) := hS3.grow (grow_up ⟨μ2.obs, μ2.next + 24⟩ 12)
  have hsl : ∃ c, ∀ (r : Rg) (a b c' : Operand), aev Tryz.prog r a = .slice (some ⟨tb, 0, none⟩) bs.length 3 → aev Tryz.prog r b = .int .i64 (.ofNat p) → aev Tryz.prog r c' = .int .i64 (.ofNat (p + 1)) → aSlice Tryz.prog (aev Tryz.prog r) 30 a (some b) (some c') none = some (.slice (some ⟨tb, p, none⟩) 1 c) := slice_xs hp
  obtain ⟨c, hsl⟩ := hsl
  have htx : ∀ y, aBytesToString Tryz.prog ⟨μ2.obs, y⟩ 30 9 (.slice (some ⟨tb, p, none⟩) 1 c) = some (.string ⟨xT.toArray⟩) := fun y => text_x (q := p + 1) (μ := ⟨μ2.obs, μ2.next⟩) hS2 hp hb (fun _ _ _ => none) 0 c
  have hcp : ∀ (r : Rg) (o : Oper), o.op = .convert 30 9 (.tmp 48) → aev Tryz.prog r (.tmp 48) = .slice (some ⟨tb, p, none⟩) 1 c → aPlain Tryz.prog (aev Tryz.prog r) o = none := fun r o ho hx => by
    unfold aPlain
    simp only [ho, opsOf, plains, hx, plainV]
  refine fun_enter Tryz.func17 rfl rfl (Nat.le_of_ble_eq_true rfl) ?_
  simp only [T.lay, Nat.zero_add, Tryz.ntmps17, Nat.reduceAdd]
  refine code_seq ?_
  refine code_region ?_ ?_
  · rfl
  simp only [run1, aOne, aP, aR, aA, aT, aCall, aCallVal, aev, regAt_set, aput_mk, aput_none, plainV, aNilCheck, aExtract, aBin, aInt, Addr.add, Nat.zero_add, ends_some, Nat.reduceLT, Nat.reduceAdd, if_true, then_normal, Nat.reduceEqDiff, if_false, reduceIte, reduceCtorEq, decide_true, decide_false, Bool.not_true, Bool.not_false, beq_self_eq_true, beq_tf, beq_ft, aPick, List.map_cons, List.map_nil, List.nil_append, List.append_nil, List.getElem?_cons_zero, List.getElem?_cons_succ]
  refine code_seq ?_
  refine code_region ?_ ?_
  · rfl
  simp only [run1, aOne, aP, aR, aA, aT, aCall, aCallVal, aev, regAt_set, aput_mk, aput_none, plainV, aNilCheck, aExtract, aBin, aInt, Addr.add, Nat.zero_add, ends_some, Nat.reduceLT, Nat.reduceAdd, if_true, then_normal, Nat.reduceEqDiff, if_false, reduceIte, reduceCtorEq, decide_true, decide_false, Bool.not_true, Bool.not_false, beq_self_eq_true, beq_tf, beq_ft, aPick, List.map_cons, List.map_nil, List.nil_append, List.append_nil, List.getElem?_cons_zero, List.getElem?_cons_succ, fa45_1, ld3, ha0]
  refine code_seq ?_
  refine code_block ?_
  refine code_loop ?_
  refine code_seq ?_
  refine code_seq ?_
  refine code_draw (n := 24) (ms := [0, 1, 3, 7, 0, 16, 48, 112, 240, 511, 1023, 2047, 4095, 8191, 16383, 2047, 34815, 100351, 231423, 524287, 1048575, 2097151, 4194303, 8388607]) (ord := [0, 1, 2, 3, 4, 5, 6, 7, 8, 9, 10, 11, 12, 13, 14, 15, 16, 17, 18, 19, 20, 21, 22, 23]) (ds := ?_) ?_ ?_ ?_ ?_ ?_ ?_
  rotate_left
  · kernel_rfl
  · kernel_rfl
  · kernel_rfl
  · rfl
  · rfl
  iterate 24 (refine drun_true (by first | rfl | (simp only [wanted, aOne, aP, aR, aA, aT, aCall, aCallVal, aev, regAt_set, aput_mk, aput_none, plainV, aNilCheck, aExtract, aBin, aInt, Addr.add, Nat.zero_add, ends_some, Nat.reduceLT, Nat.reduceAdd, if_true, then_normal, Nat.reduceEqDiff, if_false, reduceIte, reduceCtorEq, decide_true, decide_false, Bool.not_true, Bool.not_false, beq_self_eq_true, beq_tf, beq_ft, aPick, List.map_cons, List.map_nil, List.nil_append, List.append_nil, List.getElem?_cons_zero, List.getElem?_cons_succ, aBuiltin, aLen, Tryz.underlying30, cast_nat, fa45_0, fa45_1, Nat.add_zero, ld3, ld5, ld30, hc, ha, hi, ht, ilt_nat, hp, go_body (P := Tryz.prog) Tryz.func39 rfl, kDelimX])) (by simp only [aDrawOne, heavy, aReads, eqVal_self, aOne, aP, aR, aA, aT, aCall, aCallVal, aev, regAt_set, aput_mk, aput_none, plainV, aNilCheck, aExtract, aBin, aInt, Addr.add, Nat.zero_add, ends_some, Nat.reduceLT, Nat.reduceAdd, if_true, then_normal, Nat.reduceEqDiff, if_false, reduceIte, reduceCtorEq, decide_true, decide_false, Bool.not_true, Bool.not_false, beq_self_eq_true, beq_tf, beq_ft, aPick, List.map_cons, List.map_nil, List.nil_append, List.append_nil, List.getElem?_cons_zero, List.getElem?_cons_succ, aBuiltin, aLen, Tryz.underlying30, cast_nat, fa45_0, fa45_1, Nat.add_zero, ld3, ld5, ld30, hc, ha, hi, ht, ilt_nat, hp, go_body (P := Tryz.prog) Tryz.func39 rfl, kDelimX]; try exact rfl) rfl ?_)
  simp only [dRun, endsD_some, then_normal]
  refine code_cond_true ?_ ?_
  · simp only [aev, regAt_set, Nat.reduceEqDiff, reduceIte]
  refine code_skip ?_
  simp only [then_normal]
  refine code_block ?_
  refine code_region ?_ ?_
  · rfl
  simp only [run1, aOne, aP, aR, aA, aT, aCall, aCallVal, aev, regAt_set, aput_mk, aput_none, plainV, aNilCheck, aExtract, aBin, aInt, Addr.add, Nat.zero_add, ends_some, Nat.reduceLT, Nat.reduceAdd, if_true, then_normal, Nat.reduceEqDiff, if_false, reduceIte, reduceCtorEq, decide_true, decide_false, Bool.not_true, Bool.not_false, beq_self_eq_true, beq_tf, beq_ft, aPick, List.map_cons, List.map_nil, List.nil_append, List.append_nil, List.getElem?_cons_zero, List.getElem?_cons_succ, fa45_1, ld3, ha, a1, hst]
  simp only [blockC, then_normal]
  refine code_loop ?_
  refine code_seq ?_
  refine code_seq ?_
  refine code_draw (n := 24) (ms := [0, 1, 3, 7, 0, 16, 48, 112, 240, 511, 1023, 2047, 4095, 8191, 16383, 2047, 34815, 100351, 231423, 524287, 1048575, 2097151, 4194303, 8388607]) (ord := [0, 1, 2, 3, 4, 5, 6, 7, 8, 9, 10, 11, 12, 13, 14, 15, 16, 17, 18, 19, 20, 21, 22, 23]) (ds := ?_) ?_ ?_ ?_ ?_ ?_ ?_
  rotate_left
  · kernel_rfl
  · kernel_rfl
  · kernel_rfl
  · rfl
  · rfl
  iterate 24 (refine drun_true (by first | rfl | (simp only [wanted, aOne, aP, aR, aA, aT, aCall, aCallVal, aev, regAt_set, aput_mk, aput_none, plainV, aNilCheck, aExtract, aBin, aInt, Addr.add, Nat.zero_add, ends_some, Nat.reduceLT, Nat.reduceAdd, if_true, then_normal, Nat.reduceEqDiff, if_false, reduceIte, reduceCtorEq, decide_true, decide_false, Bool.not_true, Bool.not_false, beq_self_eq_true, beq_tf, beq_ft, aPick, List.map_cons, List.map_nil, List.nil_append, List.append_nil, List.getElem?_cons_zero, List.getElem?_cons_succ, aBuiltin, aLen, Tryz.underlying30, cast_nat, fa45_0, fa45_1, Nat.add_zero, ld3, ld5, ld30, hc2, ha2, ilt_nat, e2, hi2, ht2, go_body (P := Tryz.prog) Tryz.func39 rfl, kDelimC])) (by simp only [aDrawOne, heavy, aReads, eqVal_self, aOne, aP, aR, aA, aT, aCall, aCallVal, aev, regAt_set, aput_mk, aput_none, plainV, aNilCheck, aExtract, aBin, aInt, Addr.add, Nat.zero_add, ends_some, Nat.reduceLT, Nat.reduceAdd, if_true, then_normal, Nat.reduceEqDiff, if_false, reduceIte, reduceCtorEq, decide_true, decide_false, Bool.not_true, Bool.not_false, beq_self_eq_true, beq_tf, beq_ft, aPick, List.map_cons, List.map_nil, List.nil_append, List.append_nil, List.getElem?_cons_zero, List.getElem?_cons_succ, aBuiltin, aLen, Tryz.underlying30, cast_nat, fa45_0, fa45_1, Nat.add_zero, ld3, ld5, ld30, hc2, ha2, ilt_nat, e2, hi2, ht2, go_body (P := Tryz.prog) Tryz.func39 rfl, kDelimC]; try exact rfl) rfl ?_)
  simp only [dRun, endsD_some, then_normal]
  refine code_cond_false ?_ ?_
  · simp only [aev, regAt_set, Nat.reduceEqDiff, reduceIte]
  refine code_exit ?_
  simp only [then_exit]
  simp only [blockC, reduceIte, then_normal]
  refine code_seq ?_
  refine code_draw (n := 12) (ms := [0, 1, 3, 7, 0, 0, 32, 96, 224, 511, 1023, 2047]) (ord := [0, 1, 2, 3, 4, 5, 6, 7, 8, 9, 10, 11]) (ds := ?_) ?_ ?_ ?_ ?_ ?_ ?_
  rotate_left
  · kernel_rfl
  · kernel_rfl
  · kernel_rfl
  · rfl
  · rfl
  iterate 12 (refine drun_true (by first | rfl | (simp only [wanted, aOne, aP, aR, aA, aT, aCall, aCallVal, aev, regAt_set, aput_mk, aput_none, plainV, aNilCheck, aExtract, aBin, aInt, Addr.add, Nat.zero_add, ends_some, Nat.reduceLT, Nat.reduceAdd, if_true, then_normal, Nat.reduceEqDiff, if_false, reduceIte, reduceCtorEq, decide_true, decide_false, Bool.not_true, Bool.not_false, beq_self_eq_true, beq_tf, beq_ft, aPick, List.map_cons, List.map_nil, List.nil_append, List.append_nil, List.getElem?_cons_zero, List.getElem?_cons_succ, fa45_0, fa45_1, Nat.add_zero, ld3, ld30, hc2, ha2, hsl, htx, hcp, aConvInt, aUnsafe])) (by simp only [aDrawOne, heavy, aReads, eqVal_self, aOne, aP, aR, aA, aT, aCall, aCallVal, aev, regAt_set, aput_mk, aput_none, plainV, aNilCheck, aExtract, aBin, aInt, Addr.add, Nat.zero_add, ends_some, Nat.reduceLT, Nat.reduceAdd, if_true, then_normal, Nat.reduceEqDiff, if_false, reduceIte, reduceCtorEq, decide_true, decide_false, Bool.not_true, Bool.not_false, beq_self_eq_true, beq_tf, beq_ft, aPick, List.map_cons, List.map_nil, List.nil_append, List.append_nil, List.getElem?_cons_zero, List.getElem?_cons_succ, fa45_0, fa45_1, Nat.add_zero, ld3, ld30, hc2, ha2, hsl, htx, hcp, aConvInt, aUnsafe]; try exact rfl) rfl ?_)
  simp only [dRun, endsD_some, then_normal]
  refine code_ret ?_
  refine ⟨rfl, .string ⟨xT.toArray⟩, ?_, rfl, hS4, hT2.trans (Turns.grow ((grow_up μ2 24).trans (grow_up ⟨μ2.obs, μ2.next + 24⟩ 12)))⟩
  simp only [aResults, Tryz.results17, aRes, regAt_set, Nat.reduceEqDiff, reduceIte]

end

noncomputable section
variable {X : FuncId → List Value → Mem → Option (Value × Mem)}

set_option maxHeartbeats 4000000 in
theorem next_vec {k sc tb p : Nat} {bs : List UInt8} {μ : Mem} (hS : Scan μ sc tb bs p) (hp : p < bs.length) (hb : bs[p].toNat = 35) (hp1 : p + 1 < bs.length) (hb1 : bs[p + 1].toNat = 40) :
    EndsF (aFun Tryz.prog (aCode Tryz.prog X S0 (k + 200)) 8 [.pointer (some ⟨sc, 0, none⟩)] μ) fun v μ' => v = .tuple #[.agg (tok 2 p [] dat0).toArray, .int .i64 0] ∧ Scan μ' sc tb bs (p + 2) ∧ Turns μ μ' sc := by
  have hga := grow1 μ (.cells 11 51 (tok 0 0 [] dat0).toArray .e 0 0 false false)
  obtain ⟨μa, hμa⟩ : ∃ m : Mem, m = ⟨μ.obs.set μ.next (.cells 11 51 (tok 0 0 [] dat0).toArray .e 0 0 false false), μ.next + 1⟩ := ⟨_, rfl⟩
  rw [← hμa] at hga
  have hμa' : (⟨μ.obs.set μ.next (.cells 11 51 (tok 0 0 [] dat0).toArray .e 0 0 false false), Nat.add μ.next 1⟩ : Mem) = μa := hμa.symm
  have ha2 : Blk μa μ.next 11 51 := ⟨_, _, _, _, by rw [hμa]; show T.get _ _ = _; rw [T.get_set, if_pos rfl]⟩
  have hna : μa.next = μ.next + 1 := by rw [hμa]
  obtain ⟨vs, μb, hsk, hvs, hgb⟩ := skip_at (X := X) (k := k + 167) (hS.grow hga) hp hb (by decide)
  subst hvs
  have hsk : aFun Tryz.prog (aCode Tryz.prog X S0 (k + 197)) 13 [.pointer (some ⟨sc, 0, none⟩)] μa = some (.tuple #[], μb) := hsk
  have hgab := hga.trans hgb
  have hSb := hS.grow hgab
  have hnb : μ.next < μb.next := by have := hgb.1; omega
  have hgc := grow1 μb (.cells 11 51 (tok 0 0 [] dat0).toArray .e 0 0 false false)
  have hc4 : Blk ⟨μb.obs.set μb.next (.cells 11 51 (tok 0 0 [] dat0).toArray .e 0 0 false false), Nat.add μb.next 1⟩ μb.next 11 51 := ⟨_, _, _, _, by show T.get _ _ = _; rw [T.get_set, if_pos rfl]⟩
  have hst1 := store_puts (P := Tryz.prog) (t := 51) (vs := tok 6 p [] dat0) (o := 0) i51 rfl rfl hc4 (Nat.le_refl _)
  obtain ⟨μd, hμd⟩ : ∃ m : Mem, m = putL ⟨μb.obs.set μb.next (.cells 11 51 (tok 0 0 [] dat0).toArray .e 0 0 false false), Nat.add μb.next 1⟩ μb.next 0 (tok 6 p [] dat0) := ⟨_, rfl⟩
  rw [← hμd] at hst1
  have hgbd : Grow μb μd := by rw [hμd]; exact hgc.put_new (Nat.le_refl _)
  have hgd := hgab.trans hgbd
  have hSd := hS.grow hgd
  have hd4 : Blk μd μb.next 11 51 := by rw [hμd]; exact hc4.put _ _
  have hd2 : Blk μd μ.next 11 51 := (ha2.of_get (hgb.2 _ (by omega))).of_get (hgbd.2 _ (by omega))
  have ht4 : Has μd μb.next 0 (tok 6 p [] dat0) := by rw [hμd]; exact Has.of_put hc4 (Nat.le_refl _)
  have hnd : μd.next = μb.next + 1 := by rw [hμd, putL_next]
  have h4sc : μb.next ≠ sc := by have := hSb.n1; omega
  have h4tb : μb.next ≠ tb := by have := hSb.n2; omega
  have h2sc : μ.next ≠ sc := by have := hS.n1; omega
  have h2tb : μ.next ≠ tb := by have := hS.n2; omega
  obtain ⟨cc, hc0⟩ : ∃ cc, cellsAt μd sc 0 = some (.slice (some ⟨tb, 0, none⟩) bs.length cc) := ⟨3, hSd.tx⟩
  have hcb : cellsAt μb sc 1 = some (.int .i64 (.ofNat p)) := hSb.at_
  have hc : ∀ y, cellsAt ⟨μd.obs, y⟩ sc 0 = some (.slice (some ⟨tb, 0, none⟩) bs.length cc) := fun y => hc0
  have ha : ∀ y, cellsAt ⟨μd.obs, y⟩ sc 1 = some (.int .i64 (.ofNat p)) := fun y => hSd.at_
  have ht : ∀ y, cellsAt ⟨μd.obs, y⟩ tb p = some (.int .u8 (.ofNat 35)) := fun y => by rw [← hb]; exact hSd.txt p hp
  have hi := idx30 (tb := tb) (c := cc) hp
  have e1 : decide (p < bs.length) = true := decide_eq_true hp
  have hf : Grow μ ⟨μd.obs, μd.next + 10 + 11⟩ := (hgd.trans (grow_up μd 10)).trans (grow_up ⟨μd.obs, μd.next + 10⟩ 11)
  have hSf := hS.grow hf
  have q35 : ieq (.ofNat 35) 35 = true := rfl
  have hl4 : aLoad Tryz.prog ⟨μd.obs, μd.next + 10 + 11⟩ 51 (.pointer (some ⟨μb.next, 0, none⟩)) = some (.agg (tok 6 p [] dat0).toArray) := lds51 (show Has ⟨μd.obs, μd.next + 10 + 11⟩ μb.next 0 (tok 6 p [] dat0) from ht4) rfl
  obtain ⟨v7, μg, hh, hv7, hSg, hTg⟩ := hash_open (X := X) (k := k + 130) hSf hp1 hb1
  subst hv7
  have hh : aFun Tryz.prog (aCode Tryz.prog X S0 (k + 190)) 14 [.pointer (some ⟨sc, 0, none⟩), .agg (tok 6 p [] dat0).toArray] ⟨μd.obs, μd.next + 10 + 11⟩ = some (.tuple #[.agg (tok 2 p [] dat0).toArray, .int .i64 0], μg) := hh
  have hg2 : Blk μg μ.next 11 51 := Blk.of_get (show Blk ⟨μd.obs, μd.next + 10 + 11⟩ μ.next 11 51 from hd2) (hTg.2 _ (by show μ.next < μd.next + 10 + 11; omega) h2sc)
  have hst3 := store_puts (P := Tryz.prog) (t := 51) (vs := tok 2 p [] dat0) (o := 0) i51 rfl rfl hg2 (Nat.le_refl _)
  have hl2 := lds51 (Has.of_put (o := 0) (vs := tok 2 p [] dat0) hg2 (Nat.le_refl _)) rfl
  have hT : Turns μ μg sc := (Turns.grow hf).trans hTg
  have hbd : ∀ (r : Rg) (b : Operand), aev Tryz.prog r b = .int .i64 (.ofNat p) → aBuild Tryz.prog (aev Tryz.prog r) 51 #[(0, .const (.int .i64 6)), (1, b)] = some (.agg (tok 6 p [] dat0).toArray) := fun r b h => bd51 _ _ _ 6 p rfl h
  refine fun_enter Tryz.func8 rfl rfl (Nat.le_of_ble_eq_true rfl) ?_
  simp only [T.lay, Nat.zero_add, Tryz.ntmps8, Nat.reduceAdd]
  refine code_seq ?_
  refine code_region ?_ ?_
  · rfl
  simp only [run1, aOne, aP, aR, aA, aT, aCall, aCallVal, aev, regAt_set, aput_mk, aput_none, plainV, aNilCheck, aExtract, aBin, aInt, Addr.add, Nat.zero_add, ends_some, Nat.reduceLT, Nat.reduceAdd, if_true, then_normal, Nat.reduceEqDiff, if_false, reduceIte, reduceCtorEq, decide_true, decide_false, Bool.not_true, Bool.not_false, beq_self_eq_true, beq_tf, beq_ft, aPick, List.map_cons, List.map_nil, List.nil_append, List.append_nil, List.getElem?_cons_zero, List.getElem?_cons_succ, al51, hμa']
  refine code_seq ?_
  refine code_region ?_ ?_
  · rfl
  simp only [run1, aOne, aP, aR, aA, aT, aCall, aCallVal, aev, regAt_set, aput_mk, aput_none, plainV, aNilCheck, aExtract, aBin, aInt, Addr.add, Nat.zero_add, ends_some, Nat.reduceLT, Nat.reduceAdd, if_true, then_normal, Nat.reduceEqDiff, if_false, reduceIte, reduceCtorEq, decide_true, decide_false, Bool.not_true, Bool.not_false, beq_self_eq_true, beq_tf, beq_ft, aPick, List.map_cons, List.map_nil, List.nil_append, List.append_nil, List.getElem?_cons_zero, List.getElem?_cons_succ, go_call (P := Tryz.prog) (X := X) (S := S0) Tryz.func13 rfl rfl, hsk]
  refine code_seq ?_
  refine code_region ?_ ?_
  · rfl
  simp only [run1, aOne, aP, aR, aA, aT, aCall, aCallVal, aev, regAt_set, aput_mk, aput_none, plainV, aNilCheck, aExtract, aBin, aInt, Addr.add, Nat.zero_add, ends_some, Nat.reduceLT, Nat.reduceAdd, if_true, then_normal, Nat.reduceEqDiff, if_false, reduceIte, reduceCtorEq, decide_true, decide_false, Bool.not_true, Bool.not_false, beq_self_eq_true, beq_tf, beq_ft, aPick, List.map_cons, List.map_nil, List.nil_append, List.append_nil, List.getElem?_cons_zero, List.getElem?_cons_succ, fa45_1, ld3, hcb, hbd, al51, hst1]
  refine code_seq ?_
  refine code_seq ?_
  refine code_draw (n := 10) (ms := [0, 1, 3, 7, 0, 16, 48, 112, 240, 511]) (ord := [0, 1, 2, 3, 4, 5, 6, 7, 8, 9]) (ds := ?_) ?_ ?_ ?_ ?_ ?_ ?_
  rotate_left
  · kernel_rfl
  · kernel_rfl
  · kernel_rfl
  · rfl
  · rfl
  simp only [dRun, wanted, aDrawOne, heavy, aReads, bef, aOne, aP, aR, aA, aT, aCall, aCallVal, aev, regAt_set, aput_mk, aput_none, plainV, aNilCheck, aExtract, aBin, aInt, Addr.add, Nat.zero_add, ends_some, Nat.reduceLT, Nat.reduceAdd, if_true, then_normal, Nat.reduceEqDiff, if_false, reduceIte, reduceCtorEq, decide_true, decide_false, Bool.not_true, Bool.not_false, beq_self_eq_true, beq_tf, beq_ft, aPick, List.map_cons, List.map_nil, List.nil_append, List.append_nil, List.getElem?_cons_zero, List.getElem?_cons_succ, endsD_some, eqVal_self, aBuiltin, aLen, Tryz.underlying30, cast_nat, fa45_0, fa45_1, Nat.add_zero, ld3, ld30, hc, ha, ilt_nat, e1]
  refine code_cond_false ?_ ?_
  · simp only [aev, regAt_set, Nat.reduceEqDiff, reduceIte]
  refine code_skip ?_
  simp only [then_normal]
  refine code_seq ?_
  refine code_draw (n := 11) (ms := [0, 1, 3, 7, 0, 16, 48, 112, 255, 511, 1023]) (ord := [0, 1, 2, 3, 4, 5, 6, 7, 8, 9, 10]) (ds := ?_) ?_ ?_ ?_ ?_ ?_ ?_
  rotate_left
  · kernel_rfl
  · kernel_rfl
  · kernel_rfl
  · rfl
  · rfl
  simp only [dRun, wanted, aDrawOne, heavy, aReads, bef, aOne, aP, aR, aA, aT, aCall, aCallVal, aev, regAt_set, aput_mk, aput_none, plainV, aNilCheck, aExtract, aBin, aInt, Addr.add, Nat.zero_add, ends_some, Nat.reduceLT, Nat.reduceAdd, if_true, then_normal, Nat.reduceEqDiff, if_false, reduceIte, reduceCtorEq, decide_true, decide_false, Bool.not_true, Bool.not_false, beq_self_eq_true, beq_tf, beq_ft, aPick, List.map_cons, List.map_nil, List.nil_append, List.append_nil, List.getElem?_cons_zero, List.getElem?_cons_succ, endsD_some, eqVal_self, fa45_0, fa45_1, Nat.add_zero, ld3, ld5, ld30, hc, ha, hi, ht]
  refine code_seq ?_
  refine code_seq ?_
  refine code_region ?_ ?_
  · rfl
  simp only [run1, aOne, aP, aR, aA, aT, aCall, aCallVal, aev, regAt_set, aput_mk, aput_none, plainV, aNilCheck, aExtract, aBin, aInt, Addr.add, Nat.zero_add, ends_some, Nat.reduceLT, Nat.reduceAdd, if_true, then_normal, Nat.reduceEqDiff, if_false, reduceIte, reduceCtorEq, decide_true, decide_false, Bool.not_true, Bool.not_false, beq_self_eq_true, beq_tf, beq_ft, aPick, List.map_cons, List.map_nil, List.nil_append, List.append_nil, List.getElem?_cons_zero, List.getElem?_cons_succ, q35]
  refine code_cond_true ?_ ?_
  · simp only [aev, regAt_set, Nat.reduceEqDiff, reduceIte]
  refine code_seq ?_
  refine code_region ?_ ?_
  · rfl
  simp only [run1, aOne, aP, aR, aA, aT, aCall, aCallVal, aev, regAt_set, aput_mk, aput_none, plainV, aNilCheck, aExtract, aBin, aInt, Addr.add, Nat.zero_add, ends_some, Nat.reduceLT, Nat.reduceAdd, if_true, then_normal, Nat.reduceEqDiff, if_false, reduceIte, reduceCtorEq, decide_true, decide_false, Bool.not_true, Bool.not_false, beq_self_eq_true, beq_tf, beq_ft, aPick, List.map_cons, List.map_nil, List.nil_append, List.append_nil, List.getElem?_cons_zero, List.getElem?_cons_succ, hl4, go_call (P := Tryz.prog) (X := X) (S := S0) Tryz.func14 rfl rfl, hh, hst3]
  refine code_ret ?_
  refine ⟨rfl, .tuple #[.agg (tok 2 p [] dat0).toArray, .int .i64 0], ?_, rfl, hSg.put h2sc h2tb, hT.put_new (Nat.le_refl _)⟩
  simp only [aResults, Tryz.results8, aRes, regAt_set, Nat.reduceEqDiff, reduceIte, hl2]

theorem run_x {k sc tb p : Nat} {bs : List UInt8} {μ : Mem} (hS : Scan μ sc tb bs p) (hp : p < bs.length) (hb : bs[p].toNat = 120) (hn : bs.length = p + 1 ∨ ∃ h : p + 1 < bs.length, bs[p + 1].toNat = 41) :
    EndsF (aFun Tryz.prog (aCode Tryz.prog X S0 (k + 60)) 17 [.pointer (some ⟨sc, 0, none⟩)] μ) fun v μ' => v = .string ⟨xT.toArray⟩ ∧ Scan μ' sc tb bs (p + 1) ∧ Turns μ μ' sc := by
  rcases hn with h | ⟨h, g⟩
  · exact run_end hS hp hb h
  · exact run_close hS hp hb h g
theorem dot_x : aStr .eql ⟨xT.toArray⟩ ⟨#[46]⟩ = some (.bool false) := rfl

set_option maxRecDepth 10000 in
set_option maxHeartbeats 4000000 in
theorem next_x {k sc tb p : Nat} {bs : List UInt8} {μ : Mem} (hS : Scan μ sc tb bs p) (hp : p < bs.length) (hb : bs[p].toNat = 120) (hn : bs.length = p + 1 ∨ ∃ h : p + 1 < bs.length, bs[p + 1].toNat = 41) :
    EndsF (aFun Tryz.prog (aCode Tryz.prog X S0 (k + 200)) 8 [.pointer (some ⟨sc, 0, none⟩)] μ) fun v μ' => v = .tuple #[.agg (tok 6 p [] symx).toArray, .int .i64 0] ∧ Scan μ' sc tb bs (p + 1) ∧ Turns μ μ' sc := by
  have hga := grow1 μ (.cells 11 51 (tok 0 0 [] dat0).toArray .e 0 0 false false)
  obtain ⟨μa, hμa⟩ : ∃ m : Mem, m = ⟨μ.obs.set μ.next (.cells 11 51 (tok 0 0 [] dat0).toArray .e 0 0 false false), μ.next + 1⟩ := ⟨_, rfl⟩
  rw [← hμa] at hga
  have hμa' : (⟨μ.obs.set μ.next (.cells 11 51 (tok 0 0 [] dat0).toArray .e 0 0 false false), Nat.add μ.next 1⟩ : Mem) = μa := hμa.symm
  have ha2 : Blk μa μ.next 11 51 := ⟨_, _, _, _, by rw [hμa]; show T.get _ _ = _; rw [T.get_set, if_pos rfl]⟩
  have hna : μa.next = μ.next + 1 := by rw [hμa]
  obtain ⟨vs, μb, hsk, hvs, hgb⟩ := skip_at (X := X) (k := k + 167) (hS.grow hga) hp hb (by decide)
  subst hvs
  have hsk : aFun Tryz.prog (aCode Tryz.prog X S0 (k + 197)) 13 [.pointer (some ⟨sc, 0, none⟩)] μa = some (.tuple #[], μb) := hsk
  have hgab := hga.trans hgb
  have hSb := hS.grow hgab
  have hnb : μ.next < μb.next := by have := hgb.1; omega
  have hgc := grow1 μb (.cells 11 51 (tok 0 0 [] dat0).toArray .e 0 0 false false)
  have hc4 : Blk ⟨μb.obs.set μb.next (.cells 11 51 (tok 0 0 [] dat0).toArray .e 0 0 false false), Nat.add μb.next 1⟩ μb.next 11 51 := ⟨_, _, _, _, by show T.get _ _ = _; rw [T.get_set, if_pos rfl]⟩
  have hst1 := store_puts (P := Tryz.prog) (t := 51) (vs := tok 6 p [] dat0) (o := 0) i51 rfl rfl hc4 (Nat.le_refl _)
  obtain ⟨μd, hμd⟩ : ∃ m : Mem, m = putL ⟨μb.obs.set μb.next (.cells 11 51 (tok 0 0 [] dat0).toArray .e 0 0 false false), Nat.add μb.next 1⟩ μb.next 0 (tok 6 p [] dat0) := ⟨_, rfl⟩
  rw [← hμd] at hst1
  have hgbd : Grow μb μd := by rw [hμd]; exact hgc.put_new (Nat.le_refl _)
  have hgd := hgab.trans hgbd
  have hSd := hS.grow hgd
  have hd4 : Blk μd μb.next 11 51 := by rw [hμd]; exact hc4.put _ _
  have hd2 : Blk μd μ.next 11 51 := (ha2.of_get (hgb.2 _ (by omega))).of_get (hgbd.2 _ (by omega))
  have ht4 : Has μd μb.next 0 (tok 6 p [] dat0) := by rw [hμd]; exact Has.of_put hc4 (Nat.le_refl _)
  have hnd : μd.next = μb.next + 1 := by rw [hμd, putL_next]
  have h4sc : μb.next ≠ sc := by have := hSb.n1; omega
  have h4tb : μb.next ≠ tb := by have := hSb.n2; omega
  have h2sc : μ.next ≠ sc := by have := hS.n1; omega
  have h2tb : μ.next ≠ tb := by have := hS.n2; omega
  obtain ⟨cc, hc0⟩ : ∃ cc, cellsAt μd sc 0 = some (.slice (some ⟨tb, 0, none⟩) bs.length cc) := ⟨3, hSd.tx⟩
  have hcb : cellsAt μb sc 1 = some (.int .i64 (.ofNat p)) := hSb.at_
  have hc : ∀ y, cellsAt ⟨μd.obs, y⟩ sc 0 = some (.slice (some ⟨tb, 0, none⟩) bs.length cc) := fun y => hc0
  have ha : ∀ y, cellsAt ⟨μd.obs, y⟩ sc 1 = some (.int .i64 (.ofNat p)) := fun y => hSd.at_
  have ht : ∀ y, cellsAt ⟨μd.obs, y⟩ tb p = some (.int .u8 (.ofNat 120)) := fun y => by rw [← hb]; exact hSd.txt p hp
  have hi := idx30 (tb := tb) (c := cc) hp
  have e1 : decide (p < bs.length) = true := decide_eq_true hp
  have hf : Grow μ ⟨μd.obs, μd.next + 10 + 11⟩ := (hgd.trans (grow_up μd 10)).trans (grow_up ⟨μd.obs, μd.next + 10⟩ 11)
  have hSf := hS.grow hf
  have a1 : qwrap .i64 (Int.add (.ofNat p) 1) = .ofNat (p + 1) := add_nat p 1 (by have := hS.len; omega)
  have hst9 := store_put (P := Tryz.prog) (t := 3) (v := .int .i64 (.ofNat (p + 1))) i3 rfl rfl hSf.blk (show 1 < 2 by decide)
  have hSg := hSf.step (q := p + 1)
  obtain ⟨μg, hμg⟩ : ∃ m : Mem, m = putL ⟨μd.obs, μd.next + 10 + 11⟩ sc 1 [.int .i64 (.ofNat (p + 1))] := ⟨_, rfl⟩
  rw [← hμg] at hst9 hSg
  have hTg : Turns μ μg sc := by rw [hμg]; exact (Turns.grow hf).trans (Turns.put _ _ _ _)
  have hg4 : Has μg μb.next 0 (tok 6 p [] dat0) := by rw [hμg]; exact ht4.keep (putL_get _ _ _ _ h4sc)
  have hg4b : Blk μg μb.next 11 51 := by rw [hμg]; exact Blk.put _ _ (show Blk ⟨μd.obs, μd.next + 10 + 11⟩ μb.next 11 51 from hd4)
  have hg2b : Blk μg μ.next 11 51 := by rw [hμg]; exact Blk.put _ _ (show Blk ⟨μd.obs, μd.next + 10 + 11⟩ μ.next 11 51 from hd2)
  have hng : μg.next = μd.next + 21 := by rw [hμg, putL_next]
  have q35 : ieq (.ofNat 120) 35 = false := rfl
  have q40 : ieq (.ofNat 120) 40 = false := rfl
  have q41 : ieq (.ofNat 120) 41 = false := rfl
  have q39 : ieq (.ofNat 120) 39 = false := rfl
  have q96 : ieq (.ofNat 120) 96 = false := rfl
  have q44 : ieq (.ofNat 120) 44 = false := rfl
  have q34 : ieq (.ofNat 120) 34 = false := rfl
  have hag : cellsAt μg sc 1 = some (.int .i64 (.ofNat (p + 1))) := hSg.at_
  have a2 : qwrap .i64 (Int.sub (.ofNat (p + 1)) 1) = .ofNat p := sub_nat (p + 1) 1 (by omega) (by have := hS.len; omega)
  have hst12 := store_put (P := Tryz.prog) (t := 3) (v := .int .i64 (.ofNat p)) i3 rfl rfl hSg.blk (show 1 < 2 by decide)
  have hSj := hSg.step (q := p)
  obtain ⟨μj, hμj⟩ : ∃ m : Mem, m = putL μg sc 1 [.int .i64 (.ofNat p)] := ⟨_, rfl⟩
  rw [← hμj] at hst12 hSj
  have hTj : Turns μ μj sc := by rw [hμj]; exact hTg.trans (Turns.put _ _ _ _)
  have hnj : μj.next = μg.next := by rw [hμj, putL_next]
  obtain ⟨v7, μr, hrun, hv7, hSr, hTr⟩ := run_x (X := X) (k := k + 118) hSj hp hb hn
  subst hv7
  have hrun : aFun Tryz.prog (aCode Tryz.prog X S0 (k + 178)) 17 [.pointer (some ⟨sc, 0, none⟩)] μj = some (.string ⟨xT.toArray⟩, μr) := hrun
  have hr4 : Has μr μb.next 0 (tok 6 p [] dat0) := (by rw [hμj]; exact hg4.keep (putL_get _ _ _ _ h4sc) : Has μj μb.next 0 (tok 6 p [] dat0)).keep (hTr.2 _ (by omega) h4sc)
  have hr4b : Blk μr μb.next 11 51 := (by rw [hμj]; exact hg4b.put _ _ : Blk μj μb.next 11 51).of_get (hTr.2 _ (by omega) h4sc)
  have hr2b : Blk μr μ.next 11 51 := (by rw [hμj]; exact hg2b.put _ _ : Blk μj μ.next 11 51).of_get (hTr.2 _ (by omega) h2sc)
  have hnr := hTr.1
  have hst16 := store_puts (P := Tryz.prog) (t := 39) (vs := symx) (o := 3) i39 rfl rfl hr4b (show 3 + symx.length ≤ 11 from Nat.le_refl _)
  obtain ⟨μs, hμs⟩ : ∃ m : Mem, m = putL μr μb.next 3 symx := ⟨_, rfl⟩
  rw [← hμs] at hst16
  have hTs : Turns μ μs sc := by rw [hμs]; exact (hTj.trans hTr).put_new (by omega)
  have hSs : Scan μs sc tb bs (p + 1) := by rw [hμs]; exact hSr.put h4sc h4tb
  have hs4 : Has μs μb.next 0 (tok 6 p [] symx) := by rw [hμs]; exact Has.put_in (a := [.int .i64 (.ofNat 6), .int .i64 (.ofNat p), .string ⟨([] : List UInt8).toArray⟩]) (b := dat0) (c := []) hr4 rfl hr4b rfl
  have hs2 : Blk μs μ.next 11 51 := by rw [hμs]; exact hr2b.put _ _
  have hl := lds51 hs4 rfl
  have hst3 := store_puts (P := Tryz.prog) (t := 51) (vs := tok 6 p [] symx) (o := 0) i51 rfl rfl hs2 (Nat.le_refl _)
  have hl2 := lds51 (Has.of_put (o := 0) (vs := tok 6 p [] symx) hs2 (Nat.le_refl _)) rfl
  have hbd : ∀ (r : Rg) (b : Operand), aev Tryz.prog r b = .int .i64 (.ofNat p) → aBuild Tryz.prog (aev Tryz.prog r) 51 #[(0, .const (.int .i64 6)), (1, b)] = some (.agg (tok 6 p [] dat0).toArray) := fun r b h => bd51 _ _ _ 6 p rfl h
  refine fun_enter Tryz.func8 rfl rfl (Nat.le_of_ble_eq_true rfl) ?_
  simp only [T.lay, Nat.zero_add, Tryz.ntmps8, Nat.reduceAdd]
  refine code_seq ?_
  refine code_region ?_ ?_
  · rfl
  simp only [run1, aOne, aP, aR, aA, aT, aCall, aCallVal, aev, regAt_set, aput_mk, aput_none, plainV, aNilCheck, aExtract, aBin, aInt, Addr.add, Nat.zero_add, ends_some, Nat.reduceLT, Nat.reduceAdd, if_true, then_normal, Nat.reduceEqDiff, if_false, reduceIte, reduceCtorEq, decide_true, decide_false, Bool.not_true, Bool.not_false, beq_self_eq_true, beq_tf, beq_ft, aPick, List.map_cons, List.map_nil, List.nil_append, List.append_nil, List.getElem?_cons_zero, List.getElem?_cons_succ, al51, hμa']
  refine code_seq ?_
  refine code_region ?_ ?_
  · rfl
  simp only [run1, aOne, aP, aR, aA, aT, aCall, aCallVal, aev, regAt_set, aput_mk, aput_none, plainV, aNilCheck, aExtract, aBin, aInt, Addr.add, Nat.zero_add, ends_some, Nat.reduceLT, Nat.reduceAdd, if_true, then_normal, Nat.reduceEqDiff, if_false, reduceIte, reduceCtorEq, decide_true, decide_false, Bool.not_true, Bool.not_false, beq_self_eq_true, beq_tf, beq_ft, aPick, List.map_cons, List.map_nil, List.nil_append, List.append_nil, List.getElem?_cons_zero, List.getElem?_cons_succ, go_call (P := Tryz.prog) (X := X) (S := S0) Tryz.func13 rfl rfl, hsk]
  refine code_seq ?_
  refine code_region ?_ ?_
  · rfl
  simp only [run1, aOne, aP, aR, aA, aT, aCall, aCallVal, aev, regAt_set, aput_mk, aput_none, plainV, aNilCheck, aExtract, aBin, aInt, Addr.add, Nat.zero_add, ends_some, Nat.reduceLT, Nat.reduceAdd, if_true, then_normal, Nat.reduceEqDiff, if_false, reduceIte, reduceCtorEq, decide_true, decide_false, Bool.not_true, Bool.not_false, beq_self_eq_true, beq_tf, beq_ft, aPick, List.map_cons, List.map_nil, List.nil_append, List.append_nil, List.getElem?_cons_zero, List.getElem?_cons_succ, fa45_1, ld3, hcb, hbd, al51, hst1]
  refine code_seq ?_
  refine code_seq ?_
  refine code_draw (n := 10) (ms := [0, 1, 3, 7, 0, 16, 48, 112, 240, 511]) (ord := [0, 1, 2, 3, 4, 5, 6, 7, 8, 9]) (ds := ?_) ?_ ?_ ?_ ?_ ?_ ?_
  rotate_left
  · kernel_rfl
  · kernel_rfl
  · kernel_rfl
  · rfl
  · rfl
  simp only [dRun, wanted, aDrawOne, heavy, aReads, bef, aOne, aP, aR, aA, aT, aCall, aCallVal, aev, regAt_set, aput_mk, aput_none, plainV, aNilCheck, aExtract, aBin, aInt, Addr.add, Nat.zero_add, ends_some, Nat.reduceLT, Nat.reduceAdd, if_true, then_normal, Nat.reduceEqDiff, if_false, reduceIte, reduceCtorEq, decide_true, decide_false, Bool.not_true, Bool.not_false, beq_self_eq_true, beq_tf, beq_ft, aPick, List.map_cons, List.map_nil, List.nil_append, List.append_nil, List.getElem?_cons_zero, List.getElem?_cons_succ, endsD_some, eqVal_self, aBuiltin, aLen, Tryz.underlying30, cast_nat, fa45_0, fa45_1, Nat.add_zero, ld3, ld30, hc, ha, ilt_nat, e1]
  refine code_cond_false ?_ ?_
  · simp only [aev, regAt_set, Nat.reduceEqDiff, reduceIte]
  refine code_skip ?_
  simp only [then_normal]
  refine code_seq ?_
  refine code_draw (n := 11) (ms := [0, 1, 3, 7, 0, 16, 48, 112, 255, 511, 1023]) (ord := [0, 1, 2, 3, 4, 5, 6, 7, 8, 9, 10]) (ds := ?_) ?_ ?_ ?_ ?_ ?_ ?_
  rotate_left
  · kernel_rfl
  · kernel_rfl
  · kernel_rfl
  · rfl
  · rfl
  simp only [dRun, wanted, aDrawOne, heavy, aReads, bef, aOne, aP, aR, aA, aT, aCall, aCallVal, aev, regAt_set, aput_mk, aput_none, plainV, aNilCheck, aExtract, aBin, aInt, Addr.add, Nat.zero_add, ends_some, Nat.reduceLT, Nat.reduceAdd, if_true, then_normal, Nat.reduceEqDiff, if_false, reduceIte, reduceCtorEq, decide_true, decide_false, Bool.not_true, Bool.not_false, beq_self_eq_true, beq_tf, beq_ft, aPick, List.map_cons, List.map_nil, List.nil_append, List.append_nil, List.getElem?_cons_zero, List.getElem?_cons_succ, endsD_some, eqVal_self, fa45_0, fa45_1, Nat.add_zero, ld3, ld5, ld30, hc, ha, hi, ht]
  refine code_seq ?_
  refine code_seq ?_
  refine code_region ?_ ?_
  · rfl
  simp only [run1, aOne, aP, aR, aA, aT, aCall, aCallVal, aev, regAt_set, aput_mk, aput_none, plainV, aNilCheck, aExtract, aBin, aInt, Addr.add, Nat.zero_add, ends_some, Nat.reduceLT, Nat.reduceAdd, if_true, then_normal, Nat.reduceEqDiff, if_false, reduceIte, reduceCtorEq, decide_true, decide_false, Bool.not_true, Bool.not_false, beq_self_eq_true, beq_tf, beq_ft, aPick, List.map_cons, List.map_nil, List.nil_append, List.append_nil, List.getElem?_cons_zero, List.getElem?_cons_succ, q35]
  refine code_cond_false ?_ ?_
  · simp only [aev, regAt_set, Nat.reduceEqDiff, reduceIte]
  refine code_skip ?_
  simp only [then_normal]
  refine code_seq ?_
  refine code_region ?_ ?_
  · rfl
  simp only [run1, aOne, aP, aR, aA, aT, aCall, aCallVal, aev, regAt_set, aput_mk, aput_none, plainV, aNilCheck, aExtract, aBin, aInt, Addr.add, Nat.zero_add, ends_some, Nat.reduceLT, Nat.reduceAdd, if_true, then_normal, Nat.reduceEqDiff, if_false, reduceIte, reduceCtorEq, decide_true, decide_false, Bool.not_true, Bool.not_false, beq_self_eq_true, beq_tf, beq_ft, aPick, List.map_cons, List.map_nil, List.nil_append, List.append_nil, List.getElem?_cons_zero, List.getElem?_cons_succ, fa45_1, ld3, ha, a1, hst9]
  refine code_seq ?_
  refine code_region ?_ ?_
  · rfl
  simp only [run1, aOne, aP, aR, aA, aT, aCall, aCallVal, aev, regAt_set, aput_mk, aput_none, plainV, aNilCheck, aExtract, aBin, aInt, Addr.add, Nat.zero_add, ends_some, Nat.reduceLT, Nat.reduceAdd, if_true, then_normal, Nat.reduceEqDiff, if_false, reduceIte, reduceCtorEq, decide_true, decide_false, Bool.not_true, Bool.not_false, beq_self_eq_true, beq_tf, beq_ft, aPick, List.map_cons, List.map_nil, List.nil_append, List.append_nil, List.getElem?_cons_zero, List.getElem?_cons_succ]
  refine code_seq ?_
  refine code_seq ?_
  refine code_region ?_ ?_
  · rfl
  simp only [run1, aOne, aP, aR, aA, aT, aCall, aCallVal, aev, regAt_set, aput_mk, aput_none, plainV, aNilCheck, aExtract, aBin, aInt, Addr.add, Nat.zero_add, ends_some, Nat.reduceLT, Nat.reduceAdd, if_true, then_normal, Nat.reduceEqDiff, if_false, reduceIte, reduceCtorEq, decide_true, decide_false, Bool.not_true, Bool.not_false, beq_self_eq_true, beq_tf, beq_ft, aPick, List.map_cons, List.map_nil, List.nil_append, List.append_nil, List.getElem?_cons_zero, List.getElem?_cons_succ]
  refine code_block ?_
  refine code_seq ?_
  refine code_region ?_ ?_
  · rfl
  simp only [run1, aOne, aP, aR, aA, aT, aCall, aCallVal, aev, regAt_set, aput_mk, aput_none, plainV, aNilCheck, aExtract, aBin, aInt, Addr.add, Nat.zero_add, ends_some, Nat.reduceLT, Nat.reduceAdd, if_true, then_normal, Nat.reduceEqDiff, if_false, reduceIte, reduceCtorEq, decide_true, decide_false, Bool.not_true, Bool.not_false, beq_self_eq_true, beq_tf, beq_ft, aPick, List.map_cons, List.map_nil, List.nil_append, List.append_nil, List.getElem?_cons_zero, List.getElem?_cons_succ, q40]
  refine code_cond_false ?_ ?_
  · simp only [aev, regAt_set, Nat.reduceEqDiff, reduceIte]
  refine code_seq ?_
  refine code_region ?_ ?_
  · rfl
  simp only [run1, aOne, aP, aR, aA, aT, aCall, aCallVal, aev, regAt_set, aput_mk, aput_none, plainV, aNilCheck, aExtract, aBin, aInt, Addr.add, Nat.zero_add, ends_some, Nat.reduceLT, Nat.reduceAdd, if_true, then_normal, Nat.reduceEqDiff, if_false, reduceIte, reduceCtorEq, decide_true, decide_false, Bool.not_true, Bool.not_false, beq_self_eq_true, beq_tf, beq_ft, aPick, List.map_cons, List.map_nil, List.nil_append, List.append_nil, List.getElem?_cons_zero, List.getElem?_cons_succ, q41]
  refine code_cond_false ?_ ?_
  · simp only [aev, regAt_set, Nat.reduceEqDiff, reduceIte]
  refine code_seq ?_
  refine code_seq ?_
  refine code_region ?_ ?_
  · rfl
  simp only [run1, aOne, aP, aR, aA, aT, aCall, aCallVal, aev, regAt_set, aput_mk, aput_none, plainV, aNilCheck, aExtract, aBin, aInt, Addr.add, Nat.zero_add, ends_some, Nat.reduceLT, Nat.reduceAdd, if_true, then_normal, Nat.reduceEqDiff, if_false, reduceIte, reduceCtorEq, decide_true, decide_false, Bool.not_true, Bool.not_false, beq_self_eq_true, beq_tf, beq_ft, aPick, List.map_cons, List.map_nil, List.nil_append, List.append_nil, List.getElem?_cons_zero, List.getElem?_cons_succ, q39]
  refine code_cond_false ?_ ?_
  · simp only [aev, regAt_set, Nat.reduceEqDiff, reduceIte]
  refine code_seq ?_
  refine code_region ?_ ?_
  · rfl
  simp only [run1, aOne, aP, aR, aA, aT, aCall, aCallVal, aev, regAt_set, aput_mk, aput_none, plainV, aNilCheck, aExtract, aBin, aInt, Addr.add, Nat.zero_add, ends_some, Nat.reduceLT, Nat.reduceAdd, if_true, then_normal, Nat.reduceEqDiff, if_false, reduceIte, reduceCtorEq, decide_true, decide_false, Bool.not_true, Bool.not_false, beq_self_eq_true, beq_tf, beq_ft, aPick, List.map_cons, List.map_nil, List.nil_append, List.append_nil, List.getElem?_cons_zero, List.getElem?_cons_succ, q96]
  refine code_cond_false ?_ ?_
  · simp only [aev, regAt_set, Nat.reduceEqDiff, reduceIte]
  refine code_region ?_ ?_
  · rfl
  simp only [run1, aOne, aP, aR, aA, aT, aCall, aCallVal, aev, regAt_set, aput_mk, aput_none, plainV, aNilCheck, aExtract, aBin, aInt, Addr.add, Nat.zero_add, ends_some, Nat.reduceLT, Nat.reduceAdd, if_true, then_normal, Nat.reduceEqDiff, if_false, reduceIte, reduceCtorEq, decide_true, decide_false, Bool.not_true, Bool.not_false, beq_self_eq_true, beq_tf, beq_ft, aPick, List.map_cons, List.map_nil, List.nil_append, List.append_nil, List.getElem?_cons_zero, List.getElem?_cons_succ, q44]
  refine code_cond_false ?_ ?_
  · simp only [aev, regAt_set, Nat.reduceEqDiff, reduceIte]
  refine code_seq ?_
  refine code_region ?_ ?_
  · rfl
  simp only [run1, aOne, aP, aR, aA, aT, aCall, aCallVal, aev, regAt_set, aput_mk, aput_none, plainV, aNilCheck, aExtract, aBin, aInt, Addr.add, Nat.zero_add, ends_some, Nat.reduceLT, Nat.reduceAdd, if_true, then_normal, Nat.reduceEqDiff, if_false, reduceIte, reduceCtorEq, decide_true, decide_false, Bool.not_true, Bool.not_false, beq_self_eq_true, beq_tf, beq_ft, aPick, List.map_cons, List.map_nil, List.nil_append, List.append_nil, List.getElem?_cons_zero, List.getElem?_cons_succ, q34]
  refine code_cond_false ?_ ?_
  · simp only [aev, regAt_set, Nat.reduceEqDiff, reduceIte]
  refine code_seq ?_
  refine code_region ?_ ?_
  · rfl
  simp only [run1, aOne, aP, aR, aA, aT, aCall, aCallVal, aev, regAt_set, aput_mk, aput_none, plainV, aNilCheck, aExtract, aBin, aInt, Addr.add, Nat.zero_add, ends_some, Nat.reduceLT, Nat.reduceAdd, if_true, then_normal, Nat.reduceEqDiff, if_false, reduceIte, reduceCtorEq, decide_true, decide_false, Bool.not_true, Bool.not_false, beq_self_eq_true, beq_tf, beq_ft, aPick, List.map_cons, List.map_nil, List.nil_append, List.append_nil, List.getElem?_cons_zero, List.getElem?_cons_succ, fa45_1, ld3, hag, a2, hst12]
  refine code_seq ?_
  refine code_region ?_ ?_
  · rfl
  simp only [run1, aOne, aP, aR, aA, aT, aCall, aCallVal, aev, regAt_set, aput_mk, aput_none, plainV, aNilCheck, aExtract, aBin, aInt, Addr.add, Nat.zero_add, ends_some, Nat.reduceLT, Nat.reduceAdd, if_true, then_normal, Nat.reduceEqDiff, if_false, reduceIte, reduceCtorEq, decide_true, decide_false, Bool.not_true, Bool.not_false, beq_self_eq_true, beq_tf, beq_ft, aPick, List.map_cons, List.map_nil, List.nil_append, List.append_nil, List.getElem?_cons_zero, List.getElem?_cons_succ, go_call (P := Tryz.prog) (X := X) (S := S0) Tryz.func17 rfl rfl, hrun]
  refine code_seq ?_
  refine code_seq ?_
  refine code_region ?_ ?_
  · rfl
  simp only [run1, aOne, aP, aR, aA, aT, aCall, aCallVal, aev, regAt_set, aput_mk, aput_none, plainV, aNilCheck, aExtract, aBin, aInt, Addr.add, Nat.zero_add, ends_some, Nat.reduceLT, Nat.reduceAdd, if_true, then_normal, Nat.reduceEqDiff, if_false, reduceIte, reduceCtorEq, decide_true, decide_false, Bool.not_true, Bool.not_false, beq_self_eq_true, beq_tf, beq_ft, aPick, List.map_cons, List.map_nil, List.nil_append, List.append_nil, List.getElem?_cons_zero, List.getElem?_cons_succ, dot_x]
  refine code_cond_false ?_ ?_
  · simp only [aev, regAt_set, Nat.reduceEqDiff, reduceIte]
  refine code_skip ?_
  simp only [then_normal]
  refine code_region ?_ ?_
  · rfl
  simp only [run1, aOne, aP, aR, aA, aT, aCall, aCallVal, aev, regAt_set, aput_mk, aput_none, plainV, aNilCheck, aExtract, aBin, aInt, Addr.add, Nat.zero_add, ends_some, Nat.reduceLT, Nat.reduceAdd, if_true, then_normal, Nat.reduceEqDiff, if_false, reduceIte, reduceCtorEq, decide_true, decide_false, Bool.not_true, Bool.not_false, beq_self_eq_true, beq_tf, beq_ft, aPick, List.map_cons, List.map_nil, List.nil_append, List.append_nil, List.getElem?_cons_zero, List.getElem?_cons_succ, go_body (P := Tryz.prog) Tryz.func18 rfl, kWord, fa51_3, hst16]
  simp only [blockC, then_normal]
  refine code_seq ?_
  refine code_region ?_ ?_
  · rfl
  simp only [run1, aOne, aP, aR, aA, aT, aCall, aCallVal, aev, regAt_set, aput_mk, aput_none, plainV, aNilCheck, aExtract, aBin, aInt, Addr.add, Nat.zero_add, ends_some, Nat.reduceLT, Nat.reduceAdd, if_true, then_normal, Nat.reduceEqDiff, if_false, reduceIte, reduceCtorEq, decide_true, decide_false, Bool.not_true, Bool.not_false, beq_self_eq_true, beq_tf, beq_ft, aPick, List.map_cons, List.map_nil, List.nil_append, List.append_nil, List.getElem?_cons_zero, List.getElem?_cons_succ, hl, hst3]
  refine code_ret ?_
  refine ⟨rfl, .tuple #[.agg (tok 6 p [] symx).toArray, .int .i64 0], ?_, rfl, hSs.put h2sc h2tb, hTs.put_new (Nat.le_refl _)⟩
  simp only [aResults, Tryz.results8, aRes, regAt_set, Nat.reduceEqDiff, reduceIte, hl2]
end
end Go.Proofs.YtfcpiamdmbliaaaGreatDoor.rd
