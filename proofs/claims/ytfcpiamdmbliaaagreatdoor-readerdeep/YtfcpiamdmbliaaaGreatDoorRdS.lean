/-
  distafflaw06.ReaderDeep, part S: the reader's loop. No conditions.
-/
import Derived.Test.YtfcpiamdmbliaaaGreatDoorRdR
set_option linter.unusedSimpArgs false
set_option linter.unusedVariables false
namespace Go.Proofs.YtfcpiamdmbliaaaGreatDoor.rd
open Go Go.Proofs Go.Proofs.YtfcpiamdmbliaaaGreatDoor.Ev

noncomputable section
variable {X : FuncId → List Value → Mem → Option (Value × Mem)}

theorem al56 : aAlloc Tryz.prog 56 = some (.cells 14 56 (opn 0 0 [] (.slice none 0 0) false).toArray .e 0 0 false false, fun id => .pointer (some ⟨id, 0, none⟩)) := by unfold aAlloc; rw [z56]; rfl

set_option maxRecDepth 20000 in
set_option maxHeartbeats 8000000 in
theorem closes_ends {cl : Nat → Nat} {sb bb M nodes g e p b : Nat} {bad : Nat → Prop} (hg : 1500 ≤ g) (hbb : bad bb) (hsb : bad sb) (hne : sb ≠ bb) (hcl : ∀ e, cl e = 0 ∨ cl e = 1 ∨ cl e = 2) {ks : List Nat} {l : List Value} {μ : Mem} (hce : cl e = 0 ∨ cl e = 1) (hdM : (e + 1) * 14 ≤ M) (hd : e < 900)
    (hB : Bd μ bb (.slice (some ⟨sb, 0, none⟩) (e + 1) 29) nodes (.slice none 0 0)) (hK : StkAt μ sb e cl) (hE : Has μ sb (e * 14) (opn (knd (cl e)) p (txt (cl e)) (.slice (some ⟨b, 0, none⟩) 1 17) false)) (hM : Blk μ sb M 56) (hs : sb < μ.next) (hbd : ∀ i, bad i → i < μ.next)
    (hb : ¬ bad b) (hbn : b < μ.next) (hHb : Has μ b 0 l) (hCb : Cl μ b) (hD : Den bad μ ks l) :
    EndsF (aFun Tryz.prog (aCode Tryz.prog X S0 g) 19 [.pointer (some ⟨bb, 0, none⟩)] μ) fun v μ' => v = .int .i64 0 ∧ AddQ bad cl sb bb M nodes (pops cl e (cl e :: ks)) μ μ' := by
  obtain ⟨k, rfl⟩ := Nat.exists_eq_add_of_le' hg
  obtain ⟨hll, hlo⟩ := hD.len
  have hbbn := hB.n
  have ht := top_some (X := X) (g := k + 1497) (by omega) hB (by omega)
  obtain ⟨μ1, hμ1⟩ : ∃ m : Mem, m = ⟨μ.obs, μ.next + 12⟩ := ⟨_, rfl⟩
  rw [← hμ1] at ht
  have hn1 : μ1.next = μ.next + 12 := by rw [hμ1]
  have hg1 : Grow μ μ1 := by rw [hμ1]; exact grow_up μ 12
  have hE1 : Has μ1 sb (e * 14) (opn (knd (cl e)) p (txt (cl e)) (.slice (some ⟨b, 0, none⟩) 1 17) false) := hE.keep (hg1.2 sb hs)
  have c0 : cellsAt μ1 sb (e * 14) = some (.int .i64 (.ofNat (knd (cl e)))) := hE1.cell 0 (Nat.le_of_ble_eq_true rfl)
  have c11 : cellsAt μ1 sb (e * 14 + 11) = some (.slice (some ⟨b, 0, none⟩) 1 17) := hE1.cell 11 (Nat.le_of_ble_eq_true rfl)
  have c12 : cellsAt μ1 sb (e * 14 + 12) = some (.bool false) := hE1.cell 12 (Nat.le_of_ble_eq_true rfl)
  have hk4 : ieq (.ofNat (knd (cl e))) 4 = false := by rcases hce with h | h <;> rw [h] <;> rfl
  have hlE := lds56 hE1 rfl
  have e200 : ilt 200 (.ofNat 1) = false := rfl
  -- a copy
  have hga := grow1 μ1 (.cells 14 56 (opn 0 0 [] (.slice none 0 0) false).toArray .e 0 0 false false)
  have hba : Blk ⟨μ1.obs.set μ1.next (.cells 14 56 (opn 0 0 [] (.slice none 0 0) false).toArray .e 0 0 false false), Nat.add μ1.next 1⟩ μ1.next 14 56 := ⟨_, _, _, _, by show T.get _ _ = _; rw [T.get_set, if_pos rfl]⟩
  have s11 := store_puts (P := Tryz.prog) (t := 56) (vs := opn (knd (cl e)) p (txt (cl e)) (.slice (some ⟨b, 0, none⟩) 1 17) false) (o := 0) i56 rfl (opn_one _ _ _ _ rfl) hba (Nat.le_refl _)
  obtain ⟨μ2, hμ2⟩ : ∃ m : Mem, m = putL ⟨μ1.obs.set μ1.next (.cells 14 56 (opn 0 0 [] (.slice none 0 0) false).toArray .e 0 0 false false), Nat.add μ1.next 1⟩ μ1.next 0 (opn (knd (cl e)) p (txt (cl e)) (.slice (some ⟨b, 0, none⟩) 1 17) false) := ⟨_, rfl⟩
  rw [← hμ2] at s11
  have hn2 : μ2.next = μ1.next + 1 := by rw [hμ2, putL_next]
  have hg2 : Grow μ μ2 := by rw [hμ2]; exact (hg1.trans hga).put_new (by omega)
  have hE2 : Has μ2 μ1.next 0 (opn (knd (cl e)) p (txt (cl e)) (.slice (some ⟨b, 0, none⟩) 1 17) false) := by rw [hμ2]; exact Has.of_put hba (Nat.le_refl _)
  -- the stack
  have hB2 := hB.grow hg2
  have c20 : ∀ y, cellsAt ⟨μ2.obs, y⟩ bb 0 = some (.slice (some ⟨sb, 0, none⟩) (e + 1) 29) := fun y => hB2.c0
  have a1 : qwrap .i64 (Int.sub (.ofNat (e + 1)) 1) = .ofNat e := sub_nat (e + 1) 1 (by omega) (by omega)
  have hsl8 : ∀ (r : Rg) (x y : Operand), aev Tryz.prog r x = .slice (some ⟨sb, 0, none⟩) (e + 1) 29 → aev Tryz.prog r y = .int .i64 (.ofNat e) → aSlice Tryz.prog (aev Tryz.prog r) 47 x none (some y) none = some (.slice (some ⟨sb, 0, none⟩) e 29) := fun r x y g1 g2 => slice_less (s := 14) Tryz.underlying47 i56 g1 g2 (Nat.le_succ e)
  have hB2u : Bd ⟨μ2.obs, μ2.next + 15⟩ bb (.slice (some ⟨sb, 0, none⟩) (e + 1) 29) nodes (.slice none 0 0) := hB2.grow (grow_up μ2 15)
  have s14 := store_put (P := Tryz.prog) (t := 47) (v := .slice (some ⟨sb, 0, none⟩) e 29) i47 rfl rfl hB2u.blk (show 0 < 3 by decide)
  have hB3 := hB2u.put0 (st' := .slice (some ⟨sb, 0, none⟩) e 29)
  obtain ⟨μ3, hμ3⟩ : ∃ m : Mem, m = putL ⟨μ2.obs, μ2.next + 15⟩ bb 0 [.slice (some ⟨sb, 0, none⟩) e 29] := ⟨_, rfl⟩
  rw [← hμ3] at s14 hB3
  have hn3 : μ3.next = μ2.next + 15 := by rw [hμ3, putL_next]
  have hk3 : ∀ i, i < μ.next → i ≠ bb → μ3.obs.get i = μ.obs.get i := fun i hi hn => by rw [hμ3, putL_get _ _ _ _ hn]; exact hg2.2 i hi
  have hE3 : Has μ3 μ1.next 0 (opn (knd (cl e)) p (txt (cl e)) (.slice (some ⟨b, 0, none⟩) 1 17) false) := by rw [hμ3]; exact (show Has ⟨μ2.obs, μ2.next + 15⟩ μ1.next 0 _ from hE2).keep (putL_get _ _ _ _ (by omega))
  have hlE3 := lds56 hE3 rfl
  have hnbb : b ≠ bb := fun h => hb (by rw [h]; exact hbb)
  have hHb3 := hHb.keep (hk3 b hbn hnbb)
  have hCb3 : Cl μ3 b := by unfold Cl; rw [hk3 b hbn hnbb]; exact hCb
  have hkk : knd (cl e) = 1 ∨ knd (cl e) = 2 := by rcases hce with h | h <;> rw [h] <;> simp [knd]
  obtain ⟨v4, μ4, hmd, b', c', hv4, hg4, hb1, hb2, hb3, hb4⟩ := made_ends (X := X) (g := k + 1493) (k := knd (cl e)) (cp := 17) (p := p) (tx := txt (cl e)) (by omega) hkk hHb3 hll (by omega) hCb3
  subst hv4
  have hn4 := hg4.1
  have hb'bad : ¬ bad b' := by
    rcases hb1 with rfl | h
    · exact hb
    · intro hbb'; have := hbd b' hbb'; omega
  have hD4 : Den bad μ4 (cl e :: ks) (dat (if knd (cl e) = 2 then 7 else 5) [] (.slice (some ⟨b', 0, none⟩) 1 c')) := by
    refine ⟨b', c', l, hb'bad, hb2, hb4, Den.keep (by omega) (fun i hi hbi => ?_) hD, ?_⟩
    · rw [hg4.2 i (by omega), hk3 i hi (fun h => hbi (by rw [h]; exact hbb))]
    · rw [if_neg (by omega)]
      refine ⟨?_, hb3⟩
      rcases hce with h | h <;> rw [h] <;> rfl
  have hK4 : StkAt μ4 sb e cl := (hK.keep (hk3 sb hs hne)).keep (hg4.2 sb (by omega))
  obtain ⟨v5, μ5, had, hv5, hQ⟩ := add_ends (X := X) (g := k + 1493) (cl := cl) (sb := sb) (M := M) (by omega) hbb hsb hne hcl (by omega) (by omega) (hB3.grow hg4) hK4 ((hM.of_get (hk3 sb hs hne)).of_get (hg4.2 sb (by omega))) (by omega) (fun i hi => Nat.lt_of_lt_of_le (hbd i hi) (by omega)) hD4
  subst hv5
  have fin : AddQ bad cl sb bb M nodes (pops cl e (cl e :: ks)) μ μ5 := ⟨by have := hQ.next; omega, fun i hi hbi => by rw [hQ.same i (by omega) hbi, hg4.2 i (by omega), hk3 i hi (fun h => hbi (by rw [h]; exact hbb))], hQ.blk, hQ.res⟩
  refine fun_enter Tryz.func19 rfl rfl (Nat.le_of_ble_eq_true rfl) ?_
  simp only [T.lay, Nat.zero_add, Tryz.ntmps19, Nat.reduceAdd]
  refine code_seq ?_
  refine code_region ?_ ?_
  · rfl
  simp only [run1, aOne, aP, aR, aA, aT, aCall, aCallVal, aev, regAt_set, aput_mk, aput_none, plainV, aNilCheck, aExtract, aBin, aInt, Addr.add, Nat.zero_add, ends_some, Nat.reduceLT, Nat.reduceAdd, if_true, then_normal, Nat.reduceEqDiff, if_false, reduceIte, reduceCtorEq, decide_true, decide_false, Bool.not_true, Bool.not_false, beq_self_eq_true, beq_tf, beq_ft, aPick, List.map_cons, List.map_nil, List.nil_append, List.append_nil, List.getElem?_cons_zero, List.getElem?_cons_succ]
  refine code_seq ?_
  refine code_region ?_ ?_
  · rfl
  simp only [run1, aOne, aP, aR, aA, aT, aCall, aCallVal, aev, regAt_set, aput_mk, aput_none, plainV, aNilCheck, aExtract, aBin, aInt, Addr.add, Nat.zero_add, ends_some, Nat.reduceLT, Nat.reduceAdd, if_true, then_normal, Nat.reduceEqDiff, if_false, reduceIte, reduceCtorEq, decide_true, decide_false, Bool.not_true, Bool.not_false, beq_self_eq_true, beq_tf, beq_ft, aPick, List.map_cons, List.map_nil, List.nil_append, List.append_nil, List.getElem?_cons_zero, List.getElem?_cons_succ, go_call (P := Tryz.prog) (X := X) (S := S0) Tryz.func10 rfl rfl, ht]
  refine code_seq ?_
  refine code_block ?_
  refine code_seq ?_
  refine code_region ?_ ?_
  · rfl
  simp only [run1, aOne, aP, aR, aA, aT, aCall, aCallVal, aev, regAt_set, aput_mk, aput_none, plainV, aNilCheck, aExtract, aBin, aInt, Addr.add, Nat.zero_add, ends_some, Nat.reduceLT, Nat.reduceAdd, if_true, then_normal, Nat.reduceEqDiff, if_false, reduceIte, reduceCtorEq, decide_true, decide_false, Bool.not_true, Bool.not_false, beq_self_eq_true, beq_tf, beq_ft, aPick, List.map_cons, List.map_nil, List.nil_append, List.append_nil, List.getElem?_cons_zero, List.getElem?_cons_succ, aNil, Tryz.underlying57]
  refine code_cond_false ?_ ?_
  · simp only [aev, regAt_set, Nat.reduceEqDiff, reduceIte]
  refine code_seq ?_
  refine code_guards (gs := ?_) ?_ ?_
  rotate_left
  · rfl
  iterate 7 (refine run2_true (by first | rfl | (simp only [wanted, aOne, aP, aR, aA, aT, aCall, aCallVal, aev, regAt_set, aput_mk, aput_none, plainV, aNilCheck, aExtract, aBin, aInt, Addr.add, Nat.zero_add, ends_some, Nat.reduceLT, Nat.reduceAdd, if_true, then_normal, Nat.reduceEqDiff, if_false, reduceIte, reduceCtorEq, decide_true, decide_false, Bool.not_true, Bool.not_false, beq_self_eq_true, beq_tf, beq_ft, aPick, List.map_cons, List.map_nil, List.nil_append, List.append_nil, List.getElem?_cons_zero, List.getElem?_cons_succ, fa56_0, fa51_0, ld3, c0, hk4])) (by simp only [aOne, aP, aR, aA, aT, aCall, aCallVal, aev, regAt_set, aput_mk, aput_none, plainV, aNilCheck, aExtract, aBin, aInt, Addr.add, Nat.zero_add, ends_some, Nat.reduceLT, Nat.reduceAdd, if_true, then_normal, Nat.reduceEqDiff, if_false, reduceIte, reduceCtorEq, decide_true, decide_false, Bool.not_true, Bool.not_false, beq_self_eq_true, beq_tf, beq_ft, aPick, List.map_cons, List.map_nil, List.nil_append, List.append_nil, List.getElem?_cons_zero, List.getElem?_cons_succ, fa56_0, fa51_0, ld3, c0, hk4]; try exact rfl) rfl ?_)
  iterate 3 (refine run2_false (by simp only [wanted, aOne, aP, aR, aA, aT, aCall, aCallVal, aev, regAt_set, aput_mk, aput_none, plainV, aNilCheck, aExtract, aBin, aInt, Addr.add, Nat.zero_add, ends_some, Nat.reduceLT, Nat.reduceAdd, if_true, then_normal, Nat.reduceEqDiff, if_false, reduceIte, reduceCtorEq, decide_true, decide_false, Bool.not_true, Bool.not_false, beq_self_eq_true, beq_tf, beq_ft, aPick, List.map_cons, List.map_nil, List.nil_append, List.append_nil, List.getElem?_cons_zero, List.getElem?_cons_succ, fa56_0, fa51_0, ld3, c0, hk4]) rfl ?_)
  iterate 2 (refine run2_true (by first | rfl | (simp only [wanted, aOne, aP, aR, aA, aT, aCall, aCallVal, aev, regAt_set, aput_mk, aput_none, plainV, aNilCheck, aExtract, aBin, aInt, Addr.add, Nat.zero_add, ends_some, Nat.reduceLT, Nat.reduceAdd, if_true, then_normal, Nat.reduceEqDiff, if_false, reduceIte, reduceCtorEq, decide_true, decide_false, Bool.not_true, Bool.not_false, beq_self_eq_true, beq_tf, beq_ft, aPick, List.map_cons, List.map_nil, List.nil_append, List.append_nil, List.getElem?_cons_zero, List.getElem?_cons_succ, fa56_0, fa51_0, ld3, c0, hk4])) (by simp only [aOne, aP, aR, aA, aT, aCall, aCallVal, aev, regAt_set, aput_mk, aput_none, plainV, aNilCheck, aExtract, aBin, aInt, Addr.add, Nat.zero_add, ends_some, Nat.reduceLT, Nat.reduceAdd, if_true, then_normal, Nat.reduceEqDiff, if_false, reduceIte, reduceCtorEq, decide_true, decide_false, Bool.not_true, Bool.not_false, beq_self_eq_true, beq_tf, beq_ft, aPick, List.map_cons, List.map_nil, List.nil_append, List.append_nil, List.getElem?_cons_zero, List.getElem?_cons_succ, fa56_0, fa51_0, ld3, c0, hk4]; try exact rfl) rfl ?_)
  simp only [run2, ends_some, then_normal]
  refine code_cond_false ?_ ?_
  · simp only [aev, regAt_set, Nat.reduceEqDiff, reduceIte]
  refine code_seq ?_
  refine code_seq ?_
  refine code_region ?_ ?_
  · rfl
  simp only [run1, aOne, aP, aR, aA, aT, aCall, aCallVal, aev, regAt_set, aput_mk, aput_none, plainV, aNilCheck, aExtract, aBin, aInt, Addr.add, Nat.zero_add, ends_some, Nat.reduceLT, Nat.reduceAdd, if_true, then_normal, Nat.reduceEqDiff, if_false, reduceIte, reduceCtorEq, decide_true, decide_false, Bool.not_true, Bool.not_false, beq_self_eq_true, beq_tf, beq_ft, aPick, List.map_cons, List.map_nil, List.nil_append, List.append_nil, List.getElem?_cons_zero, List.getElem?_cons_succ, fa56_0, fa51_0, ld3, c0, hk4]
  refine code_cond_false ?_ ?_
  · simp only [aev, regAt_set, Nat.reduceEqDiff, reduceIte]
  refine code_guards (gs := ?_) ?_ ?_
  rotate_left
  · rfl
  iterate 5 (refine run2_true (by first | rfl | (simp only [wanted, aOne, aP, aR, aA, aT, aCall, aCallVal, aev, regAt_set, aput_mk, aput_none, plainV, aNilCheck, aExtract, aBin, aInt, Addr.add, Nat.zero_add, ends_some, Nat.reduceLT, Nat.reduceAdd, if_true, then_normal, Nat.reduceEqDiff, if_false, reduceIte, reduceCtorEq, decide_true, decide_false, Bool.not_true, Bool.not_false, beq_self_eq_true, beq_tf, beq_ft, aPick, List.map_cons, List.map_nil, List.nil_append, List.append_nil, List.getElem?_cons_zero, List.getElem?_cons_succ, fa56_2, ld4, c12])) (by simp only [aOne, aP, aR, aA, aT, aCall, aCallVal, aev, regAt_set, aput_mk, aput_none, plainV, aNilCheck, aExtract, aBin, aInt, Addr.add, Nat.zero_add, ends_some, Nat.reduceLT, Nat.reduceAdd, if_true, then_normal, Nat.reduceEqDiff, if_false, reduceIte, reduceCtorEq, decide_true, decide_false, Bool.not_true, Bool.not_false, beq_self_eq_true, beq_tf, beq_ft, aPick, List.map_cons, List.map_nil, List.nil_append, List.append_nil, List.getElem?_cons_zero, List.getElem?_cons_succ, fa56_2, ld4, c12]; try exact rfl) rfl ?_)
  iterate 5 (refine run2_false (by simp only [wanted, aOne, aP, aR, aA, aT, aCall, aCallVal, aev, regAt_set, aput_mk, aput_none, plainV, aNilCheck, aExtract, aBin, aInt, Addr.add, Nat.zero_add, ends_some, Nat.reduceLT, Nat.reduceAdd, if_true, then_normal, Nat.reduceEqDiff, if_false, reduceIte, reduceCtorEq, decide_true, decide_false, Bool.not_true, Bool.not_false, beq_self_eq_true, beq_tf, beq_ft, aPick, List.map_cons, List.map_nil, List.nil_append, List.append_nil, List.getElem?_cons_zero, List.getElem?_cons_succ, fa56_2, ld4, c12]) rfl ?_)
  iterate 2 (refine run2_true (by first | rfl | (simp only [wanted, aOne, aP, aR, aA, aT, aCall, aCallVal, aev, regAt_set, aput_mk, aput_none, plainV, aNilCheck, aExtract, aBin, aInt, Addr.add, Nat.zero_add, ends_some, Nat.reduceLT, Nat.reduceAdd, if_true, then_normal, Nat.reduceEqDiff, if_false, reduceIte, reduceCtorEq, decide_true, decide_false, Bool.not_true, Bool.not_false, beq_self_eq_true, beq_tf, beq_ft, aPick, List.map_cons, List.map_nil, List.nil_append, List.append_nil, List.getElem?_cons_zero, List.getElem?_cons_succ, fa56_2, ld4, c12])) (by simp only [aOne, aP, aR, aA, aT, aCall, aCallVal, aev, regAt_set, aput_mk, aput_none, plainV, aNilCheck, aExtract, aBin, aInt, Addr.add, Nat.zero_add, ends_some, Nat.reduceLT, Nat.reduceAdd, if_true, then_normal, Nat.reduceEqDiff, if_false, reduceIte, reduceCtorEq, decide_true, decide_false, Bool.not_true, Bool.not_false, beq_self_eq_true, beq_tf, beq_ft, aPick, List.map_cons, List.map_nil, List.nil_append, List.append_nil, List.getElem?_cons_zero, List.getElem?_cons_succ, fa56_2, ld4, c12]; try exact rfl) rfl ?_)
  simp only [run2, ends_some, then_normal]
  refine code_cond_false ?_ ?_
  · simp only [aev, regAt_set, Nat.reduceEqDiff, reduceIte]
  rcases hce with h | h
  · have q2 : ieq (.ofNat (knd (cl e))) 2 = false := by rw [h]; rfl
    refine code_seq ?_
    refine code_guards (gs := ?_) ?_ ?_
    rotate_left
    · rfl
    iterate 7 (refine run2_true (by first | rfl | (simp only [wanted, aOne, aP, aR, aA, aT, aCall, aCallVal, aev, regAt_set, aput_mk, aput_none, plainV, aNilCheck, aExtract, aBin, aInt, Addr.add, Nat.zero_add, ends_some, Nat.reduceLT, Nat.reduceAdd, if_true, then_normal, Nat.reduceEqDiff, if_false, reduceIte, reduceCtorEq, decide_true, decide_false, Bool.not_true, Bool.not_false, beq_self_eq_true, beq_tf, beq_ft, aPick, List.map_cons, List.map_nil, List.nil_append, List.append_nil, List.getElem?_cons_zero, List.getElem?_cons_succ, fa56_0, fa51_0, ld3, c0, q2])) (by simp only [aOne, aP, aR, aA, aT, aCall, aCallVal, aev, regAt_set, aput_mk, aput_none, plainV, aNilCheck, aExtract, aBin, aInt, Addr.add, Nat.zero_add, ends_some, Nat.reduceLT, Nat.reduceAdd, if_true, then_normal, Nat.reduceEqDiff, if_false, reduceIte, reduceCtorEq, decide_true, decide_false, Bool.not_true, Bool.not_false, beq_self_eq_true, beq_tf, beq_ft, aPick, List.map_cons, List.map_nil, List.nil_append, List.append_nil, List.getElem?_cons_zero, List.getElem?_cons_succ, fa56_0, fa51_0, ld3, c0, q2]; try exact rfl) rfl ?_)
    iterate 6 (refine run2_false (by simp only [wanted, aOne, aP, aR, aA, aT, aCall, aCallVal, aev, regAt_set, aput_mk, aput_none, plainV, aNilCheck, aExtract, aBin, aInt, Addr.add, Nat.zero_add, ends_some, Nat.reduceLT, Nat.reduceAdd, if_true, then_normal, Nat.reduceEqDiff, if_false, reduceIte, reduceCtorEq, decide_true, decide_false, Bool.not_true, Bool.not_false, beq_self_eq_true, beq_tf, beq_ft, aPick, List.map_cons, List.map_nil, List.nil_append, List.append_nil, List.getElem?_cons_zero, List.getElem?_cons_succ, fa56_0, fa51_0, ld3, c0, q2]) rfl ?_)
    iterate 2 (refine run2_true (by first | rfl | (simp only [wanted, aOne, aP, aR, aA, aT, aCall, aCallVal, aev, regAt_set, aput_mk, aput_none, plainV, aNilCheck, aExtract, aBin, aInt, Addr.add, Nat.zero_add, ends_some, Nat.reduceLT, Nat.reduceAdd, if_true, then_normal, Nat.reduceEqDiff, if_false, reduceIte, reduceCtorEq, decide_true, decide_false, Bool.not_true, Bool.not_false, beq_self_eq_true, beq_tf, beq_ft, aPick, List.map_cons, List.map_nil, List.nil_append, List.append_nil, List.getElem?_cons_zero, List.getElem?_cons_succ, fa56_0, fa51_0, ld3, c0, q2])) (by simp only [aOne, aP, aR, aA, aT, aCall, aCallVal, aev, regAt_set, aput_mk, aput_none, plainV, aNilCheck, aExtract, aBin, aInt, Addr.add, Nat.zero_add, ends_some, Nat.reduceLT, Nat.reduceAdd, if_true, then_normal, Nat.reduceEqDiff, if_false, reduceIte, reduceCtorEq, decide_true, decide_false, Bool.not_true, Bool.not_false, beq_self_eq_true, beq_tf, beq_ft, aPick, List.map_cons, List.map_nil, List.nil_append, List.append_nil, List.getElem?_cons_zero, List.getElem?_cons_succ, fa56_0, fa51_0, ld3, c0, q2]; try exact rfl) rfl ?_)
    simp only [run2, ends_some, then_normal]
    refine code_cond_false ?_ ?_
    · simp only [aev, regAt_set, Nat.reduceEqDiff, reduceIte]
    refine code_skip ?_
    simp only [blockC, then_normal]
    refine code_seq ?_
    refine code_region ?_ ?_
    · rfl
    simp only [run1, aOne, aP, aR, aA, aT, aCall, aCallVal, aev, regAt_set, aput_mk, aput_none, plainV, aNilCheck, aExtract, aBin, aInt, Addr.add, Nat.zero_add, ends_some, Nat.reduceLT, Nat.reduceAdd, if_true, then_normal, Nat.reduceEqDiff, if_false, reduceIte, reduceCtorEq, decide_true, decide_false, Bool.not_true, Bool.not_false, beq_self_eq_true, beq_tf, beq_ft, aPick, List.map_cons, List.map_nil, List.nil_append, List.append_nil, List.getElem?_cons_zero, List.getElem?_cons_succ, hlE, al56, s11]
    refine code_seq ?_
    refine code_draw (n := 15) (ms := [0, 0, 2, 6, 14, 0, 32, 96, 224, 480, 992, 2046, 4095, 8191, 16383]) (ord := [0, 1, 2, 3, 4, 5, 6, 7, 8, 9, 10, 11, 12, 13, 14]) (ds := ?_) ?_ ?_ ?_ ?_ ?_ ?_
    rotate_left
    · kernel_rfl
    · kernel_rfl
    · kernel_rfl
    · rfl
    · rfl
    iterate 15 (refine drun_true (by first | rfl | (simp only [wanted, aOne, aP, aR, aA, aT, aCall, aCallVal, aev, regAt_set, aput_mk, aput_none, plainV, aNilCheck, aExtract, aBin, aInt, Addr.add, Nat.zero_add, ends_some, Nat.reduceLT, Nat.reduceAdd, if_true, then_normal, Nat.reduceEqDiff, if_false, reduceIte, reduceCtorEq, decide_true, decide_false, Bool.not_true, Bool.not_false, beq_self_eq_true, beq_tf, beq_ft, aPick, List.map_cons, List.map_nil, List.nil_append, List.append_nil, List.getElem?_cons_zero, List.getElem?_cons_succ, fa49_0, Nat.add_zero, ld47, c20, aBuiltin, aLen, Tryz.underlying47, cast_nat, a1, hsl8, s14])) (by simp only [aDrawOne, heavy, aReads, eqVal_self, aOne, aP, aR, aA, aT, aCall, aCallVal, aev, regAt_set, aput_mk, aput_none, plainV, aNilCheck, aExtract, aBin, aInt, Addr.add, Nat.zero_add, ends_some, Nat.reduceLT, Nat.reduceAdd, if_true, then_normal, Nat.reduceEqDiff, if_false, reduceIte, reduceCtorEq, decide_true, decide_false, Bool.not_true, Bool.not_false, beq_self_eq_true, beq_tf, beq_ft, aPick, List.map_cons, List.map_nil, List.nil_append, List.append_nil, List.getElem?_cons_zero, List.getElem?_cons_succ, fa49_0, Nat.add_zero, ld47, c20, aBuiltin, aLen, Tryz.underlying47, cast_nat, a1, hsl8, s14]; try exact rfl) rfl ?_)
    simp only [dRun, endsD_some, then_normal]
    refine code_seq ?_
    refine code_region ?_ ?_
    · rfl
    simp only [run1, aOne, aP, aR, aA, aT, aCall, aCallVal, aev, regAt_set, aput_mk, aput_none, plainV, aNilCheck, aExtract, aBin, aInt, Addr.add, Nat.zero_add, ends_some, Nat.reduceLT, Nat.reduceAdd, if_true, then_normal, Nat.reduceEqDiff, if_false, reduceIte, reduceCtorEq, decide_true, decide_false, Bool.not_true, Bool.not_false, beq_self_eq_true, beq_tf, beq_ft, aPick, List.map_cons, List.map_nil, List.nil_append, List.append_nil, List.getElem?_cons_zero, List.getElem?_cons_succ, hlE3, go_call (P := Tryz.prog) (X := X) (S := S0) Tryz.func44 rfl rfl, hmd, go_call (P := Tryz.prog) (X := X) (S := S0) Tryz.func22 rfl rfl, had]
    refine code_seq ?_
    refine code_region ?_ ?_
    · rfl
    simp only [run1, aOne, aP, aR, aA, aT, aCall, aCallVal, aev, regAt_set, aput_mk, aput_none, plainV, aNilCheck, aExtract, aBin, aInt, Addr.add, Nat.zero_add, ends_some, Nat.reduceLT, Nat.reduceAdd, if_true, then_normal, Nat.reduceEqDiff, if_false, reduceIte, reduceCtorEq, decide_true, decide_false, Bool.not_true, Bool.not_false, beq_self_eq_true, beq_tf, beq_ft, aPick, List.map_cons, List.map_nil, List.nil_append, List.append_nil, List.getElem?_cons_zero, List.getElem?_cons_succ]
    refine code_ret ?_
    refine ⟨rfl, _, ?_, rfl, fin⟩
    simp only [aResults, Tryz.results19, aRes, regAt_set, Nat.reduceEqDiff, reduceIte]
  · have q2 : ieq (.ofNat (knd (cl e))) 2 = true := by rw [h]; rfl
    refine code_seq ?_
    refine code_guards (gs := ?_) ?_ ?_
    rotate_left
    · rfl
    iterate 15 (refine run2_true (by first | rfl | (simp only [wanted, aOne, aP, aR, aA, aT, aCall, aCallVal, aev, regAt_set, aput_mk, aput_none, plainV, aNilCheck, aExtract, aBin, aInt, Addr.add, Nat.zero_add, ends_some, Nat.reduceLT, Nat.reduceAdd, if_true, then_normal, Nat.reduceEqDiff, if_false, reduceIte, reduceCtorEq, decide_true, decide_false, Bool.not_true, Bool.not_false, beq_self_eq_true, beq_tf, beq_ft, aPick, List.map_cons, List.map_nil, List.nil_append, List.append_nil, List.getElem?_cons_zero, List.getElem?_cons_succ, fa56_0, fa56_1, fa51_0, ld3, ld24, c0, c11, q2, aBuiltin, aLen, Tryz.underlying24, cast_nat, e200])) (by simp only [aOne, aP, aR, aA, aT, aCall, aCallVal, aev, regAt_set, aput_mk, aput_none, plainV, aNilCheck, aExtract, aBin, aInt, Addr.add, Nat.zero_add, ends_some, Nat.reduceLT, Nat.reduceAdd, if_true, then_normal, Nat.reduceEqDiff, if_false, reduceIte, reduceCtorEq, decide_true, decide_false, Bool.not_true, Bool.not_false, beq_self_eq_true, beq_tf, beq_ft, aPick, List.map_cons, List.map_nil, List.nil_append, List.append_nil, List.getElem?_cons_zero, List.getElem?_cons_succ, fa56_0, fa56_1, fa51_0, ld3, ld24, c0, c11, q2, aBuiltin, aLen, Tryz.underlying24, cast_nat, e200]; try exact rfl) rfl ?_)
    simp only [run2, ends_some, then_normal]
    refine code_cond_false ?_ ?_
    · simp only [aev, regAt_set, Nat.reduceEqDiff, reduceIte]
    refine code_skip ?_
    simp only [blockC, then_normal]
    refine code_seq ?_
    refine code_region ?_ ?_
    · rfl
    simp only [run1, aOne, aP, aR, aA, aT, aCall, aCallVal, aev, regAt_set, aput_mk, aput_none, plainV, aNilCheck, aExtract, aBin, aInt, Addr.add, Nat.zero_add, ends_some, Nat.reduceLT, Nat.reduceAdd, if_true, then_normal, Nat.reduceEqDiff, if_false, reduceIte, reduceCtorEq, decide_true, decide_false, Bool.not_true, Bool.not_false, beq_self_eq_true, beq_tf, beq_ft, aPick, List.map_cons, List.map_nil, List.nil_append, List.append_nil, List.getElem?_cons_zero, List.getElem?_cons_succ, hlE, al56, s11]
    refine code_seq ?_
    refine code_draw (n := 15) (ms := [0, 0, 2, 6, 14, 0, 32, 96, 224, 480, 992, 2046, 4095, 8191, 16383]) (ord := [0, 1, 2, 3, 4, 5, 6, 7, 8, 9, 10, 11, 12, 13, 14]) (ds := ?_) ?_ ?_ ?_ ?_ ?_ ?_
    rotate_left
    · kernel_rfl
    · kernel_rfl
    · kernel_rfl
    · rfl
    · rfl
    iterate 15 (refine drun_true (by first | rfl | (simp only [wanted, aOne, aP, aR, aA, aT, aCall, aCallVal, aev, regAt_set, aput_mk, aput_none, plainV, aNilCheck, aExtract, aBin, aInt, Addr.add, Nat.zero_add, ends_some, Nat.reduceLT, Nat.reduceAdd, if_true, then_normal, Nat.reduceEqDiff, if_false, reduceIte, reduceCtorEq, decide_true, decide_false, Bool.not_true, Bool.not_false, beq_self_eq_true, beq_tf, beq_ft, aPick, List.map_cons, List.map_nil, List.nil_append, List.append_nil, List.getElem?_cons_zero, List.getElem?_cons_succ, fa49_0, Nat.add_zero, ld47, c20, aBuiltin, aLen, Tryz.underlying47, cast_nat, a1, hsl8, s14])) (by simp only [aDrawOne, heavy, aReads, eqVal_self, aOne, aP, aR, aA, aT, aCall, aCallVal, aev, regAt_set, aput_mk, aput_none, plainV, aNilCheck, aExtract, aBin, aInt, Addr.add, Nat.zero_add, ends_some, Nat.reduceLT, Nat.reduceAdd, if_true, then_normal, Nat.reduceEqDiff, if_false, reduceIte, reduceCtorEq, decide_true, decide_false, Bool.not_true, Bool.not_false, beq_self_eq_true, beq_tf, beq_ft, aPick, List.map_cons, List.map_nil, List.nil_append, List.append_nil, List.getElem?_cons_zero, List.getElem?_cons_succ, fa49_0, Nat.add_zero, ld47, c20, aBuiltin, aLen, Tryz.underlying47, cast_nat, a1, hsl8, s14]; try exact rfl) rfl ?_)
    simp only [dRun, endsD_some, then_normal]
    refine code_seq ?_
    refine code_region ?_ ?_
    · rfl
    simp only [run1, aOne, aP, aR, aA, aT, aCall, aCallVal, aev, regAt_set, aput_mk, aput_none, plainV, aNilCheck, aExtract, aBin, aInt, Addr.add, Nat.zero_add, ends_some, Nat.reduceLT, Nat.reduceAdd, if_true, then_normal, Nat.reduceEqDiff, if_false, reduceIte, reduceCtorEq, decide_true, decide_false, Bool.not_true, Bool.not_false, beq_self_eq_true, beq_tf, beq_ft, aPick, List.map_cons, List.map_nil, List.nil_append, List.append_nil, List.getElem?_cons_zero, List.getElem?_cons_succ, hlE3, go_call (P := Tryz.prog) (X := X) (S := S0) Tryz.func44 rfl rfl, hmd, go_call (P := Tryz.prog) (X := X) (S := S0) Tryz.func22 rfl rfl, had]
    refine code_seq ?_
    refine code_region ?_ ?_
    · rfl
    simp only [run1, aOne, aP, aR, aA, aT, aCall, aCallVal, aev, regAt_set, aput_mk, aput_none, plainV, aNilCheck, aExtract, aBin, aInt, Addr.add, Nat.zero_add, ends_some, Nat.reduceLT, Nat.reduceAdd, if_true, then_normal, Nat.reduceEqDiff, if_false, reduceIte, reduceCtorEq, decide_true, decide_false, Bool.not_true, Bool.not_false, beq_self_eq_true, beq_tf, beq_ft, aPick, List.map_cons, List.map_nil, List.nil_append, List.append_nil, List.getElem?_cons_zero, List.getElem?_cons_succ]
    refine code_ret ?_
    refine ⟨rfl, _, ?_, rfl, fin⟩
    simp only [aResults, Tryz.results19, aRes, regAt_set, Nat.reduceEqDiff, reduceIte]
end

noncomputable section
variable {X : FuncId → List Value → Mem → Option (Value × Mem)}

theorem starts_x {cl : Nat → Nat} {g bb sb nodes d : Nat} {da : Value} {μ : Mem} (hg : 60 ≤ g) (hB : Bd μ bb (.slice (some ⟨sb, 0, none⟩) d 29) nodes da) (hK : StkAt μ sb d cl) (hd : d < 900) (hn : nodes + 1 ≤ 3000) :
    EndsF (aFun Tryz.prog (aCode Tryz.prog X S0 g) 21 [.pointer (some ⟨bb, 0, none⟩), .int .i64 1, .bool false] μ) fun v μ' => v = .int .i64 0 ∧ Bd μ' bb (.slice (some ⟨sb, 0, none⟩) d 29) (nodes + 1) da ∧ Turns μ μ' bb := by
  cases d with
  | zero => exact starts_nil (X := X) (n := 1) hg hB hn
  | succ e =>
    obtain ⟨p, hE⟩ := hK e (Nat.lt_succ_self e)
    exact starts_some (X := X) (n := 1) hg hB (hE.cell 13 (Nat.le_of_ble_eq_true rfl)) (by omega) hn (.inl rfl)

set_option maxRecDepth 20000 in
set_option maxHeartbeats 8000000 in
theorem take_close {cl : Nat → Nat} {sb bb M nodes g e p b p0 : Nat} {bad : Nat → Prop} (hg : 1600 ≤ g) (hbb : bad bb) (hsb : bad sb) (hne : sb ≠ bb) (hcl : ∀ e, cl e = 0 ∨ cl e = 1 ∨ cl e = 2) {ks : List Nat} {l : List Value} {μ : Mem} (hce : cl e = 0 ∨ cl e = 1) (hdM : (e + 1) * 14 ≤ M) (hd : e < 900)
    (hB : Bd μ bb (.slice (some ⟨sb, 0, none⟩) (e + 1) 29) nodes (.slice none 0 0)) (hK : StkAt μ sb e cl) (hE : Has μ sb (e * 14) (opn (knd (cl e)) p (txt (cl e)) (.slice (some ⟨b, 0, none⟩) 1 17) false)) (hM : Blk μ sb M 56) (hs : sb < μ.next) (hbd : ∀ i, bad i → i < μ.next)
    (hb : ¬ bad b) (hbn : b < μ.next) (hHb : Has μ b 0 l) (hCb : Cl μ b) (hD : Den bad μ ks l) :
    EndsF (aFun Tryz.prog (aCode Tryz.prog X S0 g) 9 [.pointer (some ⟨bb, 0, none⟩), .agg (tok 3 p0 [] dat0).toArray] μ) fun v μ' => v = .int .i64 0 ∧ AddQ bad cl sb bb M nodes (pops cl e (cl e :: ks)) μ μ' := by
  obtain ⟨k, rfl⟩ := Nat.exists_eq_add_of_le' hg
  have hga := grow1 μ (.cells 11 51 (tok 3 p0 [] dat0).toArray .e 0 0 false false)
  obtain ⟨μa, hμa⟩ : ∃ m : Mem, m = ⟨μ.obs.set μ.next (.cells 11 51 (tok 3 p0 [] dat0).toArray .e 0 0 false false), μ.next + 1⟩ := ⟨_, rfl⟩
  rw [← hμa] at hga
  have hμa' : (⟨μ.obs.set μ.next (.cells (tok 3 p0 [] dat0).length 51 (tok 3 p0 [] dat0).toArray .e 0 0 false false), Nat.add μ.next 1⟩ : Mem) = μa := hμa.symm
  have hna : μa.next = μ.next + 1 := by rw [hμa]
  have hta : Has μa μ.next 0 (tok 3 p0 [] dat0) := Has.new (t := 51) (fx := false) (sh := false) (by rw [hμa]; show T.get _ _ = _; rw [T.get_set, if_pos rfl]; rfl)
  have hka : cellsAt μa μ.next 0 = some (.int .i64 (.ofNat 3)) := hta.cell 0 (Nat.zero_lt_succ _)
  obtain ⟨v1, μb, hc, hv1, hQ⟩ := closes_ends (X := X) (g := k + 1592) (p := p) (b := b) (cl := cl) (M := M) (by omega) hbb hsb hne hcl hce hdM hd (hB.grow hga) (hK.keep (hga.2 sb hs)) (hE.keep (hga.2 sb hs)) (hM.of_get (hga.2 sb hs)) (by omega) (fun i hi => Nat.lt_of_lt_of_le (hbd i hi) (by omega)) hb (by omega) (hHb.keep (hga.2 b hbn)) (by unfold Cl; rw [hga.2 b hbn]; exact hCb) (Den.keep hga.1 (fun i hi _ => hga.2 i hi) hD)
  subst hv1
  have fin : AddQ bad cl sb bb M nodes (pops cl e (cl e :: ks)) μ μb := ⟨by have := hQ.next; omega, fun i hi hbi => (hQ.same i (by omega) hbi).trans (hga.2 i hi), hQ.blk, hQ.res⟩
  have q3 : ieq (.ofNat 3) 3 = true := rfl
  refine fun_enter Tryz.func9 rfl rfl (Nat.le_of_ble_eq_true rfl) ?_
  simp only [T.lay, Nat.zero_add, Tryz.ntmps9, Nat.reduceAdd]
  refine code_seq ?_
  refine code_region ?_ ?_
  · rfl
  simp only [run1, aOne, aP, aR, aA, aT, aCall, aCallVal, aev, regAt_set, aput_mk, aput_none, plainV, aNilCheck, aExtract, aBin, aInt, Addr.add, Nat.zero_add, ends_some, Nat.reduceLT, Nat.reduceAdd, if_true, then_normal, Nat.reduceEqDiff, if_false, reduceIte, reduceCtorEq, decide_true, decide_false, Bool.not_true, Bool.not_false, beq_self_eq_true, beq_tf, beq_ft, aPick, List.map_cons, List.map_nil, List.nil_append, List.append_nil, List.getElem?_cons_zero, List.getElem?_cons_succ, box_agg, hμa']
  refine code_seq ?_
  refine code_seq ?_
  refine code_region ?_ ?_
  · rfl
  simp only [run1, aOne, aP, aR, aA, aT, aCall, aCallVal, aev, regAt_set, aput_mk, aput_none, plainV, aNilCheck, aExtract, aBin, aInt, Addr.add, Nat.zero_add, ends_some, Nat.reduceLT, Nat.reduceAdd, if_true, then_normal, Nat.reduceEqDiff, if_false, reduceIte, reduceCtorEq, decide_true, decide_false, Bool.not_true, Bool.not_false, beq_self_eq_true, beq_tf, beq_ft, aPick, List.map_cons, List.map_nil, List.nil_append, List.append_nil, List.getElem?_cons_zero, List.getElem?_cons_succ, fa51_0, ld3, hka]
  refine code_block ?_
  refine code_seq ?_
  refine code_region ?_ ?_
  · rfl
  simp only [run1, aOne, aP, aR, aA, aT, aCall, aCallVal, aev, regAt_set, aput_mk, aput_none, plainV, aNilCheck, aExtract, aBin, aInt, Addr.add, Nat.zero_add, ends_some, Nat.reduceLT, Nat.reduceAdd, if_true, then_normal, Nat.reduceEqDiff, if_false, reduceIte, reduceCtorEq, decide_true, decide_false, Bool.not_true, Bool.not_false, beq_self_eq_true, beq_tf, beq_ft, aPick, List.map_cons, List.map_nil, List.nil_append, List.append_nil, List.getElem?_cons_zero, List.getElem?_cons_succ, q3]
  refine code_cond_true ?_ ?_
  · simp only [aev, regAt_set, Nat.reduceEqDiff, reduceIte]
  refine code_seq ?_
  refine code_region ?_ ?_
  · rfl
  simp only [run1, aOne, aP, aR, aA, aT, aCall, aCallVal, aev, regAt_set, aput_mk, aput_none, plainV, aNilCheck, aExtract, aBin, aInt, Addr.add, Nat.zero_add, ends_some, Nat.reduceLT, Nat.reduceAdd, if_true, then_normal, Nat.reduceEqDiff, if_false, reduceIte, reduceCtorEq, decide_true, decide_false, Bool.not_true, Bool.not_false, beq_self_eq_true, beq_tf, beq_ft, aPick, List.map_cons, List.map_nil, List.nil_append, List.append_nil, List.getElem?_cons_zero, List.getElem?_cons_succ, go_call (P := Tryz.prog) (X := X) (S := S0) Tryz.func19 rfl rfl, hc]
  refine code_ret ?_
  simp only [blockC, then_ret]
  refine ⟨rfl, _, ?_, rfl, fin⟩
  simp only [aResults, Tryz.results9, aRes, regAt_set, Nat.reduceEqDiff, reduceIte]

set_option maxRecDepth 20000 in
set_option maxHeartbeats 8000000 in
theorem take_x {cl : Nat → Nat} {sb bb M nodes g d p0 : Nat} {bad : Nat → Prop} (hg : 1600 ≤ g) (hbb : bad bb) (hsb : bad sb) (hne : sb ≠ bb) (hcl : ∀ e, cl e = 0 ∨ cl e = 1 ∨ cl e = 2) {μ : Mem} (hdM : d * 14 ≤ M) (hd : d < 900) (hn : nodes + 1 ≤ 3000)
    (hB : Bd μ bb (.slice (some ⟨sb, 0, none⟩) d 29) nodes (.slice none 0 0)) (hK : StkAt μ sb d cl) (hM : Blk μ sb M 56) (hs : sb < μ.next) (hbd : ∀ i, bad i → i < μ.next) :
    EndsF (aFun Tryz.prog (aCode Tryz.prog X S0 g) 9 [.pointer (some ⟨bb, 0, none⟩), .agg (tok 6 p0 [] symx).toArray] μ) fun v μ' => v = .int .i64 0 ∧ AddQ bad cl sb bb M (nodes + 1) (pops cl d []) μ μ' := by
  obtain ⟨k, rfl⟩ := Nat.exists_eq_add_of_le' hg
  have hbbn := hB.n
  have hga := grow1 μ (.cells 11 51 (tok 6 p0 [] symx).toArray .e 0 0 false false)
  obtain ⟨μa, hμa⟩ : ∃ m : Mem, m = ⟨μ.obs.set μ.next (.cells 11 51 (tok 6 p0 [] symx).toArray .e 0 0 false false), μ.next + 1⟩ := ⟨_, rfl⟩
  rw [← hμa] at hga
  have hμa' : (⟨μ.obs.set μ.next (.cells (tok 6 p0 [] symx).length 51 (tok 6 p0 [] symx).toArray .e 0 0 false false), Nat.add μ.next 1⟩ : Mem) = μa := hμa.symm
  have hna : μa.next = μ.next + 1 := by rw [hμa]
  have hta : Has μa μ.next 0 (tok 6 p0 [] symx) := Has.new (t := 51) (fx := false) (sh := false) (by rw [hμa]; show T.get _ _ = _; rw [T.get_set, if_pos rfl]; rfl)
  have hka : cellsAt μa μ.next 0 = some (.int .i64 (.ofNat 6)) := hta.cell 0 (Nat.zero_lt_succ _)
  obtain ⟨v1, μb, hst, hv1, hBb, hTb⟩ := starts_x (X := X) (g := k + 1587) (cl := cl) (by omega) (hB.grow hga) (hK.keep (hga.2 sb hs)) hd hn
  subst hv1
  have hnb := hTb.1
  have hsbb : μb.obs.get sb = μ.obs.get sb := (hTb.2 sb (by omega) hne).trans (hga.2 sb hs)
  have htb : Has μb μ.next 0 (tok 6 p0 [] symx) := hta.keep (hTb.2 _ (by omega) (by omega))
  have hlx : aLoad Tryz.prog μb 39 (.pointer (some ⟨μ.next, 3, none⟩)) = some (.agg symx.toArray) := lds39 (Has.part (a := [.int .i64 (.ofNat 6), .int .i64 (.ofNat p0), .string ⟨([] : List UInt8).toArray⟩]) (b := symx) (c := []) htb rfl) rfl
  obtain ⟨v2, μc, had, hv2, hQ⟩ := add_ends (X := X) (g := k + 1587) (cl := cl) (sb := sb) (M := M) (d := d) (ks := []) (l := symx) (by omega) hbb hsb hne hcl hdM (by omega) hBb (hK.keep hsbb) (hM.of_get hsbb) (by omega) (fun i hi => Nat.lt_of_lt_of_le (hbd i hi) (by omega)) rfl
  subst hv2
  have fin : AddQ bad cl sb bb M (nodes + 1) (pops cl d []) μ μc := ⟨by have := hQ.next; omega, fun i hi hbi => by rw [hQ.same i (by omega) hbi, hTb.2 i (by omega) (fun h => hbi (by rw [h]; exact hbb)), hga.2 i hi], hQ.blk, hQ.res⟩
  have q3 : ieq (.ofNat 6) 3 = false := rfl
  have q5 : ieq (.ofNat 6) 5 = false := rfl
  have q6 : ieq (.ofNat 6) 6 = true := rfl
  have q0 : ieq 0 0 = true := rfl
  refine fun_enter Tryz.func9 rfl rfl (Nat.le_of_ble_eq_true rfl) ?_
  simp only [T.lay, Nat.zero_add, Tryz.ntmps9, Nat.reduceAdd]
  refine code_seq ?_
  refine code_region ?_ ?_
  · rfl
  simp only [run1, aOne, aP, aR, aA, aT, aCall, aCallVal, aev, regAt_set, aput_mk, aput_none, plainV, aNilCheck, aExtract, aBin, aInt, Addr.add, Nat.zero_add, ends_some, Nat.reduceLT, Nat.reduceAdd, if_true, then_normal, Nat.reduceEqDiff, if_false, reduceIte, reduceCtorEq, decide_true, decide_false, Bool.not_true, Bool.not_false, beq_self_eq_true, beq_tf, beq_ft, aPick, List.map_cons, List.map_nil, List.nil_append, List.append_nil, List.getElem?_cons_zero, List.getElem?_cons_succ, box_agg, hμa']
  refine code_seq ?_
  refine code_seq ?_
  refine code_region ?_ ?_
  · rfl
  simp only [run1, aOne, aP, aR, aA, aT, aCall, aCallVal, aev, regAt_set, aput_mk, aput_none, plainV, aNilCheck, aExtract, aBin, aInt, Addr.add, Nat.zero_add, ends_some, Nat.reduceLT, Nat.reduceAdd, if_true, then_normal, Nat.reduceEqDiff, if_false, reduceIte, reduceCtorEq, decide_true, decide_false, Bool.not_true, Bool.not_false, beq_self_eq_true, beq_tf, beq_ft, aPick, List.map_cons, List.map_nil, List.nil_append, List.append_nil, List.getElem?_cons_zero, List.getElem?_cons_succ, fa51_0, ld3, hka]
  refine code_block ?_
  refine code_seq ?_
  refine code_region ?_ ?_
  · rfl
  simp only [run1, aOne, aP, aR, aA, aT, aCall, aCallVal, aev, regAt_set, aput_mk, aput_none, plainV, aNilCheck, aExtract, aBin, aInt, Addr.add, Nat.zero_add, ends_some, Nat.reduceLT, Nat.reduceAdd, if_true, then_normal, Nat.reduceEqDiff, if_false, reduceIte, reduceCtorEq, decide_true, decide_false, Bool.not_true, Bool.not_false, beq_self_eq_true, beq_tf, beq_ft, aPick, List.map_cons, List.map_nil, List.nil_append, List.append_nil, List.getElem?_cons_zero, List.getElem?_cons_succ, q3]
  refine code_cond_false ?_ ?_
  · simp only [aev, regAt_set, Nat.reduceEqDiff, reduceIte]
  refine code_seq ?_
  refine code_region ?_ ?_
  · rfl
  simp only [run1, aOne, aP, aR, aA, aT, aCall, aCallVal, aev, regAt_set, aput_mk, aput_none, plainV, aNilCheck, aExtract, aBin, aInt, Addr.add, Nat.zero_add, ends_some, Nat.reduceLT, Nat.reduceAdd, if_true, then_normal, Nat.reduceEqDiff, if_false, reduceIte, reduceCtorEq, decide_true, decide_false, Bool.not_true, Bool.not_false, beq_self_eq_true, beq_tf, beq_ft, aPick, List.map_cons, List.map_nil, List.nil_append, List.append_nil, List.getElem?_cons_zero, List.getElem?_cons_succ, q5]
  refine code_cond_false ?_ ?_
  · simp only [aev, regAt_set, Nat.reduceEqDiff, reduceIte]
  refine code_seq ?_
  refine code_region ?_ ?_
  · rfl
  simp only [run1, aOne, aP, aR, aA, aT, aCall, aCallVal, aev, regAt_set, aput_mk, aput_none, plainV, aNilCheck, aExtract, aBin, aInt, Addr.add, Nat.zero_add, ends_some, Nat.reduceLT, Nat.reduceAdd, if_true, then_normal, Nat.reduceEqDiff, if_false, reduceIte, reduceCtorEq, decide_true, decide_false, Bool.not_true, Bool.not_false, beq_self_eq_true, beq_tf, beq_ft, aPick, List.map_cons, List.map_nil, List.nil_append, List.append_nil, List.getElem?_cons_zero, List.getElem?_cons_succ, q6]
  refine code_cond_true ?_ ?_
  · simp only [aev, regAt_set, Nat.reduceEqDiff, reduceIte]
  refine code_seq ?_
  refine code_seq ?_
  refine code_region ?_ ?_
  · rfl
  simp only [run1, aOne, aP, aR, aA, aT, aCall, aCallVal, aev, regAt_set, aput_mk, aput_none, plainV, aNilCheck, aExtract, aBin, aInt, Addr.add, Nat.zero_add, ends_some, Nat.reduceLT, Nat.reduceAdd, if_true, then_normal, Nat.reduceEqDiff, if_false, reduceIte, reduceCtorEq, decide_true, decide_false, Bool.not_true, Bool.not_false, beq_self_eq_true, beq_tf, beq_ft, aPick, List.map_cons, List.map_nil, List.nil_append, List.append_nil, List.getElem?_cons_zero, List.getElem?_cons_succ, go_call (P := Tryz.prog) (X := X) (S := S0) Tryz.func21 rfl rfl, hst]
  refine code_seq ?_
  refine code_region ?_ ?_
  · rfl
  simp only [run1, aOne, aP, aR, aA, aT, aCall, aCallVal, aev, regAt_set, aput_mk, aput_none, plainV, aNilCheck, aExtract, aBin, aInt, Addr.add, Nat.zero_add, ends_some, Nat.reduceLT, Nat.reduceAdd, if_true, then_normal, Nat.reduceEqDiff, if_false, reduceIte, reduceCtorEq, decide_true, decide_false, Bool.not_true, Bool.not_false, beq_self_eq_true, beq_tf, beq_ft, aPick, List.map_cons, List.map_nil, List.nil_append, List.append_nil, List.getElem?_cons_zero, List.getElem?_cons_succ, q0]
  refine code_cond_false ?_ ?_
  · simp only [aev, regAt_set, Nat.reduceEqDiff, reduceIte]
  refine code_skip ?_
  simp only [then_normal]
  refine code_seq ?_
  refine code_region ?_ ?_
  · rfl
  simp only [run1, aOne, aP, aR, aA, aT, aCall, aCallVal, aev, regAt_set, aput_mk, aput_none, plainV, aNilCheck, aExtract, aBin, aInt, Addr.add, Nat.zero_add, ends_some, Nat.reduceLT, Nat.reduceAdd, if_true, then_normal, Nat.reduceEqDiff, if_false, reduceIte, reduceCtorEq, decide_true, decide_false, Bool.not_true, Bool.not_false, beq_self_eq_true, beq_tf, beq_ft, aPick, List.map_cons, List.map_nil, List.nil_append, List.append_nil, List.getElem?_cons_zero, List.getElem?_cons_succ, fa51_3, hlx, go_call (P := Tryz.prog) (X := X) (S := S0) Tryz.func22 rfl rfl, had]
  refine code_seq ?_
  refine code_region ?_ ?_
  · rfl
  simp only [run1, aOne, aP, aR, aA, aT, aCall, aCallVal, aev, regAt_set, aput_mk, aput_none, plainV, aNilCheck, aExtract, aBin, aInt, Addr.add, Nat.zero_add, ends_some, Nat.reduceLT, Nat.reduceAdd, if_true, then_normal, Nat.reduceEqDiff, if_false, reduceIte, reduceCtorEq, decide_true, decide_false, Bool.not_true, Bool.not_false, beq_self_eq_true, beq_tf, beq_ft, aPick, List.map_cons, List.map_nil, List.nil_append, List.append_nil, List.getElem?_cons_zero, List.getElem?_cons_succ]
  refine code_ret ?_
  simp only [blockC, then_ret]
  refine ⟨rfl, _, ?_, rfl, fin⟩
  simp only [aResults, Tryz.results9, aRes, regAt_set, Nat.reduceEqDiff, reduceIte]
end

noncomputable section
variable {X : FuncId → List Value → Mem → Option (Value × Mem)}

/-! ### a round of the reader -/
theorem z27 : aZeroOf Tryz.prog 27 = some (.agg [Value.int .i64 0, .int .i64 0].toArray) := by unfold aZeroOf; rw [i27]; rfl
theorem al27 : aAlloc Tryz.prog 27 = some (.cells 2 27 [Value.int .i64 0, .int .i64 0].toArray .e 0 0 false false, fun id => .pointer (some ⟨id, 0, none⟩)) := by unfold aAlloc; rw [z27]; rfl
theorem bd27 (ρ : Operand → Value) (a b : Operand) (e p : Nat) (h1 : ρ a = .int .i64 (.ofNat e)) (h2 : ρ b = .int .i64 (.ofNat p)) : aBuild Tryz.prog ρ 27 #[(0, a), (1, b)] = some (.agg [Value.int .i64 (.ofNat e), .int .i64 (.ofNat p)].toArray) := by
  refine build_struct (pl := [(0, 1), (1, 1)]) z27 Tryz.underlying27 (by kernel_rfl) ?_
  show aFill _ [Value.int .i64 0, .int .i64 0] [(0, ρ a), (1, ρ b)] = some [Value.int .i64 (.ofNat e), .int .i64 (.ofNat p)]
  rw [aFill_one (off := 0) rfl (by rw [h1]; rfl) (by decide), aFill_one (off := 1) rfl (by rw [h2]; rfl) (by rw [List.length_set]; decide), h1, h2]
  rfl
theorem bd27z (ρ : Operand → Value) : aBuild Tryz.prog ρ 27 #[] = some (.agg [Value.int .i64 0, .int .i64 0].toArray) := by
  refine build_struct (pl := [(0, 1), (1, 1)]) z27 Tryz.underlying27 (by kernel_rfl) ?_
  rfl

/-- the token is kept in a block of its own -/
def keepTok (μ1 : Mem) (T : List Value) : Mem := putL ⟨μ1.obs.set μ1.next (.cells 11 51 (tok 0 0 [] dat0).toArray .e 0 0 false false), Nat.add μ1.next 1⟩ μ1.next 0 T
theorem keepTok_next (μ1 : Mem) (T : List Value) : (keepTok μ1 T).next = μ1.next + 1 := by unfold keepTok; rw [putL_next]
theorem keepTok_grow (μ1 : Mem) (T : List Value) : Grow μ1 (keepTok μ1 T) := (grow1 μ1 (.cells 11 51 (tok 0 0 [] dat0).toArray .e 0 0 false false)).put_new (Nat.le_refl _)
theorem keepTok_blk (μ1 : Mem) : Blk ⟨μ1.obs.set μ1.next (.cells 11 51 (tok 0 0 [] dat0).toArray .e 0 0 false false), Nat.add μ1.next 1⟩ μ1.next 11 51 := ⟨_, _, _, _, by show T.get _ _ = _; rw [T.get_set, if_pos rfl]⟩
theorem keepTok_has (μ1 : Mem) {T : List Value} (h : T.length = 11) : Has (keepTok μ1 T) μ1.next 0 T := Has.of_put (keepTok_blk μ1) (by rw [h]; exact Nat.le_refl _)

set_option maxRecDepth 20000 in
set_option maxHeartbeats 8000000 in
theorem iter_ok {k sc bb kd p : Nat} {tx : List UInt8} {d : List Value} {tm : T Value} {μ μ1 μ3 : Mem} {v3 : Value} {Q : Ax → Rg → Mem → Prop} (hd : d.length = 8) (hdo : d.all one = true) (hkd : kd ≠ 0)
    (hnext : aFun Tryz.prog (aCode Tryz.prog X S0 (k + 1996)) 8 [.pointer (some ⟨sc, 0, none⟩)] μ = some (.tuple #[.agg (tok kd p tx d).toArray, .int .i64 0], μ1))
    (htake : aFun Tryz.prog (aCode Tryz.prog X S0 (k + 1993)) 9 [.pointer (some ⟨bb, 0, none⟩), .agg (tok kd p tx d).toArray] (keepTok μ1 (tok kd p tx d)) = some (.int .i64 0, μ3))
    (h6 : μ3.obs.get μ1.next = (keepTok μ1 (tok kd p tx d)).obs.get μ1.next) (r3 : regAt tm 3 = v3) (r4 : regAt tm 4 = .pointer (some ⟨sc, 0, none⟩)) (r5 : regAt tm 5 = .pointer (some ⟨bb, 0, none⟩))
    (hQ : ∀ tm', regAt tm' 3 = v3 → regAt tm' 4 = .pointer (some ⟨sc, 0, none⟩) → regAt tm' 5 = .pointer (some ⟨bb, 0, none⟩) → EndsC (aCode Tryz.prog X S0 (k + 1999) (.loop (loopBody Tryz.f5 0)) ⟨67, tm', [], none⟩ μ3) Q) :
    EndsC (aCode Tryz.prog X S0 (k + 2000) (.loop (loopBody Tryz.f5 0)) ⟨67, tm, [], none⟩ μ) Q := by
  have hl := tok_len kd p tx d hd
  have s4 := store_puts (P := Tryz.prog) (t := 51) (vs := tok kd p tx d) (o := 0) i51 (by rw [hl]; rfl) (tok_one kd p tx d hdo) (keepTok_blk μ1) (by rw [hl]; exact Nat.le_refl _)
  have s4 : aStore Tryz.prog ⟨μ1.obs.set μ1.next (.cells 11 51 (tok 0 0 [] dat0).toArray .e 0 0 false false), Nat.add μ1.next 1⟩ 51 (.pointer (some ⟨μ1.next, 0, none⟩)) (.agg (tok kd p tx d).toArray) = some (undef, keepTok μ1 (tok kd p tx d)) := s4
  have hT := keepTok_has μ1 hl
  have c0 : cellsAt (keepTok μ1 (tok kd p tx d)) μ1.next 0 = some (.int .i64 (.ofNat kd)) := hT.cell 0 (Nat.zero_lt_succ _)
  have hlT := lds51 hT (by rw [hl]; rfl)
  have hT3 : Has μ3 μ1.next 0 (tok kd p tx d) := hT.keep h6
  have c3 : cellsAt μ3 μ1.next 0 = some (.int .i64 (.ofNat kd)) := hT3.cell 0 (Nat.zero_lt_succ _)
  have q0 : ieq 0 0 = true := rfl
  have qk : ieq (.ofNat kd) 0 = false := (ieq_nat kd 0).trans (decide_eq_false hkd)
  refine code_loop ?_
  refine code_block ?_
  refine code_seq ?_
  refine code_region ?_ ?_
  · rfl
  simp only [run1, aOne, aP, aR, aA, aT, aCall, aCallVal, aev, regAt_set, aput_mk, aput_none, plainV, aNilCheck, aExtract, aBin, aInt, Addr.add, Nat.zero_add, ends_some, Nat.reduceLT, Nat.reduceAdd, if_true, then_normal, Nat.reduceEqDiff, if_false, reduceIte, reduceCtorEq, decide_true, decide_false, Bool.not_true, Bool.not_false, beq_self_eq_true, beq_tf, beq_ft, aPick, List.map_cons, List.map_nil, List.nil_append, List.append_nil, List.getElem?_cons_zero, List.getElem?_cons_succ, r4, go_call (P := Tryz.prog) (X := X) (S := S0) Tryz.func8 rfl rfl, hnext, al51, s4]
  refine code_seq ?_
  refine code_seq ?_
  refine code_guards (gs := ?_) ?_ ?_
  rotate_left
  · rfl
  iterate 7 (refine run2_true (by first | rfl | (simp only [wanted, aOne, aP, aR, aA, aT, aCall, aCallVal, aev, regAt_set, aput_mk, aput_none, plainV, aNilCheck, aExtract, aBin, aInt, Addr.add, Nat.zero_add, ends_some, Nat.reduceLT, Nat.reduceAdd, if_true, then_normal, Nat.reduceEqDiff, if_false, reduceIte, reduceCtorEq, decide_true, decide_false, Bool.not_true, Bool.not_false, beq_self_eq_true, beq_tf, beq_ft, aPick, List.map_cons, List.map_nil, List.nil_append, List.append_nil, List.getElem?_cons_zero, List.getElem?_cons_succ, q0, fa51_0, ld3, c0, qk])) (by simp only [aOne, aP, aR, aA, aT, aCall, aCallVal, aev, regAt_set, aput_mk, aput_none, plainV, aNilCheck, aExtract, aBin, aInt, Addr.add, Nat.zero_add, ends_some, Nat.reduceLT, Nat.reduceAdd, if_true, then_normal, Nat.reduceEqDiff, if_false, reduceIte, reduceCtorEq, decide_true, decide_false, Bool.not_true, Bool.not_false, beq_self_eq_true, beq_tf, beq_ft, aPick, List.map_cons, List.map_nil, List.nil_append, List.append_nil, List.getElem?_cons_zero, List.getElem?_cons_succ, q0, fa51_0, ld3, c0, qk]; try exact rfl) rfl ?_)
  simp only [run2, ends_some, then_normal]
  refine code_cond_true ?_ ?_
  · simp only [aev, regAt_set, Nat.reduceEqDiff, reduceIte]
  refine code_region ?_ ?_
  · rfl
  simp only [run1, aOne, aP, aR, aA, aT, aCall, aCallVal, aev, regAt_set, aput_mk, aput_none, plainV, aNilCheck, aExtract, aBin, aInt, Addr.add, Nat.zero_add, ends_some, Nat.reduceLT, Nat.reduceAdd, if_true, then_normal, Nat.reduceEqDiff, if_false, reduceIte, reduceCtorEq, decide_true, decide_false, Bool.not_true, Bool.not_false, beq_self_eq_true, beq_tf, beq_ft, aPick, List.map_cons, List.map_nil, List.nil_append, List.append_nil, List.getElem?_cons_zero, List.getElem?_cons_succ, r5, hlT, go_call (P := Tryz.prog) (X := X) (S := S0) Tryz.func9 rfl rfl, htake]
  refine code_block ?_
  refine code_seq ?_
  refine code_region ?_ ?_
  · rfl
  simp only [run1, aOne, aP, aR, aA, aT, aCall, aCallVal, aev, regAt_set, aput_mk, aput_none, plainV, aNilCheck, aExtract, aBin, aInt, Addr.add, Nat.zero_add, ends_some, Nat.reduceLT, Nat.reduceAdd, if_true, then_normal, Nat.reduceEqDiff, if_false, reduceIte, reduceCtorEq, decide_true, decide_false, Bool.not_true, Bool.not_false, beq_self_eq_true, beq_tf, beq_ft, aPick, List.map_cons, List.map_nil, List.nil_append, List.append_nil, List.getElem?_cons_zero, List.getElem?_cons_succ, q0]
  refine code_cond_false ?_ ?_
  · simp only [aev, regAt_set, Nat.reduceEqDiff, reduceIte]
  refine code_seq ?_
  refine code_guards (gs := ?_) ?_ ?_
  rotate_left
  · rfl
  iterate 4 (refine run2_true (by first | rfl | (simp only [wanted, aOne, aP, aR, aA, aT, aCall, aCallVal, aev, regAt_set, aput_mk, aput_none, plainV, aNilCheck, aExtract, aBin, aInt, Addr.add, Nat.zero_add, ends_some, Nat.reduceLT, Nat.reduceAdd, if_true, then_normal, Nat.reduceEqDiff, if_false, reduceIte, reduceCtorEq, decide_true, decide_false, Bool.not_true, Bool.not_false, beq_self_eq_true, beq_tf, beq_ft, aPick, List.map_cons, List.map_nil, List.nil_append, List.append_nil, List.getElem?_cons_zero, List.getElem?_cons_succ, fa51_0, ld3, c3, qk])) (by simp only [aOne, aP, aR, aA, aT, aCall, aCallVal, aev, regAt_set, aput_mk, aput_none, plainV, aNilCheck, aExtract, aBin, aInt, Addr.add, Nat.zero_add, ends_some, Nat.reduceLT, Nat.reduceAdd, if_true, then_normal, Nat.reduceEqDiff, if_false, reduceIte, reduceCtorEq, decide_true, decide_false, Bool.not_true, Bool.not_false, beq_self_eq_true, beq_tf, beq_ft, aPick, List.map_cons, List.map_nil, List.nil_append, List.append_nil, List.getElem?_cons_zero, List.getElem?_cons_succ, fa51_0, ld3, c3, qk]; try exact rfl) rfl ?_)
  iterate 6 (refine run2_false (by simp only [wanted, aOne, aP, aR, aA, aT, aCall, aCallVal, aev, regAt_set, aput_mk, aput_none, plainV, aNilCheck, aExtract, aBin, aInt, Addr.add, Nat.zero_add, ends_some, Nat.reduceLT, Nat.reduceAdd, if_true, then_normal, Nat.reduceEqDiff, if_false, reduceIte, reduceCtorEq, decide_true, decide_false, Bool.not_true, Bool.not_false, beq_self_eq_true, beq_tf, beq_ft, aPick, List.map_cons, List.map_nil, List.nil_append, List.append_nil, List.getElem?_cons_zero, List.getElem?_cons_succ, fa51_0, ld3, c3, qk]) rfl ?_)
  iterate 2 (refine run2_true (by first | rfl | (simp only [wanted, aOne, aP, aR, aA, aT, aCall, aCallVal, aev, regAt_set, aput_mk, aput_none, plainV, aNilCheck, aExtract, aBin, aInt, Addr.add, Nat.zero_add, ends_some, Nat.reduceLT, Nat.reduceAdd, if_true, then_normal, Nat.reduceEqDiff, if_false, reduceIte, reduceCtorEq, decide_true, decide_false, Bool.not_true, Bool.not_false, beq_self_eq_true, beq_tf, beq_ft, aPick, List.map_cons, List.map_nil, List.nil_append, List.append_nil, List.getElem?_cons_zero, List.getElem?_cons_succ, fa51_0, ld3, c3, qk])) (by simp only [aOne, aP, aR, aA, aT, aCall, aCallVal, aev, regAt_set, aput_mk, aput_none, plainV, aNilCheck, aExtract, aBin, aInt, Addr.add, Nat.zero_add, ends_some, Nat.reduceLT, Nat.reduceAdd, if_true, then_normal, Nat.reduceEqDiff, if_false, reduceIte, reduceCtorEq, decide_true, decide_false, Bool.not_true, Bool.not_false, beq_self_eq_true, beq_tf, beq_ft, aPick, List.map_cons, List.map_nil, List.nil_append, List.append_nil, List.getElem?_cons_zero, List.getElem?_cons_succ, fa51_0, ld3, c3, qk]; try exact rfl) rfl ?_)
  simp only [run2, ends_some, then_normal]
  refine code_cond_false ?_ ?_
  · simp only [aev, regAt_set, Nat.reduceEqDiff, reduceIte]
  refine code_seq ?_
  refine code_region ?_ ?_
  · rfl
  simp only [run1, aOne, aP, aR, aA, aT, aCall, aCallVal, aev, regAt_set, aput_mk, aput_none, plainV, aNilCheck, aExtract, aBin, aInt, Addr.add, Nat.zero_add, ends_some, Nat.reduceLT, Nat.reduceAdd, if_true, then_normal, Nat.reduceEqDiff, if_false, reduceIte, reduceCtorEq, decide_true, decide_false, Bool.not_true, Bool.not_false, beq_self_eq_true, beq_tf, beq_ft, aPick, List.map_cons, List.map_nil, List.nil_append, List.append_nil, List.getElem?_cons_zero, List.getElem?_cons_succ, fa51_0, ld3, c3, qk]
  refine code_cond_false ?_ ?_
  · simp only [aev, regAt_set, Nat.reduceEqDiff, reduceIte]
  refine code_skip ?_
  simp only [blockC, then_normal]
  refine hQ _ ?_ ?_ ?_ <;> simp only [regAt_set, Nat.reduceEqDiff, reduceIte, r3, r4, r5]
end

noncomputable section
variable {X : FuncId → List Value → Mem → Option (Value × Mem)}

set_option maxRecDepth 20000 in
set_option maxHeartbeats 8000000 in
theorem iter_err {k sc bb fl kd p : Nat} {tx : List UInt8} {d : List Value} {tm : T Value} {μ μ1 μ3 : Mem} (hd : d.length = 8) (hdo : d.all one = true) (hkd : kd ≠ 0)
    (hnext : aFun Tryz.prog (aCode Tryz.prog X S0 (k + 1996)) 8 [.pointer (some ⟨sc, 0, none⟩)] μ = some (.tuple #[.agg (tok kd p tx d).toArray, .int .i64 0], μ1))
    (htake : aFun Tryz.prog (aCode Tryz.prog X S0 (k + 1993)) 9 [.pointer (some ⟨bb, 0, none⟩), .agg (tok kd p tx d).toArray] (keepTok μ1 (tok kd p tx d)) = some (.int .i64 (.ofNat 64), μ3))
    (h6 : μ3.obs.get μ1.next = (keepTok μ1 (tok kd p tx d)).obs.get μ1.next) (hfl : Blk μ3 fl 2 27) (r3 : regAt tm 3 = .pointer (some ⟨fl, 0, none⟩)) (r4 : regAt tm 4 = .pointer (some ⟨sc, 0, none⟩)) (r5 : regAt tm 5 = .pointer (some ⟨bb, 0, none⟩)) :
    EndsC (aCode Tryz.prog X S0 (k + 2000) (.loop (loopBody Tryz.f5 0)) ⟨67, tm, [], none⟩ μ) fun a r μ' => a = .ret ∧ r.ds = [] ∧ regAt r.tm 2 = .slice none 0 0 ∧ regAt r.tm 3 = .pointer (some ⟨fl, 0, none⟩) ∧ Has μ' fl 0 [.int .i64 (.ofNat 64), .int .i64 (.ofNat p)] ∧ μ3.next ≤ μ'.next ∧ ∀ i, i ≠ fl → μ'.obs.get i = μ3.obs.get i := by
  have hl := tok_len kd p tx d hd
  have s4 := store_puts (P := Tryz.prog) (t := 51) (vs := tok kd p tx d) (o := 0) i51 (by rw [hl]; rfl) (tok_one kd p tx d hdo) (keepTok_blk μ1) (by rw [hl]; exact Nat.le_refl _)
  have s4 : aStore Tryz.prog ⟨μ1.obs.set μ1.next (.cells 11 51 (tok 0 0 [] dat0).toArray .e 0 0 false false), Nat.add μ1.next 1⟩ 51 (.pointer (some ⟨μ1.next, 0, none⟩)) (.agg (tok kd p tx d).toArray) = some (undef, keepTok μ1 (tok kd p tx d)) := s4
  have hT := keepTok_has μ1 hl
  have c0 : cellsAt (keepTok μ1 (tok kd p tx d)) μ1.next 0 = some (.int .i64 (.ofNat kd)) := hT.cell 0 (Nat.zero_lt_succ _)
  have hlT := lds51 hT (by rw [hl]; rfl)
  have hT3 : Has μ3 μ1.next 0 (tok kd p tx d) := hT.keep h6
  have c31 : ∀ y, cellsAt ⟨μ3.obs, y⟩ μ1.next 1 = some (.int .i64 (.ofNat p)) := fun y => hT3.cell 1 (Nat.succ_lt_succ (Nat.zero_lt_succ _))
  have hbd : ∀ (r : Rg) (a b : Operand), aev Tryz.prog r a = .int .i64 (.ofNat 64) → aev Tryz.prog r b = .int .i64 (.ofNat p) → aBuild Tryz.prog (aev Tryz.prog r) 27 #[(0, a), (1, b)] = some (.agg [Value.int .i64 (.ofNat 64), .int .i64 (.ofNat p)].toArray) := fun r a b h1 h2 => bd27 _ _ _ 64 p h1 h2
  have hflu : Blk ⟨μ3.obs, μ3.next + 6⟩ fl 2 27 := hfl
  have s8 := store_puts (P := Tryz.prog) (t := 27) (vs := [Value.int .i64 (.ofNat 64), .int .i64 (.ofNat p)]) (o := 0) i27 rfl rfl hflu (Nat.le_refl _)
  have q0 : ieq 0 0 = true := rfl
  have qk : ieq (.ofNat kd) 0 = false := (ieq_nat kd 0).trans (decide_eq_false hkd)
  have q64 : ieq (.ofNat 64) 0 = false := rfl
  refine code_loop ?_
  refine code_block ?_
  refine code_seq ?_
  refine code_region ?_ ?_
  · rfl
  simp only [run1, aOne, aP, aR, aA, aT, aCall, aCallVal, aev, regAt_set, aput_mk, aput_none, plainV, aNilCheck, aExtract, aBin, aInt, Addr.add, Nat.zero_add, ends_some, Nat.reduceLT, Nat.reduceAdd, if_true, then_normal, Nat.reduceEqDiff, if_false, reduceIte, reduceCtorEq, decide_true, decide_false, Bool.not_true, Bool.not_false, beq_self_eq_true, beq_tf, beq_ft, aPick, List.map_cons, List.map_nil, List.nil_append, List.append_nil, List.getElem?_cons_zero, List.getElem?_cons_succ, r4, go_call (P := Tryz.prog) (X := X) (S := S0) Tryz.func8 rfl rfl, hnext, al51, s4]
  refine code_seq ?_
  refine code_seq ?_
  refine code_guards (gs := ?_) ?_ ?_
  rotate_left
  · rfl
  iterate 7 (refine run2_true (by first | rfl | (simp only [wanted, aOne, aP, aR, aA, aT, aCall, aCallVal, aev, regAt_set, aput_mk, aput_none, plainV, aNilCheck, aExtract, aBin, aInt, Addr.add, Nat.zero_add, ends_some, Nat.reduceLT, Nat.reduceAdd, if_true, then_normal, Nat.reduceEqDiff, if_false, reduceIte, reduceCtorEq, decide_true, decide_false, Bool.not_true, Bool.not_false, beq_self_eq_true, beq_tf, beq_ft, aPick, List.map_cons, List.map_nil, List.nil_append, List.append_nil, List.getElem?_cons_zero, List.getElem?_cons_succ, q0, fa51_0, ld3, c0, qk])) (by simp only [aOne, aP, aR, aA, aT, aCall, aCallVal, aev, regAt_set, aput_mk, aput_none, plainV, aNilCheck, aExtract, aBin, aInt, Addr.add, Nat.zero_add, ends_some, Nat.reduceLT, Nat.reduceAdd, if_true, then_normal, Nat.reduceEqDiff, if_false, reduceIte, reduceCtorEq, decide_true, decide_false, Bool.not_true, Bool.not_false, beq_self_eq_true, beq_tf, beq_ft, aPick, List.map_cons, List.map_nil, List.nil_append, List.append_nil, List.getElem?_cons_zero, List.getElem?_cons_succ, q0, fa51_0, ld3, c0, qk]; try exact rfl) rfl ?_)
  simp only [run2, ends_some, then_normal]
  refine code_cond_true ?_ ?_
  · simp only [aev, regAt_set, Nat.reduceEqDiff, reduceIte]
  refine code_region ?_ ?_
  · rfl
  simp only [run1, aOne, aP, aR, aA, aT, aCall, aCallVal, aev, regAt_set, aput_mk, aput_none, plainV, aNilCheck, aExtract, aBin, aInt, Addr.add, Nat.zero_add, ends_some, Nat.reduceLT, Nat.reduceAdd, if_true, then_normal, Nat.reduceEqDiff, if_false, reduceIte, reduceCtorEq, decide_true, decide_false, Bool.not_true, Bool.not_false, beq_self_eq_true, beq_tf, beq_ft, aPick, List.map_cons, List.map_nil, List.nil_append, List.append_nil, List.getElem?_cons_zero, List.getElem?_cons_succ, r5, hlT, go_call (P := Tryz.prog) (X := X) (S := S0) Tryz.func9 rfl rfl, htake]
  refine code_block ?_
  refine code_seq ?_
  refine code_region ?_ ?_
  · rfl
  simp only [run1, aOne, aP, aR, aA, aT, aCall, aCallVal, aev, regAt_set, aput_mk, aput_none, plainV, aNilCheck, aExtract, aBin, aInt, Addr.add, Nat.zero_add, ends_some, Nat.reduceLT, Nat.reduceAdd, if_true, then_normal, Nat.reduceEqDiff, if_false, reduceIte, reduceCtorEq, decide_true, decide_false, Bool.not_true, Bool.not_false, beq_self_eq_true, beq_tf, beq_ft, aPick, List.map_cons, List.map_nil, List.nil_append, List.append_nil, List.getElem?_cons_zero, List.getElem?_cons_succ, q64]
  refine code_cond_true ?_ ?_
  · simp only [aev, regAt_set, Nat.reduceEqDiff, reduceIte]
  refine code_seq ?_
  refine code_draw (n := 6) (ms := [0, 0, 2, 7, 0, 31]) (ord := [0, 1, 2, 3, 4, 5]) (ds := ?_) ?_ ?_ ?_ ?_ ?_ ?_
  rotate_left
  · kernel_rfl
  · kernel_rfl
  · kernel_rfl
  · rfl
  · rfl
  iterate 6 (refine drun_true (by first | rfl | (simp only [wanted, aOne, aP, aR, aA, aT, aCall, aCallVal, aev, regAt_set, aput_mk, aput_none, plainV, aNilCheck, aExtract, aBin, aInt, Addr.add, Nat.zero_add, ends_some, Nat.reduceLT, Nat.reduceAdd, if_true, then_normal, Nat.reduceEqDiff, if_false, reduceIte, reduceCtorEq, decide_true, decide_false, Bool.not_true, Bool.not_false, beq_self_eq_true, beq_tf, beq_ft, aPick, List.map_cons, List.map_nil, List.nil_append, List.append_nil, List.getElem?_cons_zero, List.getElem?_cons_succ, r3, fa51_1, ld3, c31, hbd, s8])) (by simp only [aDrawOne, heavy, aReads, eqVal_self, aOne, aP, aR, aA, aT, aCall, aCallVal, aev, regAt_set, aput_mk, aput_none, plainV, aNilCheck, aExtract, aBin, aInt, Addr.add, Nat.zero_add, ends_some, Nat.reduceLT, Nat.reduceAdd, if_true, then_normal, Nat.reduceEqDiff, if_false, reduceIte, reduceCtorEq, decide_true, decide_false, Bool.not_true, Bool.not_false, beq_self_eq_true, beq_tf, beq_ft, aPick, List.map_cons, List.map_nil, List.nil_append, List.append_nil, List.getElem?_cons_zero, List.getElem?_cons_succ, r3, fa51_1, ld3, c31, hbd, s8]; try exact rfl) rfl ?_)
  simp only [dRun, endsD_some, then_normal]
  refine code_ret ?_
  simp only [blockC, then_ret]
  refine ⟨trivial, trivial, ?_, ?_, Has.of_put hflu (Nat.le_refl _), by rw [putL_next]; exact Nat.le_add_right _ _, fun i hi => putL_get _ _ _ _ hi⟩
  · simp only [regAt_set, Nat.reduceEqDiff, reduceIte]
  · simp only [regAt_set, Nat.reduceEqDiff, reduceIte, r3]

set_option maxRecDepth 20000 in
set_option maxHeartbeats 8000000 in
theorem iter_end {k sc bb fl p nodes c : Nat} {a0 : Option Addr} {da : Value} {tm : T Value} {μ μ1 : Mem}
    (hnext : aFun Tryz.prog (aCode Tryz.prog X S0 (k + 1996)) 8 [.pointer (some ⟨sc, 0, none⟩)] μ = some (.tuple #[.agg (tok 0 p [] dat0).toArray, .int .i64 0], μ1))
    (hB : Bd μ1 bb (.slice a0 0 c) nodes da) (hfl : Blk μ1 fl 2 27) (hfn : fl < μ1.next) (r3 : regAt tm 3 = .pointer (some ⟨fl, 0, none⟩)) (r4 : regAt tm 4 = .pointer (some ⟨sc, 0, none⟩)) (r5 : regAt tm 5 = .pointer (some ⟨bb, 0, none⟩)) :
    EndsC (aCode Tryz.prog X S0 (k + 2000) (.loop (loopBody Tryz.f5 0)) ⟨67, tm, [], none⟩ μ) fun a r μ' => a = .ret ∧ r.ds = [] ∧ regAt r.tm 2 = da ∧ regAt r.tm 3 = .pointer (some ⟨fl, 0, none⟩) ∧ Has μ' fl 0 [.int .i64 (.ofNat 0), .int .i64 (.ofNat 0)] ∧ Turns μ1 μ' fl := by
  have s4 := store_puts (P := Tryz.prog) (t := 51) (vs := tok 0 p [] dat0) (o := 0) i51 rfl rfl (keepTok_blk μ1) (Nat.le_refl _)
  have s4 : aStore Tryz.prog ⟨μ1.obs.set μ1.next (.cells 11 51 (tok 0 0 [] dat0).toArray .e 0 0 false false), Nat.add μ1.next 1⟩ 51 (.pointer (some ⟨μ1.next, 0, none⟩)) (.agg (tok 0 p [] dat0).toArray) = some (undef, keepTok μ1 (tok 0 p [] dat0)) := s4
  have hT := keepTok_has μ1 (T := tok 0 p [] dat0) rfl
  have c0 : cellsAt (keepTok μ1 (tok 0 p [] dat0)) μ1.next 0 = some (.int .i64 (.ofNat 0)) := hT.cell 0 (Nat.zero_lt_succ _)
  have hB2 := hB.grow (keepTok_grow μ1 (tok 0 p [] dat0))
  have hf2 : Blk (keepTok μ1 (tok 0 p [] dat0)) fl 2 27 := hfl.of_get ((keepTok_grow μ1 _).2 fl hfn)
  have s12 := store_puts (P := Tryz.prog) (t := 27) (vs := [Value.int .i64 0, .int .i64 0]) (o := 0) i27 rfl rfl hf2 (Nat.le_refl _)
  have hbz : ∀ r : Rg, aBuild Tryz.prog (aev Tryz.prog r) 27 #[] = some (.agg [Value.int .i64 0, .int .i64 0].toArray) := fun r => bd27z _
  have q0 : ieq 0 0 = true := rfl
  have qk : ieq (.ofNat 0) 0 = true := rfl
  have e0 : ilt 0 (.ofNat 0) = false := rfl
  refine code_loop ?_
  refine code_block ?_
  refine code_seq ?_
  refine code_region ?_ ?_
  · rfl
  simp only [run1, aOne, aP, aR, aA, aT, aCall, aCallVal, aev, regAt_set, aput_mk, aput_none, plainV, aNilCheck, aExtract, aBin, aInt, Addr.add, Nat.zero_add, ends_some, Nat.reduceLT, Nat.reduceAdd, if_true, then_normal, Nat.reduceEqDiff, if_false, reduceIte, reduceCtorEq, decide_true, decide_false, Bool.not_true, Bool.not_false, beq_self_eq_true, beq_tf, beq_ft, aPick, List.map_cons, List.map_nil, List.nil_append, List.append_nil, List.getElem?_cons_zero, List.getElem?_cons_succ, r4, go_call (P := Tryz.prog) (X := X) (S := S0) Tryz.func8 rfl rfl, hnext, al51, s4]
  refine code_seq ?_
  refine code_seq ?_
  refine code_guards (gs := ?_) ?_ ?_
  rotate_left
  · rfl
  iterate 7 (refine run2_true (by first | rfl | (simp only [wanted, aOne, aP, aR, aA, aT, aCall, aCallVal, aev, regAt_set, aput_mk, aput_none, plainV, aNilCheck, aExtract, aBin, aInt, Addr.add, Nat.zero_add, ends_some, Nat.reduceLT, Nat.reduceAdd, if_true, then_normal, Nat.reduceEqDiff, if_false, reduceIte, reduceCtorEq, decide_true, decide_false, Bool.not_true, Bool.not_false, beq_self_eq_true, beq_tf, beq_ft, aPick, List.map_cons, List.map_nil, List.nil_append, List.append_nil, List.getElem?_cons_zero, List.getElem?_cons_succ, q0, fa51_0, ld3, c0, qk])) (by simp only [aOne, aP, aR, aA, aT, aCall, aCallVal, aev, regAt_set, aput_mk, aput_none, plainV, aNilCheck, aExtract, aBin, aInt, Addr.add, Nat.zero_add, ends_some, Nat.reduceLT, Nat.reduceAdd, if_true, then_normal, Nat.reduceEqDiff, if_false, reduceIte, reduceCtorEq, decide_true, decide_false, Bool.not_true, Bool.not_false, beq_self_eq_true, beq_tf, beq_ft, aPick, List.map_cons, List.map_nil, List.nil_append, List.append_nil, List.getElem?_cons_zero, List.getElem?_cons_succ, q0, fa51_0, ld3, c0, qk]; try exact rfl) rfl ?_)
  simp only [run2, ends_some, then_normal]
  refine code_cond_false ?_ ?_
  · simp only [aev, regAt_set, Nat.reduceEqDiff, reduceIte]
  refine code_skip ?_
  simp only [then_normal]
  refine code_block ?_
  refine code_seq ?_
  refine code_region ?_ ?_
  · rfl
  simp only [run1, aOne, aP, aR, aA, aT, aCall, aCallVal, aev, regAt_set, aput_mk, aput_none, plainV, aNilCheck, aExtract, aBin, aInt, Addr.add, Nat.zero_add, ends_some, Nat.reduceLT, Nat.reduceAdd, if_true, then_normal, Nat.reduceEqDiff, if_false, reduceIte, reduceCtorEq, decide_true, decide_false, Bool.not_true, Bool.not_false, beq_self_eq_true, beq_tf, beq_ft, aPick, List.map_cons, List.map_nil, List.nil_append, List.append_nil, List.getElem?_cons_zero, List.getElem?_cons_succ, q0]
  refine code_cond_false ?_ ?_
  · simp only [aev, regAt_set, Nat.reduceEqDiff, reduceIte]
  refine code_seq ?_
  refine code_guards (gs := ?_) ?_ ?_
  rotate_left
  · rfl
  iterate 12 (refine run2_true (by first | rfl | (simp only [wanted, aOne, aP, aR, aA, aT, aCall, aCallVal, aev, regAt_set, aput_mk, aput_none, plainV, aNilCheck, aExtract, aBin, aInt, Addr.add, Nat.zero_add, ends_some, Nat.reduceLT, Nat.reduceAdd, if_true, then_normal, Nat.reduceEqDiff, if_false, reduceIte, reduceCtorEq, decide_true, decide_false, Bool.not_true, Bool.not_false, beq_self_eq_true, beq_tf, beq_ft, aPick, List.map_cons, List.map_nil, List.nil_append, List.append_nil, List.getElem?_cons_zero, List.getElem?_cons_succ, fa51_0, ld3, c0, qk, r5, fa49_0, ld47, hB2.c0, aBuiltin, aLen, Tryz.underlying47, cast_nat, e0])) (by simp only [aOne, aP, aR, aA, aT, aCall, aCallVal, aev, regAt_set, aput_mk, aput_none, plainV, aNilCheck, aExtract, aBin, aInt, Addr.add, Nat.zero_add, ends_some, Nat.reduceLT, Nat.reduceAdd, if_true, then_normal, Nat.reduceEqDiff, if_false, reduceIte, reduceCtorEq, decide_true, decide_false, Bool.not_true, Bool.not_false, beq_self_eq_true, beq_tf, beq_ft, aPick, List.map_cons, List.map_nil, List.nil_append, List.append_nil, List.getElem?_cons_zero, List.getElem?_cons_succ, fa51_0, ld3, c0, qk, r5, fa49_0, ld47, hB2.c0, aBuiltin, aLen, Tryz.underlying47, cast_nat, e0]; try exact rfl) rfl ?_)
  simp only [run2, ends_some, then_normal]
  refine code_cond_false ?_ ?_
  · simp only [aev, regAt_set, Nat.reduceEqDiff, reduceIte]
  refine code_seq ?_
  refine code_region ?_ ?_
  · rfl
  simp only [run1, aOne, aP, aR, aA, aT, aCall, aCallVal, aev, regAt_set, aput_mk, aput_none, plainV, aNilCheck, aExtract, aBin, aInt, Addr.add, Nat.zero_add, ends_some, Nat.reduceLT, Nat.reduceAdd, if_true, then_normal, Nat.reduceEqDiff, if_false, reduceIte, reduceCtorEq, decide_true, decide_false, Bool.not_true, Bool.not_false, beq_self_eq_true, beq_tf, beq_ft, aPick, List.map_cons, List.map_nil, List.nil_append, List.append_nil, List.getElem?_cons_zero, List.getElem?_cons_succ, fa51_0, ld3, c0, qk]
  refine code_cond_true ?_ ?_
  · simp only [aev, regAt_set, Nat.reduceEqDiff, reduceIte]
  refine code_seq ?_
  refine code_region ?_ ?_
  · rfl
  simp only [run1, aOne, aP, aR, aA, aT, aCall, aCallVal, aev, regAt_set, aput_mk, aput_none, plainV, aNilCheck, aExtract, aBin, aInt, Addr.add, Nat.zero_add, ends_some, Nat.reduceLT, Nat.reduceAdd, if_true, then_normal, Nat.reduceEqDiff, if_false, reduceIte, reduceCtorEq, decide_true, decide_false, Bool.not_true, Bool.not_false, beq_self_eq_true, beq_tf, beq_ft, aPick, List.map_cons, List.map_nil, List.nil_append, List.append_nil, List.getElem?_cons_zero, List.getElem?_cons_succ, r3, r5, fa49_2, ld24, hB2.c2, hbz, s12]
  refine code_ret ?_
  simp only [blockC, then_ret]
  refine ⟨trivial, trivial, ?_, ?_, Has.of_put hf2 (Nat.le_refl _), (Turns.grow (keepTok_grow μ1 _)).trans (Turns.put _ _ _ _)⟩
  · simp only [regAt_set, Nat.reduceEqDiff, reduceIte]
  · simp only [regAt_set, Nat.reduceEqDiff, reduceIte, r3]
end

noncomputable section
variable {X : FuncId → List Value → Mem → Option (Value × Mem)}

/-! ### brackets -/
def nb (cl : Nat → Nat) : Nat → Nat
  | 0 => 0
  | d + 1 => nb cl d + (if cl d = 2 then 0 else 1)
theorem nb_mono (cl : Nat → Nat) {a b : Nat} (h : a ≤ b) : nb cl a ≤ nb cl b := by
  induction b with
  | zero => rw [show a = 0 from by omega]; exact Nat.le_refl _
  | succ b ih =>
    by_cases e : a = b + 1
    · rw [e]; exact Nat.le_refl _
    · exact Nat.le_trans (ih (by omega)) (Nat.le_add_right _ _)
theorem pops_nb (cl : Nat → Nat) : ∀ (d : Nat) (ks : List Nat), nb cl (pops cl d ks).1 = nb cl d ∧ (pops cl d ks).1 ≤ d ∧ (pops cl d ks).2.length + (pops cl d ks).1 = ks.length + d ∧ ∀ e, (pops cl d ks).1 = e + 1 → cl e ≠ 2
  | 0, ks => ⟨rfl, Nat.le_refl _, rfl, fun e h => by cases h⟩
  | d + 1, ks => by
    by_cases h : cl d = 2
    · have e : pops cl (d + 1) ks = pops cl d (2 :: ks) := by show (if cl d = 2 then _ else _) = _; rw [if_pos h]
      obtain ⟨h1, h2, h3, h4⟩ := pops_nb cl d (2 :: ks)
      rw [e]
      refine ⟨by rw [h1]; show _ = nb cl d + _; rw [if_pos h]; rfl, by omega, by rw [h3]; show ks.length + 1 + d = _; omega, h4⟩
    · have e : pops cl (d + 1) ks = (d + 1, ks) := by show (if cl d = 2 then _ else _) = _; rw [if_neg h]
      rw [e]
      exact ⟨rfl, Nat.le_refl _, rfl, fun e' h' => by cases h'; exact h⟩

/-- the text of so many brackets and quotes -/
structure Txt (bs : List UInt8) (cl pos : Nat → Nat) (n : Nat) : Prop where
  a0 : ∀ e, e < n → cl e = 0 → ∃ h : pos e < bs.length, bs[pos e].toNat = 40 ∧ pos (e + 1) = pos e + 1
  a1 : ∀ e, e < n → cl e = 1 → ∃ h : pos e + 1 < bs.length, bs[pos e].toNat = 35 ∧ bs[pos e + 1].toNat = 40 ∧ pos (e + 1) = pos e + 2
  a2 : ∀ e, e < n → cl e = 2 → ∃ h : pos e < bs.length, bs[pos e].toNat = 39 ∧ pos (e + 1) = pos e + 1
  b : ∃ h : pos n < bs.length, bs[pos n].toNat = 120
  c : bs.length = pos n + 1 + nb cl n
  d : ∀ j (h : pos n + 1 + j < bs.length), bs[pos n + 1 + j].toNat = 41

/-- how the reader ends well -/
def ReadOk (bad : Nat → Prop) (n fl hid : Nat) (ob : Option Ob) : Ax → Rg → Mem → Prop := fun a r μ' => (hid < μ'.next ∧ μ'.obs.get hid = ob) ∧ a = .ret ∧ r.ds = [] ∧ regAt r.tm 3 = .pointer (some ⟨fl, 0, none⟩) ∧ Has μ' fl 0 [.int .i64 (.ofNat 0), .int .i64 (.ofNat 0)] ∧
  ∃ b l ks, regAt r.tm 2 = .slice (some ⟨b, 0, none⟩) 1 17 ∧ b < μ'.next ∧ Has μ' b 0 l ∧ Den bad μ' ks l ∧ ks.length = n

theorem Scan.of_get {μ μ' : Mem} {sc tb p : Nat} {bs : List UInt8} (h : Scan μ sc tb bs p) (g1 : μ'.obs.get sc = μ.obs.get sc) (g2 : μ'.obs.get tb = μ.obs.get tb) (hn : μ.next ≤ μ'.next) : Scan μ' sc tb bs p := by
  have e1 : ∀ k, cellsAt μ' sc k = cellsAt μ sc k := fun k => by unfold cellsAt; rw [g1]
  have e2 : ∀ k, cellsAt μ' tb k = cellsAt μ tb k := fun k => by unfold cellsAt; rw [g2]
  exact ⟨(e1 0).trans h.tx, by rw [g2]; exact h.tob, (e1 1).trans h.at_, h.blk.of_get g1, fun k hk => (e2 k).trans (h.txt k hk), h.ne, Nat.lt_of_lt_of_le h.n1 hn, Nat.lt_of_lt_of_le h.n2 hn, h.len⟩

theorem same_mem {a : Option (Value × Mem)} {P Q : Value → Mem → Prop} (h : EndsF a P) (g : EndsF a Q) : EndsF a fun v μ => P v μ ∧ Q v μ := by
  obtain ⟨v, μ, h1, h2⟩ := h
  obtain ⟨v', μ', h3, h4⟩ := g
  rw [h1] at h3
  cases h3
  exact ⟨v, μ, h1, h2, h4⟩

/-- what stands, when a datum was added -/
structure After (bad : Nat → Prop) (cl pos : Nat → Nat) (bs : List UInt8) (n sc tb bb sb fl M nodes : Nat) (q : Nat × List Nat) (μ : Mem) : Prop where
  scan : Scan μ sc tb bs (pos n + 1 + (nb cl n - nb cl q.1))
  blk : Blk μ sb M 56
  bfl : Blk μ fl 2 27
  ns : sb < μ.next
  nf : fl < μ.next
  res : ∃ b l, ¬ bad b ∧ b < μ.next ∧ Has μ b 0 l ∧ Cl μ b ∧ Den bad μ q.2 l ∧
    ((q.1 = 0 ∧ Bd μ bb (.slice (some ⟨sb, 0, none⟩) 0 29) nodes (.slice (some ⟨b, 0, none⟩) 1 17)) ∨
      ∃ e p, q.1 = e + 1 ∧ Bd μ bb (.slice (some ⟨sb, 0, none⟩) (e + 1) 29) nodes (.slice none 0 0) ∧ StkAt μ sb e cl ∧ Has μ sb (e * 14) (opn (knd (cl e)) p (txt (cl e)) (.slice (some ⟨b, 0, none⟩) 1 17) false))

set_option maxHeartbeats 8000000 in
theorem close_loop {cl pos : Nat → Nat} {bs : List UInt8} {n sc tb bb sb fl M nodes hid : Nat} {ob : Option Ob} (f1 : hid ≠ sc) (f2 : hid ≠ bb) (f3 : hid ≠ sb) (f4 : hid ≠ fl) (hT : Txt bs cl pos n) (hcl : ∀ e, cl e = 0 ∨ cl e = 1 ∨ cl e = 2) (hn : n < 900) (hM : n * 14 ≤ M) (d1 : sc ≠ bb) (d2 : sc ≠ sb) (d3 : sc ≠ fl) (d4 : tb ≠ bb) (d5 : tb ≠ sb) (d6 : bb ≠ sb) (d7 : bb ≠ fl) (d8 : sb ≠ fl) (d9 : tb ≠ fl) :
    ∀ (N f : Nat) (q : Nat × List Nat) (tm : T Value) (μ : Mem), q.1 ≤ N → q.1 ≤ n → q.2.length + q.1 = n → (∀ e, q.1 = e + 1 → cl e ≠ 2) → After (fun i => i = bb ∨ i = sb ∨ i = sc ∨ i = fl) cl pos bs n sc tb bb sb fl M nodes q μ → hid < μ.next → μ.obs.get hid = ob →
      regAt tm 3 = .pointer (some ⟨fl, 0, none⟩) → regAt tm 4 = .pointer (some ⟨sc, 0, none⟩) → regAt tm 5 = .pointer (some ⟨bb, 0, none⟩) →
      EndsC (aCode Tryz.prog X S0 (f + N + 2000) (.loop (loopBody Tryz.f5 0)) ⟨67, tm, [], none⟩ μ) (ReadOk (fun i => i = bb ∨ i = sb ∨ i = sc ∨ i = fl) n fl hid ob) := by
  intro N
  induction N with
  | zero =>
    intro f q tm μ hqN hqn hlen htop hA hhn hho r3 r4 r5
    obtain ⟨q1, ks⟩ := q
    obtain rfl : q1 = 0 := by have : q1 ≤ 0 := hqN; omega
    obtain ⟨b, l, hb, hbn, hHb, hCb, hD, h | ⟨e, p, h, _⟩⟩ := hA.res
    · obtain ⟨_, hB⟩ := h
      have hsc := hA.scan
      have hend : bs.length ≤ pos n + 1 + (nb cl n - nb cl 0) := by rw [hT.c]; show _ ≤ pos n + 1 + (nb cl n - 0); omega
      have hlen2 := hsc.len
      obtain ⟨v1, μ1, hnx, hv1, hS1, hT1⟩ := next_end (X := X) (k := f + 1796) hsc hend (by rw [hT.c] at hlen2; omega)
      subst hv1
      have hn1 := hT1.1
      have hbsc : b ≠ sc := fun h => hb (.inr (.inr (.inl h)))
      have hbfl : b ≠ fl := fun h => hb (.inr (.inr (.inr h)))
      have hnf := hA.nf
      have hB1 : Bd μ1 bb (.slice (some ⟨sb, 0, none⟩) 0 29) nodes (.slice (some ⟨b, 0, none⟩) 1 17) := hB.of_get (hT1.2 bb hB.n (Ne.symm d1)) hn1
      have hf1 : Blk μ1 fl 2 27 := hA.bfl.of_get (hT1.2 fl hnf (Ne.symm d3))
      refine EndsC.mono (iter_end (X := X) (k := f) (sc := sc) (bb := bb) (fl := fl) hnx hB1 hf1 (by omega) r3 r4 r5) ?_
      rintro a r μ' ⟨h1, h2, h3, h4, h5, h6⟩
      refine ⟨⟨by have := h6.1; omega, by rw [h6.2 hid (by omega) f4, hT1.2 hid hhn f1, hho]⟩, h1, h2, h4, h5, b, l, ks, h3, by have := h6.1; omega, ?_, ?_, by have : ks.length + 0 = n := hlen; omega⟩
      · exact (hHb.keep (hT1.2 b hbn hbsc)).keep (h6.2 b (by omega) hbfl)
      · refine Den.keep (by have := h6.1; omega) (fun i hi hbi => ?_) hD
        rw [h6.2 i (by omega) (fun h => hbi (.inr (.inr (.inr h)))), hT1.2 i hi (fun h => hbi (.inr (.inr (.inl h))))]
    · have : (0 : Nat) = e + 1 := h
      omega
  | succ N ih =>
    intro f q tm μ hqN hqn hlen htop hA hhn hho r3 r4 r5
    by_cases hq0 : q.1 ≤ N
    · rw [show f + (N + 1) + 2000 = (f + 1) + N + 2000 from by omega]
      exact ih (f + 1) q tm μ hq0 hqn hlen htop hA hhn hho r3 r4 r5
    obtain ⟨q1, ks⟩ := q
    obtain rfl : q1 = N + 1 := by have h1 : q1 ≤ N + 1 := hqN; have h2 : ¬ q1 ≤ N := hq0; omega
    have hce : cl N = 0 ∨ cl N = 1 := by have := hcl N; have := htop N rfl; omega
    have hNn : N + 1 ≤ n := hqn
    obtain ⟨b, l, hb, hbn, hHb, hCb, hD, ⟨h, _⟩ | ⟨e, p, h, hB, hK, hE⟩⟩ := hA.res
    · have : N + 1 = 0 := h
      omega
    · obtain rfl : e = N := by have : N + 1 = e + 1 := h; omega
      have hnb1 : nb cl (e + 1) = nb cl e + 1 := by show nb cl e + (if cl e = 2 then 0 else 1) = _; rw [if_neg (by omega)]
      have hnb2 : nb cl (e + 1) ≤ nb cl n := nb_mono cl hNn
      have hsc := hA.scan
      have hns := hA.ns
      have hnf := hA.nf
      have hbbn := hB.n
      have hp1 : pos n + 1 + (nb cl n - nb cl (e + 1)) < bs.length := by rw [hT.c]; omega
      obtain ⟨v1, μ1, hnx, hv1, hS1, hT1⟩ := next_close (X := X) (k := f + (e + 1) + 1796) hsc hp1 (hT.d _ hp1)
      subst hv1
      have hn1 := hT1.1
      -- the token is kept
      obtain ⟨μ2, hμ2⟩ : ∃ m, m = keepTok μ1 (tok 3 (pos n + 1 + (nb cl n - nb cl (e + 1))) [] dat0) := ⟨_, rfl⟩
      have hg2 : Grow μ1 μ2 := by rw [hμ2]; exact keepTok_grow _ _
      have hn2 : μ2.next = μ1.next + 1 := by rw [hμ2]; exact keepTok_next _ _
      have k2 : ∀ i, i < μ.next → i ≠ sc → μ2.obs.get i = μ.obs.get i := fun i hi hne => (hg2.2 i (by omega)).trans (hT1.2 i hi hne)
      have hbsc : b ≠ sc := fun h => hb (.inr (.inr (.inl h)))
      have hbd2 : ∀ i, (i = bb ∨ i = sb ∨ i = sc ∨ i = fl) → i < μ2.next := fun i hi => by
        have := hsc.n1
        rcases hi with rfl | rfl | rfl | rfl <;> omega
      have hbd1 : ∀ i, (i = bb ∨ i = sb) → i < μ2.next := fun i hi => hbd2 i (by rcases hi with h | h; exact .inl h; exact .inr (.inl h))
      have hD2 : Den (fun i => i = bb ∨ i = sb ∨ i = sc ∨ i = fl) μ2 ks l := Den.keep (by omega) (fun i hi hbi => k2 i hi (fun h => hbi (.inr (.inr (.inl h))))) hD
      have hD1 : Den (fun i => i = bb ∨ i = sb) μ2 ks l := Den.more (fun i hi => .inl (by rcases hi with h | h; exact .inl h; exact .inr (.inl h))) hD2
      have hB2 := hB.of_get (k2 bb hbbn (Ne.symm d1)) (by omega)
      have hK2 := hK.keep (k2 sb hns (Ne.symm d2))
      have hE2 := hE.keep (k2 sb hns (Ne.symm d2))
      have hM2 := hA.blk.of_get (k2 sb hns (Ne.symm d2))
      have hHb2 := hHb.keep (k2 b hbn hbsc)
      have hCb2 : Cl μ2 b := by unfold Cl; rw [k2 b hbn hbsc]; exact hCb
      obtain ⟨v3, μ3, htk, ⟨hv3, hQ⟩, ⟨_, hQ1⟩⟩ := same_mem
        (take_close (X := X) (g := f + (e + 1) + 1993) (p := p) (b := b) (p0 := pos n + 1 + (nb cl n - nb cl (e + 1))) (cl := cl) (M := M) (by omega) (.inl rfl) (.inr (.inl rfl)) (Ne.symm d6) hcl hce (by omega) (by omega) hB2 hK2 hE2 hM2 (by omega) hbd2 hb (by omega) hHb2 hCb2 hD2)
        (take_close (X := X) (g := f + (e + 1) + 1993) (p := p) (b := b) (p0 := pos n + 1 + (nb cl n - nb cl (e + 1))) (cl := cl) (M := M) (by omega) (.inl rfl) (.inr rfl) (Ne.symm d6) hcl hce (by omega) (by omega) hB2 hK2 hE2 hM2 (by omega) hbd1 (fun h => hb (by rcases h with h | h; exact .inl h; exact .inr (.inl h))) (by omega) hHb2 hCb2 hD1)
      subst hv3
      have hn3 := hQ.next
      have k3 : ∀ i, i < μ2.next → i ≠ bb → i ≠ sb → μ3.obs.get i = μ2.obs.get i := fun i hi h1 h2 => hQ1.same i hi (by rintro (h | h); exact h1 h; exact h2 h)
      obtain ⟨p1, p2, p3, p4⟩ := pops_nb cl e (cl e :: ks)
      have hS3 : Scan μ3 sc tb bs (pos n + 1 + (nb cl n - nb cl (pops cl e (cl e :: ks)).1)) := by
        have h0 : Scan μ3 sc tb bs (pos n + 1 + (nb cl n - nb cl (e + 1)) + 1) := (hS1.grow hg2).of_get (k3 sc (by have := hsc.n1; omega) d1 d2) (k3 tb (by have := hsc.n2; omega) d4 d5) hn3
        rw [p1, show pos n + 1 + (nb cl n - nb cl e) = pos n + 1 + (nb cl n - nb cl (e + 1)) + 1 from by omega]
        exact h0
      rw [hμ2] at htk
      refine iter_ok (X := X) (k := f + (e + 1)) (sc := sc) (bb := bb) (v3 := .pointer (some ⟨fl, 0, none⟩)) rfl rfl (by decide) hnx htk ?_ r3 r4 r5 ?_
      · rw [← hμ2]; exact k3 _ (by omega) (by omega) (by omega)
      intro tm' r3' r4' r5'
      rw [show f + (e + 1) + 1999 = f + e + 2000 from by omega]
      refine ih f (pops cl e (cl e :: ks)) tm' μ3 p2 (by omega) ?_ p4 ⟨hS3, hQ.blk, ?_, by omega, by omega, hQ.res⟩ (by omega) (by rw [k3 hid (by omega) f2 f3, k2 hid hhn f1, hho]) r3' r4' r5'
      · have : ks.length + (e + 1) = n := hlen
        rw [p3]; show ks.length + 1 + e = n; omega
      · exact (hA.bfl.of_get (k2 fl hnf (Ne.symm d3))).of_get (k3 fl (by omega) (Ne.symm d7) (Ne.symm d8))
end

noncomputable section
variable {X : FuncId → List Value → Mem → Option (Value × Mem)}

set_option maxHeartbeats 8000000 in
theorem x_loop {cl pos : Nat → Nat} {bs : List UInt8} {n sc tb bb sb fl M nodes f hid : Nat} {tm : T Value} {μ : Mem} (f1 : hid ≠ sc) (f2 : hid ≠ bb) (f3 : hid ≠ sb) (f4 : hid ≠ fl) (hhn : hid < μ.next) (hT : Txt bs cl pos n) (hcl : ∀ e, cl e = 0 ∨ cl e = 1 ∨ cl e = 2) (hn : n < 900) (hM : n * 14 ≤ M) (d1 : sc ≠ bb) (d2 : sc ≠ sb) (d3 : sc ≠ fl) (d4 : tb ≠ bb) (d5 : tb ≠ sb) (d6 : bb ≠ sb) (d7 : bb ≠ fl) (d8 : sb ≠ fl) (d9 : tb ≠ fl)
    (hS : Scan μ sc tb bs (pos n)) (hB : Bd μ bb (.slice (some ⟨sb, 0, none⟩) n 29) nodes (.slice none 0 0)) (hK : StkAt μ sb n cl) (hMb : Blk μ sb M 56) (hfl : Blk μ fl 2 27) (hns : sb < μ.next) (hnf : fl < μ.next) (hnodes : nodes + 1 ≤ 3000)
    (r3 : regAt tm 3 = .pointer (some ⟨fl, 0, none⟩)) (r4 : regAt tm 4 = .pointer (some ⟨sc, 0, none⟩)) (r5 : regAt tm 5 = .pointer (some ⟨bb, 0, none⟩)) :
    EndsC (aCode Tryz.prog X S0 (f + (n + 1) + 2000) (.loop (loopBody Tryz.f5 0)) ⟨67, tm, [], none⟩ μ) (ReadOk (fun i => i = bb ∨ i = sb ∨ i = sc ∨ i = fl) n fl hid (μ.obs.get hid)) := by
  obtain ⟨hp, hb⟩ := hT.b
  have hnx2 : bs.length = pos n + 1 ∨ ∃ h : pos n + 1 < bs.length, bs[pos n + 1].toNat = 41 := by
    have hc := hT.c
    by_cases h0 : nb cl n = 0
    · exact .inl (by omega)
    · exact .inr ⟨by omega, hT.d 0 (by omega)⟩
  obtain ⟨v1, μ1, hnx, hv1, hS1, hT1⟩ := next_x (X := X) (k := f + (n + 1) + 1796) hS hp hb hnx2
  subst hv1
  have hn1 := hT1.1
  have hbbn := hB.n
  obtain ⟨μ2, hμ2⟩ : ∃ m, m = keepTok μ1 (tok 6 (pos n) [] symx) := ⟨_, rfl⟩
  have hg2 : Grow μ1 μ2 := by rw [hμ2]; exact keepTok_grow _ _
  have hn2 : μ2.next = μ1.next + 1 := by rw [hμ2]; exact keepTok_next _ _
  have k2 : ∀ i, i < μ.next → i ≠ sc → μ2.obs.get i = μ.obs.get i := fun i hi hne => (hg2.2 i (by omega)).trans (hT1.2 i hi hne)
  have hbd2 : ∀ i, (i = bb ∨ i = sb ∨ i = sc ∨ i = fl) → i < μ2.next := fun i hi => by
    have := hS.n1
    rcases hi with rfl | rfl | rfl | rfl <;> omega
  have hbd1 : ∀ i, (i = bb ∨ i = sb) → i < μ2.next := fun i hi => hbd2 i (by rcases hi with h | h; exact .inl h; exact .inr (.inl h))
  have hB2 := hB.of_get (k2 bb hbbn (Ne.symm d1)) (by omega)
  have hK2 := hK.keep (k2 sb hns (Ne.symm d2))
  have hM2 := hMb.of_get (k2 sb hns (Ne.symm d2))
  obtain ⟨v3, μ3, htk, ⟨hv3, hQ⟩, ⟨_, hQ1⟩⟩ := same_mem
    (take_x (X := X) (g := f + (n + 1) + 1993) (p0 := pos n) (cl := cl) (M := M) (bad := fun i => i = bb ∨ i = sb ∨ i = sc ∨ i = fl) (by omega) (.inl rfl) (.inr (.inl rfl)) (Ne.symm d6) hcl hM hn hnodes hB2 hK2 hM2 (by omega) hbd2)
    (take_x (X := X) (g := f + (n + 1) + 1993) (p0 := pos n) (cl := cl) (M := M) (bad := fun i => i = bb ∨ i = sb) (by omega) (.inl rfl) (.inr rfl) (Ne.symm d6) hcl hM hn hnodes hB2 hK2 hM2 (by omega) hbd1)
  subst hv3
  have hn3 := hQ.next
  have k3 : ∀ i, i < μ2.next → i ≠ bb → i ≠ sb → μ3.obs.get i = μ2.obs.get i := fun i hi h1 h2 => hQ1.same i hi (by rintro (h | h); exact h1 h; exact h2 h)
  obtain ⟨p1, p2, p3, p4⟩ := pops_nb cl n []
  have hS3 : Scan μ3 sc tb bs (pos n + 1 + (nb cl n - nb cl (pops cl n []).1)) := by
    have h0 : Scan μ3 sc tb bs (pos n + 1) := (hS1.grow hg2).of_get (k3 sc (by have := hS.n1; omega) d1 d2) (k3 tb (by have := hS.n2; omega) d4 d5) hn3
    rw [p1, show pos n + 1 + (nb cl n - nb cl n) = pos n + 1 from by omega]
    exact h0
  rw [hμ2] at htk
  refine iter_ok (X := X) (k := f + (n + 1)) (sc := sc) (bb := bb) (v3 := .pointer (some ⟨fl, 0, none⟩)) rfl rfl (by decide) hnx htk ?_ r3 r4 r5 ?_
  · rw [← hμ2]; exact k3 _ (by omega) (by omega) (by omega)
  intro tm' r3' r4' r5'
  rw [show f + (n + 1) + 1999 = f + n + 2000 from by omega]
  refine close_loop f1 f2 f3 f4 hT hcl hn hM d1 d2 d3 d4 d5 d6 d7 d8 d9 n f (pops cl n []) tm' μ3 p2 p2 (by rw [p3]; show 0 + n = n; omega) p4 ⟨hS3, hQ.blk, (hfl.of_get (k2 fl hnf (Ne.symm d3))).of_get (k3 fl (by omega) (Ne.symm d7) (Ne.symm d8)), by omega, by omega, hQ.res⟩ (by omega) (by rw [k3 hid (by omega) f2 f3, k2 hid hhn f1]) r3' r4' r5'

/-- what the stack holds -/
def Ops (xs : List Value) (e : Nat) (cl : Nat → Nat) : Prop := xs.length = e * 14 ∧ ∀ i, i < e → ∃ p, ∀ j (h : j < 14), xs[i * 14 + j]? = some ((opn (knd (cl i)) p (txt (cl i)) (.slice none 0 0) false)[j]'(by rw [opn_len]; exact h))
theorem Ops.nil (cl : Nat → Nat) : Ops [] 0 cl := ⟨rfl, fun i h => absurd h (Nat.not_lt_zero i)⟩
theorem Ops.push {xs : List Value} {e : Nat} {cl : Nat → Nat} (h : Ops xs e cl) (p : Nat) : Ops (xs ++ opn (knd (cl e)) p (txt (cl e)) (.slice none 0 0) false) (e + 1) cl := by
  obtain ⟨h1, h2⟩ := h
  refine ⟨by rw [List.length_append, h1, opn_len]; omega, fun i hi => ?_⟩
  by_cases hie : i = e
  · subst hie
    refine ⟨p, fun j hj => ?_⟩
    rw [List.getElem?_append_right (by omega), h1, show i * 14 + j - i * 14 = j from by omega]
    exact List.getElem?_eq_getElem _
  · obtain ⟨p', hp'⟩ := h2 i (by omega)
    refine ⟨p', fun j hj => ?_⟩
    rw [List.getElem?_append_left (by omega)]
    exact hp' j hj
theorem Ops.noTail {xs : List Value} {d : Nat} {cl : Nat → Nat} (h : Ops xs d cl) : NoTail d xs := fun e he => by
  obtain ⟨p, hp⟩ := h.2 e (by omega)
  exact hp 13 (by decide)
theorem Ops.stk {μ : Mem} {xs : List Value} {d c : Nat} {cl : Nat → Nat} {st : Value} (h : Ops xs d cl) (hW : GoodW μ 56 14 st d xs) (hd : 0 < d) : ∃ sb M, st = .slice (some ⟨sb, 0, none⟩) d 29 ∧ Blk μ sb M 56 ∧ d * 14 ≤ M ∧ StkAt μ sb d cl := by
  obtain ⟨hl, ⟨_, h0⟩ | ⟨i, m, z, ov, fx, sh, hv, hob, hm, hc⟩⟩ := hW
  · omega
  · refine ⟨i, m, hv, ⟨_, _, _, _, hob⟩, hm, fun e he => ?_⟩
    obtain ⟨p, hp⟩ := h.2 e he
    refine ⟨p, m, z, ov, by rw [hob]; rfl, by rw [opn_len]; omega, fun k hk => ?_⟩
    rw [opn_len] at hk
    have h1 := hp k hk
    obtain ⟨h2, h3⟩ := List.getElem?_eq_some_iff.1 h1
    rw [hc (e * 14 + k) h2, h3]

/-- how the reader ends too deep -/
def ReadErr (fl hid : Nat) (ob : Option Ob) : Ax → Rg → Mem → Prop := fun a r μ' => (hid < μ'.next ∧ μ'.obs.get hid = ob) ∧ a = .ret ∧ r.ds = [] ∧ regAt r.tm 2 = .slice none 0 0 ∧ regAt r.tm 3 = .pointer (some ⟨fl, 0, none⟩) ∧ ∃ p, Has μ' fl 0 [.int .i64 (.ofNat 64), .int .i64 (.ofNat p)]

theorem next_any {cl pos : Nat → Nat} {bs : List UInt8} {n e k sc tb : Nat} {μ : Mem} (hT : Txt bs cl pos n) (hcl : ∀ e, cl e = 0 ∨ cl e = 1 ∨ cl e = 2) (he : e < n) (hS : Scan μ sc tb bs (pos e)) :
    EndsF (aFun Tryz.prog (aCode Tryz.prog X S0 (k + 200)) 8 [.pointer (some ⟨sc, 0, none⟩)] μ) fun v μ' => v = .tuple #[.agg (tok (knd (cl e)) (pos e) (txt (cl e)) dat0).toArray, .int .i64 0] ∧ Scan μ' sc tb bs (pos (e + 1)) ∧ Turns μ μ' sc := by
  rcases hcl e with h | h | h
  · obtain ⟨h1, h2, h3⟩ := hT.a0 e he h
    rw [h, h3]; exact next_open hS h1 h2
  · obtain ⟨h1, h2, h3, h4⟩ := hT.a1 e he h
    rw [h, h4]; exact next_vec hS (by omega) h2 h1 h3
  · obtain ⟨h1, h2, h3⟩ := hT.a2 e he h
    rw [h, h3]; exact next_quote hS h1 h2

set_option maxHeartbeats 8000000 in
theorem front_loop {cl pos : Nat → Nat} {bs : List UInt8} {n sc tb bb fl hid : Nat} {ob : Option Ob} (f1 : hid ≠ sc) (f2 : hid ≠ bb) (f4 : hid ≠ fl) (hT : Txt bs cl pos n) (hcl : ∀ e, cl e = 0 ∨ cl e = 1 ∨ cl e = 2) (hn0 : 0 < n) (hn : n < 900) (d1 : sc ≠ bb) (d3 : sc ≠ fl) (d4 : tb ≠ bb) (d7 : bb ≠ fl) (d9 : tb ≠ fl) :
    ∀ (m f e nodes : Nat) (st : Value) (xs : List Value) (tm : T Value) (μ : Mem), e + m = n → e ≤ 60 → nodes ≤ 2 * e → Scan μ sc tb bs (pos e) → Bd μ bb st nodes (.slice none 0 0) → GoodW μ 56 14 st e xs → Ops xs e cl → (∀ i o c, st = .slice (some ⟨i, 0, none⟩) o c → i ≠ bb ∧ i ≠ sc ∧ i ≠ tb ∧ i ≠ fl ∧ i < μ.next ∧ i ≠ hid) → Blk μ fl 2 27 → fl < μ.next → hid < μ.next → μ.obs.get hid = ob →
      regAt tm 3 = .pointer (some ⟨fl, 0, none⟩) → regAt tm 4 = .pointer (some ⟨sc, 0, none⟩) → regAt tm 5 = .pointer (some ⟨bb, 0, none⟩) →
      EndsC (aCode Tryz.prog X S0 (f + n + 1 + m + 2000) (.loop (loopBody Tryz.f5 0)) ⟨67, tm, [], none⟩ μ) fun a r μ' => (n ≤ 60 → ∃ bad, ReadOk bad n fl hid ob a r μ') ∧ (60 < n → ReadErr fl hid ob a r μ') := by
  intro m
  induction m with
  | zero =>
    intro f e nodes st xs tm μ hem he hnd hS hB hW hO hst hfl hnf hhn hho r3 r4 r5
    obtain rfl : e = n := hem
    obtain ⟨sb, M, rfl, hMb, hM, hK⟩ := hO.stk (c := 0) hW hn0
    obtain ⟨s1, s2, s3, s4, s5, s6⟩ := hst sb _ _ rfl
    rw [show f + e + 1 + 0 + 2000 = f + (e + 1) + 2000 from by omega]
    refine EndsC.mono (x_loop (X := X) (f := f) (hid := hid) f1 f2 (Ne.symm s6) f4 hhn hT hcl hn hM d1 (Ne.symm s2) d3 d4 (Ne.symm s3) (Ne.symm s1) d7 s4 d9 hS hB hK hMb hfl s5 hnf (by omega) r3 r4 r5) ?_
    intro a r μ' h
    rw [hho] at h
    exact ⟨fun _ => ⟨_, h⟩, fun h6 => by omega⟩
  | succ m ih =>
    intro f e nodes st xs tm μ hem he hnd hS hB hW hO hst hfl hnf hhn hho r3 r4 r5
    have hlt : e < n := by omega
    have hbbn := hB.n
    obtain ⟨v1, μ1, hnx, hv1, hS1, hT1⟩ := next_any (X := X) (k := f + n + 1 + (m + 1) + 1796) hT hcl hlt hS
    subst hv1
    have hn1 := hT1.1
    have hkd : (knd (cl e) = 1 ∧ (if cl e = 2 then 2 else 1) = 1) ∨ (knd (cl e) = 2 ∧ (if cl e = 2 then 2 else 1) = 1) ∨ (knd (cl e) = 4 ∧ (if cl e = 2 then 2 else 1) = 2) := by
      rcases hcl e with h | h | h <;> rw [h] <;> simp [knd]
    have hk0 : knd (cl e) ≠ 0 := by omega
    obtain ⟨μ2, hμ2⟩ : ∃ m', m' = keepTok μ1 (tok (knd (cl e)) (pos e) (txt (cl e)) dat0) := ⟨_, rfl⟩
    have hg2 : Grow μ1 μ2 := by rw [hμ2]; exact keepTok_grow _ _
    have hn2 : μ2.next = μ1.next + 1 := by rw [hμ2]; exact keepTok_next _ _
    have k2 : ∀ i, i < μ.next → i ≠ sc → μ2.obs.get i = μ.obs.get i := fun i hi hne => (hg2.2 i (by omega)).trans (hT1.2 i hi hne)
    have hB2 := hB.of_get (k2 bb hbbn (Ne.symm d1)) (by omega)
    have hW2 : GoodW μ2 56 14 st e xs := by
      obtain ⟨h1, h2 | ⟨i, m', z, ov, fx, sh, h3, h4, h5⟩⟩ := hW
      · exact ⟨h1, .inl h2⟩
      · obtain ⟨s1, s2, s3, s4, s5, s6⟩ := hst i _ _ h3
        exact ⟨h1, .inr ⟨i, m', z, ov, fx, sh, h3, (k2 i s5 s2).trans h4, h5⟩⟩
    obtain ⟨er, n', sb, μ3, htk, hB3, hW3, hs1, hs2, hn3, k3, he1, he2⟩ := take_open (X := X) (g := f + n + 1 + (m + 1) + 1993) (p := pos e) (tx := txt (cl e)) (by omega) hkd hB2 hW2 hO.noTail (by omega) (by split <;> omega) (fun i o c h => by obtain ⟨s1, s2, s3, s4, s5, s6⟩ := hst i o c h; exact ⟨s1, by omega⟩)
    have k3' : ∀ i, i < μ.next → i ≠ bb → i ≠ sc → (∀ o c, st ≠ .slice (some ⟨i, 0, none⟩) o c) → μ3.obs.get i = μ.obs.get i := fun i hi h1 h2 h3 => (k3 i (by omega) h1 h3).trans (k2 i hi h2)
    have hfl3 : Blk μ3 fl 2 27 := hfl.of_get (k3' fl hnf (Ne.symm d7) (Ne.symm d3) (fun o c h => (hst fl o c h).2.2.2.1 rfl))
    have h6 : μ3.obs.get μ1.next = μ2.obs.get μ1.next := k3 _ (by omega) (by omega) (fun o c h => by have := (hst _ o c h).2.2.2.2.1; omega)
    have hS3 : Scan μ3 sc tb bs (pos (e + 1)) := (hS1.grow hg2).of_get (k3 sc (by have := hS.n1; omega) d1 (fun o c h => (hst sc o c h).2.1 rfl)) (k3 tb (by have := hS.n2; omega) d4 (fun o c h => (hst tb o c h).2.2.1 rfl)) hn3
    have hh3 : μ3.obs.get hid = ob := (k3' hid hhn f2 f1 (fun o c h => (hst hid o c h).2.2.2.2.2 rfl)).trans hho
    rw [hμ2] at htk h6
    by_cases h60 : e < 60
    · obtain ⟨rfl, rfl⟩ := he1 h60
      refine iter_ok (X := X) (k := f + n + 1 + (m + 1)) (sc := sc) (bb := bb) (v3 := .pointer (some ⟨fl, 0, none⟩)) rfl rfl hk0 hnx htk h6 r3 r4 r5 ?_
      intro tm' r3' r4' r5'
      rw [show f + n + 1 + (m + 1) + 1999 = f + n + 1 + m + 2000 from by omega]
      refine ih f (e + 1) _ _ _ tm' μ3 (by omega) (by omega) (by split <;> omega) hS3 hB3 hW3 (hO.push (pos e)) (fun i o c h => ?_) hfl3 (by omega) (by omega) hh3 r3' r4' r5'
      injection h with h
      injection h with h
      injection h with h
      subst h
      have := hS.n1
      have := hS.n2
      omega
    · obtain rfl := he2 (by omega)
      refine EndsC.mono (iter_err (X := X) (k := f + n + 1 + (m + 1)) (sc := sc) (bb := bb) (fl := fl) rfl rfl hk0 hnx htk h6 hfl3 r3 r4 r5) ?_
      rintro a r μ' ⟨h1, h2, h3, h4, h5, h7, h6⟩
      exact ⟨fun h => by omega, fun _ => ⟨⟨by omega, (h6 hid f4).trans hh3⟩, h1, h2, h3, h4, pos e, h5⟩⟩
end

noncomputable section
variable {X : FuncId → List Value → Mem → Option (Value × Mem)}

theorem z45 : aZeroOf Tryz.prog 45 = some (.agg [Value.slice none 0 0, .int .i64 0].toArray) := by unfold aZeroOf; rw [i45]; rfl
theorem z49 : aZeroOf Tryz.prog 49 = some (.agg [Value.slice none 0 0, .int .i64 0, .slice none 0 0].toArray) := by unfold aZeroOf; rw [i49]; rfl
theorem bd45 (ρ : Operand → Value) (a : Operand) {v : Value} (h1 : ρ a = v) (ho : one v = true) : aBuild Tryz.prog ρ 45 #[(0, a)] = some (.agg [v, .int .i64 0].toArray) := by
  refine build_struct (pl := [(0, 1), (1, 1)]) z45 Tryz.underlying45 (by kernel_rfl) ?_
  show aFill _ [Value.slice none 0 0, .int .i64 0] [(0, ρ a)] = some [v, .int .i64 0]
  rw [aFill_one (off := 0) rfl (by rw [h1]; exact ho) (by decide), h1]
  rfl
theorem bd49 (ρ : Operand → Value) : aBuild Tryz.prog ρ 49 #[] = some (.agg [Value.slice none 0 0, .int .i64 0, .slice none 0 0].toArray) := by
  refine build_struct (pl := [(0, 1), (1, 1), (2, 1)]) z49 Tryz.underlying49 (by kernel_rfl) ?_
  rfl

/-- a text that lies in a block -/
structure TextAt (μ : Mem) (tb : Nat) (bs : List UInt8) : Prop where
  tob : ∃ te z ov lo hi fx sh, μ.obs.get tb = some (.cells bs.length te z ov lo hi fx sh)
  txt : ∀ k (h : k < bs.length), cellsAt μ tb k = some (.int .u8 (.ofNat bs[k].toNat))
  n : tb < μ.next
  len : bs.length < 20000

set_option maxHeartbeats 8000000 in
theorem read_ends {g n tb hid : Nat} {cl pos : Nat → Nat} {bs : List UInt8} {μ : Mem} (hg : 6000 ≤ g) (hT : Txt bs cl pos n) (hp0 : pos 0 = 0) (hcl : ∀ e, cl e = 0 ∨ cl e = 1 ∨ cl e = 2) (hn0 : 0 < n) (hn : n < 900) (hX : TextAt μ tb bs) (hhn : hid < μ.next) :
    EndsF (aFun Tryz.prog (aCode Tryz.prog X S0 g) 5 [.slice (some ⟨tb, 0, none⟩) bs.length 3] μ) fun v μ' => (hid < μ'.next ∧ μ'.obs.get hid = μ.obs.get hid) ∧ (n ≤ 60 → ∃ bad b l ks, v = .tuple #[.slice (some ⟨b, 0, none⟩) 1 17, .agg [Value.int .i64 (.ofNat 0), .int .i64 (.ofNat 0)].toArray] ∧ b < μ'.next ∧ Has μ' b 0 l ∧ Den bad μ' ks l ∧ ks.length = n) ∧
      (60 < n → ∃ p, v = .tuple #[.slice none 0 0, .agg [Value.int .i64 (.ofNat 64), .int .i64 (.ofNat p)].toArray]) := by
  obtain ⟨k, rfl⟩ := Nat.exists_eq_add_of_le' hg
  have htn := hX.n
  have hlen := hX.len
  obtain ⟨μ3, hμ3⟩ : ∃ m : Mem, m = ⟨((μ.obs.set μ.next (.cells 2 27 [Value.int .i64 0, .int .i64 0].toArray .e 0 0 false false)).set (Nat.add μ.next 1) (.cells [Value.slice (some ⟨tb, 0, none⟩) bs.length 3, .int .i64 0].length 45 [Value.slice (some ⟨tb, 0, none⟩) bs.length 3, .int .i64 0].toArray .e 0 0 false false)).set (Nat.add (Nat.add μ.next 1) 1) (.cells [Value.slice none 0 0, .int .i64 0, .slice none 0 0].length 49 [Value.slice none 0 0, .int .i64 0, .slice none 0 0].toArray .e 0 0 false false), Nat.add (Nat.add (Nat.add μ.next 1) 1) 1⟩ := ⟨_, rfl⟩
  have hn3 : μ3.next = μ.next + 1 + 1 + 1 := by rw [hμ3]
  have o0 : μ3.obs.get μ.next = some (.cells 2 27 [Value.int .i64 0, .int .i64 0].toArray .e 0 0 false false) := by
    rw [hμ3]; show T.get _ _ = _
    rw [T.get_set, if_neg (by show ¬ μ.next = μ.next + 1 + 1; omega), T.get_set, if_neg (by show ¬ μ.next = μ.next + 1; omega), T.get_set, if_pos rfl]
  have o1 : μ3.obs.get (μ.next + 1) = some (.cells 2 45 [Value.slice (some ⟨tb, 0, none⟩) bs.length 3, .int .i64 0].toArray .e 0 0 false false) := by
    rw [hμ3]; show T.get _ (μ.next + 1) = _
    rw [T.get_set, if_neg (by show ¬ μ.next + 1 = μ.next + 1 + 1; omega), T.get_set, if_pos rfl]; rfl
  have o2 : μ3.obs.get (μ.next + 1 + 1) = some (.cells 3 49 [Value.slice none 0 0, .int .i64 0, .slice none 0 0].toArray .e 0 0 false false) := by
    rw [hμ3]; show T.get _ (μ.next + 1 + 1) = _
    rw [T.get_set, if_pos rfl]; rfl
  have oo : ∀ i, i < μ.next → μ3.obs.get i = μ.obs.get i := fun i hi => by
    rw [hμ3]; show T.get _ i = _
    rw [T.get_set, if_neg (by show ¬ i = μ.next + 1 + 1; omega), T.get_set, if_neg (by show ¬ i = μ.next + 1; omega), T.get_set, if_neg (by omega)]
  have h1 : Has μ3 (μ.next + 1) 0 [Value.slice (some ⟨tb, 0, none⟩) bs.length 3, .int .i64 0] := Has.new o1
  have h2 : Has μ3 (μ.next + 1 + 1) 0 [Value.slice none 0 0, .int .i64 0, .slice none 0 0] := Has.new o2
  have hS : Scan μ3 (μ.next + 1) tb bs (pos 0) := by
    rw [hp0]
    refine ⟨h1.cell 0 (Nat.zero_lt_succ _), by rw [oo tb htn]; exact hX.tob, h1.cell 1 (Nat.succ_lt_succ (Nat.zero_lt_succ _)), ⟨_, _, _, _, o1⟩, fun k hk => ?_, by omega, by omega, by omega, by omega⟩
    unfold cellsAt; rw [oo tb htn]; exact hX.txt k hk
  have hB : Bd μ3 (μ.next + 1 + 1) (.slice none 0 0) 0 (.slice none 0 0) := ⟨h2.cell 0 (by decide), h2.cell 1 (by decide), h2.cell 2 (by decide), ⟨_, _, _, _, o2⟩, by omega⟩
  have hW : GoodW μ3 56 14 (.slice none 0 0) 0 [] := ⟨rfl, .inl ⟨rfl, rfl⟩⟩
  have e1 : ilt 20000 (.ofNat bs.length) = false := (ilt_nat 20000 _).trans (decide_eq_false (by omega))
  have hbd : ∀ (r : Rg) (a : Operand), aev Tryz.prog r a = .slice (some ⟨tb, 0, none⟩) bs.length 3 → aBuild Tryz.prog (aev Tryz.prog r) 45 #[(0, a)] = some (.agg [Value.slice (some ⟨tb, 0, none⟩) bs.length 3, .int .i64 0].toArray) := fun r a h => bd45 _ _ h rfl
  have hbz : ∀ r : Rg, aBuild Tryz.prog (aev Tryz.prog r) 49 #[] = some (.agg [Value.slice none 0 0, .int .i64 0, .slice none 0 0].toArray) := fun r => bd49 _
  refine fun_enter Tryz.func5 rfl rfl (Nat.le_of_ble_eq_true rfl) ?_
  simp only [T.lay, Nat.zero_add, Tryz.ntmps5, Nat.reduceAdd]
  refine code_seq ?_
  refine code_region ?_ ?_
  · rfl
  simp only [run1, aOne, aP, aR, aA, aT, aCall, aCallVal, aev, regAt_set, aput_mk, aput_none, plainV, aNilCheck, aExtract, aBin, aInt, Addr.add, Nat.zero_add, ends_some, Nat.reduceLT, Nat.reduceAdd, if_true, then_normal, Nat.reduceEqDiff, if_false, reduceIte, reduceCtorEq, decide_true, decide_false, Bool.not_true, Bool.not_false, beq_self_eq_true, beq_tf, beq_ft, aPick, List.map_cons, List.map_nil, List.nil_append, List.append_nil, List.getElem?_cons_zero, List.getElem?_cons_succ, al27]
  refine code_seq ?_
  refine code_seq ?_
  refine code_region ?_ ?_
  · rfl
  simp only [run1, aOne, aP, aR, aA, aT, aCall, aCallVal, aev, regAt_set, aput_mk, aput_none, plainV, aNilCheck, aExtract, aBin, aInt, Addr.add, Nat.zero_add, ends_some, Nat.reduceLT, Nat.reduceAdd, if_true, then_normal, Nat.reduceEqDiff, if_false, reduceIte, reduceCtorEq, decide_true, decide_false, Bool.not_true, Bool.not_false, beq_self_eq_true, beq_tf, beq_ft, aPick, List.map_cons, List.map_nil, List.nil_append, List.append_nil, List.getElem?_cons_zero, List.getElem?_cons_succ, aBuiltin, aLen, Tryz.underlying30, cast_nat, e1]
  refine code_cond_false ?_ ?_
  · simp only [aev, regAt_set, Nat.reduceEqDiff, reduceIte]
  refine code_skip ?_
  simp only [then_normal]
  refine code_seq ?_
  refine code_region ?_ ?_
  · rfl
  simp only [run1, aOne, aP, aR, aA, aT, aCall, aCallVal, aev, regAt_set, aput_mk, aput_none, plainV, aNilCheck, aExtract, aBin, aInt, Addr.add, Nat.zero_add, ends_some, Nat.reduceLT, Nat.reduceAdd, if_true, then_normal, Nat.reduceEqDiff, if_false, reduceIte, reduceCtorEq, decide_true, decide_false, Bool.not_true, Bool.not_false, beq_self_eq_true, beq_tf, beq_ft, aPick, List.map_cons, List.map_nil, List.nil_append, List.append_nil, List.getElem?_cons_zero, List.getElem?_cons_succ, hbd, hbz, box_agg, ← hμ3]
  refine code_block ?_
  rw [show k + 5996 = (k + 3995 - n - n) + n + 1 + n + 2000 from by omega]
  refine EndsC.mono (front_loop (X := X) (n := n) (hid := hid) (ob := μ.obs.get hid) (by omega) (by omega) (by omega) (sc := μ.next + 1) (tb := tb) (bb := μ.next + 1 + 1) (fl := μ.next) hT hcl hn0 hn (by omega) (by omega) (by omega) (by omega) (by omega) n (k + 3995 - n - n) 0 0 (.slice none 0 0) [] _ μ3 (by omega) (by omega) (by omega) hS hB hW (Ops.nil cl) (fun i o c h => by cases h) ⟨_, _, _, _, o0⟩ (by omega) (by omega) (oo hid hhn) ?_ ?_ ?_) ?_
  · simp only [regAt_set, Nat.reduceEqDiff, reduceIte]
  · simp only [regAt_set, Nat.reduceEqDiff, reduceIte]
  · simp only [regAt_set, Nat.reduceEqDiff, reduceIte]
  rintro a r μ' ⟨hA, hE⟩
  by_cases h60 : n ≤ 60
  · obtain ⟨bad, h0, h1, h2, h3, h4, b, l, ks, h5, h9, h6, h7, h8⟩ := hA h60
    subst h1
    have hl := lds27 h4 rfl
    simp only [blockC]
    refine ⟨h2, .tuple #[.slice (some ⟨b, 0, none⟩) 1 17, .agg [Value.int .i64 (.ofNat 0), .int .i64 (.ofNat 0)].toArray], ?_, h0, fun _ => ⟨bad, b, l, ks, rfl, h9, h6, h7, h8⟩, fun h => by omega⟩
    simp only [aResults, Tryz.results5, aRes, h3, h5, hl]
  · obtain ⟨h0, h1, h2, h3, h4, p, h5⟩ := hE (by omega)
    subst h1
    have hl := lds27 h5 rfl
    simp only [blockC]
    refine ⟨h2, .tuple #[.slice none 0 0, .agg [Value.int .i64 (.ofNat 64), .int .i64 (.ofNat p)].toArray], ?_, h0, fun h => by omega, fun _ => ⟨p, rfl⟩⟩
    simp only [aResults, Tryz.results5, aRes, h3, h4, hl]
end
end Go.Proofs.YtfcpiamdmbliaaaGreatDoor.rd
