/-
  distafflaw18.ValueRings, part R: its walk and its law. No conditions.
-/
import Derived.Test.YtohkikbhgcgmfaaGreatDoorVrQ
set_option linter.unusedSimpArgs false
set_option linter.unusedVariables false
set_option linter.unusedSectionVars false
namespace Go.Proofs.YtohkikbhgcgmfaaGreatDoor.vr
open Go Go.Proofs Go.Proofs.YtohkikbhgcgmfaaGreatDoor.Ev
noncomputable section
variable {X : FuncId → List Value → Mem → Option (Value × Mem)}
set_option maxRecDepth 20000 in
set_option maxHeartbeats 4000000 in
theorem eqv_places {g sp hp ap wb lb N L qa qb : Nat} {ws : Nat → Nat} {p : Pos} {μ : Mem} (hg : 500 ≤ g) (h : SP μ sp hp ap wb lb N L ws p) (ha : qa < N) (hb : qb < N) (wa : ws qa = headW 0 0 2) (wb_ : ws qb = headW 0 0 2) (hne : qa ≠ qb) :
  EndsF (aFun Tryz.prog (aCode Tryz.prog X S0 g) 55 [.pointer (some ⟨sp, 0, none⟩), .int .u64 (.ofNat (placeW qa)), .int .u64 (.ofNat (placeW qb))] μ) fun v μ' => v = .bool false ∧ Grow μ μ' := by
 obtain ⟨k, rfl⟩ := Nat.exists_eq_add_of_le' hg
 have e1 : ieq (.ofNat (placeW qa)) (.ofNat (placeW qb)) = false := (ieq_nat _ _).trans (decide_eq_false (by unfold placeW; omega))
 obtain ⟨v1, μ1, t1, ⟨l1, rfl, o1, e2⟩, g1⟩ := asnum_no (X := X) (g := k + 496) (μ := μ) (by omega) h ha wa (by decide) (by decide) (by decide) (by decide) (by decide)
 obtain ⟨μ2, s2, d2, g2, k2⟩ := num_store (μ := μ1) o1 e2 (Grow.refl _)
 obtain ⟨v3, μ3, t3, ⟨l3, rfl, o3, e3⟩, g3⟩ := asnum_no (X := X) (g := k + 495) (μ := μ2) (by omega) (h.grow (g1.trans g2)) hb wb_ (by decide) (by decide) (by decide) (by decide) (by decide)
 obtain ⟨μ4, s4, d4, g4, k4⟩ := num_store (μ := μ3) o3 e3 (Grow.refl _)
 refine fun_enter Tryz.func55 rfl rfl (Nat.le_of_ble_eq_true rfl) ?_
 simp only [T.lay, Nat.zero_add, Tryz.ntmps55, Nat.reduceAdd]
 repeat (first | refine code_seq ?_ | ((first | (refine code_region ?_ ?_; (focus rfl)) | (refine code_guards (gs := ?_) ?_ ?_; rotate_left; (focus rfl))); simp only [run1, run2, wanted, go_sem, Nat.reduceLT, Nat.reduceAdd, Nat.reduceEqDiff, reduceIte, reduceCtorEq, e1, gg83, t1, al36, Nat.add_eq, s2, t3, s4]) | (refine code_cond_true ?_ ?_; (focus (simp only [aev, regAt_set, Nat.reduceEqDiff, reduceIte, e1, gg83, t1, al36, Nat.add_eq, s2, t3, s4]; done))) | (refine code_cond_false ?_ ?_; (focus (simp only [aev, regAt_set, Nat.reduceEqDiff, reduceIte, e1, gg83, t1, al36, Nat.add_eq, s2, t3, s4]; done))) | ((first | refine code_skip ?_ | refine code_label ?_ | refine code_exit ?_); try simp only [then_exit, then_normal, blockC, Nat.reduceEqDiff, reduceIte]) | refine code_block ?_)
 refine code_ret ?_
 refine ⟨rfl, _, ?_, rfl, g1.trans (g2.trans (g3.trans g4))⟩
 simp only [aResults, Tryz.results55, aRes, regAt_set, Nat.reduceEqDiff, reduceIte]
theorem twoL_one (a b : Nat) : scalars (twoL a b) = true := scalars_one _ rfl
theorem push_two {μ0 μ : Mem} {v : Value} {xs : List Value} {m q n a b : Nat} (h : OwnK 80 2 none μ0 μ v m xs) (hq : μ.next ≤ q) (hqn : q < n) (hn : m < 999999) :
  ∃ v' μ', aAppend Tryz.prog ⟨μ.obs.set q (.cells (twoL a b).length 80 (twoL a b).toArray .e 0 0 false false), n⟩ 81 81 v (.slice (some ⟨q, 0, none⟩) 1 2) = some (v', μ') ∧ OwnK 80 2 none μ0 μ' v' (m + 1) (xs ++ twoL a b) :=
 h.push (P := Tryz.prog) (st := 81) Tryz.underlying81 j158 rfl (by decide) rfl z158 rfl hq hqn rfl hn (twoL_one a b)
set_option maxRecDepth 20000 in
set_option maxHeartbeats 4000000 in
theorem alike_pair {g sp hp ap wb lb N L qa qb : Nat} {ws : Nat → Nat} {p : Pos} {μ : Mem} (hg : 1000 ≤ g) (h : SP μ sp hp ap wb lb N L ws p) (ha : qa + 2 < N) (hb : qb + 2 < N) (wa : ws qa = headW 0 0 2) (wb_ : ws qb = headW 0 0 2) (hne : qa ≠ qb) :
  EndsF (aFun Tryz.prog (aCode Tryz.prog X S0 g) 23 [.pointer (some ⟨sp, 0, none⟩), .agg (twoL (placeW qa) (placeW qb)).toArray] μ) fun v μ' => ∃ w, v = .tuple #[w, .bool true] ∧ OwnK 80 2 none μ μ' w 2 (twoL (ws (qa + 1 + 0)) (ws (qb + 1 + 0)) ++ twoL (ws (qa + 1 + 1)) (ws (qb + 1 + 1))) := by
 obtain ⟨k, rfl⟩ := Nat.exists_eq_add_of_le' hg
 have hN := h.hs.ab.N1
 obtain ⟨a, hwa⟩ : ∃ w, w = placeW qa := ⟨_, rfl⟩
 obtain ⟨b, hwb⟩ : ∃ w, w = placeW qb := ⟨_, rfl⟩
 obtain ⟨μ1, h1⟩ : ∃ M : Mem, M = ⟨μ.obs.set μ.next (.cells (twoL a b).length 80 (twoL a b).toArray .e 0 0 false false), μ.next + 1⟩ := ⟨_, rfl⟩
 have g1 : Grow μ μ1 := by rw [h1]; exact grow1 μ _
 have n1 : μ1.next = μ.next + 1 := by rw [h1]
 have f1 : Has μ1 μ.next 0 (twoL a b) := Has.new (t := 80) (fx := false) (sh := false) (by rw [h1]; show T.get _ _ = _; rw [T.get_set, if_pos rfl])
 have hsn := h.spn
 have c0 : ∀ M : Mem, Grow μ1 M → cellsAt M μ.next 0 = some (.int .u64 (.ofNat a)) := fun M gM => by rw [gcell gM (by omega)]; exact f1.cell 0 (by simp [twoL])
 have c1 : ∀ M : Mem, Grow μ1 M → cellsAt M μ.next 1 = some (.int .u64 (.ofNat b)) := fun M gM => by rw [gcell gM (by omega)]; exact f1.cell 1 (by simp [twoL])
 have p0 : ∀ M : Mem, Grow μ1 M → cellsAt M sp 0 = some (.pointer (some ⟨hp, 0, none⟩)) := fun M gM => by rw [gcell (g1.trans gM) hsn]; exact h.sp0
 obtain ⟨v2, μ2, t2, rfl, g2⟩ := eqv_places (X := X) (g := k + 996) (by omega) (h.grow g1) (by omega) (by omega) wa wb_ hne
 have gU : Grow μ1 ⟨μ2.obs, μ2.next + 8⟩ := g2.trans (grow_up μ2 8)
 obtain ⟨v3, μ3, t3, rfl, g3⟩ := hkind (X := X) (g := k + 996) (by omega) (h.grow (g1.trans gU)).hs.at (by omega : qa < N) hN wa (by decide) (by decide) (by decide)
 have gV : Grow μ1 ⟨μ3.obs, μ3.next + 13⟩ := (gU.trans g3).trans (grow_up μ3 13)
 obtain ⟨v4, μ4, t4, rfl, g4⟩ := hkind (X := X) (g := k + 994) (by omega) (h.grow (g1.trans gV)).hs.at (by omega : qb < N) hN wb_ (by decide) (by decide) (by decide)
 have gW := gV.trans g4
 obtain ⟨v5, μ5, t5, ⟨oa, rfl, g5, oa1, oa2, ca⟩⟩ := fields_yes (X := X) (g := k + 994) (by omega) (p0 μ4 gW) (Nat.lt_of_lt_of_le hsn (g1.trans gW).1) (h.grow (g1.trans gW)).hs.at ha hN wa (by decide) (by decide)
 have gY := gW.trans g5
 obtain ⟨v6, μ6, t6, ⟨ob, rfl, g6, ob1, ob2, cb⟩⟩ := fields_yes (X := X) (g := k + 993) (by omega) (p0 μ5 gY) (Nat.lt_of_lt_of_le hsn (g1.trans gY).1) (h.grow (g1.trans gY)).hs.at hb hN wb_ (by decide) (by decide)
 have gZ := gY.trans g6
 have t3 : aFun Tryz.prog (aCode Tryz.prog X S0 (k + 996)) 47 [.pointer (some ⟨hp, 0, none⟩), .int .u64 (.ofNat (placeW qa))] ⟨μ2.obs, μ2.next + 8⟩ = some (.int .i64 0, μ3) := t3
 have t4 : aFun Tryz.prog (aCode Tryz.prog X S0 (k + 994)) 47 [.pointer (some ⟨hp, 0, none⟩), .int .u64 (.ofNat (placeW qb))] ⟨μ3.obs, μ3.next + 13⟩ = some (.int .i64 0, μ4) := t4
 have t5 : aFun Tryz.prog (aCode Tryz.prog X S0 (k + 994)) 44 [.pointer (some ⟨sp, 0, none⟩), .int .i64 0, .int .u64 (.ofNat (placeW qa))] μ4 = some (.tuple #[.slice (some ⟨oa, 0, none⟩) 2 (2 * 2), .bool true], μ5) := t5
 have t6 : aFun Tryz.prog (aCode Tryz.prog X S0 (k + 993)) 44 [.pointer (some ⟨sp, 0, none⟩), .int .i64 0, .int .u64 (.ofNat (placeW qb))] μ5 = some (.tuple #[.slice (some ⟨ob, 0, none⟩) 2 (2 * 2), .bool true], μ6) := t6
 rw [← hwa] at t2 t3 t5 ⊢
 rw [← hwb] at t2 t4 t6 ⊢
 obtain ⟨x0, hx0⟩ : ∃ w, w = ws (qa + 1 + 0) := ⟨_, rfl⟩
 obtain ⟨x1, hx1⟩ : ∃ w, w = ws (qa + 1 + 1) := ⟨_, rfl⟩
 obtain ⟨y0, hy0⟩ : ∃ w, w = ws (qb + 1 + 0) := ⟨_, rfl⟩
 obtain ⟨y1, hy1⟩ : ∃ w, w = ws (qb + 1 + 1) := ⟨_, rfl⟩
 have ca0 : ∀ M : Mem, Grow μ6 M → cellsAt M oa 0 = some (.int .u64 (.ofNat x0)) := fun M gM => by rw [gcell (g6.trans gM) oa2, hx0]; exact ca 0 (by decide)
 have ca1 : ∀ M : Mem, Grow μ6 M → cellsAt M oa 1 = some (.int .u64 (.ofNat x1)) := fun M gM => by rw [gcell (g6.trans gM) oa2, hx1]; exact ca 1 (by decide)
 have cb0 : ∀ M : Mem, Grow μ6 M → cellsAt M ob 0 = some (.int .u64 (.ofNat y0)) := fun M gM => by rw [gcell gM ob2, hy0]; exact cb 0 (by decide)
 have cb1 : ∀ M : Mem, Grow μ6 M → cellsAt M ob 1 = some (.int .u64 (.ofNat y1)) := fun M gM => by rw [gcell gM ob2, hy1]; exact cb 1 (by decide)
 rw [← hx0, ← hx1, ← hy0, ← hy1]
 obtain ⟨v7, μ7, t7, o7⟩ := push_two (q := μ6.next + 10) (n := μ6.next + 13) (a := x0) (b := y0) (OwnK.nil 80 2 none μ6) (by omega) (by omega) (by decide)
 have g7 := o7.grow
 obtain ⟨v8, μ8, t8, o8⟩ := push_two (q := μ7.next + 10) (n := μ7.next + 13) (a := x1) (b := y1) o7 (by omega) (by omega) (by decide)
 have hix : ∀ (i m : Nat) (ρ : Operand → Value) (a b : Operand), m < 2 → ρ a = .slice (some ⟨i, 0, none⟩) 2 (2 * 2) → ρ b = .int .i64 (.ofNat m) → aIndexAddr Tryz.prog ρ 114 a b = some (.pointer (some ⟨i, m, none⟩)) := fun i m ρ a b hm h1 h2 => by
  rw [indexAddr_slice (P := Tryz.prog) Tryz.underlying114 iW rfl h1 h2 hm, Nat.zero_add]
 have ixa0 : ∀ (ρ : Operand → Value) (a b : Operand), ρ a = .slice (some ⟨oa, 0, none⟩) 2 (2 * 2) → ρ b = .int .i64 0 → aIndexAddr Tryz.prog ρ 114 a b = some (.pointer (some ⟨oa, 0, none⟩)) := fun ρ a b h1 h2 => hix oa 0 ρ a b (by decide) h1 h2
 have ixb0 : ∀ (ρ : Operand → Value) (a b : Operand), ρ a = .slice (some ⟨ob, 0, none⟩) 2 (2 * 2) → ρ b = .int .i64 0 → aIndexAddr Tryz.prog ρ 114 a b = some (.pointer (some ⟨ob, 0, none⟩)) := fun ρ a b h1 h2 => hix ob 0 ρ a b (by decide) h1 h2
 have ixa1 : ∀ (ρ : Operand → Value) (a b : Operand), ρ a = .slice (some ⟨oa, 0, none⟩) 2 (2 * 2) → ρ b = .int .i64 1 → aIndexAddr Tryz.prog ρ 114 a b = some (.pointer (some ⟨oa, 1, none⟩)) := fun ρ a b h1 h2 => hix oa 1 ρ a b (by decide) h1 h2
 have ixb1 : ∀ (ρ : Operand → Value) (a b : Operand), ρ a = .slice (some ⟨ob, 0, none⟩) 2 (2 * 2) → ρ b = .int .i64 1 → aIndexAddr Tryz.prog ρ 114 a b = some (.pointer (some ⟨ob, 1, none⟩)) := fun ρ a b h1 h2 => hix ob 1 ρ a b (by decide) h1 h2
 have bd0 : ∀ (ρ : Operand → Value) (x y : Operand), ρ x = .int .u64 (.ofNat x0) → ρ y = .int .u64 (.ofNat y0) → aBuild Tryz.prog ρ 80 #[(0, x), (1, y)] = some (.agg (twoL x0 y0).toArray) := fun ρ x y h1 h2 => bd158 ρ x y x0 y0 h1 h2
 have bd1 : ∀ (ρ : Operand → Value) (x y : Operand), ρ x = .int .u64 (.ofNat x1) → ρ y = .int .u64 (.ofNat y1) → aBuild Tryz.prog ρ 80 #[(0, x), (1, y)] = some (.agg (twoL x1 y1).toArray) := fun ρ x y h1 h2 => bd158 ρ x y x1 y1 h1 h2
 have bs0 : ∀ (ρ : Operand → Value) (x : Operand), ρ x = .agg (twoL x0 y0).toArray → aBuildSlice Tryz.prog ρ 81 1 #[(0, x)] = some (.cells (twoL x0 y0).length 80 (twoL x0 y0).toArray .e 0 0 false false, fun id => .slice (some ⟨id, 0, none⟩) 1 2) := fun ρ x h => bs159 ρ x x0 y0 h
 have bs1 : ∀ (ρ : Operand → Value) (x : Operand), ρ x = .agg (twoL x1 y1).toArray → aBuildSlice Tryz.prog ρ 81 1 #[(0, x)] = some (.cells (twoL x1 y1).length 80 (twoL x1 y1).toArray .e 0 0 false false, fun id => .slice (some ⟨id, 0, none⟩) 1 2) := fun ρ x h => bs159 ρ x x1 y1 h
 have e0 : ilt 0 0 = false := rfl
 have e1 : ieq 0 0 = true := rfl
 have e2 : ieq 0 18 = false := rfl
 have e3 : ieq 0 19 = false := rfl
 have e4 : ilt 0 2 = true := rfl
 have e5 : ilt 1 2 = true := rfl
 have e6 : ilt 2 2 = false := rfl
 have e7 : qwrap .i64 (Int.add 0 1) = 1 := rfl
 have e8 : qwrap .i64 (Int.add 1 1) = 2 := rfl
 have e9 : ieq (.ofNat 2) (.ofNat 2) = true := rfl
 have e10 : (if Int.ofNat 2 < Int.ofNat 2 then Int.ofNat 2 else Int.ofNat 2) = 2 := rfl
 have d3 := ca0 ⟨μ6.obs, μ6.next + 13⟩ (grow_up μ6 13)
 have d4 := cb0 ⟨μ6.obs, μ6.next + 13⟩ (grow_up μ6 13)
 have d5 := ca1 ⟨μ7.obs, μ7.next + 13⟩ (g7.trans (grow_up μ7 13))
 have d6 := cb1 ⟨μ7.obs, μ7.next + 13⟩ (g7.trans (grow_up μ7 13))
 refine fun_enter Tryz.func23 rfl rfl (Nat.le_of_ble_eq_true rfl) ?_
 simp only [T.lay, Nat.zero_add, Tryz.ntmps23, Nat.reduceAdd]
 repeat (first | refine code_seq ?_ | ((first | (refine code_region ?_ ?_; (focus rfl)) | (refine code_guards (gs := ?_) ?_ ?_; rotate_left; (focus rfl))); simp only [run1, run2, wanted, go_sem, Nat.reduceLT, Nat.reduceAdd, Nat.reduceEqDiff, reduceIte, reduceCtorEq, j158b, Nat.add_eq, h1.symm, fa158_0, fa158_1, ldW, c0 μ1 (Grow.refl _), c1 μ1 (Grow.refl _), gg55, t2]) | (refine code_cond_true ?_ ?_; (focus (simp only [aev, regAt_set, Nat.reduceEqDiff, reduceIte, j158b, Nat.add_eq, h1.symm, fa158_0, fa158_1, ldW, c0 μ1 (Grow.refl _), c1 μ1 (Grow.refl _), gg55, t2]; done))) | (refine code_cond_false ?_ ?_; (focus (simp only [aev, regAt_set, Nat.reduceEqDiff, reduceIte, j158b, Nat.add_eq, h1.symm, fa158_0, fa158_1, ldW, c0 μ1 (Grow.refl _), c1 μ1 (Grow.refl _), gg55, t2]; done))) | ((first | refine code_skip ?_ | refine code_label ?_ | refine code_exit ?_); try simp only [then_exit, then_normal, blockC, Nat.reduceEqDiff, reduceIte]) | refine code_block ?_)
 refine code_draw (n := 8) (ms := [0, 1, 3, 7, 0, 16, 63, 127]) (ord := [0, 1, 2, 3, 4, 5, 6, 7]) (ds := ?_) ?_ ?_ ?_ ?_ ?_ ?_
 rotate_left
 ·kernel_rfl
 ·kernel_rfl
 ·kernel_rfl
 ·rfl
 ·rfl
 iterate 8 (refine drun_true (by first | rfl | (simp only [wanted, go_sem, Nat.reduceLT, Nat.reduceAdd, Nat.reduceEqDiff, reduceIte, reduceCtorEq, faS0, fa158_0, Nat.add_zero, ldHp, ldW, p0 _ gU, c0 _ gU, gg47, t3])) (by simp only [aDrawOne, heavy, aReads, eqVal_self, go_sem, Nat.reduceLT, Nat.reduceAdd, Nat.reduceEqDiff, reduceIte, reduceCtorEq, faS0, fa158_0, Nat.add_zero, ldHp, ldW, p0 _ gU, c0 _ gU, gg47, t3]; try exact rfl) rfl ?_)
 simp only [dRun, endsD_some, then_normal]
 refine code_seq ?_
 refine code_seq ?_
 refine code_draw (n := 13) (ms := [0, 1, 3, 7, 15, 31, 63, 7, 135, 511, 7, 2047, 4095]) (ord := [0, 1, 2, 3, 4, 5, 6, 7, 8, 9, 10, 11, 12]) (ds := ?_) ?_ ?_ ?_ ?_ ?_ ?_
 rotate_left
 ·kernel_rfl
 ·kernel_rfl
 ·kernel_rfl
 ·rfl
 ·rfl
 iterate 13 (refine drun_true (by first | rfl | (simp only [wanted, go_sem, Nat.reduceLT, Nat.reduceAdd, Nat.reduceEqDiff, reduceIte, reduceCtorEq, e0, e1, faS0, fa158_1, Nat.add_zero, ldHp, ldW, p0 _ gV, c1 _ gV, gg47, t4])) (by simp only [aDrawOne, heavy, aReads, eqVal_self, go_sem, Nat.reduceLT, Nat.reduceAdd, Nat.reduceEqDiff, reduceIte, reduceCtorEq, e0, e1, faS0, fa158_1, Nat.add_zero, ldHp, ldW, p0 _ gV, c1 _ gV, gg47, t4]; try exact rfl) rfl ?_)
 simp only [dRun, endsD_some, then_normal]
 repeat (first | refine code_seq ?_ | ((first | (refine code_region ?_ ?_; (focus rfl)) | (refine code_guards (gs := ?_) ?_ ?_; rotate_left; (focus rfl))); simp only [run1, run2, wanted, go_sem, Nat.reduceLT, Nat.reduceAdd, Nat.reduceEqDiff, reduceIte, reduceCtorEq, fa158_0, fa158_1, ldW, c0 _ gW, c1 _ gY, gg44, t5, t6, e1, e2, e3, aBuiltin, aLen, Tryz.underlying114, cast_nat, e10]) | (refine code_cond_true ?_ ?_; (focus (simp only [aev, regAt_set, Nat.reduceEqDiff, reduceIte, fa158_0, fa158_1, ldW, c0 _ gW, c1 _ gY, gg44, t5, t6, e1, e2, e3, aBuiltin, aLen, Tryz.underlying114, cast_nat, e10]; done))) | (refine code_cond_false ?_ ?_; (focus (simp only [aev, regAt_set, Nat.reduceEqDiff, reduceIte, fa158_0, fa158_1, ldW, c0 _ gW, c1 _ gY, gg44, t5, t6, e1, e2, e3, aBuiltin, aLen, Tryz.underlying114, cast_nat, e10]; done))) | ((first | refine code_skip ?_ | refine code_label ?_ | refine code_exit ?_); try simp only [then_exit, then_normal, blockC, Nat.reduceEqDiff, reduceIte]) | refine code_block ?_)
 refine code_loop ?_
 repeat (first | refine code_seq ?_ | ((first | (refine code_region ?_ ?_; (focus rfl)) | (refine code_guards (gs := ?_) ?_ ?_; rotate_left; (focus rfl))); simp only [run1, run2, wanted, go_sem, Nat.reduceLT, Nat.reduceAdd, Nat.reduceEqDiff, reduceIte, reduceCtorEq, e4]) | (refine code_cond_true ?_ ?_; (focus (simp only [aev, regAt_set, Nat.reduceEqDiff, reduceIte, e4]; done))) | (refine code_cond_false ?_ ?_; (focus (simp only [aev, regAt_set, Nat.reduceEqDiff, reduceIte, e4]; done))) | ((first | refine code_skip ?_ | refine code_label ?_ | refine code_exit ?_); try simp only [then_exit, then_normal, blockC, Nat.reduceEqDiff, reduceIte]) | refine code_block ?_)
 refine code_draw (n := 13) (ms := [0, 0, 0, 6, 14, 0, 0, 96, 224, 510, 1022, 2047, 4095]) (ord := [0, 1, 2, 3, 4, 5, 6, 7, 8, 9, 10, 11, 12]) (ds := ?_) ?_ ?_ ?_ ?_ ?_ ?_
 rotate_left
 ·kernel_rfl
 ·kernel_rfl
 ·kernel_rfl
 ·rfl
 ·rfl
 iterate 13 (refine drun_true (by first | rfl | (simp only [wanted, go_sem, Nat.reduceLT, Nat.reduceAdd, Nat.reduceEqDiff, reduceIte, reduceCtorEq, ixa0, ldW, d3, ixb0, d4, bd0, bs0, t7])) (by simp only [aDrawOne, heavy, aReads, eqVal_self, go_sem, Nat.reduceLT, Nat.reduceAdd, Nat.reduceEqDiff, reduceIte, reduceCtorEq, ixa0, ldW, d3, ixb0, d4, bd0, bs0, t7]; try exact rfl) rfl ?_)
 simp only [dRun, endsD_some, then_normal]
 repeat (first | refine code_seq ?_ | ((first | (refine code_region ?_ ?_; (focus rfl)) | (refine code_guards (gs := ?_) ?_ ?_; rotate_left; (focus rfl))); simp only [run1, run2, wanted, go_sem, Nat.reduceLT, Nat.reduceAdd, Nat.reduceEqDiff, reduceIte, reduceCtorEq, e7]) | (refine code_cond_true ?_ ?_; (focus (simp only [aev, regAt_set, Nat.reduceEqDiff, reduceIte, e7]; done))) | (refine code_cond_false ?_ ?_; (focus (simp only [aev, regAt_set, Nat.reduceEqDiff, reduceIte, e7]; done))) | ((first | refine code_skip ?_ | refine code_label ?_ | refine code_exit ?_); try simp only [then_exit, then_normal, blockC, Nat.reduceEqDiff, reduceIte]) | refine code_block ?_)
 refine code_loop ?_
 repeat (first | refine code_seq ?_ | ((first | (refine code_region ?_ ?_; (focus rfl)) | (refine code_guards (gs := ?_) ?_ ?_; rotate_left; (focus rfl))); simp only [run1, run2, wanted, go_sem, Nat.reduceLT, Nat.reduceAdd, Nat.reduceEqDiff, reduceIte, reduceCtorEq, e5]) | (refine code_cond_true ?_ ?_; (focus (simp only [aev, regAt_set, Nat.reduceEqDiff, reduceIte, e5]; done))) | (refine code_cond_false ?_ ?_; (focus (simp only [aev, regAt_set, Nat.reduceEqDiff, reduceIte, e5]; done))) | ((first | refine code_skip ?_ | refine code_label ?_ | refine code_exit ?_); try simp only [then_exit, then_normal, blockC, Nat.reduceEqDiff, reduceIte]) | refine code_block ?_)
 refine code_draw (n := 13) (ms := [0, 0, 0, 6, 14, 0, 0, 96, 224, 510, 1022, 2047, 4095]) (ord := [0, 1, 2, 3, 4, 5, 6, 7, 8, 9, 10, 11, 12]) (ds := ?_) ?_ ?_ ?_ ?_ ?_ ?_
 rotate_left
 ·kernel_rfl
 ·kernel_rfl
 ·kernel_rfl
 ·rfl
 ·rfl
 iterate 13 (refine drun_true (by first | rfl | (simp only [wanted, go_sem, Nat.reduceLT, Nat.reduceAdd, Nat.reduceEqDiff, reduceIte, reduceCtorEq, ixa1, ldW, d5, ixb1, d6, bd1, bs1, t8])) (by simp only [aDrawOne, heavy, aReads, eqVal_self, go_sem, Nat.reduceLT, Nat.reduceAdd, Nat.reduceEqDiff, reduceIte, reduceCtorEq, ixa1, ldW, d5, ixb1, d6, bd1, bs1, t8]; try exact rfl) rfl ?_)
 simp only [dRun, endsD_some, then_normal]
 repeat (first | refine code_seq ?_ | ((first | (refine code_region ?_ ?_; (focus rfl)) | (refine code_guards (gs := ?_) ?_ ?_; rotate_left; (focus rfl))); simp only [run1, run2, wanted, go_sem, Nat.reduceLT, Nat.reduceAdd, Nat.reduceEqDiff, reduceIte, reduceCtorEq, e8]) | (refine code_cond_true ?_ ?_; (focus (simp only [aev, regAt_set, Nat.reduceEqDiff, reduceIte, e8]; done))) | (refine code_cond_false ?_ ?_; (focus (simp only [aev, regAt_set, Nat.reduceEqDiff, reduceIte, e8]; done))) | ((first | refine code_skip ?_ | refine code_label ?_ | refine code_exit ?_); try simp only [then_exit, then_normal, blockC, Nat.reduceEqDiff, reduceIte]) | refine code_block ?_)
 refine code_loop ?_
 repeat (first | refine code_seq ?_ | ((first | (refine code_region ?_ ?_; (focus rfl)) | (refine code_guards (gs := ?_) ?_ ?_; rotate_left; (focus rfl))); simp only [run1, run2, wanted, go_sem, Nat.reduceLT, Nat.reduceAdd, Nat.reduceEqDiff, reduceIte, reduceCtorEq, e6, aBuiltin, aLen, Tryz.underlying114, cast_nat, e9]) | (refine code_cond_true ?_ ?_; (focus (simp only [aev, regAt_set, Nat.reduceEqDiff, reduceIte, e6, aBuiltin, aLen, Tryz.underlying114, cast_nat, e9]; done))) | (refine code_cond_false ?_ ?_; (focus (simp only [aev, regAt_set, Nat.reduceEqDiff, reduceIte, e6, aBuiltin, aLen, Tryz.underlying114, cast_nat, e9]; done))) | ((first | refine code_skip ?_ | refine code_label ?_ | refine code_exit ?_); try simp only [then_exit, then_normal, blockC, Nat.reduceEqDiff, reduceIte]) | refine code_block ?_)
 refine code_ret ?_
 refine ⟨rfl, _, ?_, v8, rfl, ⟨o8.good, (g1.trans gZ).trans o8.grow, fun i hi => ⟨Nat.le_trans (g1.trans gZ).1 (o8.above i hi).1, (o8.above i hi).2⟩⟩⟩
 simp only [aResults, Tryz.results23, aRes, regAt_set, Nat.reduceEqDiff, reduceIte]
end
noncomputable section
variable {X : FuncId → List Value → Mem → Option (Value × Mem)}
theorem idx2 {ρ : Operand → Value} {x y : Operand} {i n c m : Nat} (hx : ρ x = .slice (some ⟨i, 0, none⟩) n c) (hy : ρ y = .int .i64 (.ofNat m)) (hm : m < n) : aIndexAddr Tryz.prog ρ 81 x y = some (.pointer (some ⟨i, m * 2, none⟩)) := by
 rw [indexAddr_sz (P := Tryz.prog) Tryz.underlying81 j158 hx hy hm, Nat.zero_add]
 rfl
set_option maxRecDepth 20000 in
set_option maxHeartbeats 4000000 in
theorem rev_two {g i c a b x y : Nat} {μ0 μ : Mem} (hg : 40 ≤ g) (h : OwnK 80 2 none μ0 μ (.slice (some ⟨i, 0, none⟩) 2 c) 2 (twoL a b ++ twoL x y)) :
  EndsF (aFun Tryz.prog (aCode Tryz.prog X S0 g) 24 [.slice (some ⟨i, 0, none⟩) 2 c] μ) fun _ μ' => OwnK 80 2 none μ0 μ' (.slice (some ⟨i, 0, none⟩) 2 c) 2 (twoL x y ++ twoL a b) ∧ μ.next ≤ μ'.next ∧ ∀ j, j ≠ i → μ'.obs.get j = μ.obs.get j := by
 obtain ⟨k, rfl⟩ := Nat.exists_eq_add_of_le' hg
 have hU := h.keep (grow_up μ 16)
 have f0 : Has ⟨μ.obs, μ.next + 16⟩ i 0 (twoL a b) := hU.good.has (a := []) (b := twoL x y) rfl
 have f1 : Has ⟨μ.obs, μ.next + 16⟩ i 2 (twoL x y) := hU.good.has (a := twoL a b) (b := []) rfl
 have ld0 := lds158 f0 rfl
 have ld1 := lds158 f1 rfl
 obtain ⟨M, hb, hM⟩ := hU.good.blk
 have hM : 4 ≤ M := hM
 have st0 := store_puts (P := Tryz.prog) (t := 80) (vs := twoL x y) (o := 0) j158 rfl rfl hb (show 0 + 2 ≤ M by omega)
 have st1 := store_puts (P := Tryz.prog) (t := 80) (vs := twoL a b) (o := 2) j158 rfl rfl (Blk.put (i := i) 0 (twoL x y) hb) (show 2 + 2 ≤ M by omega)
 have ix0 : ∀ (ρ : Operand → Value) (p q : Operand), ρ p = .slice (some ⟨i, 0, none⟩) 2 c → ρ q = .int .i64 0 → aIndexAddr Tryz.prog ρ 81 p q = some (.pointer (some ⟨i, 0, none⟩)) := fun ρ p q h1 h2 => idx2 (m := 0) h1 h2 (by decide)
 have ix1 : ∀ (ρ : Operand → Value) (p q : Operand), ρ p = .slice (some ⟨i, 0, none⟩) 2 c → ρ q = .int .i64 1 → aIndexAddr Tryz.prog ρ 81 p q = some (.pointer (some ⟨i, 2, none⟩)) := fun ρ p q h1 h2 => idx2 (m := 1) h1 h2 (by decide)
 have e1 : qwrap .i64 (Int.sub (.ofNat 2) 1) = 1 := rfl
 have e2 : ilt 0 1 = true := rfl
 have e3 : qwrap .i64 (Int.add 0 1) = 1 := rfl
 have e4 : qwrap .i64 (Int.sub 1 1) = 0 := rfl
 have e5 : ilt 1 0 = false := rfl
 have hi : μ0.next ≤ i := (h.above i ⟨_, _, rfl⟩).1
 have hin : i < μ.next := (h.above i ⟨_, _, rfl⟩).2
 have fin : OwnK 80 2 none μ0 (putL (putL ⟨μ.obs, μ.next + 16⟩ i 0 (twoL x y)) i 2 (twoL a b)) (.slice (some ⟨i, 0, none⟩) 2 c) 2 (twoL x y ++ twoL a b) ∧ μ.next ≤ (putL (putL ⟨μ.obs, μ.next + 16⟩ i 0 (twoL x y)) i 2 (twoL a b)).next ∧ ∀ j, j ≠ i → (putL (putL ⟨μ.obs, μ.next + 16⟩ i 0 (twoL x y)) i 2 (twoL a b)).obs.get j = μ.obs.get j := by
  have hn : (putL (putL ⟨μ.obs, μ.next + 16⟩ i 0 (twoL x y)) i 2 (twoL a b)).next = μ.next + 16 := by rw [putL_next, putL_next]
  refine ⟨⟨hU.good.swap rfl rfl, (hU.grow.put_new hi).put_new hi, fun j hj => ?_⟩, by omega, fun j hj => by rw [putL_get _ _ _ _ hj, putL_get _ _ _ _ hj]⟩
  rw [hn]
  have := h.above j hj
  omega
 refine fun_enter Tryz.func24 rfl rfl (Nat.le_of_ble_eq_true rfl) ?_
 simp only [T.lay, Nat.zero_add, Tryz.ntmps24, Nat.reduceAdd]
 repeat (first | refine code_seq ?_ | ((first | (refine code_region ?_ ?_; (focus rfl)) | (refine code_guards (gs := ?_) ?_ ?_; rotate_left; (focus rfl))); simp only [run1, run2, wanted, go_sem, Nat.reduceLT, Nat.reduceAdd, Nat.reduceEqDiff, reduceIte, reduceCtorEq, aBuiltin, aLen, Tryz.underlying81, cast_nat, e1, e2, e3, e4, e5]) | (refine code_cond_true ?_ ?_; (focus (simp only [aev, regAt_set, Nat.reduceEqDiff, reduceIte, aBuiltin, aLen, Tryz.underlying81, cast_nat, e1, e2, e3, e4, e5]; done))) | (refine code_cond_false ?_ ?_; (focus (simp only [aev, regAt_set, Nat.reduceEqDiff, reduceIte, aBuiltin, aLen, Tryz.underlying81, cast_nat, e1, e2, e3, e4, e5]; done))) | ((first | refine code_skip ?_ | refine code_label ?_ | refine code_exit ?_); try simp only [then_exit, then_normal, blockC, Nat.reduceEqDiff, reduceIte]) | refine code_block ?_ | refine code_loop ?_)
 refine code_draw (n := 16) (ms := [0, 0, 0, 0, 0, 0, 48, 112, 0, 0, 768, 1792, 4083, 8179, 16383, 32767]) (ord := [0, 1, 4, 5, 6, 7, 8, 9, 10, 11, 12, 13, 2, 3, 14, 15]) (ds := ?_) ?_ ?_ ?_ ?_ ?_ ?_
 rotate_left
 ·kernel_rfl
 ·kernel_rfl
 ·kernel_rfl
 ·rfl
 ·rfl
 iterate 16 (refine drun_true (by first | rfl | (simp only [wanted, go_sem, Nat.reduceLT, Nat.reduceAdd, Nat.reduceEqDiff, reduceIte, reduceCtorEq, ix0, ix1, ld0, ld1, st0, st1])) (by simp only [aDrawOne, heavy, aReads, eqVal_self, go_sem, Nat.reduceLT, Nat.reduceAdd, Nat.reduceEqDiff, reduceIte, reduceCtorEq, ix0, ix1, ld0, ld1, st0, st1]; try exact rfl) rfl ?_)
 simp only [dRun, endsD_some, then_normal]
 repeat (first | refine code_seq ?_ | ((first | (refine code_region ?_ ?_; (focus rfl)) | (refine code_guards (gs := ?_) ?_ ?_; rotate_left; (focus rfl))); simp only [run1, run2, wanted, go_sem, Nat.reduceLT, Nat.reduceAdd, Nat.reduceEqDiff, reduceIte, reduceCtorEq, e3, e4, e5]) | (refine code_cond_true ?_ ?_; (focus (simp only [aev, regAt_set, Nat.reduceEqDiff, reduceIte, e3, e4, e5]; done))) | (refine code_cond_false ?_ ?_; (focus (simp only [aev, regAt_set, Nat.reduceEqDiff, reduceIte, e3, e4, e5]; done))) | ((first | refine code_skip ?_ | refine code_label ?_ | refine code_exit ?_); try simp only [then_exit, then_normal, blockC, Nat.reduceEqDiff, reduceIte]) | refine code_block ?_ | refine code_loop ?_)
 exact ⟨rfl, _, rfl, fin⟩
end
noncomputable section
variable {X : FuncId → List Value → Mem → Option (Value × Mem)}
structure RingW (ws : Nat → Nat) (c m : Nat) (x : Nat → Int) (f0 : Bool) : Prop where
 hd : ∀ i, i < m → ws (adr (c + i)) = headW 0 0 2
 car : ∀ i, i < m → ws (adr (c + i) + 1 + 0) = if f0 = true ∧ i + 1 = m then placeW (adr c) else sw (x i)
 cdr : ∀ i, i < m → ws (adr (c + i) + 1 + 1) = if i + 1 < m then placeW (adr (c + (i + 1))) else if f0 = true then 21 else placeW (adr c)
 top : c + m ≤ 100
theorem slice2 {ρ : Operand → Value} {x y : Operand} {a : Addr} {n m c : Nat} (hx : ρ x = .slice (some a) n c) (hy : ρ y = .int .i64 (.ofNat m)) (hm : m ≤ n) (hc : CapOk n c) : aSlice Tryz.prog ρ 81 x none (some y) none = some (.slice (some a) m c) := by
 unfold aSlice
 simp only [hx, Tryz.underlying81, j158]
 rcases hc with ⟨c1, c2⟩ | c1
 ·have e1 : Nat.beq (Nat.mod c 2) 0 = true := by rw [show Nat.mod c 2 = 0 from c1]; rfl
  have e3 : Nat.ble m (Nat.div c 2) = true := Nat.ble_eq_true_of_le (by show m ≤ c / 2; omega)
  simp only [e1, aBounds, aBound, hy, e3]
  have e4 : a.add (Nat.mul 0 Tryz.t80.size) = a := by rw [show Nat.mul 0 Tryz.t80.size = 0 from Nat.zero_mul _]; rfl
  rw [e4, show Nat.mul 2 (Nat.sub (Nat.div c 2) 0) = c from by show 2 * (c / 2) = c; omega, show Nat.sub m 0 = m from rfl]
  split <;> rfl
 ·have e1 : Nat.beq (Nat.mod c 2) 0 = false := by rw [show Nat.mod c 2 = 1 from c1]; rfl
  have e3 : Nat.ble m n = true := Nat.ble_eq_true_of_le hm
  simp only [e1, aBounds, aBound, hy, e3]
  rfl
theorem app_nil2 {μ : Mem} {i l c : Nat} (hl : l < 1000000) (hc : c % 2 = 1) : aAppend Tryz.prog μ 81 81 (.slice (some ⟨i, 0, none⟩) l c) (.slice none 0 0) = some (.slice (some ⟨i, 0, none⟩) l c, μ) := by
 have e1 : Nat.beq (Nat.mod c 2) 0 = false := by rw [show Nat.mod c 2 = 1 from hc]; rfl
 have e2 : Nat.ble (Nat.add l 0) 67108864 = true := Nat.ble_eq_true_of_le (by show l + 0 ≤ _; omega)
 unfold aAppend
 simp only [Tryz.underlying81, j158, z158, lenV, srcCells]
 show aAppendTo Tryz.prog μ 80 2 0 [] (.slice (some ⟨i, 0, none⟩) l c) = _
 unfold aAppendTo
 simp only [e1, e2]
set_option maxRecDepth 20000 in
set_option maxHeartbeats 4000000 in
theorem equal_pair {K sp hp ap wb lb N L qa qb n many : Nat} {ws : Nat → Nat} {p : Pos} {d : Option Nat} {μ0 μ : Mem} {tm : T Value} {v : Value} {ys : List Value} {Q : Ax → Rg → Mem → Prop} (hK : 1100 ≤ K) (h : SP μ0 sp hp ap wb lb N L ws p) (ha : qa + 2 < N) (hb : qb + 2 < N) (wa : ws qa = headW 0 0 2) (wb_ : ws qb = headW 0 0 2) (hne : qa ≠ qb)
  (ho : OwnK 80 2 d μ0 μ v (n + 1) (ys ++ twoL (placeW qa) (placeW qb))) (hy : ys.length = n * 2) (hd : ∀ d', d = some d' → d' = 0) (hn : n < 100000) (hm : many < 10000)
  (r0 : regAt tm 0 = .pointer (some ⟨sp, 0, none⟩)) (r8 : regAt tm 8 = v) (r9 : regAt tm 9 = .int .i64 (.ofNat many))
  (hQ : ∀ v' μ' tm', OwnK 80 2 none μ0 μ' v' (n + 2) (ys ++ (twoL (ws (qa + 1 + 1)) (ws (qb + 1 + 1)) ++ twoL (ws (qa + 1 + 0)) (ws (qb + 1 + 0)))) → regAt tm' 0 = .pointer (some ⟨sp, 0, none⟩) → regAt tm' 8 = v' → regAt tm' 9 = .int .i64 (.ofNat (many + 1)) →
   EndsC (aCode Tryz.prog X S0 K (.loop (loopBody Tryz.f9 0)) ⟨45, tm', [], none⟩ μ') Q) :
  EndsC (aCode Tryz.prog X S0 (K + 1) (.loop (loopBody Tryz.f9 0)) ⟨45, tm, [], none⟩ μ) Q := by
 obtain ⟨k, rfl⟩ := Nat.exists_eq_add_of_le' hK
 obtain ⟨wi, cv, rfl, hcap⟩ := ho.good.at_ (Nat.succ_pos n)
 have hw := ho.above wi ⟨_, _, rfl⟩
 have f0 : Has μ wi (n * 2) (twoL (placeW qa) (placeW qb)) := hy ▸ ho.good.has (a := ys) (b := []) (by rw [List.append_nil])
 have hld := lds158 f0 rfl
 obtain ⟨v1, μ1, t1, u1, rfl, o1⟩ := alike_pair (X := X) (g := k + 1093) (by omega) (h.grow ho.grow) ha hb wa wb_ hne
 obtain ⟨a, hwa⟩ : ∃ w, w = placeW qa := ⟨_, rfl⟩
 obtain ⟨b, hwb⟩ : ∃ w, w = placeW qb := ⟨_, rfl⟩
 obtain ⟨x0, hx0⟩ : ∃ w, w = ws (qa + 1 + 0) := ⟨_, rfl⟩
 obtain ⟨x1, hx1⟩ : ∃ w, w = ws (qa + 1 + 1) := ⟨_, rfl⟩
 obtain ⟨y0, hy0⟩ : ∃ w, w = ws (qb + 1 + 0) := ⟨_, rfl⟩
 obtain ⟨y1, hy1⟩ : ∃ w, w = ws (qb + 1 + 1) := ⟨_, rfl⟩
 rw [← hx0, ← hx1, ← hy0, ← hy1] at o1
 rw [← hx0, ← hx1, ← hy0, ← hy1] at hQ
 rw [← hwa, ← hwb] at hld t1
 obtain ⟨mi, cm, rfl, _⟩ := o1.good.at_ (by decide)
 obtain ⟨v2, μ2, t2, o2, n2, k2⟩ := rev_two (X := X) (g := k + 1091) (by omega) o1
 have ho2 := ho.keep o2.grow
 have ht : OwnK 80 2 (d.map fun t => t + 1) μ0 μ2 (.slice (some ⟨wi, 0, none⟩) n cv) n ys := ⟨ho2.good.take hy, ho2.grow, fun j hj => by
  obtain ⟨l, c, e⟩ := hj
  injection e with e1
  injection e1 with e2
  injection e2 with e3
  exact ho2.above j ⟨_, _, by rw [e3]⟩⟩
 obtain ⟨v3, μ3, t3, o3, _⟩ := ht.app (P := Tryz.prog) (st := 81) (xt := 81) (x := .slice (some ⟨mi, 0, none⟩) 2 cm) (n := 2) (ys := twoL x1 y1 ++ twoL x0 y0) Tryz.underlying81 j158 rfl (by decide) rfl z158 rfl (by rw [Tryz.underlying81]) rfl (o2.good.src (by decide)) rfl (by omega) (scalars_one _ rfl) (by decide) (fun d' e => by
  cases d with
  | none => cases e
  | some d0 =>
    have := hd d0 rfl
    have e : some (d0 + 1) = some d' := e
    injection e with e
    omega)
 obtain ⟨n1, hn1⟩ : ∃ n1, n1 = n + 1 := ⟨_, rfl⟩
 have hsl : ∀ (ρ : Operand → Value) (x y : Operand), ρ x = .slice (some ⟨wi, 0, none⟩) n1 cv → ρ y = .int .i64 (.ofNat n) → aSlice Tryz.prog ρ 81 x none (some y) none = some (.slice (some ⟨wi, 0, none⟩) n cv) := fun ρ x y h1 h2 => slice2 h1 h2 (by omega) (by rw [hn1]; exact hcap)
 have hix : ∀ (ρ : Operand → Value) (a b : Operand), ρ a = .slice (some ⟨wi, 0, none⟩) n1 cv → ρ b = .int .i64 (.ofNat n) → aIndexAddr Tryz.prog ρ 81 a b = some (.pointer (some ⟨wi, n * 2, none⟩)) := fun ρ a b h1 h2 => idx2 h1 h2 (by omega)
 have e1 : ilt 0 (.ofNat n1) = true := (ilt_nat 0 n1).trans (decide_eq_true (by omega))
 have e2 : ilt (.ofNat many) 10000 = true := (ilt_nat many 10000).trans (decide_eq_true hm)
 have e3 : qwrap .i64 (Int.sub (.ofNat n1) 1) = .ofNat n := by rw [hn1]; exact sub_nat (n + 1) 1 (by omega) (by omega)
 have e4 : qwrap .i64 (Int.add (.ofNat many) 1) = .ofNat (many + 1) := add_nat many 1 (by omega)
 rw [← hn1] at r8
 refine code_loop ?_
 repeat (first | refine code_seq ?_ | ((first | (refine code_region ?_ ?_; (focus rfl)) | (refine code_guards (gs := ?_) ?_ ?_; rotate_left; (focus rfl))); simp only [run1, run2, wanted, go_sem, Nat.reduceLT, Nat.reduceAdd, Nat.reduceEqDiff, reduceIte, reduceCtorEq, r0, r8, r9, aBuiltin, aLen, Tryz.underlying81, cast_nat, e1, e2, e3, hix, hld, gg23, t1, gg24, t2, hsl, t3, e4]) | (refine code_cond_true ?_ ?_; (focus (simp only [aev, regAt_set, Nat.reduceEqDiff, reduceIte, r0, r8, r9, aBuiltin, aLen, Tryz.underlying81, cast_nat, e1, e2, e3, hix, hld, gg23, t1, gg24, t2, hsl, t3, e4]; done))) | (refine code_cond_false ?_ ?_; (focus (simp only [aev, regAt_set, Nat.reduceEqDiff, reduceIte, r0, r8, r9, aBuiltin, aLen, Tryz.underlying81, cast_nat, e1, e2, e3, hix, hld, gg23, t1, gg24, t2, hsl, t3, e4]; done))) | ((first | refine code_skip ?_ | refine code_label ?_ | refine code_exit ?_); try simp only [then_exit, then_normal, blockC, Nat.reduceEqDiff, reduceIte]) | refine code_block ?_)
 refine hQ v3 μ3 _ o3 ?_ ?_ ?_ <;> simp only [regAt_set, Nat.reduceEqDiff, reduceIte, r0]
end
noncomputable section
variable {X : FuncId → List Value → Mem → Option (Value × Mem)}
set_option maxRecDepth 20000 in
set_option maxHeartbeats 4000000 in
theorem equal_word {K sp n many w : Nat} {μ0 μ : Mem} {tm : T Value} {v : Value} {ys : List Value} {Q : Ax → Rg → Mem → Prop} (hK : 200 ≤ K)
  (ho : OwnK 80 2 none μ0 μ v (n + 1) (ys ++ twoL w w)) (hy : ys.length = n * 2) (hn : n < 100000) (hm : many < 10000)
  (r0 : regAt tm 0 = .pointer (some ⟨sp, 0, none⟩)) (r8 : regAt tm 8 = v) (r9 : regAt tm 9 = .int .i64 (.ofNat many))
  (hQ : ∀ v' μ' tm', OwnK 80 2 none μ0 μ' v' n ys → regAt tm' 0 = .pointer (some ⟨sp, 0, none⟩) → regAt tm' 8 = v' → regAt tm' 9 = .int .i64 (.ofNat (many + 1)) →
   EndsC (aCode Tryz.prog X S0 K (.loop (loopBody Tryz.f9 0)) ⟨45, tm', [], none⟩ μ') Q) :
  EndsC (aCode Tryz.prog X S0 (K + 1) (.loop (loopBody Tryz.f9 0)) ⟨45, tm, [], none⟩ μ) Q := by
 obtain ⟨k, rfl⟩ := Nat.exists_eq_add_of_le' hK
 obtain ⟨wi, cv, rfl, hcap⟩ := ho.good.at_ (Nat.succ_pos n)
 have f0 : Has μ wi (n * 2) (twoL w w) := hy ▸ ho.good.has (a := ys) (b := []) (by rw [List.append_nil])
 have hld := lds158 f0 rfl
 obtain ⟨v1, μ1, t1, rfl, g1⟩ := alike_same (X := X) (g := k + 193) (sp := sp) (w := w) (μ := μ) (by omega)
 obtain ⟨v2, t2⟩ := rev_nil (X := X) (g := k + 191) (μ := μ1) (by omega)
 have ho2 := ho.keep g1
 have ht : OwnK 80 2 none μ0 μ1 (.slice (some ⟨wi, 0, none⟩) n cv) n ys := ⟨ho2.good.take hy, ho2.grow, fun j hj => by
  obtain ⟨l, c, e⟩ := hj
  injection e with e1
  injection e1 with e2
  injection e2 with e3
  exact ho2.above j ⟨_, _, by rw [e3]⟩⟩
 have hc1 : cv % 2 = 1 := by
  rcases ho.good.cap with ⟨_, _, d', e, _⟩ | h
  ·cases e
  ·exact h.1
 have t3 := app_nil2 (μ := μ1) (i := wi) (l := n) (c := cv) (by omega) hc1
 obtain ⟨n1, hn1⟩ : ∃ n1, n1 = n + 1 := ⟨_, rfl⟩
 have hsl : ∀ (ρ : Operand → Value) (x y : Operand), ρ x = .slice (some ⟨wi, 0, none⟩) n1 cv → ρ y = .int .i64 (.ofNat n) → aSlice Tryz.prog ρ 81 x none (some y) none = some (.slice (some ⟨wi, 0, none⟩) n cv) := fun ρ x y h1 h2 => slice2 h1 h2 (by omega) (.inr hc1)
 have hix : ∀ (ρ : Operand → Value) (a b : Operand), ρ a = .slice (some ⟨wi, 0, none⟩) n1 cv → ρ b = .int .i64 (.ofNat n) → aIndexAddr Tryz.prog ρ 81 a b = some (.pointer (some ⟨wi, n * 2, none⟩)) := fun ρ a b h1 h2 => idx2 h1 h2 (by omega)
 have e1 : ilt 0 (.ofNat n1) = true := (ilt_nat 0 n1).trans (decide_eq_true (by omega))
 have e2 : ilt (.ofNat many) 10000 = true := (ilt_nat many 10000).trans (decide_eq_true hm)
 have e3 : qwrap .i64 (Int.sub (.ofNat n1) 1) = .ofNat n := by rw [hn1]; exact sub_nat (n + 1) 1 (by omega) (by omega)
 have e4 : qwrap .i64 (Int.add (.ofNat many) 1) = .ofNat (many + 1) := add_nat many 1 (by omega)
 rw [← hn1] at r8
 refine code_loop ?_
 repeat (first | refine code_seq ?_ | ((first | (refine code_region ?_ ?_; (focus rfl)) | (refine code_guards (gs := ?_) ?_ ?_; rotate_left; (focus rfl))); simp only [run1, run2, wanted, go_sem, Nat.reduceLT, Nat.reduceAdd, Nat.reduceEqDiff, reduceIte, reduceCtorEq, r0, r8, r9, aBuiltin, aLen, Tryz.underlying81, cast_nat, e1, e2, e3, hix, hld, gg23, t1, gg24, t2, hsl, t3, e4]) | (refine code_cond_true ?_ ?_; (focus (simp only [aev, regAt_set, Nat.reduceEqDiff, reduceIte, r0, r8, r9, aBuiltin, aLen, Tryz.underlying81, cast_nat, e1, e2, e3, hix, hld, gg23, t1, gg24, t2, hsl, t3, e4]; done))) | (refine code_cond_false ?_ ?_; (focus (simp only [aev, regAt_set, Nat.reduceEqDiff, reduceIte, r0, r8, r9, aBuiltin, aLen, Tryz.underlying81, cast_nat, e1, e2, e3, hix, hld, gg23, t1, gg24, t2, hsl, t3, e4]; done))) | ((first | refine code_skip ?_ | refine code_label ?_ | refine code_exit ?_); try simp only [then_exit, then_normal, blockC, Nat.reduceEqDiff, reduceIte]) | refine code_block ?_)
 exact hQ _ μ1 _ ht (by simp only [regAt_set, Nat.reduceEqDiff, reduceIte, r0]) (by simp only [regAt_set, Nat.reduceEqDiff, reduceIte]) (by simp only [regAt_set, Nat.reduceEqDiff, reduceIte])
set_option maxRecDepth 20000 in
set_option maxHeartbeats 4000000 in
theorem equal_out {K n : Nat} {d : Option Nat} {μ0 μ : Mem} {tm : T Value} {v : Value} {xs : List Value} (hK : 30 ≤ K) (ho : OwnK 80 2 d μ0 μ v (n + 1) xs) (r8 : regAt tm 8 = v) (r9 : regAt tm 9 = .int .i64 (.ofNat 10000)) :
  EndsC (aCode Tryz.prog X S0 (K + 1) (.loop (loopBody Tryz.f9 0)) ⟨45, tm, [], none⟩ μ) fun a r μ' => a = .ret ∧ Grow μ0 μ' ∧ ∃ tm', r = ⟨45, tm', [], none⟩ ∧ regAt tm' 6 = .bool false ∧ regAt tm' 7 = .int .i64 181 := by
 obtain ⟨k, rfl⟩ := Nat.exists_eq_add_of_le' hK
 obtain ⟨wi, cv, rfl, hcap⟩ := ho.good.at_ (Nat.succ_pos n)
 have g0 := ho.grow
 obtain ⟨n1, hn1⟩ : ∃ n1, n1 = n + 1 := ⟨_, rfl⟩
 have e1 : ilt 0 (.ofNat n1) = true := (ilt_nat 0 n1).trans (decide_eq_true (by omega))
 have e2 : ilt (.ofNat 10000) 10000 = false := rfl
 rw [← hn1] at r8
 refine code_loop ?_
 repeat (first | refine code_seq ?_ | ((first | (refine code_region ?_ ?_; (focus rfl)) | (refine code_guards (gs := ?_) ?_ ?_; rotate_left; (focus rfl))); simp only [run1, run2, wanted, go_sem, Nat.reduceLT, Nat.reduceAdd, Nat.reduceEqDiff, reduceIte, reduceCtorEq, r8, r9, aBuiltin, aLen, Tryz.underlying81, cast_nat, e1, e2]) | (refine code_cond_true ?_ ?_; (focus (simp only [aev, regAt_set, Nat.reduceEqDiff, reduceIte, r8, r9, aBuiltin, aLen, Tryz.underlying81, cast_nat, e1, e2]; done))) | (refine code_cond_false ?_ ?_; (focus (simp only [aev, regAt_set, Nat.reduceEqDiff, reduceIte, r8, r9, aBuiltin, aLen, Tryz.underlying81, cast_nat, e1, e2]; done))) | ((first | refine code_skip ?_ | refine code_label ?_ | refine code_exit ?_); try simp only [then_exit, then_normal, blockC, Nat.reduceEqDiff, reduceIte]) | refine code_block ?_)
 refine code_ret ?_
 refine ⟨rfl, g0, _, rfl, ?_, ?_⟩ <;> simp only [regAt_set, Nat.reduceEqDiff, reduceIte]
theorem ring_next {ws : Nat → Nat} {c m i : Nat} {x : Nat → Int} {f0 : Bool} (h : RingW ws c m x f0) (hi : i < m) :
  (f0 = true ∧ i + 1 = m ∧ ws (adr (c + i) + 1 + 0) = placeW (adr (c + 0)) ∧ ws (adr (c + i) + 1 + 1) = 21) ∨ (∃ j, j < m ∧ ws (adr (c + i) + 1 + 0) = sw (x i) ∧ ws (adr (c + i) + 1 + 1) = placeW (adr (c + j)) ∧ (∀ c', ∀ ws', RingW ws' c' m x f0 → ws' (adr (c' + i) + 1 + 0) = sw (x i) ∧ ws' (adr (c' + i) + 1 + 1) = placeW (adr (c' + j)))) := by
 by_cases e : f0 = true ∧ i + 1 = m
 ·refine .inl ⟨e.1, e.2, (h.car i hi).trans (if_pos e), (h.cdr i hi).trans ?_⟩
  rw [if_neg (by omega), if_pos e.1]
 ·have hc : ∀ c' ws', RingW ws' c' m x f0 → ws' (adr (c' + i) + 1 + 0) = sw (x i) := fun c' ws' h' => (h'.car i hi).trans (if_neg e)
  by_cases g : i + 1 < m
  ·have hd : ∀ c' ws', RingW ws' c' m x f0 → ws' (adr (c' + i) + 1 + 1) = placeW (adr (c' + (i + 1))) := fun c' ws' h' => (h'.cdr i hi).trans (if_pos g)
   exact .inr ⟨i + 1, g, hc c ws h, hd c ws h, fun c' ws' h' => ⟨hc c' ws' h', hd c' ws' h'⟩⟩
  ·have hf : ¬ f0 = true := fun hf => e ⟨hf, by omega⟩
   have hd : ∀ c' ws', RingW ws' c' m x f0 → ws' (adr (c' + i) + 1 + 1) = placeW (adr (c' + 0)) := fun c' ws' h' => by rw [h'.cdr i hi, if_neg g, if_neg hf]; rfl
   exact .inr ⟨0, by omega, hc c ws h, hd c ws h, fun c' ws' h' => ⟨hc c' ws' h', hd c' ws' h'⟩⟩
theorem equal_loop {sp hp ap wb lb m : Nat} {ws : Nat → Nat} {p : Pos} {μ0 : Mem} {x : Nat → Int} {f0 : Bool} (h : SP μ0 sp hp ap wb lb 2560 160 ws p) (ra : RingW ws 0 m x f0) (rb : RingW ws m m x f0) (e : Nat) :
  ∀ (r many : Nat), many + r = 10000 → ∀ (i n : Nat) (d : Option Nat) (tm : T Value) (v : Value) (ys : List Value) (μ : Mem), i < m → n ≤ many → ys.length = n * 2 → (∀ d', d = some d' → d' = 0) →
   regAt tm 0 = .pointer (some ⟨sp, 0, none⟩) → regAt tm 8 = v → regAt tm 9 = .int .i64 (.ofNat many) →
   (OwnK 80 2 d μ0 μ v (n + 1) (ys ++ twoL (placeW (adr (0 + i))) (placeW (adr (m + i)))) ∨ ∃ w, OwnK 80 2 none μ0 μ v (n + 1 + 1) ((ys ++ twoL (placeW (adr (0 + i))) (placeW (adr (m + i)))) ++ twoL w w)) →
   EndsC (aCode Tryz.prog X S0 (e + r + 1200) (.loop (loopBody Tryz.f9 0)) ⟨45, tm, [], none⟩ μ) fun a r μ' => a = .ret ∧ Grow μ0 μ' ∧ ∃ tm', r = ⟨45, tm', [], none⟩ ∧ regAt tm' 6 = .bool false ∧ regAt tm' 7 = .int .i64 181 := by
 intro r
 have tb := rb.top
 induction r with
 | zero =>
   intro many hr i n d tm v ys μ hi hn hy hd r0 r8 r9 ho
   obtain rfl : many = 10000 := hr
   rcases ho with ho | ⟨w, ho⟩
   ·exact equal_out (K := e + 1199) (by omega) ho r8 r9
   ·exact equal_out (K := e + 1199) (by omega) ho r8 r9
 | succ r ih =>
   intro many hr i n d tm v ys μ hi hn hy hd r0 r8 r9 ho
   rw [show e + (r + 1) + 1200 = (e + r + 1200) + 1 from by omega]
   rcases ho with ho | ⟨w, ho⟩
   ·have a1 := adr_top (k := 0 + i) (by omega)
    have a2 := adr_top (k := m + i) (by omega)
    refine equal_pair (by omega) h (by omega) (by omega) (ra.hd i hi) (rb.hd i hi) (adr_ne (by omega)) ho hy hd (by omega) (by omega) r0 r8 r9 fun v' μ' tm' o' q0 q8 q9 => ?_
    rcases ring_next ra hi with ⟨e1, e2, e3, e4⟩ | ⟨j, hj, e3, e4, e5⟩
    ·rcases ring_next rb hi with ⟨_, _, e5, e6⟩ | ⟨j, hj, e5, e6, _⟩
     ·rw [e3, e4, e5, e6, ← List.append_assoc] at o'
      exact ih (many + 1) (by omega) 0 (n + 1) none tm' v' (ys ++ twoL 21 21) μ' (by omega) (by omega) (by rw [List.length_append, hy]; show n * 2 + 2 = _; omega) (fun _ e => by cases e) q0 q8 q9 (.inl o')
     ·exfalso
      have := rb.car i hi
      rw [if_pos ⟨e1, e2⟩, e5] at this
      have := sw_mod (x i)
      unfold placeW at *
      omega
    ·obtain ⟨e6, e7⟩ := e5 m ws rb
     rw [e3, e4, e6, e7, ← List.append_assoc] at o'
     exact ih (many + 1) (by omega) j n none tm' v' ys μ' hj (by omega) hy (fun _ e => by cases e) q0 q8 q9 (.inr ⟨_, o'⟩)
   ·refine equal_word (by omega) ho (by rw [List.length_append, hy]; show n * 2 + 2 = _; omega) (by omega) (by omega) r0 r8 r9 fun v' μ' tm' o' q0 q8 q9 => ?_
    exact ih (many + 1) (by omega) i n none tm' v' ys μ' hi (by omega) hy (fun _ e => by cases e) q0 q8 q9 (.inl o')
set_option maxRecDepth 20000 in
set_option maxHeartbeats 4000000 in
theorem equal_rings {g sp hp ap wb lb m : Nat} {ws : Nat → Nat} {p : Pos} {μ : Mem} {x : Nat → Int} {f0 : Bool} (hg : 12000 ≤ g) (h : SP μ sp hp ap wb lb 2560 160 ws p) (ra : RingW ws 0 m x f0) (rb : RingW ws m m x f0) (hm : 0 < m) :
  EndsF (aFun Tryz.prog (aCode Tryz.prog X S0 g) 9 [.pointer (some ⟨sp, 0, none⟩), .int .u64 (.ofNat (placeW (adr (0 + 0)))), .int .u64 (.ofNat (placeW (adr (m + 0))))] μ) fun v μ' => v = .tuple #[.bool false, .int .i64 181] ∧ Grow μ μ' := by
 obtain ⟨k, rfl⟩ := Nat.exists_eq_add_of_le' hg
 obtain ⟨a, ha⟩ : ∃ a, a = placeW (adr (0 + 0)) := ⟨_, rfl⟩
 obtain ⟨b, hb⟩ : ∃ b, b = placeW (adr (m + 0)) := ⟨_, rfl⟩
 have o1 : OwnK 80 2 (some 0) μ ⟨μ.obs.set μ.next (.cells (twoL a b).length 80 (twoL a b).toArray .e 0 0 false false), μ.next + 1⟩ (.slice (some ⟨μ.next, 0, none⟩) 1 2) (0 + 1) ([] ++ twoL a b) := ⟨GoodK.fresh μ _ _ rfl, grow1 μ _, fun j hj => by
  obtain ⟨l, c, e⟩ := hj
  injection e with e1
  injection e1 with e2
  injection e2 with e3
  exact ⟨by omega, by show j < μ.next + 1; omega⟩⟩
 obtain ⟨μ1, h1⟩ : ∃ M : Mem, M = ⟨μ.obs.set μ.next (.cells (twoL a b).length 80 (twoL a b).toArray .e 0 0 false false), μ.next + 1⟩ := ⟨_, rfl⟩
 rw [← h1] at o1
 have hbd : ∀ (ρ : Operand → Value) (x y : Operand), ρ x = .int .u64 (.ofNat a) → ρ y = .int .u64 (.ofNat b) → aBuild Tryz.prog ρ 80 #[(0, x), (1, y)] = some (.agg (twoL a b).toArray) := fun ρ x y h1 h2 => bd158 ρ x y a b h1 h2
 have hbs : ∀ (ρ : Operand → Value) (x : Operand), ρ x = .agg (twoL a b).toArray → aBuildSlice Tryz.prog ρ 81 1 #[(0, x)] = some (.cells (twoL a b).length 80 (twoL a b).toArray .e 0 0 false false, fun id => .slice (some ⟨id, 0, none⟩) 1 2) := fun ρ x h => bs159 ρ x a b h
 rw [← ha, ← hb]
 refine fun_enter Tryz.func9 rfl rfl (Nat.le_of_ble_eq_true rfl) ?_
 simp only [T.lay, Nat.zero_add, Tryz.ntmps9, Nat.reduceAdd]
 repeat (first | refine code_seq ?_ | ((first | (refine code_region ?_ ?_; (focus rfl)) | (refine code_guards (gs := ?_) ?_ ?_; rotate_left; (focus rfl))); simp only [run1, run2, wanted, go_sem, Nat.reduceLT, Nat.reduceAdd, Nat.reduceEqDiff, reduceIte, reduceCtorEq, hbd, hbs, Nat.add_eq, h1.symm]) | (refine code_cond_true ?_ ?_; (focus (simp only [aev, regAt_set, Nat.reduceEqDiff, reduceIte, hbd, hbs, Nat.add_eq, h1.symm]; done))) | (refine code_cond_false ?_ ?_; (focus (simp only [aev, regAt_set, Nat.reduceEqDiff, reduceIte, hbd, hbs, Nat.add_eq, h1.symm]; done))) | ((first | refine code_skip ?_ | refine code_label ?_ | refine code_exit ?_); try simp only [then_exit, then_normal, blockC, Nat.reduceEqDiff, reduceIte]) | refine code_block ?_)
 rw [show k + 11995 = (k + 795) + 10000 + 1200 from by omega]
 refine (equal_loop (X := X) h ra rb (k + 795) 10000 0 rfl 0 0 (some 0) _ (.slice (some ⟨μ.next, 0, none⟩) 1 2) [] μ1 hm (Nat.le_refl _) rfl (fun d' e => by injection e with e; exact e.symm) ?_ ?_ ?_ (.inl (by rw [← ha, ← hb]; exact o1))).mono ?_
 ·simp only [regAt_set, Nat.reduceEqDiff, reduceIte]
 ·simp only [regAt_set, Nat.reduceEqDiff, reduceIte]
 ·simp only [regAt_set, Nat.reduceEqDiff, reduceIte]
  rfl
 rintro c r μ' ⟨rfl, g, tm', rfl, q6, q7⟩
 simp only [blockC, then_ret]
 refine ⟨rfl, _, ?_, rfl, g⟩
 simp only [aResults, Tryz.results9, aRes, regAt_set, Nat.reduceEqDiff, reduceIte]
 simp only [q6, q7]
set_option maxRecDepth 20000 in
set_option maxHeartbeats 4000000 in
theorem equal_stop {K sp hp ap wb lb N L n many w : Nat} {ws : Nat → Nat} {p : Pos} {a : Int} {μ0 μ : Mem} {tm : T Value} {v : Value} {ys : List Value} (hK : 1000 ≤ K) (h : SP μ0 sp hp ap wb lb N L ws p) (ha : Sm a) (hw : w < 9223372036854775808) (h1 : w % 8 ≠ 1) (h0 : w % 8 ≠ 0)
  (ho : OwnK 80 2 none μ0 μ v (n + 1) (ys ++ twoL (sw a) w)) (hy : ys.length = n * 2) (hn : n < 100000) (hm : many < 10000)
  (r0 : regAt tm 0 = .pointer (some ⟨sp, 0, none⟩)) (r8 : regAt tm 8 = v) (r9 : regAt tm 9 = .int .i64 (.ofNat many)) :
  EndsC (aCode Tryz.prog X S0 (K + 1) (.loop (loopBody Tryz.f9 0)) ⟨45, tm, [], none⟩ μ) fun a r μ' => a = .ret ∧ Grow μ0 μ' ∧ ∃ tm', r = ⟨45, tm', [], none⟩ ∧ regAt tm' 6 = .bool false ∧ regAt tm' 7 = .int .i64 0 := by
 obtain ⟨k, rfl⟩ := Nat.exists_eq_add_of_le' hK
 obtain ⟨wi, cv, rfl, hcap⟩ := ho.good.at_ (Nat.succ_pos n)
 have f0 : Has μ wi (n * 2) (twoL (sw a) w) := hy ▸ ho.good.has (a := ys) (b := []) (by rw [List.append_nil])
 have hld := lds158 f0 rfl
 have hS := h.grow ho.grow
 obtain ⟨v1, μ1, t1, rfl, g1⟩ := alike_no (X := X) (g := k + 993) (sp := sp) (hp := hp) (a := a) (b := w) (μ := μ) (by omega) hS.sp0 hS.spn fun μ' g' => eqv_other (by omega) ha (hS.grow g').sp0 (hS.grow g').spn hw h1 h0
 have fin : Grow μ0 μ1 := ho.grow.trans g1
 obtain ⟨x, hx⟩ : ∃ x, x = sw a := ⟨_, rfl⟩
 rw [← hx] at hld t1
 obtain ⟨n1, hn1⟩ : ∃ n1, n1 = n + 1 := ⟨_, rfl⟩
 have hix : ∀ (ρ : Operand → Value) (a b : Operand), ρ a = .slice (some ⟨wi, 0, none⟩) n1 cv → ρ b = .int .i64 (.ofNat n) → aIndexAddr Tryz.prog ρ 81 a b = some (.pointer (some ⟨wi, n * 2, none⟩)) := fun ρ a b h1 h2 => idx2 h1 h2 (by omega)
 have e1 : ilt 0 (.ofNat n1) = true := (ilt_nat 0 n1).trans (decide_eq_true (by omega))
 have e2 : ilt (.ofNat many) 10000 = true := (ilt_nat many 10000).trans (decide_eq_true hm)
 have e3 : qwrap .i64 (Int.sub (.ofNat n1) 1) = .ofNat n := by rw [hn1]; exact sub_nat (n + 1) 1 (by omega) (by omega)
 rw [← hn1] at r8
 refine code_loop ?_
 repeat (first | refine code_seq ?_ | ((first | (refine code_region ?_ ?_; (focus rfl)) | (refine code_guards (gs := ?_) ?_ ?_; rotate_left; (focus rfl))); simp only [run1, run2, wanted, go_sem, Nat.reduceLT, Nat.reduceAdd, Nat.reduceEqDiff, reduceIte, reduceCtorEq, r0, r8, r9, aBuiltin, aLen, Tryz.underlying81, cast_nat, e1, e2, e3, hix, hld, gg23, t1]) | (refine code_cond_true ?_ ?_; (focus (simp only [aev, regAt_set, Nat.reduceEqDiff, reduceIte, r0, r8, r9, aBuiltin, aLen, Tryz.underlying81, cast_nat, e1, e2, e3, hix, hld, gg23, t1]; done))) | (refine code_cond_false ?_ ?_; (focus (simp only [aev, regAt_set, Nat.reduceEqDiff, reduceIte, r0, r8, r9, aBuiltin, aLen, Tryz.underlying81, cast_nat, e1, e2, e3, hix, hld, gg23, t1]; done))) | ((first | refine code_skip ?_ | refine code_label ?_ | refine code_exit ?_); try simp only [then_exit, then_normal, blockC, Nat.reduceEqDiff, reduceIte]) | refine code_block ?_)
 refine code_ret ?_
 refine ⟨rfl, fin, _, rfl, ?_, ?_⟩ <;> simp only [regAt_set, Nat.reduceEqDiff, reduceIte]
set_option maxRecDepth 20000 in
set_option maxHeartbeats 4000000 in
theorem equal_char {g sp hp ap wb lb qa qb w : Nat} {ws : Nat → Nat} {p : Pos} {μ : Mem} {a : Int} (hg : 3000 ≤ g) (h : SP μ sp hp ap wb lb 2560 160 ws p) (ha : qa + 2 < 2560) (hb : qb + 2 < 2560) (wa : ws qa = headW 0 0 2) (wb_ : ws qb = headW 0 0 2) (hne : qa ≠ qb) (hs : Sm a) (ca : ws (qa + 1 + 0) = sw a) (cb : ws (qb + 1 + 0) = w) (hw : w < 9223372036854775808) (h1 : w % 8 ≠ 1) (h0 : w % 8 ≠ 0) :
  EndsF (aFun Tryz.prog (aCode Tryz.prog X S0 g) 9 [.pointer (some ⟨sp, 0, none⟩), .int .u64 (.ofNat (placeW qa)), .int .u64 (.ofNat (placeW qb))] μ) fun v μ' => v = .tuple #[.bool false, .int .i64 0] ∧ Grow μ μ' := by
 obtain ⟨k, rfl⟩ := Nat.exists_eq_add_of_le' hg
 obtain ⟨a', ha'⟩ : ∃ a, a = placeW qa := ⟨_, rfl⟩
 obtain ⟨b, hb'⟩ : ∃ b, b = placeW qb := ⟨_, rfl⟩
 have o1 : OwnK 80 2 (some 0) μ ⟨μ.obs.set μ.next (.cells (twoL a' b).length 80 (twoL a' b).toArray .e 0 0 false false), μ.next + 1⟩ (.slice (some ⟨μ.next, 0, none⟩) 1 2) (0 + 1) ([] ++ twoL a' b) := ⟨GoodK.fresh μ _ _ rfl, grow1 μ _, fun j hj => by
  obtain ⟨l, c, e⟩ := hj
  injection e with e1
  injection e1 with e2
  injection e2 with e3
  exact ⟨by omega, by show j < μ.next + 1; omega⟩⟩
 obtain ⟨μ1, h1'⟩ : ∃ M : Mem, M = ⟨μ.obs.set μ.next (.cells (twoL a' b).length 80 (twoL a' b).toArray .e 0 0 false false), μ.next + 1⟩ := ⟨_, rfl⟩
 rw [← h1'] at o1
 have hbd : ∀ (ρ : Operand → Value) (x y : Operand), ρ x = .int .u64 (.ofNat a') → ρ y = .int .u64 (.ofNat b) → aBuild Tryz.prog ρ 80 #[(0, x), (1, y)] = some (.agg (twoL a' b).toArray) := fun ρ x y h1 h2 => bd158 ρ x y a' b h1 h2
 have hbs : ∀ (ρ : Operand → Value) (x : Operand), ρ x = .agg (twoL a' b).toArray → aBuildSlice Tryz.prog ρ 81 1 #[(0, x)] = some (.cells (twoL a' b).length 80 (twoL a' b).toArray .e 0 0 false false, fun id => .slice (some ⟨id, 0, none⟩) 1 2) := fun ρ x h => bs159 ρ x a' b h
 rw [← ha', ← hb']
 refine fun_enter Tryz.func9 rfl rfl (Nat.le_of_ble_eq_true rfl) ?_
 simp only [T.lay, Nat.zero_add, Tryz.ntmps9, Nat.reduceAdd]
 repeat (first | refine code_seq ?_ | ((first | (refine code_region ?_ ?_; (focus rfl)) | (refine code_guards (gs := ?_) ?_ ?_; rotate_left; (focus rfl))); simp only [run1, run2, wanted, go_sem, Nat.reduceLT, Nat.reduceAdd, Nat.reduceEqDiff, reduceIte, reduceCtorEq, hbd, hbs, Nat.add_eq, h1'.symm]) | (refine code_cond_true ?_ ?_; (focus (simp only [aev, regAt_set, Nat.reduceEqDiff, reduceIte, hbd, hbs, Nat.add_eq, h1'.symm]; done))) | (refine code_cond_false ?_ ?_; (focus (simp only [aev, regAt_set, Nat.reduceEqDiff, reduceIte, hbd, hbs, Nat.add_eq, h1'.symm]; done))) | ((first | refine code_skip ?_ | refine code_label ?_ | refine code_exit ?_); try simp only [then_exit, then_normal, blockC, Nat.reduceEqDiff, reduceIte]) | refine code_block ?_)
 refine EndsC.mono (Q := fun a r μ' => a = .ret ∧ Grow μ μ' ∧ ∃ tm', r = ⟨45, tm', [], none⟩ ∧ regAt tm' 6 = .bool false ∧ regAt tm' 7 = .int .i64 0) (equal_pair (K := k + 2994) (by omega) h ha hb wa wb_ hne (by rw [← ha', ← hb']; exact o1) rfl (fun d' e => by injection e with e; exact e.symm) (by decide) (by decide) (many := 0) ?_ ?_ ?_ fun v' μ' tm' o' q0 q8 q9 => ?_) ?_
 ·simp only [regAt_set, Nat.reduceEqDiff, reduceIte]
 ·simp only [regAt_set, Nat.reduceEqDiff, reduceIte]
 ·simp only [regAt_set, Nat.reduceEqDiff, reduceIte]
  rfl
 ·rw [ca, cb, ← List.append_assoc] at o'
  exact equal_stop (K := k + 2993) (by omega) h hs hw h1 h0 o' rfl (by decide) (by decide) q0 q8 q9
 rintro c r μ' ⟨rfl, g, tm', rfl, q6, q7⟩
 simp only [blockC, then_ret]
 refine ⟨rfl, _, ?_, rfl, g⟩
 simp only [aResults, Tryz.results9, aRes, regAt_set, Nat.reduceEqDiff, reduceIte]
 simp only [q6, q7]
end
noncomputable section
section
set_option linter.defProp false
variable {X : FuncId → List Value → Mem → Option (Value × Mem)} {ev : Code → Rg → Mem → Option (Ax × Rg × Mem)}
end
end
noncomputable section
variable {X : FuncId → List Value → Mem → Option (Value × Mem)}
theorem k41 : Tryz.prog.info? 66 = some Tryz.t66 := by kernel_rfl
theorem k42 : Tryz.prog.info? 68 = some Tryz.t68 := by kernel_rfl
theorem k43 : Tryz.prog.info? 55 = some Tryz.t55 := by kernel_rfl
theorem k44 : Tryz.prog.info? 70 = some Tryz.t70 := by kernel_rfl
theorem faX0 (ρ : Operand → Value) (x : Operand) : aFieldAddr Tryz.prog ρ 70 x 0 = (match ρ x with | .pointer (some a) => some (.pointer (some (a.add 0))) | _ => none) := fieldAddr_at (ft := 24) (off := 0) Tryz.underlying70 rfl j24 rfl ρ x
theorem faX2 (ρ : Operand → Value) (x : Operand) : aFieldAddr Tryz.prog ρ 70 x 2 = (match ρ x with | .pointer (some a) => some (.pointer (some (a.add 2))) | _ => none) := fieldAddr_at (ft := 3) (off := 2) Tryz.underlying70 rfl j3 rfl ρ x
theorem faX3 (ρ : Operand → Value) (x : Operand) : aFieldAddr Tryz.prog ρ 70 x 3 = (match ρ x with | .pointer (some a) => some (.pointer (some (a.add 3))) | _ => none) := fieldAddr_at (ft := 68) (off := 3) Tryz.underlying70 rfl k42 rfl ρ x
theorem faB0 (ρ : Operand → Value) (x : Operand) : aFieldAddr Tryz.prog ρ 68 x 0 = (match ρ x with | .pointer (some a) => some (.pointer (some (a.add 0))) | _ => none) := fieldAddr_at (ft := 66) (off := 0) Tryz.underlying68 rfl k41 rfl ρ x
theorem faB1 (ρ : Operand → Value) (x : Operand) : aFieldAddr Tryz.prog ρ 68 x 1 = (match ρ x with | .pointer (some a) => some (.pointer (some (a.add 1))) | _ => none) := fieldAddr_at (ft := 55) (off := 1) Tryz.underlying68 rfl k43 rfl ρ x
theorem ldBp (μ : Mem) (i o : Nat) : aLoad Tryz.prog μ 66 (.pointer (some ⟨i, o, none⟩)) = cellsAt μ i o := load_at Tryz.underlying66 rfl μ i o
theorem ldBs (μ : Mem) (i o : Nat) : aLoad Tryz.prog μ 55 (.pointer (some ⟨i, o, none⟩)) = cellsAt μ i o := load_at Tryz.underlying55 rfl μ i o
def Esc (X : FuncId → List Value → Mem → Option (Value × Mem)) : Prop := ∀ (v : Value) (μ : Mem), X 117 [v] μ = some (v, μ)
theorem goX (hX : Esc X) {cf : FuncId → List Value → Mem → Option (Value × Mem)} (v : Value) (μ : Mem) : aGo Tryz.prog X cf 117 [v] μ = some (v, μ) := by
 unfold aGo
 rw [Tryz.func117]
 exact hX v μ
theorem cp_plain {ρ : Operand → Value} {d : Option Tmp} {ty : TypeId} {y : Operand} {ps : String} {af : Array Edge} {gd : Option (Nat × Bool)} (a : Addr) (h : ρ y = .pointer (some a)) : aPlain Tryz.prog ρ ⟨d, .convert 66 201 y, ty, ps, af, gd⟩ = none := by
 unfold aPlain
 simp only [opsOf, plains, h, execOp]
 kernel_rfl
theorem cq_plain {ρ : Operand → Value} {d : Option Tmp} {ty : TypeId} {y : Operand} {ps : String} {af : Array Edge} {gd : Option (Nat × Bool)} (a : Addr) (h : ρ y = .pointer (some a)) : aPlain Tryz.prog ρ ⟨d, .convert 201 66 y, ty, ps, af, gd⟩ = none := by
 unfold aPlain
 simp only [opsOf, plains, h, execOp]
 kernel_rfl
theorem cp_int (a : Addr) : aConvInt Tryz.prog 66 201 (.pointer (some a)) = none := by kernel_rfl
theorem cq_int (a : Addr) : aConvInt Tryz.prog 201 66 (.pointer (some a)) = none := by kernel_rfl
def ShB (μ : Mem) (xi : Nat) : Prop := ∃ z ov sh, μ.obs.get xi = some (.cells 5 70 z ov 0 0 false sh)
theorem ShB.blk {μ : Mem} {xi : Nat} (h : ShB μ xi) : Blk μ xi 5 70 := by
 obtain ⟨z, ov, sh, h⟩ := h
 exact ⟨z, ov, false, sh, h⟩
theorem ShB.put {μ : Mem} {xi o : Nat} {vs : List Value} (h : ShB μ xi) : ShB (putL μ xi o vs) xi := by
 obtain ⟨z, ov, sh, h⟩ := h
 exact ⟨z, ov.lay o vs, sh, putL_at h⟩
theorem cp_uns {μ : Mem} {xi : Nat} (h : ShB μ xi) : aUnsafe Tryz.prog μ 66 201 (.pointer (some ⟨xi, 3, none⟩)) = some (.pointer (some ⟨xi, 3, none⟩)) := by
 obtain ⟨z, ov, sh, h⟩ := h
 unfold aUnsafe
 simp only [h, Tryz.underlying66, Tryz.underlying201, k42]
 rfl
theorem cq_uns {μ : Mem} {xi : Nat} (h : ShB μ xi) : aUnsafe Tryz.prog μ 201 66 (.pointer (some ⟨xi, 3, none⟩)) = some (.pointer (some ⟨xi, 3, none⟩)) := by
 obtain ⟨z, ov, sh, h⟩ := h
 have e : liesAt Tryz.prog Tryz.prog.depth 70 (Nat.div 5 (Tryz.prog.cellsOf 70)) 3 68 1 = true := by kernel_rfl
 unfold aUnsafe
 simp only [h, Tryz.underlying66, Tryz.underlying201, k42, e]
 rfl
def shL (sp left : Nat) (ad buf : Value) : List Value := [.pointer (some ⟨sp, 0, none⟩), .bool true, .int .i64 (.ofNat left), ad, buf]
structure Shw (μ0 μ : Mem) (xi sp left n : Nat) : Prop where
 grow : Grow μ0 μ
 x0 : μ0.next ≤ xi
 xn : xi < μ.next
 blk : ShB μ xi
 has : ∃ ad buf xs, Has μ xi 0 (shL sp left ad buf) ∧ (ad = .pointer none ∨ ad = .pointer (some ⟨xi, 3, none⟩)) ∧ GoodK μ 5 1 none buf n xs ∧ ∀ i, SlAt buf i → μ0.next ≤ i ∧ i < μ.next ∧ i ≠ xi
theorem Shw.keep {μ0 μ μ' : Mem} {xi sp left n : Nat} (h : Shw μ0 μ xi sp left n) (g : Grow μ μ') : Shw μ0 μ' xi sp left n := by
 obtain ⟨ad, buf, xs, h1, h2, h3, h4⟩ := h.has
 refine ⟨h.grow.trans g, h.x0, Nat.lt_of_lt_of_le h.xn g.1, ?_, ad, buf, xs, h1.keep (g.2 _ h.xn), h2, h3.keep fun i hi => g.2 i (h4 i hi).2.1, fun i hi => ⟨(h4 i hi).1, Nat.lt_of_lt_of_le (h4 i hi).2.1 g.1, (h4 i hi).2.2⟩⟩
 unfold ShB
 rw [g.2 _ h.xn]
 exact h.blk
theorem Shw.ofPut {μ0 μ : Mem} {xi sp left left' n n' o : Nat} {vs : List Value} {ad' buf : Value} {xs : List Value} (h : Shw μ0 μ xi sp left n) (hh : Has (putL μ xi o vs) xi 0 (shL sp left' ad' buf)) (ha : ad' = .pointer none ∨ ad' = .pointer (some ⟨xi, 3, none⟩)) (hg : GoodK μ 5 1 none buf n' xs) (hs : ∀ i, SlAt buf i → μ0.next ≤ i ∧ i < μ.next ∧ i ≠ xi) : Shw μ0 (putL μ xi o vs) xi sp left' n' :=
 ⟨h.grow.put_new h.x0, h.x0, by rw [putL_next]; exact h.xn, h.blk.put, ad', buf, xs, hh, ha, hg.keep fun i hi => putL_get _ _ _ _ (hs i hi).2.2, fun i hi => by rw [putL_next]; exact hs i hi⟩
set_option maxRecDepth 20000 in
set_option maxHeartbeats 4000000 in
theorem part_yes {g xi sp left n : Nat} {μ0 μ : Mem} (hg : 20 ≤ g) (h : Shw μ0 μ xi sp (left + 1) n) (hl : left < 100000) :
  EndsF (aFun Tryz.prog (aCode Tryz.prog X S0 g) 43 [.pointer (some ⟨xi, 0, none⟩)] μ) fun v μ' => v = .bool true ∧ Shw μ0 μ' xi sp left n := by
 obtain ⟨k, rfl⟩ := Nat.exists_eq_add_of_le' hg
 obtain ⟨ad, buf, xs, h1, h2, h3, h4⟩ := h.has
 have hb := h.blk.blk
 obtain ⟨l1, hl1⟩ : ∃ l1, l1 = left + 1 := ⟨_, rfl⟩
 have c2 : cellsAt μ xi 2 = some (.int .i64 (.ofNat l1)) := by rw [hl1]; exact h1.cell 2 (by simp [shL])
 have e1 : qwrap .i64 (Int.sub (.ofNat l1) 1) = .ofNat left := by rw [hl1]; exact sub_nat (left + 1) 1 (by omega) (by omega)
 have hst := store_put (P := Tryz.prog) (t := 3) (v := .int .i64 (.ofNat left)) i3 rfl rfl hb (show 2 < 5 by decide)
 have hh := h1.set hb (k := 2) (v := .int .i64 (.ofNat left)) (by simp [shL])
 have c2' : cellsAt (putL μ xi 2 [.int .i64 (.ofNat left)]) xi 2 = some (.int .i64 (.ofNat left)) := hh.cell 2 (by simp [shL])
 have e2 : ilt (.ofNat left) 0 = false := rfl
 have fin := h.ofPut (left' := left) (ad' := ad) (buf := buf) (o := 2) (vs := [.int .i64 (.ofNat left)]) hh h2 h3 h4
 refine fun_enter Tryz.func43 rfl rfl (Nat.le_of_ble_eq_true rfl) ?_
 simp only [T.lay, Nat.zero_add, Tryz.ntmps43, Nat.reduceAdd]
 repeat (first | refine code_seq ?_ | ((first | (refine code_region ?_ ?_; (focus rfl)) | (refine code_guards (gs := ?_) ?_ ?_; rotate_left; (focus rfl))); simp only [run1, run2, wanted, go_sem, Nat.reduceLT, Nat.reduceAdd, Nat.reduceEqDiff, reduceIte, reduceCtorEq, faX2, Nat.add_zero, ld3, c2, e1, hst, c2', e2]) | (refine code_cond_true ?_ ?_; (focus (simp only [aev, regAt_set, Nat.reduceEqDiff, reduceIte, faX2, Nat.add_zero, ld3, c2, e1, hst, c2', e2]; done))) | (refine code_cond_false ?_ ?_; (focus (simp only [aev, regAt_set, Nat.reduceEqDiff, reduceIte, faX2, Nat.add_zero, ld3, c2, e1, hst, c2', e2]; done))) | ((first | refine code_skip ?_ | refine code_label ?_ | refine code_exit ?_); try simp only [then_exit, then_normal, blockC, Nat.reduceEqDiff, reduceIte]) | refine code_block ?_)
 refine code_ret ?_
 refine ⟨rfl, _, ?_, rfl, fin⟩
 simp only [aResults, Tryz.results43, aRes, regAt_set, Nat.reduceEqDiff, reduceIte]
set_option maxRecDepth 20000 in
set_option maxHeartbeats 4000000 in
theorem part_no {g xi sp n : Nat} {μ0 μ : Mem} (hg : 20 ≤ g) (h : Shw μ0 μ xi sp 0 n) :
  EndsF (aFun Tryz.prog (aCode Tryz.prog X S0 g) 43 [.pointer (some ⟨xi, 0, none⟩)] μ) fun v μ' => v = .bool false ∧ Grow μ0 μ' := by
 obtain ⟨k, rfl⟩ := Nat.exists_eq_add_of_le' hg
 obtain ⟨ad, buf, xs, h1, h2, h3, h4⟩ := h.has
 have hb := h.blk.blk
 have c2 : cellsAt μ xi 2 = some (.int .i64 (.ofNat 0)) := h1.cell 2 (by simp [shL])
 have e1 : qwrap .i64 (Int.sub (.ofNat 0) 1) = -1 := rfl
 have hst := store_put (P := Tryz.prog) (t := 3) (v := .int .i64 (-1)) i3 rfl rfl hb (show 2 < 5 by decide)
 have hh := h1.set hb (k := 2) (v := .int .i64 (-1)) (by simp [shL])
 have c2' : cellsAt (putL μ xi 2 [.int .i64 (-1)]) xi 2 = some (.int .i64 (-1)) := hh.cell 2 (by simp [shL])
 have e2 : ilt (-1) 0 = true := rfl
 have fin : Grow μ0 (putL μ xi 2 [.int .i64 (-1)]) := h.grow.put_new h.x0
 refine fun_enter Tryz.func43 rfl rfl (Nat.le_of_ble_eq_true rfl) ?_
 simp only [T.lay, Nat.zero_add, Tryz.ntmps43, Nat.reduceAdd]
 repeat (first | refine code_seq ?_ | ((first | (refine code_region ?_ ?_; (focus rfl)) | (refine code_guards (gs := ?_) ?_ ?_; rotate_left; (focus rfl))); simp only [run1, run2, wanted, go_sem, Nat.reduceLT, Nat.reduceAdd, Nat.reduceEqDiff, reduceIte, reduceCtorEq, faX2, Nat.add_zero, ld3, c2, e1, hst, c2', e2]) | (refine code_cond_true ?_ ?_; (focus (simp only [aev, regAt_set, Nat.reduceEqDiff, reduceIte, faX2, Nat.add_zero, ld3, c2, e1, hst, c2', e2]; done))) | (refine code_cond_false ?_ ?_; (focus (simp only [aev, regAt_set, Nat.reduceEqDiff, reduceIte, faX2, Nat.add_zero, ld3, c2, e1, hst, c2', e2]; done))) | ((first | refine code_skip ?_ | refine code_label ?_ | refine code_exit ?_); try simp only [then_exit, then_normal, blockC, Nat.reduceEqDiff, reduceIte]) | refine code_block ?_)
 refine code_ret ?_
 refine ⟨rfl, _, ?_, rfl, fin⟩
 simp only [aResults, Tryz.results43, aRes, regAt_set, Nat.reduceEqDiff, reduceIte]
theorem an0 : aNil Tryz.prog 66 (.pointer none) (.pointer none) = false := by kernel_rfl
theorem an1 (a : Addr) : aNil Tryz.prog 66 (.pointer (some a)) (.pointer none) = true := by kernel_rfl
theorem an2 (a b : Addr) : aNil Tryz.prog 66 (.pointer (some a)) (.pointer (some b)) = false := by kernel_rfl
theorem ptr_same {μ : Mem} {xi : Nat} (h : ShB μ xi) : aPtrEq Tryz.prog μ 66 (.pointer (some ⟨xi, 3, none⟩)) (.pointer (some ⟨xi, 3, none⟩)) = some true := by
 obtain ⟨z, ov, sh, h⟩ := h
 have e : Nat.beq xi xi = true := by simp
 unfold aPtrEq
 simp only [e, h, Tryz.underlying66, k42]
 rfl
theorem pq_plain {ρ : Operand → Value} {x y : Operand} {dst : Option Nat} {ty : TypeId} {pos : String} {af : Array Edge} {gd : Option (Nat × Bool)} (a b : Addr) (hx : ρ x = .pointer (some a)) (hy : ρ y = .pointer (some b)) : aPlain Tryz.prog ρ ⟨dst, .binOp .neq 66 x y 66, ty, pos, af, gd⟩ = none := by
 unfold aPlain
 simp only [opsOf, plains, hx, hy, execOp]
 kernel_rfl
theorem pt_nil {r : Rg} {x : Operand} {dst : Option Nat} {ty : TypeId} {pos : String} {af : Array Edge} {gd : Option (Nat × Bool)} (hx : aev Tryz.prog r x = .pointer none) : aPlain Tryz.prog (aev Tryz.prog r) ⟨dst, .binOp .eql 66 x (.const (.pointer none)) 66, ty, pos, af, gd⟩ = some (.bool true) := by
 unfold aPlain
 simp only [opsOf, plains, hx, execOp]
 kernel_rfl
set_option maxRecDepth 20000 in
set_option maxHeartbeats 4000000 in
theorem check_ends {g xi sp left n : Nat} {μ0 μ : Mem} (hX : Esc X) (hg : 40 ≤ g) (h : Shw μ0 μ xi sp left n) :
  EndsF (aFun Tryz.prog (aCode Tryz.prog X S0 g) 82 [.pointer (some ⟨xi, 3, none⟩)] μ) fun _ μ' => Shw μ0 μ' xi sp left n := by
 obtain ⟨k, rfl⟩ := Nat.exists_eq_add_of_le' hg
 obtain ⟨ad, buf, xs, h1, h2, h3, h4⟩ := h.has
 have hb := h.blk.blk
 have c3 : cellsAt μ xi 3 = some ad := h1.cell 3 (by simp [shL])
 rcases h2 with rfl | rfl
 ·have hst := store_put (P := Tryz.prog) (t := 66) (v := .pointer (some ⟨xi, 3, none⟩)) k41 rfl rfl hb (show 3 < 5 by decide)
  have hh := h1.set hb (k := 3) (v := .pointer (some ⟨xi, 3, none⟩)) (by simp [shL])
  have fin := h.ofPut (left' := left) (ad' := .pointer (some ⟨xi, 3, none⟩)) (buf := buf) (o := 3) (vs := [.pointer (some ⟨xi, 3, none⟩)]) hh (.inr rfl) h3 h4
  have u1 := cp_uns h.blk
  have u2 := cq_uns h.blk
  refine fun_enter Tryz.func82 rfl rfl (Nat.le_of_ble_eq_true rfl) ?_
  simp only [T.lay, Nat.zero_add, Tryz.ntmps82, Nat.reduceAdd]
  repeat (first | refine code_seq ?_ | ((first | (refine code_region ?_ ?_; (focus rfl)) | (refine code_guards (gs := ?_) ?_ ?_; rotate_left; (focus rfl))); simp only [run1, run2, wanted, go_sem, Nat.reduceLT, Nat.reduceAdd, Nat.reduceEqDiff, reduceIte, reduceCtorEq, faB0, Nat.add_zero, ldBp, c3, an0, pt_nil, cp_plain ⟨xi, 3, none⟩, cq_plain ⟨xi, 3, none⟩, cp_int, cq_int, u1, u2, goX hX, hst]) | (refine code_cond_true ?_ ?_; (focus (simp only [aev, regAt_set, Nat.reduceEqDiff, reduceIte, faB0, Nat.add_zero, ldBp, c3, an0, pt_nil, cp_plain ⟨xi, 3, none⟩, cq_plain ⟨xi, 3, none⟩, cp_int, cq_int, u1, u2, goX hX, hst]; done))) | (refine code_cond_false ?_ ?_; (focus (simp only [aev, regAt_set, Nat.reduceEqDiff, reduceIte, faB0, Nat.add_zero, ldBp, c3, an0, pt_nil, cp_plain ⟨xi, 3, none⟩, cq_plain ⟨xi, 3, none⟩, cp_int, cq_int, u1, u2, goX hX, hst]; done))) | ((first | refine code_skip ?_ | refine code_label ?_ | refine code_exit ?_); try simp only [then_exit, then_normal, blockC, Nat.reduceEqDiff, reduceIte]) | refine code_block ?_)
  exact ⟨rfl, _, rfl, fin⟩
 ·have e0 := ptr_same h.blk
  refine fun_enter Tryz.func82 rfl rfl (Nat.le_of_ble_eq_true rfl) ?_
  simp only [T.lay, Nat.zero_add, Tryz.ntmps82, Nat.reduceAdd]
  repeat (first | refine code_seq ?_ | ((first | (refine code_region ?_ ?_; (focus rfl)) | (refine code_guards (gs := ?_) ?_ ?_; rotate_left; (focus rfl))); simp only [run1, run2, wanted, go_sem, Nat.reduceLT, Nat.reduceAdd, Nat.reduceEqDiff, reduceIte, reduceCtorEq, faB0, Nat.add_zero, ldBp, c3, an1, an2, pq_plain ⟨xi, 3, none⟩ ⟨xi, 3, none⟩, e0]) | (refine code_cond_true ?_ ?_; (focus (simp only [aev, regAt_set, Nat.reduceEqDiff, reduceIte, faB0, Nat.add_zero, ldBp, c3, an1, an2, pq_plain ⟨xi, 3, none⟩ ⟨xi, 3, none⟩, e0]; done))) | (refine code_cond_false ?_ ?_; (focus (simp only [aev, regAt_set, Nat.reduceEqDiff, reduceIte, faB0, Nat.add_zero, ldBp, c3, an1, an2, pq_plain ⟨xi, 3, none⟩ ⟨xi, 3, none⟩, e0]; done))) | ((first | refine code_skip ?_ | refine code_label ?_ | refine code_exit ?_); try simp only [then_exit, then_normal, blockC, Nat.reduceEqDiff, reduceIte]) | refine code_block ?_)
  exact ⟨rfl, _, rfl, h⟩
end
noncomputable section
variable {X : FuncId → List Value → Mem → Option (Value × Mem)}
theorem sl_one {v : Value} {i : Nat} (h : SlAt v i) : one v = true := by obtain ⟨l, c, rfl⟩ := h; rfl
theorem sl_same {v : Value} {i j : Nat} (h : SlAt v i) (g : SlAt v j) : j = i := by
 obtain ⟨l, c, rfl⟩ := h
 obtain ⟨l', c', e⟩ := g
 injection e with e1
 injection e1 with e2
 injection e2 with e3
 exact e3.symm
theorem k5 : Tryz.prog.info? 5 = some Tryz.t5 := by kernel_rfl
theorem z5 : aZeroOf Tryz.prog 5 = some (.int .u8 0) := by unfold aZeroOf; rw [k5]; rfl
set_option maxRecDepth 20000 in
set_option maxHeartbeats 4000000 in
theorem wstr_ends {g xi sp left n : Nat} {s : ByteArray} {μ0 μ : Mem} (hX : Esc X) (hg : 80 ≤ g) (h : Shw μ0 μ xi sp left n) (h0 : 0 < s.data.toList.length) (h1 : s.data.toList.length ≤ 10) (hn : n < 500000) :
  EndsF (aFun Tryz.prog (aCode Tryz.prog X S0 g) 45 [.pointer (some ⟨xi, 3, none⟩), .string s] μ) fun _ μ' => Shw μ0 μ' xi sp left (n + s.data.toList.length) := by
 obtain ⟨k, rfl⟩ := Nat.exists_eq_add_of_le' hg
 obtain ⟨v1, μ1, t1, S1⟩ := check_ends (X := X) (g := k + 77) hX (by omega) h
 obtain ⟨ad, buf, xs, f1, h2, h3, h4⟩ := S1.has
 have c4 : cellsAt μ1 xi 4 = some buf := f1.cell 4 (by simp [shL])
 obtain ⟨v', μ', ha, hgd, hnx, hat, hk⟩ := append_gen (P := Tryz.prog) (st := 55) (xt := 9) (e := 5) (k := 1) (μ := μ1) (v := buf) (x := .string s) (n := s.data.toList.length) (ys := (s.data.toList.take s.data.toList.length).map fun b => .int .u8 (.ofNat b.toNat)) Tryz.underlying55 k5 rfl (by decide) rfl z5 rfl (by rw [Tryz.underlying9]) h3 rfl rfl (by rw [List.length_map, List.length_take, Nat.min_self, Nat.mul_one]) (by omega) (scalars_one _ (by rw [List.all_eq_true]; intro v hv; obtain ⟨b, _, rfl⟩ := List.mem_map.1 hv; rfl)) h0 (fun d' e => by cases e)
 have hxs : ¬ SlAt buf xi := fun e => (h4 xi e).2.2 rfl
 have hxn := S1.xn
 have gx : μ'.obs.get xi = μ1.obs.get xi := hk xi (by omega) hxs
 have hB : ShB μ' xi := by unfold ShB; rw [gx]; exact S1.blk
 have hst := store_put (P := Tryz.prog) (t := 55) (v := v') k43 rfl (sl_one hat) hB.blk (show 4 < 5 by decide)
 have hh := (f1.keep gx).set hB.blk (k := 4) (v := v') (by simp [shL])
 have hg0 := S1.grow.1
 have hx0 := S1.x0
 have g' : Grow μ0 μ' := ⟨by omega, fun i hi => (hk i (by omega) fun e => by have := (h4 i e).1; omega).trans (S1.grow.2 i hi)⟩
 have fin : Shw μ0 (putL μ' xi 4 [v']) xi sp left (n + s.data.toList.length) := ⟨g'.put_new hx0, hx0, by rw [putL_next]; omega, hB.put, ad, v', _, hh, h2, hgd.keep fun i hi => putL_get _ _ _ _ (by have := sl_same hat hi; omega), fun i hi => by
  have := sl_same hat hi
  rw [putL_next]
  omega⟩
 refine fun_enter Tryz.func45 rfl rfl (Nat.le_of_ble_eq_true rfl) ?_
 simp only [T.lay, Nat.zero_add, Tryz.ntmps45, Nat.reduceAdd]
 repeat (first | refine code_seq ?_ | ((first | (refine code_region ?_ ?_; (focus rfl)) | (refine code_guards (gs := ?_) ?_ ?_; rotate_left; (focus rfl))); simp only [run1, run2, wanted, go_sem, Nat.reduceLT, Nat.reduceAdd, Nat.reduceEqDiff, reduceIte, reduceCtorEq, gg82, t1, faB1, Nat.add_zero, ldBs, c4, ha, hst, aBuiltin, aLen, Tryz.underlying9, cast_nat]) | (refine code_cond_true ?_ ?_; (focus (simp only [aev, regAt_set, Nat.reduceEqDiff, reduceIte, gg82, t1, faB1, Nat.add_zero, ldBs, c4, ha, hst, aBuiltin, aLen, Tryz.underlying9, cast_nat]; done))) | (refine code_cond_false ?_ ?_; (focus (simp only [aev, regAt_set, Nat.reduceEqDiff, reduceIte, gg82, t1, faB1, Nat.add_zero, ldBs, c4, ha, hst, aBuiltin, aLen, Tryz.underlying9, cast_nat]; done))) | ((first | refine code_skip ?_ | refine code_label ?_ | refine code_exit ?_); try simp only [then_exit, then_normal, blockC, Nat.reduceEqDiff, reduceIte]) | refine code_block ?_)
 refine code_ret ?_
 exact ⟨rfl, _, rfl, fin⟩
set_option maxRecDepth 20000 in
set_option maxHeartbeats 4000000 in
theorem sh_single {g xi sp left n : Nat} {a : Int} {μ0 μ : Mem} (hg : 800 ≤ g) (hr : Rom μ0) (h : Shw μ0 μ xi sp left n) (ha : Sm a) :
  EndsF (aFun Tryz.prog (aCode Tryz.prog X S0 g) 49 [.pointer (some ⟨xi, 0, none⟩), .int .u64 (.ofNat (sw a))] μ) fun v μ' => v = .string (decI a) ∧ Grow μ μ' := by
 obtain ⟨k, rfl⟩ := Nat.exists_eq_add_of_le' hg
 obtain ⟨ad, buf, xs, f1, h2, h3, h4⟩ := h.has
 have c0 : cellsAt μ xi 0 = some (.pointer (some ⟨sp, 0, none⟩)) := f1.cell 0 (by simp [shL])
 obtain ⟨v1, μ1, t1, g1, w1, rfl, l1⟩ := asnum_small (X := X) (g := k + 796) (sp := sp) (n := a) (μ := μ) (by omega) ha
 obtain ⟨μ2, s2, d2, g2, l2⟩ := tell36 (μ := μ1) (Grow.refl _) (l1.grow (grow1 μ1 ob36))
 obtain ⟨v3, μ3, t3, rfl, g3⟩ := ttext_ends (X := X) (g := k + 793) (μ := μ2) (by omega) (hr.grow (h.grow.trans (g1.trans g2))) ha l2
 obtain ⟨x, hx⟩ : ∃ x, x = sw a := ⟨_, rfl⟩
 rw [← hx] at t1 ⊢
 refine fun_enter Tryz.func49 rfl rfl (Nat.le_of_ble_eq_true rfl) ?_
 simp only [T.lay, Nat.zero_add, Tryz.ntmps49, Nat.reduceAdd]
 repeat (first | refine code_seq ?_ | ((first | (refine code_region ?_ ?_; (focus rfl)) | (refine code_guards (gs := ?_) ?_ ?_; rotate_left; (focus rfl))); simp only [run1, run2, wanted, go_sem, Nat.reduceLT, Nat.reduceAdd, Nat.reduceEqDiff, reduceIte, reduceCtorEq, faX0, Nat.add_zero, ld24, c0, gg83, t1, al36, Nat.add_eq, s2, d2, gg84, t3]) | (refine code_cond_true ?_ ?_; (focus (simp only [aev, regAt_set, Nat.reduceEqDiff, reduceIte, faX0, Nat.add_zero, ld24, c0, gg83, t1, al36, Nat.add_eq, s2, d2, gg84, t3]; done))) | (refine code_cond_false ?_ ?_; (focus (simp only [aev, regAt_set, Nat.reduceEqDiff, reduceIte, faX0, Nat.add_zero, ld24, c0, gg83, t1, al36, Nat.add_eq, s2, d2, gg84, t3]; done))) | ((first | refine code_skip ?_ | refine code_label ?_ | refine code_exit ?_); try simp only [then_exit, then_normal, blockC, Nat.reduceEqDiff, reduceIte]) | refine code_block ?_)
 refine code_ret ?_
 refine ⟨rfl, _, ?_, rfl, g1.trans (g2.trans g3)⟩
 simp only [aResults, Tryz.results49, aRes, regAt_set, Nat.reduceEqDiff, reduceIte]
theorem dec_len (n : Nat) : 1 ≤ (dec n).data.toList.length ∧ (dec n).data.toList.length ≤ 6 := by
 unfold dec
 rw [txt_len]
 refine ⟨?_, nd_le n⟩
 unfold nd
 split <;> (try split) <;> (try split) <;> (try split) <;> (try split) <;> decide
theorem decI_lens (n : Int) : 0 < (decI n).data.toList.length ∧ (decI n).data.toList.length ≤ 7 := by
 have h := dec_len n.natAbs
 unfold decI
 split
 ·simp only [List.length_append, List.length_singleton]
  omega
 ·omega
set_option maxRecDepth 20000 in
set_option maxHeartbeats 4000000 in
theorem show_num {g sp hp ap wb lb N L xi left n : Nat} {ws : Nat → Nat} {p : Pos} {a : Int} {μ0 μ : Mem} (hX : Esc X) (hg : 1000 ≤ g) (hr : Rom μ0) (hS : SP μ0 sp hp ap wb lb N L ws p) (h : Shw μ0 μ xi sp (left + 1) n) (ha : Sm a) (hl : left < 100000) (hn : n < 400000) :
  EndsF (aFun Tryz.prog (aCode Tryz.prog X S0 g) 19 [.pointer (some ⟨xi, 0, none⟩), .int .u64 (.ofNat (sw a))] μ) fun v μ' => v = .bool true ∧ ∃ n', n' ≤ n + 7 ∧ Shw μ0 μ' xi sp left n' := by
 obtain ⟨k, rfl⟩ := Nat.exists_eq_add_of_le' hg
 obtain ⟨v1, μ1, t1, rfl, S1⟩ := part_yes (X := X) (g := k + 996) (by omega) h hl
 obtain ⟨ad, buf, xs, f1, h2, h3, h4⟩ := S1.has
 have c0 : ∀ M : Mem, Grow μ1 M → cellsAt M xi 0 = some (.pointer (some ⟨sp, 0, none⟩)) := fun M gM => by rw [gcell gM S1.xn]; exact f1.cell 0 (by simp [shL])
 have p0 : ∀ M : Mem, Grow μ1 M → cellsAt M sp 0 = some (.pointer (some ⟨hp, 0, none⟩)) := fun M gM => (hS.grow (S1.grow.trans gM)).sp0
 obtain ⟨v2, μ2, t2, rfl, g2⟩ := fields_np (X := X) (g := k + 995) (kd := 1) (sp := sp) (by omega) (p0 μ1 (Grow.refl _)) (np_sw a)
 have t2 : aFun Tryz.prog (aCode Tryz.prog X S0 (k + 995)) 44 [.pointer (some ⟨sp, 0, none⟩), .int .i64 1, .int .u64 (.ofNat (sw a))] μ1 = some (.tuple #[.slice none 0 0, .bool false], μ2) := t2
 obtain ⟨v3, μ3, t3, rfl, g3⟩ := hkind_np (X := X) (g := k + 994) (hp := hp) (μ := μ2) (by omega) (np_sw a)
 have g23 := g2.trans g3
 obtain ⟨v4, μ4, t4, rfl, g4⟩ := sh_single (X := X) (g := k + 994) (by omega) hr ((S1.keep g23).keep (grow_up μ3 7)) ha
 have hd := decI_lens a
 obtain ⟨v5, μ5, t5, S5⟩ := wstr_ends (X := X) (g := k + 994) hX (by omega) (((S1.keep g23).keep (grow_up μ3 7)).keep g4) hd.1 (by omega) (by omega)
 have e1 : ieq (-1) 0 = false := rfl
 have fin : ∃ n', n' ≤ n + 7 ∧ Shw μ0 μ5 xi sp left n' := ⟨_, by omega, S5⟩
 obtain ⟨x, hx⟩ : ∃ x, x = sw a := ⟨_, rfl⟩
 rw [← hx] at t2 t3 t4 ⊢
 obtain ⟨y, hy⟩ : ∃ y, y = decI a := ⟨_, rfl⟩
 rw [← hy] at t4 t5
 refine fun_enter Tryz.func19 rfl rfl (Nat.le_of_ble_eq_true rfl) ?_
 simp only [T.lay, Nat.zero_add, Tryz.ntmps19, Nat.reduceAdd]
 repeat (first | refine code_seq ?_ | ((first | (refine code_region ?_ ?_; (focus rfl)) | (refine code_guards (gs := ?_) ?_ ?_; rotate_left; (focus rfl))); simp only [run1, run2, wanted, go_sem, Nat.reduceLT, Nat.reduceAdd, Nat.reduceEqDiff, reduceIte, reduceCtorEq, gg43, t1, faX0, faS0, Nat.add_zero, ld24, ldHp, c0 μ1 (Grow.refl _), c0 μ2 g2, p0 μ2 g2, gg44, t2, gg47, t3, e1]) | (refine code_cond_true ?_ ?_; (focus (simp only [aev, regAt_set, Nat.reduceEqDiff, reduceIte, gg43, t1, faX0, faS0, Nat.add_zero, ld24, ldHp, c0 μ1 (Grow.refl _), c0 μ2 g2, p0 μ2 g2, gg44, t2, gg47, t3, e1]; done))) | (refine code_cond_false ?_ ?_; (focus (simp only [aev, regAt_set, Nat.reduceEqDiff, reduceIte, gg43, t1, faX0, faS0, Nat.add_zero, ld24, ldHp, c0 μ1 (Grow.refl _), c0 μ2 g2, p0 μ2 g2, gg44, t2, gg47, t3, e1]; done))) | ((first | refine code_skip ?_ | refine code_label ?_ | refine code_exit ?_); try simp only [then_exit, then_normal, blockC, Nat.reduceEqDiff, reduceIte]) | refine code_block ?_)
 refine code_draw (n := 7) (ms := [0, 1, 3, 0, 0, 24, 63]) (ord := [3, 4, 5, 0, 1, 2, 6]) (ds := ?_) ?_ ?_ ?_ ?_ ?_ ?_
 rotate_left
 ·kernel_rfl
 ·kernel_rfl
 ·kernel_rfl
 ·rfl
 ·rfl
 iterate 7 (refine drun_true (by first | rfl | (simp only [wanted, go_sem, Nat.reduceLT, Nat.reduceAdd, Nat.reduceEqDiff, reduceIte, reduceCtorEq, faX3, Nat.add_zero, gg49, t4, gg45, t5])) (by simp only [aDrawOne, heavy, aReads, eqVal_self, go_sem, Nat.reduceLT, Nat.reduceAdd, Nat.reduceEqDiff, reduceIte, reduceCtorEq, faX3, Nat.add_zero, gg49, t4, gg45, t5]; try exact rfl) rfl ?_)
 simp only [dRun, endsD_some, then_normal]
 repeat (first | refine code_seq ?_ | ((first | (refine code_region ?_ ?_; (focus rfl)) | (refine code_guards (gs := ?_) ?_ ?_; rotate_left; (focus rfl))); simp only [run1, run2, wanted, go_sem, Nat.reduceLT, Nat.reduceAdd, Nat.reduceEqDiff, reduceIte, reduceCtorEq]) | (refine code_cond_true ?_ ?_; (focus (simp only [aev, regAt_set, Nat.reduceEqDiff, reduceIte]; done))) | (refine code_cond_false ?_ ?_; (focus (simp only [aev, regAt_set, Nat.reduceEqDiff, reduceIte]; done))) | ((first | refine code_skip ?_ | refine code_label ?_ | refine code_exit ?_); try simp only [then_exit, then_normal, blockC, Nat.reduceEqDiff, reduceIte]) | refine code_block ?_)
 refine code_ret ?_
 refine ⟨rfl, _, ?_, rfl, fin⟩
 simp only [aResults, Tryz.results19, aRes, regAt_set, Nat.reduceEqDiff, reduceIte]
set_option maxRecDepth 20000 in
set_option maxHeartbeats 4000000 in
theorem show_out {g xi sp n w : Nat} {μ0 μ : Mem} (hg : 1000 ≤ g) (h : Shw μ0 μ xi sp 0 n) :
  EndsF (aFun Tryz.prog (aCode Tryz.prog X S0 g) 19 [.pointer (some ⟨xi, 0, none⟩), .int .u64 (.ofNat w)] μ) fun v μ' => v = .bool false ∧ Grow μ0 μ' := by
 obtain ⟨k, rfl⟩ := Nat.exists_eq_add_of_le' hg
 obtain ⟨v1, μ1, t1, rfl, g1⟩ := part_no (X := X) (g := k + 996) (by omega) h
 refine fun_enter Tryz.func19 rfl rfl (Nat.le_of_ble_eq_true rfl) ?_
 simp only [T.lay, Nat.zero_add, Tryz.ntmps19, Nat.reduceAdd]
 repeat (first | refine code_seq ?_ | ((first | (refine code_region ?_ ?_; (focus rfl)) | (refine code_guards (gs := ?_) ?_ ?_; rotate_left; (focus rfl))); simp only [run1, run2, wanted, go_sem, Nat.reduceLT, Nat.reduceAdd, Nat.reduceEqDiff, reduceIte, reduceCtorEq, gg43, t1]) | (refine code_cond_true ?_ ?_; (focus (simp only [aev, regAt_set, Nat.reduceEqDiff, reduceIte, gg43, t1]; done))) | (refine code_cond_false ?_ ?_; (focus (simp only [aev, regAt_set, Nat.reduceEqDiff, reduceIte, gg43, t1]; done))) | ((first | refine code_skip ?_ | refine code_label ?_ | refine code_exit ?_); try simp only [then_exit, then_normal, blockC, Nat.reduceEqDiff, reduceIte]) | refine code_block ?_)
 refine code_ret ?_
 refine ⟨rfl, _, ?_, rfl, g1⟩
 simp only [aResults, Tryz.results19, aRes, regAt_set, Nat.reduceEqDiff, reduceIte]
def ShOut (X : FuncId → List Value → Mem → Option (Value × Mem)) (μ0 : Mem) (xi sp c m left : Nat) : Prop :=
 ∀ (e i n : Nat) (s : ByteArray) (tm : T Value) (μ : Mem), i < m → Shw μ0 μ xi sp left n → n + left * 20 ≤ 100000 → s.data.toList.length = 1 → regAt tm 0 = .pointer (some ⟨xi, 0, none⟩) → regAt tm 1 = .int .u64 (.ofNat (placeW (adr (c + i)))) → regAt tm 5 = .string s →
  EndsC (aCode Tryz.prog X S0 (e + 30 * left + 1500) (.loop (loopBody Tryz.f48 0)) ⟨66, tm, [], none⟩ μ) fun a r μ' => a = .ret ∧ Grow μ0 μ' ∧ ∃ tm', r = ⟨66, tm', [], none⟩ ∧ regAt tm' 4 = .bool false
set_option maxRecDepth 20000 in
set_option maxHeartbeats 4000000 in
theorem list_out {g xi sp c m left n : Nat} {μ0 μ : Mem} (hg : 30 * left + 1510 ≤ g) (hO : ShOut X μ0 xi sp c m left) (hm : 0 < m) (h : Shw μ0 μ xi sp left n) (hn : n + left * 20 ≤ 100000) :
  EndsF (aFun Tryz.prog (aCode Tryz.prog X S0 g) 48 [.pointer (some ⟨xi, 0, none⟩), .int .u64 (.ofNat (placeW (adr (c + 0))))] μ) fun v μ' => v = .bool false ∧ Grow μ0 μ' := by
 obtain ⟨k, rfl⟩ := Nat.exists_eq_add_of_le' hg
 obtain ⟨x, hx⟩ : ∃ x, x = placeW (adr (c + 0)) := ⟨_, rfl⟩
 rw [← hx]
 refine fun_enter Tryz.func48 rfl rfl (Nat.le_of_ble_eq_true rfl) ?_
 simp only [T.lay, Nat.zero_add, Tryz.ntmps48, Nat.reduceAdd]
 repeat (first | refine code_seq ?_ | ((first | (refine code_region ?_ ?_; (focus rfl)) | (refine code_guards (gs := ?_) ?_ ?_; rotate_left; (focus rfl))); simp only [run1, run2, wanted, go_sem, Nat.reduceLT, Nat.reduceAdd, Nat.reduceEqDiff, reduceIte, reduceCtorEq]) | (refine code_cond_true ?_ ?_; (focus (simp only [aev, regAt_set, Nat.reduceEqDiff, reduceIte]; done))) | (refine code_cond_false ?_ ?_; (focus (simp only [aev, regAt_set, Nat.reduceEqDiff, reduceIte]; done))) | ((first | refine code_skip ?_ | refine code_label ?_ | refine code_exit ?_); try simp only [then_exit, then_normal, blockC, Nat.reduceEqDiff, reduceIte]) | refine code_block ?_)
 rw [show k.add (30 * left + 1506) = (k + 6) + 30 * left + 1500 from by show k + (30 * left + 1506) = _; omega]
 refine (hO (k + 6) 0 n ⟨List.toArray [40]⟩ _ μ hm h hn rfl ?_ ?_ ?_).mono ?_
 ·simp only [regAt_set, Nat.reduceEqDiff, reduceIte]
 ·simp only [regAt_set, Nat.reduceEqDiff, reduceIte, hx]
 ·simp only [regAt_set, Nat.reduceEqDiff, reduceIte]
 rintro c r μ' ⟨rfl, g, tm', rfl, q4⟩
 simp only [blockC, then_ret]
 refine ⟨rfl, _, ?_, rfl, g⟩
 simp only [aResults, Tryz.results48, aRes, regAt_set, Nat.reduceEqDiff, reduceIte]
 simp only [q4]
set_option maxRecDepth 20000 in
set_option maxHeartbeats 4000000 in
theorem show_ring {g sp hp ap wb lb N L xi c m left n : Nat} {ws : Nat → Nat} {p : Pos} {μ0 μ : Mem} (hg : 30 * left + 1520 ≤ g) (hS : SP μ0 sp hp ap wb lb N L ws p) (hq : adr (c + 0) < N) (wq : ws (adr (c + 0)) = headW 0 0 2) (hO : ShOut X μ0 xi sp c m left) (hm : 0 < m) (h : Shw μ0 μ xi sp (left + 1) n) (hl : left < 100000) (hn : n + left * 20 ≤ 100000) :
  EndsF (aFun Tryz.prog (aCode Tryz.prog X S0 g) 19 [.pointer (some ⟨xi, 0, none⟩), .int .u64 (.ofNat (placeW (adr (c + 0))))] μ) fun v μ' => v = .bool false ∧ Grow μ0 μ' := by
 obtain ⟨j, rfl⟩ := Nat.exists_eq_add_of_le' hg
 obtain ⟨k, hk⟩ : ∃ k, k = j + 30 * left + 520 := ⟨_, rfl⟩
 rw [show j + (30 * left + 1520) = k + 1000 from by omega]
 obtain ⟨v1, μ1, t1, rfl, S1⟩ := part_yes (X := X) (g := k + 996) (by omega) h hl
 obtain ⟨ad, buf, xs, f1, h2, h3, h4⟩ := S1.has
 have c0 : ∀ M : Mem, Grow μ1 M → cellsAt M xi 0 = some (.pointer (some ⟨sp, 0, none⟩)) := fun M gM => by rw [gcell gM S1.xn]; exact f1.cell 0 (by simp [shL])
 have S : ∀ M : Mem, Grow μ1 M → SP M sp hp ap wb lb N L ws p := fun M gM => hS.grow (S1.grow.trans gM)
 have hN := hS.hs.ab.N1
 obtain ⟨v2, μ2, t2, rfl, g2⟩ := fields_no (X := X) (g := k + 995) (kd' := 1) (by omega) (S μ1 (Grow.refl _)).sp0 (S μ1 (Grow.refl _)).hs.at hq hN wq (by decide) (by decide) (by decide) (by decide)
 have t2 : aFun Tryz.prog (aCode Tryz.prog X S0 (k + 995)) 44 [.pointer (some ⟨sp, 0, none⟩), .int .i64 1, .int .u64 (.ofNat (placeW (adr (c + 0))))] μ1 = some (.tuple #[.slice none 0 0, .bool false], μ2) := t2
 obtain ⟨v3, μ3, t3, rfl, g3⟩ := hkind (X := X) (g := k + 994) (by omega) (S μ2 g2).hs.at hq hN wq (by decide) (by decide) (by decide)
 have t3 : aFun Tryz.prog (aCode Tryz.prog X S0 (k + 994)) 47 [.pointer (some ⟨hp, 0, none⟩), .int .u64 (.ofNat (placeW (adr (c + 0))))] μ2 = some (.int .i64 0, μ3) := t3
 have g23 := g2.trans g3
 obtain ⟨v4, μ4, t4, rfl, g4⟩ := list_out (X := X) (g := k + 992) (by omega) hO hm (S1.keep g23) hn
 have e1 : ieq 0 0 = true := rfl
 obtain ⟨x, hx⟩ : ∃ x, x = placeW (adr (c + 0)) := ⟨_, rfl⟩
 rw [← hx] at t2 t3 t4 ⊢
 refine fun_enter Tryz.func19 rfl rfl (Nat.le_of_ble_eq_true rfl) ?_
 simp only [T.lay, Nat.zero_add, Tryz.ntmps19, Nat.reduceAdd]
 repeat (first | refine code_seq ?_ | ((first | (refine code_region ?_ ?_; (focus rfl)) | (refine code_guards (gs := ?_) ?_ ?_; rotate_left; (focus rfl))); simp only [run1, run2, wanted, go_sem, Nat.reduceLT, Nat.reduceAdd, Nat.reduceEqDiff, reduceIte, reduceCtorEq, gg43, t1, faX0, faS0, Nat.add_zero, ld24, ldHp, c0 μ1 (Grow.refl _), c0 μ2 g2, (S μ2 g2).sp0, gg44, t2, gg47, t3, e1, gg48, t4]) | (refine code_cond_true ?_ ?_; (focus (simp only [aev, regAt_set, Nat.reduceEqDiff, reduceIte, gg43, t1, faX0, faS0, Nat.add_zero, ld24, ldHp, c0 μ1 (Grow.refl _), c0 μ2 g2, (S μ2 g2).sp0, gg44, t2, gg47, t3, e1, gg48, t4]; done))) | (refine code_cond_false ?_ ?_; (focus (simp only [aev, regAt_set, Nat.reduceEqDiff, reduceIte, gg43, t1, faX0, faS0, Nat.add_zero, ld24, ldHp, c0 μ1 (Grow.refl _), c0 μ2 g2, (S μ2 g2).sp0, gg44, t2, gg47, t3, e1, gg48, t4]; done))) | ((first | refine code_skip ?_ | refine code_label ?_ | refine code_exit ?_); try simp only [then_exit, then_normal, blockC, Nat.reduceEqDiff, reduceIte]) | refine code_block ?_)
 refine code_ret ?_
 refine ⟨rfl, _, ?_, rfl, g4⟩
 simp only [aResults, Tryz.results19, aRes, regAt_set, Nat.reduceEqDiff, reduceIte]
end
noncomputable section
variable {X : FuncId → List Value → Mem → Option (Value × Mem)}
set_option maxRecDepth 20000 in
set_option maxHeartbeats 4000000 in
theorem list_stop {K sp hp ap wb lb N L xi left n q : Nat} {s : ByteArray} {ws : Nat → Nat} {p : Pos} {tm : T Value} {μ0 μ : Mem} (hX : Esc X) (hK : 1000 ≤ K) (hS : SP μ0 sp hp ap wb lb N L ws p) (hq : q + 2 < N) (wq : ws q = headW 0 0 2) (h : Shw μ0 μ xi sp left n) (hn : n < 400000) (hs : s.data.toList.length = 1)
  (r0 : regAt tm 0 = .pointer (some ⟨xi, 0, none⟩)) (r1 : regAt tm 1 = .int .u64 (.ofNat (placeW q))) (r5 : regAt tm 5 = .string s)
  (hsh : ∀ μ1, Shw μ0 μ1 xi sp left (n + 1) → EndsF (aFun Tryz.prog (aCode Tryz.prog X S0 (K - 7)) 19 [.pointer (some ⟨xi, 0, none⟩), .int .u64 (.ofNat (ws (q + 1 + 0)))] μ1) fun v μ' => v = .bool false ∧ Grow μ0 μ') :
  EndsC (aCode Tryz.prog X S0 (K + 1) (.loop (loopBody Tryz.f48 0)) ⟨66, tm, [], none⟩ μ) fun a r μ' => a = .ret ∧ Grow μ0 μ' ∧ ∃ tm', r = ⟨66, tm', [], none⟩ ∧ regAt tm' 4 = .bool false := by
 obtain ⟨k, rfl⟩ := Nat.exists_eq_add_of_le' hK
 obtain ⟨ad, buf, xs, f1, h2, h3, h4⟩ := h.has
 have c0 : ∀ M : Mem, Grow μ M → cellsAt M xi 0 = some (.pointer (some ⟨sp, 0, none⟩)) := fun M gM => by rw [gcell gM h.xn]; exact f1.cell 0 (by simp [shL])
 have S : ∀ M : Mem, Grow μ M → SP M sp hp ap wb lb N L ws p := fun M gM => hS.grow (h.grow.trans gM)
 have hN := hS.hs.ab.N1
 obtain ⟨v1, μ1, t1, rfl, g1⟩ := hkind (X := X) (g := k + 997) (by omega) (S μ (Grow.refl _)).hs.at (by omega : q < N) hN wq (by decide) (by decide) (by decide)
 have t1 : aFun Tryz.prog (aCode Tryz.prog X S0 (k + 997)) 47 [.pointer (some ⟨hp, 0, none⟩), .int .u64 (.ofNat (placeW q))] μ = some (.int .i64 0, μ1) := t1
 obtain ⟨v2, μ2, t2, rfl, g2⟩ := hget (X := X) (g := k + 996) (i := 0) (by omega) (S μ1 g1).hs.at hq hN wq (by decide) (by decide) (by decide)
 have t2 : aFun Tryz.prog (aCode Tryz.prog X S0 (k + 996)) 51 [.pointer (some ⟨hp, 0, none⟩), .int .u64 (.ofNat (placeW q)), .int .i64 0] μ1 = some (.tuple #[.int .u64 (.ofNat (ws (q + 1 + 0))), .int .i64 0], μ2) := t2
 obtain ⟨v3, μ3, t3, S3⟩ := wstr_ends (X := X) (g := k + 995) (s := s) hX (by omega) (h.keep (g1.trans g2)) (by omega) (by omega) (by omega)
 rw [hs] at S3
 obtain ⟨v4, μ4, t4, rfl, g4⟩ := hsh μ3 S3
 have t4 : aFun Tryz.prog (aCode Tryz.prog X S0 (k + 993)) 19 [.pointer (some ⟨xi, 0, none⟩), .int .u64 (.ofNat (ws (q + 1 + 0)))] μ3 = some (.bool false, μ4) := t4
 obtain ⟨w, hw⟩ : ∃ w, w = ws (q + 1 + 0) := ⟨_, rfl⟩
 rw [← hw] at t2 t4
 have e1 : ieq 0 0 = true := rfl
 refine code_loop ?_
 repeat (first | refine code_seq ?_ | ((first | (refine code_region ?_ ?_; (focus rfl)) | (refine code_guards (gs := ?_) ?_ ?_; rotate_left; (focus rfl))); simp only [run1, run2, wanted, go_sem, Nat.reduceLT, Nat.reduceAdd, Nat.reduceEqDiff, reduceIte, reduceCtorEq, r0, r1, r5, faX0, faX3, faS0, Nat.add_zero, ld24, ldHp, c0 μ (Grow.refl _), (S μ (Grow.refl _)).sp0, c0 μ1 g1, (S μ1 g1).sp0, gg47, t1, gg51, t2, gg45, t3, gg19, t4, e1]) | (refine code_cond_true ?_ ?_; (focus (simp only [aev, regAt_set, Nat.reduceEqDiff, reduceIte, r0, r1, r5, faX0, faX3, faS0, Nat.add_zero, ld24, ldHp, c0 μ (Grow.refl _), (S μ (Grow.refl _)).sp0, c0 μ1 g1, (S μ1 g1).sp0, gg47, t1, gg51, t2, gg45, t3, gg19, t4, e1]; done))) | (refine code_cond_false ?_ ?_; (focus (simp only [aev, regAt_set, Nat.reduceEqDiff, reduceIte, r0, r1, r5, faX0, faX3, faS0, Nat.add_zero, ld24, ldHp, c0 μ (Grow.refl _), (S μ (Grow.refl _)).sp0, c0 μ1 g1, (S μ1 g1).sp0, gg47, t1, gg51, t2, gg45, t3, gg19, t4, e1]; done))) | ((first | refine code_skip ?_ | refine code_label ?_ | refine code_exit ?_); try simp only [then_exit, then_normal, blockC, Nat.reduceEqDiff, reduceIte]) | refine code_block ?_)
 refine code_ret ?_
 refine ⟨rfl, g4, _, rfl, ?_⟩
 simp only [regAt_set, Nat.reduceEqDiff, reduceIte]
set_option maxRecDepth 20000 in
set_option maxHeartbeats 4000000 in
theorem list_go {K sp hp ap wb lb N L xi left n q : Nat} {s : ByteArray} {a : Int} {ws : Nat → Nat} {p : Pos} {tm : T Value} {μ0 μ : Mem} {Q : Ax → Rg → Mem → Prop} (hX : Esc X) (hK : 1010 ≤ K) (hr : Rom μ0) (hS : SP μ0 sp hp ap wb lb N L ws p) (hq : q + 2 < N) (wq : ws q = headW 0 0 2) (wc : ws (q + 1 + 0) = sw a) (ha : Sm a) (h : Shw μ0 μ xi sp (left + 1) n) (hl : left < 100000) (hn : n < 300000) (hs : s.data.toList.length = 1)
  (r0 : regAt tm 0 = .pointer (some ⟨xi, 0, none⟩)) (r1 : regAt tm 1 = .int .u64 (.ofNat (placeW q))) (r5 : regAt tm 5 = .string s)
  (hQ : ∀ μ' n' tm', n' ≤ n + 8 → Shw μ0 μ' xi sp left n' → regAt tm' 0 = .pointer (some ⟨xi, 0, none⟩) → regAt tm' 1 = .int .u64 (.ofNat (ws (q + 1 + 1))) → regAt tm' 5 = .string ⟨List.toArray [32]⟩ →
   EndsC (aCode Tryz.prog X S0 K (.loop (loopBody Tryz.f48 0)) ⟨66, tm', [], none⟩ μ') Q) :
  EndsC (aCode Tryz.prog X S0 (K + 1) (.loop (loopBody Tryz.f48 0)) ⟨66, tm, [], none⟩ μ) Q := by
 obtain ⟨k, rfl⟩ := Nat.exists_eq_add_of_le' hK
 obtain ⟨ad, buf, xs, f1, h2, h3, h4⟩ := h.has
 have c0 : ∀ M : Mem, Grow μ M → cellsAt M xi 0 = some (.pointer (some ⟨sp, 0, none⟩)) := fun M gM => by rw [gcell gM h.xn]; exact f1.cell 0 (by simp [shL])
 have S : ∀ M : Mem, Grow μ M → SP M sp hp ap wb lb N L ws p := fun M gM => hS.grow (h.grow.trans gM)
 have hN := hS.hs.ab.N1
 obtain ⟨v1, μ1, t1, rfl, g1⟩ := hkind (X := X) (g := k + 1007) (by omega) (S μ (Grow.refl _)).hs.at (by omega : q < N) hN wq (by decide) (by decide) (by decide)
 have t1 : aFun Tryz.prog (aCode Tryz.prog X S0 (k + 1007)) 47 [.pointer (some ⟨hp, 0, none⟩), .int .u64 (.ofNat (placeW q))] μ = some (.int .i64 0, μ1) := t1
 obtain ⟨v2, μ2, t2, rfl, g2⟩ := hget (X := X) (g := k + 1006) (i := 0) (by omega) (S μ1 g1).hs.at hq hN wq (by decide) (by decide) (by decide)
 have t2 : aFun Tryz.prog (aCode Tryz.prog X S0 (k + 1006)) 51 [.pointer (some ⟨hp, 0, none⟩), .int .u64 (.ofNat (placeW q)), .int .i64 0] μ1 = some (.tuple #[.int .u64 (.ofNat (ws (q + 1 + 0))), .int .i64 0], μ2) := t2
 obtain ⟨v3, μ3, t3, S3⟩ := wstr_ends (X := X) (g := k + 1005) (s := s) hX (by omega) (h.keep (g1.trans g2)) (by omega) (by omega) (by omega)
 rw [hs] at S3
 obtain ⟨v4, μ4, t4, rfl, n4, hn4, S4⟩ := show_num (X := X) (g := k + 1003) hX (by omega) hr hS S3 ha hl (by omega)
 rw [wc] at t2
 obtain ⟨w, hw⟩ : ∃ w, w = sw a := ⟨_, rfl⟩
 rw [← hw] at t2 t4
 obtain ⟨ad4, buf4, xs4, f4, _, _, _⟩ := S4.has
 have c4 : cellsAt μ4 xi 0 = some (.pointer (some ⟨sp, 0, none⟩)) := f4.cell 0 (by simp [shL])
 have SP4 := hS.grow S4.grow
 obtain ⟨v5, μ5, t5, rfl, g5⟩ := hget (X := X) (g := k + 1003) (i := 1) (by omega) SP4.hs.at hq hN wq (by decide) (by decide) (by decide)
 have t5 : aFun Tryz.prog (aCode Tryz.prog X S0 (k + 1003)) 51 [.pointer (some ⟨hp, 0, none⟩), .int .u64 (.ofNat (placeW q)), .int .i64 1] μ4 = some (.tuple #[.int .u64 (.ofNat (ws (q + 1 + 1))), .int .i64 0], μ5) := t5
 obtain ⟨y, hy⟩ : ∃ y, y = ws (q + 1 + 1) := ⟨_, rfl⟩
 rw [← hy] at t5 hQ
 have e1 : ieq 0 0 = true := rfl
 refine code_loop ?_
 repeat (first | refine code_seq ?_ | ((first | (refine code_region ?_ ?_; (focus rfl)) | (refine code_guards (gs := ?_) ?_ ?_; rotate_left; (focus rfl))); simp only [run1, run2, wanted, go_sem, Nat.reduceLT, Nat.reduceAdd, Nat.reduceEqDiff, reduceIte, reduceCtorEq, r0, r1, r5, faX0, faX3, faS0, Nat.add_zero, ld24, ldHp, c0 μ (Grow.refl _), (S μ (Grow.refl _)).sp0, c0 μ1 g1, (S μ1 g1).sp0, c4, SP4.sp0, gg47, t1, gg51, t2, gg45, t3, gg19, t4, t5, e1]) | (refine code_cond_true ?_ ?_; (focus (simp only [aev, regAt_set, Nat.reduceEqDiff, reduceIte, r0, r1, r5, faX0, faX3, faS0, Nat.add_zero, ld24, ldHp, c0 μ (Grow.refl _), (S μ (Grow.refl _)).sp0, c0 μ1 g1, (S μ1 g1).sp0, c4, SP4.sp0, gg47, t1, gg51, t2, gg45, t3, gg19, t4, t5, e1]; done))) | (refine code_cond_false ?_ ?_; (focus (simp only [aev, regAt_set, Nat.reduceEqDiff, reduceIte, r0, r1, r5, faX0, faX3, faS0, Nat.add_zero, ld24, ldHp, c0 μ (Grow.refl _), (S μ (Grow.refl _)).sp0, c0 μ1 g1, (S μ1 g1).sp0, c4, SP4.sp0, gg47, t1, gg51, t2, gg45, t3, gg19, t4, t5, e1]; done))) | ((first | refine code_skip ?_ | refine code_label ?_ | refine code_exit ?_); try simp only [then_exit, then_normal, blockC, Nat.reduceEqDiff, reduceIte]) | refine code_block ?_)
 refine hQ μ5 n4 _ (by omega) (S4.keep g5) ?_ ?_ ?_ <;> simp only [regAt_set, Nat.reduceEqDiff, reduceIte, r0]
theorem sh_loop {sp hp ap wb lb xi c m : Nat} {ws : Nat → Nat} {p : Pos} {μ0 : Mem} {x : Nat → Int} {f0 : Bool} (hX : Esc X) (hr : Rom μ0) (hS : SP μ0 sp hp ap wb lb 2560 160 ws p) (R : RingW ws c m x f0) (hx : ∀ i, Sm (x i)) (hm : 0 < m) : ∀ left, left ≤ 4000 → ShOut X μ0 xi sp c m left := by
 have ht := R.top
 intro left
 induction left with
 | zero =>
   intro hl e i n s tm μ hi h hn hs r0 r1 r5
   have a1 := adr_top (k := c + i) (by omega)
   exact list_stop (K := e + 30 * 0 + 1499) hX (by omega) hS (by omega) (R.hd i hi) h (by omega) hs r0 r1 r5 fun μ1 S1 => show_out (by omega) S1
 | succ left ih =>
   intro hl e i n s tm μ hi h hn hs r0 r1 r5
   have a1 := adr_top (k := c + i) (by omega)
   have a0 := adr_top (k := c + 0) (by omega)
   rcases ring_next R hi with ⟨_, _, e3, _⟩ | ⟨j, hj, e3, e4, _⟩
   ·refine list_stop (K := e + 30 * (left + 1) + 1499) hX (by omega) hS (by omega) (R.hd i hi) h (by omega) hs r0 r1 r5 fun μ1 S1 => ?_
    rw [e3]
    exact show_ring (by omega) hS (by omega) (R.hd 0 hm) (ih (by omega)) hm S1 (by omega) (by omega)
   ·refine list_go (K := e + 30 * (left + 1) + 1499) hX (by omega) hr hS (by omega) (R.hd i hi) e3 (hx i) h (by omega) (by omega) hs r0 r1 r5 fun μ' n' tm' hn' S' q0 q1 q5 => ?_
    rw [e4] at q1
    rw [show e + 30 * (left + 1) + 1499 = (e + 29) + 30 * left + 1500 from by omega]
    exact ih (by omega) (e + 29) j n' _ tm' μ' hj S' (by omega) rfl q0 q1 q5
theorem zSh : aZeroOf Tryz.prog 70 = some (.agg #[.pointer none, .bool false, .int .i64 0, .pointer none, .slice none 0 0]) := by unfold aZeroOf; rw [k44]; rfl
theorem bdSh (r : Rg) (x y : Operand) (sp : Nat) (h1 : aev Tryz.prog r x = .pointer (some ⟨sp, 0, none⟩)) (h2 : aev Tryz.prog r y = .bool true) : aBuild Tryz.prog (aev Tryz.prog r) 70 #[(0, x), (1, y), (2, .const (.int .i64 2000))] = some (.agg (shL sp 2000 (.pointer none) (.slice none 0 0)).toArray) := by
 refine build_struct (pl := [(0, 1), (1, 1), (2, 1), (3, 2)]) zSh Tryz.underlying70 (by kernel_rfl) ?_
 show aFill _ [.pointer none, .bool false, .int .i64 0, .pointer none, .slice none 0 0] [(0, aev Tryz.prog r x), (1, aev Tryz.prog r y), (2, .int .i64 2000)] = some (shL sp 2000 (.pointer none) (.slice none 0 0))
 rw [h1, h2]
 rfl
theorem bxSh (l : List Value) : aBox 70 (.agg l.toArray) = some (.cells l.length 70 l.toArray .e 0 0 false false, fun id => .pointer (some ⟨id, 0, none⟩)) := rfl
set_option maxRecDepth 20000 in
set_option maxHeartbeats 4000000 in
theorem show_ends {g sp hp ap wb lb c m : Nat} {ws : Nat → Nat} {p : Pos} {μ : Mem} {x : Nat → Int} {f0 : Bool} (hX : Esc X) (hg : 70000 ≤ g) (hr : Rom μ) (hS : SP μ sp hp ap wb lb 2560 160 ws p) (R : RingW ws c m x f0) (hx : ∀ i, Sm (x i)) (hm : 0 < m) :
  EndsF (aFun Tryz.prog (aCode Tryz.prog X S0 g) 7 [.pointer (some ⟨sp, 0, none⟩), .int .u64 (.ofNat (placeW (adr (c + 0)))), .bool true] μ) fun v μ' => v = .tuple #[.string ⟨#[]⟩, .int .i64 181] ∧ Grow μ μ' := by
 obtain ⟨k, rfl⟩ := Nat.exists_eq_add_of_le' hg
 have ht := R.top
 have a0 := adr_top (k := c + 0) (by omega)
 obtain ⟨μ1, h1⟩ : ∃ M : Mem, M = ⟨μ.obs.set μ.next (.cells (shL sp 2000 (.pointer none) (.slice none 0 0)).length 70 (shL sp 2000 (.pointer none) (.slice none 0 0)).toArray .e 0 0 false false), μ.next + 1⟩ := ⟨_, rfl⟩
 have S1 : Shw μ μ1 μ.next sp 2000 0 := by
  have g1 : Grow μ μ1 := by rw [h1]; exact grow1 μ _
  have o1 : μ1.obs.get μ.next = some (.cells (shL sp 2000 (.pointer none) (.slice none 0 0)).length 70 (shL sp 2000 (.pointer none) (.slice none 0 0)).toArray .e 0 0 false false) := by rw [h1]; show T.get _ _ = _; rw [T.get_set, if_pos rfl]
  exact ⟨g1, Nat.le_refl _, by rw [h1]; exact Nat.lt_succ_self _, ⟨_, _, _, o1⟩, .pointer none, .slice none 0 0, [], Has.new o1, .inl rfl, GoodK.nil _ _ _ _, fun i e => by obtain ⟨l, c, e⟩ := e; cases e⟩
 obtain ⟨v2, μ2, t2, rfl, g2⟩ := show_ring (X := X) (g := k + 69995) (left := 1999) (by omega) hS (by omega) (R.hd 0 hm) (sh_loop hX hr hS R hx hm 1999 (by decide)) hm S1 (by decide) (by decide)
 obtain ⟨w, hw⟩ : ∃ w, w = placeW (adr (c + 0)) := ⟨_, rfl⟩
 rw [← hw] at t2 ⊢
 have hbd := fun (r : Rg) (x y : Operand) => bdSh r x y sp
 refine fun_enter Tryz.func7 rfl rfl (Nat.le_of_ble_eq_true rfl) ?_
 simp only [T.lay, Nat.zero_add, Tryz.ntmps7, Nat.reduceAdd]
 repeat (first | refine code_seq ?_ | ((first | (refine code_region ?_ ?_; (focus rfl)) | (refine code_guards (gs := ?_) ?_ ?_; rotate_left; (focus rfl))); simp only [run1, run2, wanted, go_sem, Nat.reduceLT, Nat.reduceAdd, Nat.reduceEqDiff, reduceIte, reduceCtorEq, hbd, bxSh, Nat.add_eq, h1.symm, gg19, t2]) | (refine code_cond_true ?_ ?_; (focus (simp only [aev, regAt_set, Nat.reduceEqDiff, reduceIte, hbd, bxSh, Nat.add_eq, h1.symm, gg19, t2]; done))) | (refine code_cond_false ?_ ?_; (focus (simp only [aev, regAt_set, Nat.reduceEqDiff, reduceIte, hbd, bxSh, Nat.add_eq, h1.symm, gg19, t2]; done))) | ((first | refine code_skip ?_ | refine code_label ?_ | refine code_exit ?_); try simp only [then_exit, then_normal, blockC, Nat.reduceEqDiff, reduceIte]) | refine code_block ?_)
 refine code_ret ?_
 refine ⟨rfl, _, ?_, rfl, g2⟩
 simp only [aResults, Tryz.results7, aRes, regAt_set, Nat.reduceEqDiff, reduceIte]
end
noncomputable section
variable {X : FuncId → List Value → Mem → Option (Value × Mem)}
theorem k75 : Tryz.prog.info? 75 = some Tryz.t75 := by kernel_rfl
theorem faQ0 (ρ : Operand → Value) (x : Operand) : aFieldAddr Tryz.prog ρ 75 x 0 = (match ρ x with | .pointer (some a) => some (.pointer (some (a.add 0))) | _ => none) := fieldAddr_at (ft := 24) (off := 0) Tryz.underlying75 rfl j24 rfl ρ x
theorem faQ1 (ρ : Operand → Value) (x : Operand) : aFieldAddr Tryz.prog ρ 75 x 1 = (match ρ x with | .pointer (some a) => some (.pointer (some (a.add 1))) | _ => none) := fieldAddr_at (ft := 3) (off := 1) Tryz.underlying75 rfl j3 rfl ρ x
def dZ : List Value := [.int .i64 0, .int .i64 0, .bool false, .float .f64 0, .bool false, nilS, .string ⟨#[]⟩, nilS]
def dN (b : Bool) (v : Value) : List Value := [.int .i64 0, .int .i64 0, .bool false, .float .f64 0, .bool b, v, .string ⟨#[]⟩, nilS]
def dL : List Value := [.int .i64 5, .int .i64 0, .bool false, .float .f64 0, .bool false, nilS, .string ⟨#[]⟩, nilS]
def obD : Ob := .cells 8 41 dZ.toArray .e 0 0 false false
theorem zD : aZeroOf Tryz.prog 41 = some (.agg dZ.toArray) := by unfold aZeroOf; rw [j39]; rfl
theorem alD : aAlloc Tryz.prog 41 = some (obD, fun id => .pointer (some ⟨id, 0, none⟩)) := by unfold aAlloc; rw [zD]; rfl
theorem bdD0 (ρ : Operand → Value) : aBuild Tryz.prog ρ 41 #[] = some (.agg dZ.toArray) := by
 refine build_struct (pl := [(0, 1), (1, 1), (2, 4), (6, 1), (7, 1)]) zD Tryz.underlying41 (by kernel_rfl) ?_
 rfl
theorem bdDN (ρ : Operand → Value) (x : Operand) (b : Bool) (v : Value) (h1 : ρ x = .agg (numL b v).toArray) : aBuild Tryz.prog ρ 41 #[(2, x)] = some (.agg (dN b v).toArray) := by
 refine build_struct (pl := [(0, 1), (1, 1), (2, 4), (6, 1), (7, 1)]) zD Tryz.underlying41 (by kernel_rfl) ?_
 show aFill _ dZ [(2, ρ x)] = some (dN b v)
 rw [h1]
 rfl
theorem bdDL (r : Rg) (x : Operand) (h1 : aev Tryz.prog r x = .slice none 0 0) : aBuild Tryz.prog (aev Tryz.prog r) 41 #[(0, .const (.int .i64 5)), (4, x)] = some (.agg dL.toArray) := by
 refine build_struct (pl := [(0, 1), (1, 1), (2, 4), (6, 1), (7, 1)]) zD Tryz.underlying41 (by kernel_rfl) ?_
 show aFill _ dZ [(0, .int .i64 5), (4, aev Tryz.prog r x)] = some dL
 rw [h1]
 rfl
theorem blkD {μ μ1 : Mem} (h : Grow ⟨μ.obs.set μ.next obD, μ.next + 1⟩ μ1) : Blk μ1 μ.next 8 41 := fresh_blk h
theorem stD {μ : Mem} {b : Nat} {l : List Value} (hb : Blk μ b 8 41) (ho : l.all one = true) (hl : l.length = 8) : aStore Tryz.prog μ 41 (.pointer (some ⟨b, 0, none⟩)) (.agg l.toArray) = some (undef, putL μ b 0 l) := store_puts (P := Tryz.prog) (t := 41) (vs := l) j39 (by rw [hl]; rfl) ho hb (by omega)
theorem ldD {μ : Mem} {b : Nat} {l : List Value} (hb : Blk μ b 8 41) (hl : l.length = 8) : aLoad Tryz.prog (putL μ b 0 l) 41 (.pointer (some ⟨b, 0, none⟩)) = some (.agg l.toArray) := lds39 (Has.of_put hb (by omega)) (by rw [hl]; rfl)
def rdL (sp left : Nat) : List Value := [.pointer (some ⟨sp, 0, none⟩), .int .i64 (.ofNat left)]
structure Rdr (μ0 μ : Mem) (ri sp left : Nat) : Prop where
 grow : Grow μ0 μ
 x0 : μ0.next ≤ ri
 xn : ri < μ.next
 blk : Blk μ ri 2 75
 has : Has μ ri 0 (rdL sp left)
theorem Rdr.keep {μ0 μ μ' : Mem} {ri sp left : Nat} (h : Rdr μ0 μ ri sp left) (g : Grow μ μ') : Rdr μ0 μ' ri sp left :=
 ⟨h.grow.trans g, h.x0, Nat.lt_of_lt_of_le h.xn g.1, h.blk.of_get (g.2 _ h.xn), h.has.keep (g.2 _ h.xn)⟩
theorem Rdr.other {μ0 μ : Mem} {ri sp left b o : Nat} {vs : List Value} (h : Rdr μ0 μ ri sp left) (hb : μ0.next ≤ b) (hn : ri ≠ b) : Rdr μ0 (putL μ b o vs) ri sp left :=
 ⟨h.grow.put_new hb, h.x0, by rw [putL_next]; exact h.xn, h.blk.of_get (putL_get _ _ _ _ hn), h.has.keep (putL_get _ _ _ _ hn)⟩
theorem Rdr.dec {μ0 μ : Mem} {ri sp left : Nat} (h : Rdr μ0 μ ri sp (left + 1)) : Rdr μ0 (putL μ ri 1 [.int .i64 (.ofNat left)]) ri sp left :=
 ⟨h.grow.put_new h.x0, h.x0, by rw [putL_next]; exact h.xn, Blk.put (i := ri) _ _ h.blk, h.has.set h.blk (k := 1) (v := .int .i64 (.ofNat left)) (by simp [rdL])⟩
theorem Rdr.c0 {μ0 μ : Mem} {ri sp left : Nat} (h : Rdr μ0 μ ri sp left) : cellsAt μ ri 0 = some (.pointer (some ⟨sp, 0, none⟩)) := h.has.cell 0 (by simp [rdL])
theorem Rdr.c1 {μ0 μ : Mem} {ri sp left : Nat} (h : Rdr μ0 μ ri sp left) : cellsAt μ ri 1 = some (.int .i64 (.ofNat left)) := h.has.cell 1 (by simp [rdL])
set_option maxRecDepth 20000 in
set_option maxHeartbeats 4000000 in
theorem rd_single {g ri sp left : Nat} {a : Int} {μ0 μ : Mem} (hg : 600 ≤ g) (h : Rdr μ0 μ ri sp left) (ha : Sm a) :
  EndsF (aFun Tryz.prog (aCode Tryz.prog X S0 g) 52 [.pointer (some ⟨ri, 0, none⟩), .int .u64 (.ofNat (sw a))] μ) fun v μ' => (∃ b w, v = .tuple #[.agg (dN b w).toArray, .bool true] ∧ one w = true) ∧ Grow μ μ' := by
 obtain ⟨k, rfl⟩ := Nat.exists_eq_add_of_le' hg
 obtain ⟨M0, h0⟩ : ∃ M : Mem, M = ⟨μ.obs.set μ.next obD, μ.next + 1⟩ := ⟨_, rfl⟩
 have g0 : Grow μ M0 := by rw [h0]; exact grow1 μ _
 have R0 := h.keep g0
 obtain ⟨v1, μ1, t1, g1, w1, rfl, l1⟩ := asnum_small (X := X) (g := k + 596) (sp := sp) (n := a) (μ := M0) (by omega) ha
 obtain ⟨μ2, s2, d2, g2, lv, rfl, l2⟩ := tell36 (μ := μ1) (Grow.refl _) (l1.grow (grow1 μ1 ob36))
 have hb : Blk μ2 μ.next 8 41 := blkD (h0 ▸ (g1.trans g2))
 obtain ⟨b, hbb⟩ : ∃ b, b = decide (a < 0) := ⟨_, rfl⟩
 rw [← hbb] at t1 s2 d2
 have hd : (dN b lv).all one = true := by show (true && (true && (true && (true && (true && (one lv && (true && (true && true)))))))) = true; rw [l2.one]; rfl
 have s3 := stD (l := dN b lv) hb hd rfl
 have d3 := ldD (l := dN b lv) hb rfl
 have hbd : ∀ (ρ : Operand → Value) (x : Operand), ρ x = .agg (numL b lv).toArray → aBuild Tryz.prog ρ 41 #[(2, x)] = some (.agg (dN b lv).toArray) := fun ρ x h1 => bdDN ρ x b lv h1
 obtain ⟨x, hx⟩ : ∃ x, x = sw a := ⟨_, rfl⟩
 rw [← hx] at t1 ⊢
 refine fun_enter Tryz.func52 rfl rfl (Nat.le_of_ble_eq_true rfl) ?_
 simp only [T.lay, Nat.zero_add, Tryz.ntmps52, Nat.reduceAdd]
 repeat (first | refine code_seq ?_ | ((first | (refine code_region ?_ ?_; (focus rfl)) | (refine code_guards (gs := ?_) ?_ ?_; rotate_left; (focus rfl))); simp only [run1, run2, wanted, go_sem, Nat.reduceLT, Nat.reduceAdd, Nat.reduceEqDiff, reduceIte, reduceCtorEq, alD, Nat.add_eq, h0.symm, faQ0, Nat.add_zero, ld24, R0.c0, gg83, t1, al36, s2, d2, hbd, s3]) | (refine code_cond_true ?_ ?_; (focus (simp only [aev, regAt_set, Nat.reduceEqDiff, reduceIte, alD, Nat.add_eq, h0.symm, faQ0, Nat.add_zero, ld24, R0.c0, gg83, t1, al36, s2, d2, hbd, s3]; done))) | (refine code_cond_false ?_ ?_; (focus (simp only [aev, regAt_set, Nat.reduceEqDiff, reduceIte, alD, Nat.add_eq, h0.symm, faQ0, Nat.add_zero, ld24, R0.c0, gg83, t1, al36, s2, d2, hbd, s3]; done))) | ((first | refine code_skip ?_ | refine code_label ?_ | refine code_exit ?_); try simp only [then_exit, then_normal, blockC, Nat.reduceEqDiff, reduceIte]) | refine code_block ?_)
 refine code_ret ?_
 refine ⟨rfl, _, ?_, ⟨b, lv, rfl, l2.one⟩, (g0.trans (g1.trans g2)).put_new (Nat.le_refl _)⟩
 simp only [aResults, Tryz.results52, aRes, regAt_set, Nat.reduceEqDiff, reduceIte]
 simp only [d3]
def Kx (μ μ' : Mem) (ri : Nat) : Prop := μ.next ≤ μ'.next ∧ ∀ j, j < μ.next → j ≠ ri → μ'.obs.get j = μ.obs.get j
theorem Kx.trans {a b c : Mem} {ri : Nat} (h : Kx a b ri) (g : Kx b c ri) : Kx a c ri := ⟨Nat.le_trans h.1 g.1, fun j h1 h2 => (g.2 j (Nat.lt_of_lt_of_le h1 h.1) h2).trans (h.2 j h1 h2)⟩
theorem Kx.of {a b : Mem} (ri : Nat) (h : Grow a b) : Kx a b ri := ⟨h.1, fun j h1 _ => h.2 j h1⟩
theorem Kx.put (a : Mem) (ri o : Nat) (vs : List Value) : Kx a (putL a ri o vs) ri := ⟨by rw [putL_next]; exact Nat.le_refl _, fun j _ h => putL_get _ _ _ _ h⟩
theorem Kx.new {a b : Mem} {ri i o : Nat} {vs : List Value} (h : Kx a b ri) (hi : a.next ≤ i) : Kx a (putL b i o vs) ri := ⟨by rw [putL_next]; exact h.1, fun j h1 h2 => by rw [putL_get _ _ _ _ (by omega)]; exact h.2 j h1 h2⟩
theorem Kx.grow {a b c : Mem} {ri : Nat} (h : Kx b c ri) (g : Grow a b) (hr : a.next ≤ ri) : Grow a c := ⟨Nat.le_trans g.1 h.1, fun j hj => (h.2 j (Nat.lt_of_lt_of_le hj g.1) (by omega)).trans (g.2 j hj)⟩
def NoD (v : Value) : Prop := ∃ l : List Value, v = .tuple #[.agg l.toArray, .bool false] ∧ l.all one = true ∧ l.length = 8
set_option maxRecDepth 20000 in
set_option maxHeartbeats 4000000 in
theorem rd_out {g ri sp w deep : Nat} {μ0 μ : Mem} (hg : 100 ≤ g) (h : Rdr μ0 μ ri sp 0) :
  EndsF (aFun Tryz.prog (aCode Tryz.prog X S0 g) 21 [.pointer (some ⟨ri, 0, none⟩), .int .u64 (.ofNat w), .int .i64 (.ofNat deep)] μ) fun v μ' => NoD v ∧ Kx μ μ' ri := by
 obtain ⟨k, rfl⟩ := Nat.exists_eq_add_of_le' hg
 obtain ⟨M0, h0⟩ : ∃ M : Mem, M = ⟨μ.obs.set μ.next obD, μ.next + 1⟩ := ⟨_, rfl⟩
 have g0 : Grow μ M0 := by rw [h0]; exact grow1 μ _
 have R0 := h.keep g0
 have hne : ri ≠ μ.next := by have := h.xn; omega
 have hst := store_put (P := Tryz.prog) (t := 3) (v := .int .i64 (-1)) i3 rfl rfl R0.blk (show 1 < 2 by decide)
 have c1' : cellsAt (putL M0 ri 1 [.int .i64 (-1)]) ri 1 = some (.int .i64 (-1)) := (R0.has.set R0.blk (k := 1) (v := .int .i64 (-1)) (by simp [rdL])).cell 1 (by simp [rdL])
 have e1 : qwrap .i64 (Int.sub (.ofNat 0) 1) = -1 := rfl
 have e2 : ilt (-1) 0 = true := rfl
 have hb : Blk (putL M0 ri 1 [.int .i64 (-1)]) μ.next 8 41 := (blkD (h0 ▸ Grow.refl _) : Blk M0 μ.next 8 41).of_get (putL_get _ _ _ _ hne.symm)
 have s3 := stD (l := dZ) hb rfl rfl
 have d3 := ldD (l := dZ) hb rfl
 have fin : Kx μ (putL (putL M0 ri 1 [.int .i64 (-1)]) μ.next 0 dZ) ri := ((Kx.of ri g0).trans (Kx.put M0 ri 1 _)).new (Nat.le_refl _)
 refine fun_enter Tryz.func21 rfl rfl (Nat.le_of_ble_eq_true rfl) ?_
 simp only [T.lay, Nat.zero_add, Tryz.ntmps21, Nat.reduceAdd]
 repeat (first | refine code_seq ?_ | ((first | (refine code_region ?_ ?_; (focus rfl)) | (refine code_guards (gs := ?_) ?_ ?_; rotate_left; (focus rfl))); simp only [run1, run2, wanted, go_sem, Nat.reduceLT, Nat.reduceAdd, Nat.reduceEqDiff, reduceIte, reduceCtorEq, alD, Nat.add_eq, h0.symm, faQ1, Nat.add_zero, ld3, R0.c1, e1, hst, c1', e2, bdD0, s3]) | (refine code_cond_true ?_ ?_; (focus (simp only [aev, regAt_set, Nat.reduceEqDiff, reduceIte, alD, Nat.add_eq, h0.symm, faQ1, Nat.add_zero, ld3, R0.c1, e1, hst, c1', e2, bdD0, s3]; done))) | (refine code_cond_false ?_ ?_; (focus (simp only [aev, regAt_set, Nat.reduceEqDiff, reduceIte, alD, Nat.add_eq, h0.symm, faQ1, Nat.add_zero, ld3, R0.c1, e1, hst, c1', e2, bdD0, s3]; done))) | ((first | refine code_skip ?_ | refine code_label ?_ | refine code_exit ?_); try simp only [then_exit, then_normal, blockC, Nat.reduceEqDiff, reduceIte]) | refine code_block ?_)
 refine code_ret ?_
 refine ⟨rfl, _, ?_, ⟨dZ, rfl, rfl, rfl⟩, fin⟩
 simp only [aResults, Tryz.results21, aRes, regAt_set, Nat.reduceEqDiff, reduceIte]
 simp only [d3]
set_option maxRecDepth 20000 in
set_option maxHeartbeats 4000000 in
theorem rd_deep {g ri sp w deep left : Nat} {μ0 μ : Mem} (hg : 100 ≤ g) (h : Rdr μ0 μ ri sp (left + 1)) (hl : left < 100000) (hd : 60 < deep) :
  EndsF (aFun Tryz.prog (aCode Tryz.prog X S0 g) 21 [.pointer (some ⟨ri, 0, none⟩), .int .u64 (.ofNat w), .int .i64 (.ofNat deep)] μ) fun v μ' => NoD v ∧ Kx μ μ' ri := by
 obtain ⟨k, rfl⟩ := Nat.exists_eq_add_of_le' hg
 obtain ⟨M0, h0⟩ : ∃ M : Mem, M = ⟨μ.obs.set μ.next obD, μ.next + 1⟩ := ⟨_, rfl⟩
 have g0 : Grow μ M0 := by rw [h0]; exact grow1 μ _
 have R0 := h.keep g0
 have hne : ri ≠ μ.next := by have := h.xn; omega
 have hst := store_put (P := Tryz.prog) (t := 3) (v := .int .i64 (.ofNat left)) i3 rfl rfl R0.blk (show 1 < 2 by decide)
 have R1 := R0.dec
 obtain ⟨l1, hl1⟩ : ∃ l1, l1 = left + 1 := ⟨_, rfl⟩
 have c1 := R0.c1
 rw [← hl1] at c1
 have e1 : qwrap .i64 (Int.sub (.ofNat l1) 1) = .ofNat left := by rw [hl1]; exact sub_nat (left + 1) 1 (by omega) (by omega)
 have e2 : ilt (.ofNat left) 0 = false := rfl
 have e3 : ilt 60 (.ofNat deep) = true := (ilt_nat 60 deep).trans (decide_eq_true hd)
 have hb : Blk (putL M0 ri 1 [.int .i64 (.ofNat left)]) μ.next 8 41 := (blkD (h0 ▸ Grow.refl _) : Blk M0 μ.next 8 41).of_get (putL_get _ _ _ _ hne.symm)
 have s3 := stD (l := dZ) hb rfl rfl
 have d3 := ldD (l := dZ) hb rfl
 have fin : Kx μ (putL (putL M0 ri 1 [.int .i64 (.ofNat left)]) μ.next 0 dZ) ri := ((Kx.of ri g0).trans (Kx.put M0 ri 1 _)).new (Nat.le_refl _)
 refine fun_enter Tryz.func21 rfl rfl (Nat.le_of_ble_eq_true rfl) ?_
 simp only [T.lay, Nat.zero_add, Tryz.ntmps21, Nat.reduceAdd]
 repeat (first | refine code_seq ?_ | ((first | (refine code_region ?_ ?_; (focus rfl)) | (refine code_guards (gs := ?_) ?_ ?_; rotate_left; (focus rfl))); simp only [run1, run2, wanted, go_sem, Nat.reduceLT, Nat.reduceAdd, Nat.reduceEqDiff, reduceIte, reduceCtorEq, alD, Nat.add_eq, h0.symm, faQ1, Nat.add_zero, ld3, c1, e1, hst, R1.c1, e2, e3, bdD0, s3]) | (refine code_cond_true ?_ ?_; (focus (simp only [aev, regAt_set, Nat.reduceEqDiff, reduceIte, alD, Nat.add_eq, h0.symm, faQ1, Nat.add_zero, ld3, c1, e1, hst, R1.c1, e2, e3, bdD0, s3]; done))) | (refine code_cond_false ?_ ?_; (focus (simp only [aev, regAt_set, Nat.reduceEqDiff, reduceIte, alD, Nat.add_eq, h0.symm, faQ1, Nat.add_zero, ld3, c1, e1, hst, R1.c1, e2, e3, bdD0, s3]; done))) | ((first | refine code_skip ?_ | refine code_label ?_ | refine code_exit ?_); try simp only [then_exit, then_normal, blockC, Nat.reduceEqDiff, reduceIte]) | refine code_block ?_)
 refine code_ret ?_
 refine ⟨rfl, _, ?_, ⟨dZ, rfl, rfl, rfl⟩, fin⟩
 simp only [aResults, Tryz.results21, aRes, regAt_set, Nat.reduceEqDiff, reduceIte]
 simp only [d3]
set_option maxRecDepth 20000 in
set_option maxHeartbeats 4000000 in
theorem rd_num {g ri sp hp ap wb lb N L deep left : Nat} {ws : Nat → Nat} {p : Pos} {a : Int} {μ0 μ : Mem} (hg : 1000 ≤ g) (hS : SP μ0 sp hp ap wb lb N L ws p) (h : Rdr μ0 μ ri sp (left + 1)) (hl : left < 100000) (hd : deep ≤ 60) (ha : Sm a) :
  EndsF (aFun Tryz.prog (aCode Tryz.prog X S0 g) 21 [.pointer (some ⟨ri, 0, none⟩), .int .u64 (.ofNat (sw a)), .int .i64 (.ofNat deep)] μ) fun v μ' => (∃ b w, v = .tuple #[.agg (dN b w).toArray, .bool true] ∧ one w = true) ∧ Rdr μ0 μ' ri sp left ∧ Kx μ μ' ri := by
 obtain ⟨k, rfl⟩ := Nat.exists_eq_add_of_le' hg
 obtain ⟨M0, h0⟩ : ∃ M : Mem, M = ⟨μ.obs.set μ.next obD, μ.next + 1⟩ := ⟨_, rfl⟩
 have g0 : Grow μ M0 := by rw [h0]; exact grow1 μ _
 have R0 := h.keep g0
 have hne : ri ≠ μ.next := by have := h.xn; omega
 have hst := store_put (P := Tryz.prog) (t := 3) (v := .int .i64 (.ofNat left)) i3 rfl rfl R0.blk (show 1 < 2 by decide)
 have R1 := R0.dec
 obtain ⟨l1, hl1⟩ : ∃ l1, l1 = left + 1 := ⟨_, rfl⟩
 have c1 := R0.c1
 rw [← hl1] at c1
 have e1 : qwrap .i64 (Int.sub (.ofNat l1) 1) = .ofNat left := by rw [hl1]; exact sub_nat (left + 1) 1 (by omega) (by omega)
 have e2 : ilt (.ofNat left) 0 = false := rfl
 have e3 : ilt 60 (.ofNat deep) = false := (ilt_nat 60 deep).trans (decide_eq_false (by omega))
 have hb1 : Blk (putL M0 ri 1 [.int .i64 (.ofNat left)]) μ.next 8 41 := (blkD (h0 ▸ Grow.refl _) : Blk M0 μ.next 8 41).of_get (putL_get _ _ _ _ hne.symm)
 obtain ⟨M1, h1⟩ : ∃ M, M = putL M0 ri 1 [.int .i64 (.ofNat left)] := ⟨_, rfl⟩
 rw [← h1] at hst R1 hb1
 have n1 : M1.next = μ.next + 1 := by rw [h1, putL_next, h0]
 have S1 := hS.grow R1.grow
 obtain ⟨v2, μ2, t2, rfl, g2⟩ := fields_np (X := X) (g := k + 994) (kd := 1) (sp := sp) (by omega) S1.sp0 (np_sw a)
 have t2 : aFun Tryz.prog (aCode Tryz.prog X S0 (k + 994)) 44 [.pointer (some ⟨sp, 0, none⟩), .int .i64 1, .int .u64 (.ofNat (sw a))] M1 = some (.tuple #[.slice none 0 0, .bool false], μ2) := t2
 have R2 := R1.keep g2
 have S2 := hS.grow R2.grow
 obtain ⟨v3, μ3, t3, rfl, g3⟩ := hkind_np (X := X) (g := k + 989) (hp := hp) (μ := μ2) (by omega) (np_sw a)
 have R3 := R2.keep g3
 obtain ⟨v4, μ4, t4, ⟨b, w, rfl, hw⟩, g4⟩ := rd_single (X := X) (g := k + 989) (by omega) R3 ha
 have g14 : Grow M1 μ4 := g2.trans (g3.trans g4)
 have hb4 : Blk μ4 μ.next 8 41 := hb1.of_get (g14.2 _ (by omega))
 have hd : (dN b w).all one = true := by show (true && (true && (true && (true && (true && (one w && (true && (true && true)))))))) = true; rw [hw]; rfl
 have s5 := stD (l := dN b w) hb4 hd rfl
 have d5 := ldD (l := dN b w) hb4 rfl
 have hc := h.grow.1
 have fin : Rdr μ0 (putL μ4 μ.next 0 (dN b w)) ri sp left := (R1.keep g14).other hc hne
 have fin2 : Kx μ (putL μ4 μ.next 0 (dN b w)) ri := ((((Kx.of ri g0).trans (Kx.put M0 ri 1 [.int .i64 (.ofNat left)])).trans (Kx.of ri (h1 ▸ g14)))).new (Nat.le_refl _)
 have e4 : ieq (-1) 0 = false := rfl
 have e5 : ieq (.ofNat 0) 0 = true := rfl
 obtain ⟨x, hx⟩ : ∃ x, x = sw a := ⟨_, rfl⟩
 rw [← hx] at t2 t3 t4 ⊢
 refine fun_enter Tryz.func21 rfl rfl (Nat.le_of_ble_eq_true rfl) ?_
 simp only [T.lay, Nat.zero_add, Tryz.ntmps21, Nat.reduceAdd]
 repeat (first | refine code_seq ?_ | ((first | (refine code_region ?_ ?_; (focus rfl)) | (refine code_guards (gs := ?_) ?_ ?_; rotate_left; (focus rfl))); simp only [run1, run2, wanted, go_sem, Nat.reduceLT, Nat.reduceAdd, Nat.reduceEqDiff, reduceIte, reduceCtorEq, alD, Nat.add_eq, h0.symm, faQ0, faQ1, Nat.add_zero, ld3, ld24, c1, e1, hst, R1.c1, R1.c0, e2, e3, gg44, t2, faS0, ldHp, R2.c0, S2.sp0, gg47, t3, e4, aBuiltin, aLen, Tryz.underlying114, cast_nat, e5, gg52, t4, s5]) | (refine code_cond_true ?_ ?_; (focus (simp only [aev, regAt_set, Nat.reduceEqDiff, reduceIte, alD, Nat.add_eq, h0.symm, faQ0, faQ1, Nat.add_zero, ld3, ld24, c1, e1, hst, R1.c1, R1.c0, e2, e3, gg44, t2, faS0, ldHp, R2.c0, S2.sp0, gg47, t3, e4, aBuiltin, aLen, Tryz.underlying114, cast_nat, e5, gg52, t4, s5]; done))) | (refine code_cond_false ?_ ?_; (focus (simp only [aev, regAt_set, Nat.reduceEqDiff, reduceIte, alD, Nat.add_eq, h0.symm, faQ0, faQ1, Nat.add_zero, ld3, ld24, c1, e1, hst, R1.c1, R1.c0, e2, e3, gg44, t2, faS0, ldHp, R2.c0, S2.sp0, gg47, t3, e4, aBuiltin, aLen, Tryz.underlying114, cast_nat, e5, gg52, t4, s5]; done))) | ((first | refine code_skip ?_ | refine code_label ?_ | refine code_exit ?_); try simp only [then_exit, then_normal, blockC, Nat.reduceEqDiff, reduceIte]) | refine code_block ?_ | refine code_loop ?_)
 refine code_ret ?_
 refine ⟨rfl, _, ?_, ⟨b, w, rfl, hw⟩, fin, fin2⟩
 simp only [aResults, Tryz.results21, aRes, regAt_set, Nat.reduceEqDiff, reduceIte]
 simp only [d5]
end
noncomputable section
variable {X : FuncId → List Value → Mem → Option (Value × Mem)}
structure Walk (ws : Nat → Nat) (W C : Nat → Nat) (n : Nat) : Prop where
 at_ : ∀ j, j < n → ∃ q, W j = placeW q ∧ q + 2 < 2560 ∧ ws q = headW 0 0 2 ∧ ws (q + 1 + 0) = C j ∧ ws (q + 1 + 1) = W (j + 1)
 top : n ≤ 3001
 stop : (n = 3001 ∧ ∃ q, W n = placeW q ∧ q < 2560 ∧ ws q = headW 0 0 2) ∨ NP (W n)
theorem form_of {μ : Mem} {e : TypeId} {k m : Nat} {d : Option Nat} {v : Value} {xs : List Value} (h : GoodK μ e k d v m xs) : ∃ a c, v = .slice a m c := by
 obtain ⟨hl, ⟨hv, h0⟩ | ⟨i, M, z, ov, fx, sh, c, hv, hr⟩⟩ := h
 ·exact ⟨none, 0, by rw [hv, h0]⟩
 ·exact ⟨_, _, hv⟩
theorem push_word {μ0 μ : Mem} {v : Value} {xs : List Value} {m w : Nat} (h : OwnK 27 1 none μ0 μ v m xs) (hn : m < 999999) :
  ∃ v' μ', aAppend Tryz.prog ⟨μ.obs.set μ.next (.cells 1 27 #[.int .u64 (.ofNat w)] .e 0 0 false false), μ.next + 1⟩ 114 114 v (.slice (some ⟨μ.next, 0, none⟩) 1 2) = some (v', μ') ∧ OwnK 27 1 none μ0 μ' v' (m + 1) (xs ++ [.int .u64 (.ofNat w)]) :=
 h.push (P := Tryz.prog) (st := 114) (ys := [.int .u64 (.ofNat w)]) Tryz.underlying114 iW rfl (by decide) rfl zW rfl (Nat.le_refl _) (Nat.lt_succ_self _) rfl hn rfl
set_option maxRecDepth 20000 in
set_option maxHeartbeats 4000000 in
theorem collect {ri sp hp ap wb lb n : Nat} {ws W C : Nat → Nat} {p : Pos} {μb : Mem} {v2 v6 : Value} (hS : SP μb sp hp ap wb lb 2560 160 ws p) (hW : Walk ws W C n) (c0 : cellsAt μb ri 0 = some (.pointer (some ⟨sp, 0, none⟩))) (hri : ri < μb.next) :
  ∀ (r e j : Nat) (tm : T Value) (μ : Mem) (v : Value), j + r = n → OwnK 27 1 none μb μ v j (wl .u64 C j) →
   regAt tm 0 = .pointer (some ⟨ri, 0, none⟩) → regAt tm 1 = .int .u64 (.ofNat (W j)) → regAt tm 2 = v2 → regAt tm 6 = v6 → regAt tm 12 = v →
   EndsC (aCode Tryz.prog X S0 (e + r + 200) (.loop (loopBody Tryz.f21 0)) ⟨139, tm, [], none⟩ μ) fun a r' μ' => a = .exit 0 ∧ ∃ tm' v', r' = ⟨139, tm', [], none⟩ ∧ OwnK 27 1 none μb μ' v' n (wl .u64 C n) ∧
    regAt tm' 0 = .pointer (some ⟨ri, 0, none⟩) ∧ regAt tm' 1 = .int .u64 (.ofNat (W n)) ∧ regAt tm' 2 = v2 ∧ regAt tm' 6 = v6 ∧ regAt tm' 12 = v' := by
 have hN := hS.hs.ab.N1
 intro r
 induction r with
 | zero =>
   intro e j tm μ v hj ho r0 r1 r2 r6 r12
   obtain rfl : j = n := hj
   have hg := ho.grow
   have c0' : cellsAt μ ri 0 = some (.pointer (some ⟨sp, 0, none⟩)) := (gcell hg hri).trans c0
   have S1 := hS.grow hg
   obtain ⟨va, vc, hv⟩ := form_of ho.good
   subst hv
   rcases hW.stop with ⟨h3, q, hq1, hq2, hq3⟩ | hnp
   ·obtain ⟨v1, μ1, t1, rfl, g1⟩ := hkind (X := X) (g := e + 0 + 196) (by omega) S1.hs.at hq2 hN hq3 (by decide) (by decide) (by decide)
    have t1 : aFun Tryz.prog (aCode Tryz.prog X S0 (e + 0 + 196)) 47 [.pointer (some ⟨hp, 0, none⟩), .int .u64 (.ofNat (placeW q))] μ = some (.int .i64 0, μ1) := t1
    rw [← hq1] at t1
    have e1 : ieq 0 0 = true := rfl
    have e2 : ilt 3000 (.ofNat j) = true := (ilt_nat 3000 j).trans (decide_eq_true (by omega))
    have fin := ho.keep g1
    obtain ⟨w, hw⟩ : ∃ w, w = W j := ⟨_, rfl⟩
    rw [← hw] at r1 t1 ⊢
    refine code_loop ?_
    repeat (first | refine code_seq ?_ | ((first | (refine code_region ?_ ?_; (focus rfl)) | (refine code_guards (gs := ?_) ?_ ?_; rotate_left; (focus rfl))); simp only [run1, run2, wanted, go_sem, Nat.reduceLT, Nat.reduceAdd, Nat.reduceEqDiff, reduceIte, reduceCtorEq, r0, r1, r12, faQ0, faS0, Nat.add_zero, ld24, ldHp, c0', S1.sp0, gg47, t1, e1, aBuiltin, aLen, Tryz.underlying114, cast_nat, e2]) | (refine code_cond_true ?_ ?_; (focus (simp only [aev, regAt_set, Nat.reduceEqDiff, reduceIte, r0, r1, r12, faQ0, faS0, Nat.add_zero, ld24, ldHp, c0', S1.sp0, gg47, t1, e1, aBuiltin, aLen, Tryz.underlying114, cast_nat, e2]; done))) | (refine code_cond_false ?_ ?_; (focus (simp only [aev, regAt_set, Nat.reduceEqDiff, reduceIte, r0, r1, r12, faQ0, faS0, Nat.add_zero, ld24, ldHp, c0', S1.sp0, gg47, t1, e1, aBuiltin, aLen, Tryz.underlying114, cast_nat, e2]; done))) | ((first | refine code_skip ?_ | refine code_label ?_ | refine code_exit ?_); try simp only [then_exit, then_normal, blockC, Nat.reduceEqDiff, reduceIte]) | refine code_block ?_)
    refine ⟨trivial, _, _, rfl, fin, ?_, ?_, ?_, ?_, ?_⟩ <;> simp only [regAt_set, Nat.reduceEqDiff, reduceIte, r0, r1, r2, r6, r12]
   ·obtain ⟨v1, μ1, t1, rfl, g1⟩ := hkind_np (X := X) (g := e + 0 + 196) (hp := hp) (μ := μ) (by omega) hnp
    have e1 : ieq (-1) 0 = false := rfl
    have fin := ho.keep g1
    obtain ⟨w, hw⟩ : ∃ w, w = W j := ⟨_, rfl⟩
    rw [← hw] at r1 t1 ⊢
    refine code_loop ?_
    repeat (first | refine code_seq ?_ | ((first | (refine code_region ?_ ?_; (focus rfl)) | (refine code_guards (gs := ?_) ?_ ?_; rotate_left; (focus rfl))); simp only [run1, run2, wanted, go_sem, Nat.reduceLT, Nat.reduceAdd, Nat.reduceEqDiff, reduceIte, reduceCtorEq, r0, r1, r12, faQ0, faS0, Nat.add_zero, ld24, ldHp, c0', S1.sp0, gg47, t1, e1, aBuiltin, aLen, Tryz.underlying114, cast_nat]) | (refine code_cond_true ?_ ?_; (focus (simp only [aev, regAt_set, Nat.reduceEqDiff, reduceIte, r0, r1, r12, faQ0, faS0, Nat.add_zero, ld24, ldHp, c0', S1.sp0, gg47, t1, e1, aBuiltin, aLen, Tryz.underlying114, cast_nat]; done))) | (refine code_cond_false ?_ ?_; (focus (simp only [aev, regAt_set, Nat.reduceEqDiff, reduceIte, r0, r1, r12, faQ0, faS0, Nat.add_zero, ld24, ldHp, c0', S1.sp0, gg47, t1, e1, aBuiltin, aLen, Tryz.underlying114, cast_nat]; done))) | ((first | refine code_skip ?_ | refine code_label ?_ | refine code_exit ?_); try simp only [then_exit, then_normal, blockC, Nat.reduceEqDiff, reduceIte]) | refine code_block ?_)
    refine ⟨trivial, _, _, rfl, fin, ?_, ?_, ?_, ?_, ?_⟩ <;> simp only [regAt_set, Nat.reduceEqDiff, reduceIte, r0, r1, r2, r6, r12]
 | succ r ih =>
   intro e j tm μ v hj ho r0 r1 r2 r6 r12
   obtain ⟨q, hq1, hq2, hq3, hq4, hq5⟩ := hW.at_ j (by omega)
   have htop := hW.top
   have hg := ho.grow
   have c0' : ∀ M : Mem, Grow μ M → cellsAt M ri 0 = some (.pointer (some ⟨sp, 0, none⟩)) := fun M gM => (gcell (hg.trans gM) hri).trans c0
   have S1 : ∀ M : Mem, Grow μ M → SP M sp hp ap wb lb 2560 160 ws p := fun M gM => hS.grow (hg.trans gM)
   obtain ⟨va, vc, hv⟩ := form_of ho.good
   obtain ⟨v1, μ1, t1, rfl, g1⟩ := hkind (X := X) (g := e + (r + 1) + 196) (by omega) (S1 μ (Grow.refl _)).hs.at (by omega : q < 2560) hN hq3 (by decide) (by decide) (by decide)
   have t1 : aFun Tryz.prog (aCode Tryz.prog X S0 (e + (r + 1) + 196)) 47 [.pointer (some ⟨hp, 0, none⟩), .int .u64 (.ofNat (placeW q))] μ = some (.int .i64 0, μ1) := t1
   obtain ⟨v2', μ2, t2, rfl, g2⟩ := hget (X := X) (g := e + (r + 1) + 195) (i := 0) (by omega) (S1 μ1 g1).hs.at hq2 hN hq3 (by decide) (by decide) (by decide)
   have t2 : aFun Tryz.prog (aCode Tryz.prog X S0 (e + (r + 1) + 195)) 51 [.pointer (some ⟨hp, 0, none⟩), .int .u64 (.ofNat (placeW q)), .int .i64 0] μ1 = some (.tuple #[.int .u64 (.ofNat (ws (q + 1 + 0))), .int .i64 0], μ2) := t2
   have g12 := g1.trans g2
   obtain ⟨v3, μ3, t3, o3⟩ := push_word (w := C j) (ho.keep g12) (by omega)
   have g3 : Grow μb μ3 := o3.grow
   have c3 : cellsAt μ3 ri 0 = some (.pointer (some ⟨sp, 0, none⟩)) := (gcell g3 hri).trans c0
   have SP3 := hS.grow g3
   obtain ⟨v4, μ4, t4, rfl, g4⟩ := hget (X := X) (g := e + (r + 1) + 194) (i := 1) (by omega) SP3.hs.at hq2 hN hq3 (by decide) (by decide) (by decide)
   have t4 : aFun Tryz.prog (aCode Tryz.prog X S0 (e + (r + 1) + 194)) 51 [.pointer (some ⟨hp, 0, none⟩), .int .u64 (.ofNat (placeW q)), .int .i64 1] μ3 = some (.tuple #[.int .u64 (.ofNat (ws (q + 1 + 1))), .int .i64 0], μ4) := t4
   rw [hq4] at t2
   rw [hq5] at t4
   rw [← hq1] at t1 t2 t4
   have o4 := o3.keep g4
   rw [← wl_succ] at o4
   obtain ⟨w, hw⟩ : ∃ w, w = W j := ⟨_, rfl⟩
   obtain ⟨w1, hw1⟩ : ∃ w, w = W (j + 1) := ⟨_, rfl⟩
   obtain ⟨cj, hcj⟩ : ∃ w, w = C j := ⟨_, rfl⟩
   rw [← hw] at r1 t1 t2 t4
   rw [← hw1] at t4
   rw [← hcj] at t2 t3
   have e1 : ieq 0 0 = true := rfl
   have e2 : ilt 3000 (.ofNat j) = false := (ilt_nat 3000 j).trans (decide_eq_false (by omega))
   have hbs : ∀ (ρ : Operand → Value) (x : Operand), ρ x = .int .u64 (.ofNat cj) → aBuildSlice Tryz.prog ρ 114 1 #[(0, x)] = some (.cells 1 27 #[.int .u64 (.ofNat cj)] .e 0 0 false false, fun id => .slice (some ⟨id, 0, none⟩) 1 2) := fun ρ x h => by rw [← h]; exact bsW ρ x (by rw [h]; rfl)
   subst hv
   refine code_loop ?_
   repeat (first | refine code_seq ?_ | ((first | (refine code_region ?_ ?_; (focus rfl)) | (refine code_guards (gs := ?_) ?_ ?_; rotate_left; (focus rfl))); simp only [run1, run2, wanted, go_sem, Nat.reduceLT, Nat.reduceAdd, Nat.reduceEqDiff, reduceIte, reduceCtorEq, r0, r1, r12, faQ0, faS0, Nat.add_zero, ld24, ldHp, c0' μ (Grow.refl _), (S1 μ (Grow.refl _)).sp0, c0' μ1 g1, (S1 μ1 g1).sp0, c3, SP3.sp0, gg47, t1, e1, aBuiltin, aLen, Tryz.underlying114, cast_nat, e2, gg51, t2, t4, hbs, Nat.add_eq, t3]) | (refine code_cond_true ?_ ?_; (focus (simp only [aev, regAt_set, Nat.reduceEqDiff, reduceIte, r0, r1, r12, faQ0, faS0, Nat.add_zero, ld24, ldHp, c0' μ (Grow.refl _), (S1 μ (Grow.refl _)).sp0, c0' μ1 g1, (S1 μ1 g1).sp0, c3, SP3.sp0, gg47, t1, e1, aBuiltin, aLen, Tryz.underlying114, cast_nat, e2, gg51, t2, t4, hbs, Nat.add_eq, t3]; done))) | (refine code_cond_false ?_ ?_; (focus (simp only [aev, regAt_set, Nat.reduceEqDiff, reduceIte, r0, r1, r12, faQ0, faS0, Nat.add_zero, ld24, ldHp, c0' μ (Grow.refl _), (S1 μ (Grow.refl _)).sp0, c0' μ1 g1, (S1 μ1 g1).sp0, c3, SP3.sp0, gg47, t1, e1, aBuiltin, aLen, Tryz.underlying114, cast_nat, e2, gg51, t2, t4, hbs, Nat.add_eq, t3]; done))) | ((first | refine code_skip ?_ | refine code_label ?_ | refine code_exit ?_); try simp only [then_exit, then_normal, blockC, Nat.reduceEqDiff, reduceIte]) | refine code_block ?_)
   simp only [blockC, then_normal]
   rw [show e + (r + 1) + 199 = e + r + 200 from by omega]
   refine ih e (j + 1) _ μ4 v3 (by omega) o4 ?_ ?_ ?_ ?_ ?_
   ·simp only [regAt_set, Nat.reduceEqDiff, reduceIte, r0]
   ·simp only [regAt_set, Nat.reduceEqDiff, reduceIte, hw1]
   ·simp only [regAt_set, Nat.reduceEqDiff, reduceIte, r2]
   ·simp only [regAt_set, Nat.reduceEqDiff, reduceIte, r6]
   ·simp only [regAt_set, Nat.reduceEqDiff, reduceIte]
theorem bsD (ρ : Operand → Value) (x : Operand) (b : Bool) (w : Value) (h : ρ x = .agg (dN b w).toArray) : aBuildSlice Tryz.prog ρ 39 1 #[(0, x)] = some (.cells (dN b w).length 41 (dN b w).toArray .e 0 0 false false, fun id => .slice (some ⟨id, 0, none⟩) 1 2) := by
 unfold aBuildSlice
 simp only [Tryz.underlying39, j39, zD]
 show (match aFill _ (tile (cellsL (.agg dZ.toArray)) 8) [(0, ρ x)] with | some cs => _ | none => none) = _
 rw [h]
 rfl
theorem push2_of {P : Program} {st e : TypeId} {inf : TypeInfo} {z0 : Value} {k : Nat} (hu : P.underlying st = some (.slice e)) (hi : P.info? e = some inf) (hsz : inf.size = k) (hk0 : 0 < k) (hby : Nat.ble inf.bytes 4096 = true) (hz : aZeroOf P e = some z0) (hzl : (cellsL z0).length = k)
  {μ0 μ : Mem} {v : Value} {xs ys : List Value} {m : Nat} (h : OwnK e k none μ0 μ v m xs) (hyl : ys.length = k) (hn : m < 999999) (hs : scalars ys = true) :
  ∃ v' μ', aAppend P ⟨μ.obs.set μ.next (.cells ys.length e ys.toArray .e 0 0 false false), μ.next + 1⟩ st st v (.slice (some ⟨μ.next, 0, none⟩) 1 2) = some (v', μ') ∧ OwnK e k none μ0 μ' v' (m + 1) (xs ++ ys) ∧ SlAt v' (μ.next + 1) ∧ μ.next ≤ μ'.next ∧ ∀ i, i < μ.next → ¬ SlAt v i → μ'.obs.get i = μ.obs.get i := by
 obtain ⟨v', μ', ha, ho, hat, hn, hk⟩ := (h.keep (grow_at (Nat.le_refl _) (Nat.lt_succ_self _) (.cells ys.length e ys.toArray .e 0 0 false false))).app (xt := st) (x := .slice (some ⟨μ.next, 0, none⟩) 1 2) (n := 1) (ys := ys) hu hi hsz hk0 hby hz hzl (by rw [hu]) rfl ((GoodK.fresh μ μ.next (μ.next + 1) hyl).src (by decide)) (by omega) (by omega) hs (by decide) (fun d' h => by cases h)
 have hn : μ'.next = μ.next + 1 + 1 := hn
 refine ⟨v', μ', ha, ho, hat, by omega, fun i hi hv => ?_⟩
 rw [hk i (by show i ≠ μ.next + 1; omega) hv]
 show T.get _ i = _
 rw [T.get_set, if_neg (by omega)]
theorem keepx_of {e : TypeId} {k m ri : Nat} {d : Option Nat} {μ0 μ μ' : Mem} {v : Value} {xs : List Value} (h : OwnK e k d μ0 μ v m xs) (hn : μ.next ≤ μ'.next) (hk : ∀ j, j < μ.next → j ≠ ri → μ'.obs.get j = μ.obs.get j) (hr : μ0.next ≤ ri) (hv : ¬ SlAt v ri) : OwnK e k d μ0 μ' v m xs :=
 ⟨h.good.keep fun j hj => hk j (h.above j hj).2 fun e => hv (e ▸ hj), ⟨Nat.le_trans h.grow.1 hn, fun j hj => (hk j (Nat.lt_of_lt_of_le hj h.grow.1) (by omega)).trans (h.grow.2 j hj)⟩, fun j hj => ⟨(h.above j hj).1, Nat.lt_of_lt_of_le (h.above j hj).2 hn⟩⟩
structure It (μ0 μs μ : Mem) (tm : T Value) (ri sp oi n c t left : Nat) (C : Nat → Nat) (deep : Nat) : Prop where
 rd : Rdr μ0 μ ri sp left
 kx : Kx μs μ ri
 on : oi < μs.next
 rn : ri < μs.next
 ne : oi ≠ ri
 cs : ∀ k, k < n → cellsAt μs oi k = some (.int .u64 (.ofNat (C k)))
 r0 : regAt tm 0 = .pointer (some ⟨ri, 0, none⟩)
 r2 : regAt tm 2 = .int .i64 (.ofNat deep)
 r13 : regAt tm 13 = .slice (some ⟨oi, 0, none⟩) n c
 r14 : regAt tm 14 = .int .i64 (.ofNat n)
 r15 : regAt tm 15 = .int .i64 (.ofNat t)
 out : ∃ xs, OwnK 41 8 none μ0 μ (regAt tm 8) t xs
 ab : ∀ i, SlAt (regAt tm 8) i → μs.next ≤ i
theorem It.cell {μ0 μs μ : Mem} {tm : T Value} {ri sp oi n c t left : Nat} {C : Nat → Nat} {deep : Nat} (h : It μ0 μs μ tm ri sp oi n c t left C deep) {k : Nat} (hk : k < n) : cellsAt μ oi k = some (.int .u64 (.ofNat (C k))) := by
 rw [← h.cs k hk]
 unfold cellsAt
 rw [h.kx.2 oi h.on h.ne]
set_option maxRecDepth 20000 in
set_option maxHeartbeats 4000000 in
theorem items_stop {K ri sp oi n c t left deep : Nat} {C : Nat → Nat} {μ0 μs μ : Mem} {tm : T Value} (hK : 30 ≤ K) (h : It μ0 μs μ tm ri sp oi n c t left C deep) (ht : t < n) (hn : n < 100000)
  (hr : EndsF (aFun Tryz.prog (aCode Tryz.prog X S0 (K - 7)) 21 [.pointer (some ⟨ri, 0, none⟩), .int .u64 (.ofNat (C t)), .int .i64 (.ofNat deep)] μ) fun v μ' => NoD v ∧ Kx μ μ' ri) :
  EndsC (aCode Tryz.prog X S0 (K + 1) (.loop (loopBody Tryz.f50 0)) ⟨34, tm, [], none⟩ μ) fun a r μ' => a = .ret ∧ Kx μs μ' ri ∧ ∃ tm', r = ⟨34, tm', [], none⟩ ∧ regAt tm' 6 = .slice none 0 0 ∧ regAt tm' 7 = .bool false := by
 obtain ⟨k, rfl⟩ := Nat.exists_eq_add_of_le' hK
 obtain ⟨v1, μ1, t1, ⟨l, rfl, hl1, hl2⟩, g1⟩ := hr
 have t1 : aFun Tryz.prog (aCode Tryz.prog X S0 (k + 23)) 21 [.pointer (some ⟨ri, 0, none⟩), .int .u64 (.ofNat (C t)), .int .i64 (.ofNat deep)] μ = some (.tuple #[.agg l.toArray, .bool false], μ1) := t1
 have hst := stD (l := l) (blkD (Grow.refl _) : Blk ⟨μ1.obs.set μ1.next obD, μ1.next + 1⟩ μ1.next 8 41) hl1 hl2
 have gs := h.kx.trans g1
 have fin : Kx μs (putL ⟨μ1.obs.set μ1.next obD, μ1.next + 1⟩ μ1.next 0 l) ri := (gs.trans (Kx.of ri (grow1 μ1 obD))).new gs.1
 obtain ⟨w, hw⟩ : ∃ w, w = C t := ⟨_, rfl⟩
 have cw := h.cell ht
 rw [← hw] at cw t1
 have hix : ∀ (ρ : Operand → Value) (a b : Operand), ρ a = .slice (some ⟨oi, 0, none⟩) n c → ρ b = .int .i64 (.ofNat t) → aIndexAddr Tryz.prog ρ 114 a b = some (.pointer (some ⟨oi, t, none⟩)) := fun ρ a b h1 h2 => by
  rw [indexAddr_slice (P := Tryz.prog) Tryz.underlying114 iW rfl h1 h2 ht, Nat.zero_add]
 have e1 : ilt (.ofNat t) (.ofNat n) = true := (ilt_nat t n).trans (decide_eq_true ht)
 refine code_loop ?_
 repeat (first | refine code_seq ?_ | ((first | (refine code_region ?_ ?_; (focus rfl)) | (refine code_guards (gs := ?_) ?_ ?_; rotate_left; (focus rfl))); simp only [run1, run2, wanted, go_sem, Nat.reduceLT, Nat.reduceAdd, Nat.reduceEqDiff, reduceIte, reduceCtorEq, h.r0, h.r2, h.r13, h.r14, h.r15, e1, hix, ldW, cw, gg21, t1, alD, Nat.add_eq, hst]) | (refine code_cond_true ?_ ?_; (focus (simp only [aev, regAt_set, Nat.reduceEqDiff, reduceIte, h.r0, h.r2, h.r13, h.r14, h.r15, e1, hix, ldW, cw, gg21, t1, alD, Nat.add_eq, hst]; done))) | (refine code_cond_false ?_ ?_; (focus (simp only [aev, regAt_set, Nat.reduceEqDiff, reduceIte, h.r0, h.r2, h.r13, h.r14, h.r15, e1, hix, ldW, cw, gg21, t1, alD, Nat.add_eq, hst]; done))) | ((first | refine code_skip ?_ | refine code_label ?_ | refine code_exit ?_); try simp only [then_exit, then_normal, blockC, Nat.reduceEqDiff, reduceIte]) | refine code_block ?_)
 refine code_ret ?_
 refine ⟨rfl, fin, _, rfl, ?_, ?_⟩ <;> simp only [regAt_set, Nat.reduceEqDiff, reduceIte]
set_option maxRecDepth 20000 in
set_option maxHeartbeats 4000000 in
theorem items_go {K ri sp oi n c t left left' deep : Nat} {C : Nat → Nat} {μ0 μs μ : Mem} {tm : T Value} {Q : Ax → Rg → Mem → Prop} (hK : 30 ≤ K) (h : It μ0 μs μ tm ri sp oi n c t left C deep) (ht : t < n) (hn : n < 100000)
  (hr : EndsF (aFun Tryz.prog (aCode Tryz.prog X S0 (K - 7)) 21 [.pointer (some ⟨ri, 0, none⟩), .int .u64 (.ofNat (C t)), .int .i64 (.ofNat deep)] μ) fun v μ' => (∃ b w, v = .tuple #[.agg (dN b w).toArray, .bool true] ∧ one w = true) ∧ Rdr μ0 μ' ri sp left' ∧ Kx μ μ' ri)
  (hQ : ∀ μ' tm', It μ0 μs μ' tm' ri sp oi n c (t + 1) left' C deep → EndsC (aCode Tryz.prog X S0 K (.loop (loopBody Tryz.f50 0)) ⟨34, tm', [], none⟩ μ') Q) :
  EndsC (aCode Tryz.prog X S0 (K + 1) (.loop (loopBody Tryz.f50 0)) ⟨34, tm, [], none⟩ μ) Q := by
 obtain ⟨k, rfl⟩ := Nat.exists_eq_add_of_le' hK
 obtain ⟨v1, μ1, t1, ⟨b, w1, rfl, hw1⟩, R1, kx1⟩ := hr
 have t1 : aFun Tryz.prog (aCode Tryz.prog X S0 (k + 23)) 21 [.pointer (some ⟨ri, 0, none⟩), .int .u64 (.ofNat (C t)), .int .i64 (.ofNat deep)] μ = some (.tuple #[.agg (dN b w1).toArray, .bool true], μ1) := t1
 obtain ⟨xs, o1⟩ := h.out
 have ab := h.ab
 obtain ⟨v8, hv8⟩ : ∃ v, v = regAt tm 8 := ⟨_, rfl⟩
 rw [← hv8] at o1 ab
 have hri := h.rn
 have s1 : ¬ SlAt v8 ri := fun e => by have := ab ri e; omega
 have hd : (dN b w1).all one = true := by show (true && (true && (true && (true && (true && (one w1 && (true && (true && true)))))))) = true; rw [hw1]; rfl
 have hB : Blk ⟨μ1.obs.set μ1.next obD, μ1.next + 1⟩ μ1.next 8 41 := blkD (Grow.refl _)
 have hst := stD (l := dN b w1) hB hd rfl
 have hld := ldD (l := dN b w1) hB rfl
 obtain ⟨M2, h2⟩ : ∃ M, M = putL ⟨μ1.obs.set μ1.next obD, μ1.next + 1⟩ μ1.next 0 (dN b w1) := ⟨_, rfl⟩
 rw [← h2] at hst hld
 have g2 : Grow μ1 M2 := by rw [h2]; exact (grow1 μ1 obD).put_new (Nat.le_refl _)
 have o2 := (keepx_of o1 kx1.1 kx1.2 h.rd.x0 s1).keep g2
 have kx2 := (h.kx.trans kx1).trans (Kx.of ri g2)
 obtain ⟨v3, μ3, t3, o3, a3, n3, k3⟩ := push2_of (P := Tryz.prog) (st := 39) (ys := dN b w1) Tryz.underlying39 j39 rfl (by decide) rfl zD rfl o2 rfl (by omega) (scalars_one _ hd)
 have R2 := R1.keep g2
 have hx2 := R2.xn
 have R3 : Rdr μ0 μ3 ri sp left' := by
  have e := k3 ri hx2 s1
  exact ⟨o3.grow, R2.x0, Nat.lt_of_lt_of_le hx2 n3, R2.blk.of_get e, R2.has.keep e⟩
 have kx3 : Kx μs μ3 ri := ⟨Nat.le_trans kx2.1 n3, fun j hj hr => (k3 j (Nat.lt_of_lt_of_le hj kx2.1) fun e => by have := ab j e; omega).trans (kx2.2 j hj hr)⟩
 have ab3 : ∀ i, SlAt v3 i → μs.next ≤ i := fun i e => by have := sl_same a3 e; have := kx2.1; omega
 obtain ⟨w, hw⟩ : ∃ w, w = C t := ⟨_, rfl⟩
 have cw := h.cell ht
 rw [← hw] at cw t1
 have hix : ∀ (ρ : Operand → Value) (a b : Operand), ρ a = .slice (some ⟨oi, 0, none⟩) n c → ρ b = .int .i64 (.ofNat t) → aIndexAddr Tryz.prog ρ 114 a b = some (.pointer (some ⟨oi, t, none⟩)) := fun ρ a b h1 h2 => by
  rw [indexAddr_slice (P := Tryz.prog) Tryz.underlying114 iW rfl h1 h2 ht, Nat.zero_add]
 have hbs : ∀ (ρ : Operand → Value) (x : Operand), ρ x = .agg (dN b w1).toArray → aBuildSlice Tryz.prog ρ 39 1 #[(0, x)] = some (.cells (dN b w1).length 41 (dN b w1).toArray .e 0 0 false false, fun id => .slice (some ⟨id, 0, none⟩) 1 2) := fun ρ x h => bsD ρ x b w1 h
 have e1 : ilt (.ofNat t) (.ofNat n) = true := (ilt_nat t n).trans (decide_eq_true ht)
 have e2 : qwrap .i64 (Int.add (.ofNat t) 1) = .ofNat (t + 1) := add_nat t 1 (by omega)
 refine code_loop ?_
 repeat (first | refine code_seq ?_ | ((first | (refine code_region ?_ ?_; (focus rfl)) | (refine code_guards (gs := ?_) ?_ ?_; rotate_left; (focus rfl))); simp only [run1, run2, wanted, go_sem, Nat.reduceLT, Nat.reduceAdd, Nat.reduceEqDiff, reduceIte, reduceCtorEq, h.r0, h.r2, h.r13, h.r14, h.r15, hv8.symm, e1, hix, ldW, cw, gg21, t1, alD, Nat.add_eq, hst, hld, hbs, aBuiltin, t3, e2]) | (refine code_cond_true ?_ ?_; (focus (simp only [aev, regAt_set, Nat.reduceEqDiff, reduceIte, h.r0, h.r2, h.r13, h.r14, h.r15, hv8.symm, e1, hix, ldW, cw, gg21, t1, alD, Nat.add_eq, hst, hld, hbs, aBuiltin, t3, e2]; done))) | (refine code_cond_false ?_ ?_; (focus (simp only [aev, regAt_set, Nat.reduceEqDiff, reduceIte, h.r0, h.r2, h.r13, h.r14, h.r15, hv8.symm, e1, hix, ldW, cw, gg21, t1, alD, Nat.add_eq, hst, hld, hbs, aBuiltin, t3, e2]; done))) | ((first | refine code_skip ?_ | refine code_label ?_ | refine code_exit ?_); try simp only [then_exit, then_normal, blockC, Nat.reduceEqDiff, reduceIte]) | refine code_block ?_)
 refine hQ μ3 _ ⟨R3, kx3, h.on, h.rn, h.ne, h.cs, ?_, ?_, ?_, ?_, ?_, ⟨xs ++ dN b w1, ?_⟩, ?_⟩
 ·simp only [regAt_set, Nat.reduceEqDiff, reduceIte, h.r0]
 ·simp only [regAt_set, Nat.reduceEqDiff, reduceIte, h.r2]
 ·simp only [regAt_set, Nat.reduceEqDiff, reduceIte, h.r13]
 ·simp only [regAt_set, Nat.reduceEqDiff, reduceIte, h.r14]
 ·simp only [regAt_set, Nat.reduceEqDiff, reduceIte]
 ·simp only [regAt_set, Nat.reduceEqDiff, reduceIte]
  exact o3
 ·simp only [regAt_set, Nat.reduceEqDiff, reduceIte]
  exact ab3
end
noncomputable section
variable {X : FuncId → List Value → Mem → Option (Value × Mem)}
def RdBad (X : FuncId → List Value → Mem → Option (Value × Mem)) (μ0 : Mem) (ri sp w deep G : Nat) : Prop :=
 ∀ (g left : Nat) (μ : Mem), G ≤ g → left ≤ 3000 → Rdr μ0 μ ri sp left →
  EndsF (aFun Tryz.prog (aCode Tryz.prog X S0 g) 21 [.pointer (some ⟨ri, 0, none⟩), .int .u64 (.ofNat w), .int .i64 (.ofNat deep)] μ) fun v μ' => NoD v ∧ Kx μ μ' ri
theorem items_loop {ri sp hp ap wb lb N L oi n c deep G : Nat} {ws C : Nat → Nat} {p : Pos} {μ0 μs : Mem} (hG : 1000 ≤ G) (hn : n < 100000) (hS : SP μ0 sp hp ap wb lb N L ws p)
  (hnum : ∀ k, k + 1 < n → ∃ a : Int, Sm a ∧ C k = sw a) (hlast : (∃ a : Int, Sm a ∧ C (n - 1) = sw a) ∨ RdBad X μ0 ri sp (C (n - 1)) deep G) :
  ∀ (r e t left : Nat) (tm : T Value) (μ : Mem), t + r = n → t < n → left ≤ 3000 → It μ0 μs μ tm ri sp oi n c t left C deep → ((∃ a : Int, Sm a ∧ C (n - 1) = sw a) → left + t < n) →
   EndsC (aCode Tryz.prog X S0 (e + r + G + 10) (.loop (loopBody Tryz.f50 0)) ⟨34, tm, [], none⟩ μ) fun a r μ' => a = .ret ∧ Kx μs μ' ri ∧ ∃ tm', r = ⟨34, tm', [], none⟩ ∧ regAt tm' 6 = .slice none 0 0 ∧ regAt tm' 7 = .bool false := by
 intro r
 induction r with
 | zero => intro e t left tm μ h1 h2; omega
 | succ r ih =>
   intro e t left tm μ h1 h2 hl hI hq
   have num : (∃ a : Int, Sm a ∧ C t = sw a) → EndsC (aCode Tryz.prog X S0 (e + (r + 1) + G + 10) (.loop (loopBody Tryz.f50 0)) ⟨34, tm, [], none⟩ μ) fun a r μ' => a = .ret ∧ Kx μs μ' ri ∧ ∃ tm', r = ⟨34, tm', [], none⟩ ∧ regAt tm' 6 = .slice none 0 0 ∧ regAt tm' 7 = .bool false := by
    rintro ⟨a, ha, hc⟩
    cases left with
    | zero => exact items_stop (K := e + (r + 1) + G + 9) (by omega) hI h2 hn (rd_out (by omega) hI.rd)
    | succ left =>
      by_cases hd : deep ≤ 60
      ·refine items_go (K := e + (r + 1) + G + 9) (by omega) hI h2 hn (by rw [hc]; exact rd_num (by omega) hS hI.rd (by omega) hd ha) fun μ' tm' hI' => ?_
       have h3 : t + 1 < n := by
        refine Nat.lt_of_le_of_ne h2 fun e => ?_
        have := hq ⟨a, ha, by rw [← hc, show n - 1 = t from by omega]⟩
        omega
       rw [show e + (r + 1) + G + 9 = e + r + G + 10 from by omega]
       exact ih e (t + 1) left tm' μ' (by omega) h3 (by omega) hI' fun h => by have := hq h; omega
      ·exact items_stop (K := e + (r + 1) + G + 9) (by omega) hI h2 hn (rd_deep (by omega) hI.rd (by omega) (by omega))
   by_cases h3 : t + 1 < n
   ·exact num (hnum t h3)
   ·rw [show n - 1 = t from by omega] at hlast
    rcases hlast with h | h
    ·exact num h
    ·exact items_stop (K := e + (r + 1) + G + 9) (by omega) hI h2 hn (h _ left μ (by omega) hl hI.rd)
set_option maxRecDepth 20000 in
set_option maxHeartbeats 4000000 in
theorem items_ends {g ri sp hp ap wb lb N L oi n c deep left G : Nat} {ws C : Nat → Nat} {p : Pos} {μ0 μs : Mem} (hG : 1000 ≤ G) (hg : n + G + 30 ≤ g) (hn : n < 100000) (hn0 : 0 < n) (hS : SP μ0 sp hp ap wb lb N L ws p)
  (hnum : ∀ k, k + 1 < n → ∃ a : Int, Sm a ∧ C k = sw a) (hlast : (∃ a : Int, Sm a ∧ C (n - 1) = sw a) ∨ RdBad X μ0 ri sp (C (n - 1)) deep G) (hl : left ≤ 3000) (hq : (∃ a : Int, Sm a ∧ C (n - 1) = sw a) → left < n)
  (hR : Rdr μ0 μs ri sp left) (hon : oi < μs.next) (hne : oi ≠ ri) (hcs : ∀ k, k < n → cellsAt μs oi k = some (.int .u64 (.ofNat (C k)))) :
  EndsF (aFun Tryz.prog (aCode Tryz.prog X S0 g) 50 [.pointer (some ⟨ri, 0, none⟩), .slice (some ⟨oi, 0, none⟩) n c, .int .i64 (.ofNat deep)] μs) fun v μ' => v = .tuple #[.slice none 0 0, .bool false] ∧ Kx μs μ' ri := by
 obtain ⟨k, rfl⟩ := Nat.exists_eq_add_of_le' hg
 obtain ⟨k2, hk2⟩ : ∃ k2, k2 = k + n + G := ⟨_, rfl⟩
 rw [show k + (n + G + 30) = k2 + 30 from by omega]
 refine fun_enter Tryz.func50 rfl rfl (Nat.le_of_ble_eq_true rfl) ?_
 simp only [T.lay, Nat.zero_add, Tryz.ntmps50, Nat.reduceAdd]
 repeat (first | refine code_seq ?_ | ((first | (refine code_region ?_ ?_; (focus rfl)) | (refine code_guards (gs := ?_) ?_ ?_; rotate_left; (focus rfl))); simp only [run1, run2, wanted, go_sem, Nat.reduceLT, Nat.reduceAdd, Nat.reduceEqDiff, reduceIte, reduceCtorEq, aBuiltin, aLen, Tryz.underlying114, cast_nat]) | (refine code_cond_true ?_ ?_; (focus (simp only [aev, regAt_set, Nat.reduceEqDiff, reduceIte, aBuiltin, aLen, Tryz.underlying114, cast_nat]; done))) | (refine code_cond_false ?_ ?_; (focus (simp only [aev, regAt_set, Nat.reduceEqDiff, reduceIte, aBuiltin, aLen, Tryz.underlying114, cast_nat]; done))) | ((first | refine code_skip ?_ | refine code_label ?_ | refine code_exit ?_); try simp only [then_exit, then_normal, blockC, Nat.reduceEqDiff, reduceIte]) | refine code_block ?_)
 rw [show k2 + 25 = (k + 15) + n + G + 10 from by omega]
 refine (items_loop (X := X) (c := c) hG hn hS hnum hlast n (k + 15) 0 left _ μs (Nat.zero_add n) hn0 hl ⟨hR, Kx.of ri (Grow.refl μs), hon, hR.xn, hne, hcs, ?_, ?_, ?_, ?_, ?_, ⟨[], ?_⟩, ?_⟩ (fun h => by have := hq h; omega)).mono ?_
 ·simp only [regAt_set, Nat.reduceEqDiff, reduceIte]
 ·simp only [regAt_set, Nat.reduceEqDiff, reduceIte]
 ·simp only [regAt_set, Nat.reduceEqDiff, reduceIte]
 ·simp only [regAt_set, Nat.reduceEqDiff, reduceIte]
 ·simp only [regAt_set, Nat.reduceEqDiff, reduceIte]
  rfl
 ·simp only [regAt_set, Nat.reduceEqDiff, reduceIte]
  exact (OwnK.nil _ _ _ μs).from hR.grow
 ·simp only [regAt_set, Nat.reduceEqDiff, reduceIte]
  intro i h
  obtain ⟨l, c, h⟩ := h
  cases h
 rintro a r μ' ⟨rfl, kx, tm', rfl, q6, q7⟩
 simp only [blockC, then_ret]
 refine ⟨rfl, _, ?_, rfl, kx⟩
 simp only [aResults, Tryz.results50, aRes, regAt_set, Nat.reduceEqDiff, reduceIte]
 simp only [q6, q7]
section
set_option linter.defProp false
variable {X : FuncId → List Value → Mem → Option (Value × Mem)} {ev : Code → Rg → Mem → Option (Ax × Rg × Mem)}
end
theorem an3 : aNil Tryz.prog 39 (.slice none 0 0) (.slice none 0 0) = false := by kernel_rfl
theorem sn_plain {r : Rg} {x : Operand} {dst : Option Nat} {ty : TypeId} {pos : String} {af : Array Edge} {gd : Option (Nat × Bool)} (hx : aev Tryz.prog r x = .slice none 0 0) : aPlain Tryz.prog (aev Tryz.prog r) ⟨dst, .binOp .eql 39 x (.const (.slice none 0 0)) 39, ty, pos, af, gd⟩ = some (.bool true) := by
 unfold aPlain
 simp only [opsOf, plains, hx, execOp]
 kernel_rfl
set_option maxRecDepth 20000 in
set_option maxHeartbeats 4000000 in
theorem clone_nilD {g : Nat} {μ : Mem} (hg : 20 ≤ g) : aFun Tryz.prog (aCode Tryz.prog X S0 g) 93 [.slice none 0 0] μ = some (.slice none 0 0, μ) := by
 obtain ⟨k, rfl⟩ := Nat.exists_eq_add_of_le' hg
 refine ends_eq ?_
 refine fun_enter Tryz.func93 rfl rfl (Nat.le_of_ble_eq_true rfl) ?_
 simp only [T.lay, Nat.zero_add, Tryz.ntmps93, Nat.reduceAdd]
 repeat (first | refine code_seq ?_ | ((first | (refine code_region ?_ ?_; (focus rfl)) | (refine code_guards (gs := ?_) ?_ ?_; rotate_left; (focus rfl))); simp only [run1, run2, wanted, go_sem, Nat.reduceLT, Nat.reduceAdd, Nat.reduceEqDiff, reduceIte, reduceCtorEq, an3, sn_plain]) | (refine code_cond_true ?_ ?_; (focus (simp only [aev, regAt_set, Nat.reduceEqDiff, reduceIte, an3, sn_plain]; done))) | (refine code_cond_false ?_ ?_; (focus (simp only [aev, regAt_set, Nat.reduceEqDiff, reduceIte, an3, sn_plain]; done))) | ((first | refine code_skip ?_ | refine code_label ?_ | refine code_exit ?_); try simp only [then_exit, then_normal, blockC, Nat.reduceEqDiff, reduceIte]) | refine code_block ?_)
 refine code_ret ?_
 refine ⟨rfl, _, ?_, rfl, rfl⟩
 simp only [aResults, Tryz.results93, aRes, regAt_set, Nat.reduceEqDiff, reduceIte]
set_option maxRecDepth 20000 in
set_option maxHeartbeats 4000000 in
theorem dlist_nil {g : Nat} {μ : Mem} (hg : 60 ≤ g) : EndsF (aFun Tryz.prog (aCode Tryz.prog X S0 g) 53 [.slice none 0 0] μ) fun v μ' => v = .agg dL.toArray ∧ Grow μ μ' := by
 obtain ⟨k, rfl⟩ := Nat.exists_eq_add_of_le' hg
 refine fun_enter Tryz.func53 rfl rfl (Nat.le_of_ble_eq_true rfl) ?_
 simp only [T.lay, Nat.zero_add, Tryz.ntmps53, Nat.reduceAdd]
 have hc : ∀ (M : Mem) g, 20 ≤ g → aFun Tryz.prog (aCode Tryz.prog X S0 g) 93 [.slice none 0 0] M = some (.slice none 0 0, M) := fun M g hg => clone_nilD hg
 have hB : Blk ⟨μ.obs.set μ.next obD, μ.next + 1⟩ μ.next 8 41 := blkD (Grow.refl _)
 have hst := stD (l := dL) hB rfl rfl
 have hld := ldD (l := dL) hB rfl
 have fin : Grow μ (putL ⟨μ.obs.set μ.next obD, μ.next + 1⟩ μ.next 0 dL) := (grow1 μ obD).put_new (Nat.le_refl _)
 repeat (first | refine code_seq ?_ | ((first | (refine code_region ?_ ?_; (focus rfl)) | (refine code_guards (gs := ?_) ?_ ?_; rotate_left; (focus rfl))); simp only [run1, run2, wanted, go_sem, Nat.reduceLT, Nat.reduceAdd, Nat.reduceEqDiff, reduceIte, reduceCtorEq, alD, Nat.add_eq, gg93, hc, Nat.reduceLeDiff, bdDL, hst]) | (refine code_cond_true ?_ ?_; (focus (simp only [aev, regAt_set, Nat.reduceEqDiff, reduceIte, alD, Nat.add_eq, gg93, hc, Nat.reduceLeDiff, bdDL, hst]; done))) | (refine code_cond_false ?_ ?_; (focus (simp only [aev, regAt_set, Nat.reduceEqDiff, reduceIte, alD, Nat.add_eq, gg93, hc, Nat.reduceLeDiff, bdDL, hst]; done))) | ((first | refine code_skip ?_ | refine code_label ?_ | refine code_exit ?_); try simp only [then_exit, then_normal, blockC, Nat.reduceEqDiff, reduceIte]) | refine code_block ?_)
 refine code_ret ?_
 refine ⟨rfl, _, ?_, rfl, fin⟩
 simp only [aResults, Tryz.results53, aRes, regAt_set, Nat.reduceEqDiff, reduceIte]
 simp only [hld]
end
noncomputable section
variable {X : FuncId → List Value → Mem → Option (Value × Mem)}
theorem RdBad.mono {μ0 : Mem} {ri sp w deep G G' : Nat} (h : RdBad X μ0 ri sp w deep G) (hG : G ≤ G') : RdBad X μ0 ri sp w deep G' := fun g left μ hg => h g left μ (Nat.le_trans hG hg)
theorem words_of {μ0 μ : Mem} {C : Nat → Nat} {n i c : Nat} (h : OwnK 27 1 none μ0 μ (.slice (some ⟨i, 0, none⟩) n c) n (wl .u64 C n)) : ∀ k, k < n → cellsAt μ i k = some (.int .u64 (.ofNat (C k))) := by
 intro k hk
 obtain ⟨M, z, ov, fx, sh, hob, hM, hcell⟩ := h.good.ob
 rw [wl_length] at hM
 rw [cellsAt_of (n := M) (z := z) (ov := ov) (by rw [hob]; rfl) (by omega), hcell k (by rw [wl_length]; exact hk), wl_get]
set_option maxRecDepth 20000 in
set_option maxHeartbeats 4000000 in
theorem rd_walk {ri sp hp ap wb lb n deep G : Nat} {ws W C : Nat → Nat} {p : Pos} {μ0 : Mem} (hG : 1000 ≤ G) (hS : SP μ0 sp hp ap wb lb 2560 160 ws p) (hW : Walk ws W C n) (h0 : 0 < n)
  (hnum : ∀ k, k + 1 < n → ∃ a : Int, Sm a ∧ C k = sw a) (hlast : (∃ a : Int, Sm a ∧ C (n - 1) = sw a) ∨ RdBad X μ0 ri sp (C (n - 1)) (deep + 1) G) (hq : (∃ a : Int, Sm a ∧ C (n - 1) = sw a) → 3000 ≤ n) (hdp : deep < 1000) :
  RdBad X μ0 ri sp (W 0) deep (n + G + 1000) := by
 intro g left μ hg hl h
 cases left with
 | zero => exact rd_out (by omega) h
 | succ left =>
 by_cases hd : 60 < deep
 ·exact rd_deep (by omega) h (by omega) hd
 have htop := hW.top
 obtain ⟨q, hq1, hq2, hq3, _⟩ := hW.at_ 0 h0
 obtain ⟨k, rfl⟩ := Nat.exists_eq_add_of_le' hg
 obtain ⟨k2, hk2⟩ : ∃ k2, k2 = k + n + G := ⟨_, rfl⟩
 rw [show k + (n + G + 1000) = k2 + 1000 from by omega]
 have hN := hS.hs.ab.N1
 obtain ⟨M0, h0'⟩ : ∃ M : Mem, M = ⟨μ.obs.set μ.next obD, μ.next + 1⟩ := ⟨_, rfl⟩
 have g0 : Grow μ M0 := by rw [h0']; exact grow1 μ _
 have R0 := h.keep g0
 have hne : ri ≠ μ.next := by have := h.xn; omega
 have hst := store_put (P := Tryz.prog) (t := 3) (v := .int .i64 (.ofNat left)) i3 rfl rfl R0.blk (show 1 < 2 by decide)
 have R1 := R0.dec
 obtain ⟨l1, hl1⟩ : ∃ l1, l1 = left + 1 := ⟨_, rfl⟩
 have c1 := R0.c1
 rw [← hl1] at c1
 have e1 : qwrap .i64 (Int.sub (.ofNat l1) 1) = .ofNat left := by rw [hl1]; exact sub_nat (left + 1) 1 (by omega) (by omega)
 have e2 : ilt (.ofNat left) 0 = false := rfl
 have e3 : ilt 60 (.ofNat deep) = false := (ilt_nat 60 deep).trans (decide_eq_false (by omega))
 have hb1 : Blk (putL M0 ri 1 [.int .i64 (.ofNat left)]) μ.next 8 41 := (blkD (h0' ▸ Grow.refl _) : Blk M0 μ.next 8 41).of_get (putL_get _ _ _ _ hne.symm)
 have kx1 : Kx μ (putL M0 ri 1 [.int .i64 (.ofNat left)]) ri := (Kx.of ri g0).trans (Kx.put M0 ri 1 _)
 obtain ⟨M1, h1⟩ : ∃ M, M = putL M0 ri 1 [.int .i64 (.ofNat left)] := ⟨_, rfl⟩
 rw [← h1] at hst R1 hb1 kx1
 have n1 : M1.next = μ.next + 1 := by rw [h1, putL_next, h0']
 have S1 := hS.grow R1.grow
 obtain ⟨v2, μ2, t2, rfl, g2⟩ := fields_no (X := X) (g := k2 + 994) (kd' := 1) (by omega) S1.sp0 S1.hs.at (by omega : q < 2560) hN hq3 (by decide) (by decide) (by decide) (by decide)
 have t2 : aFun Tryz.prog (aCode Tryz.prog X S0 (k2 + 994)) 44 [.pointer (some ⟨sp, 0, none⟩), .int .i64 1, .int .u64 (.ofNat (placeW q))] M1 = some (.tuple #[.slice none 0 0, .bool false], μ2) := t2
 rw [← hq1] at t2
 have R2 := R1.keep g2
 have S2 := hS.grow R2.grow
 obtain ⟨w, hw⟩ : ∃ w, w = W 0 := ⟨_, rfl⟩
 rw [← hw] at t2 ⊢
 refine fun_enter Tryz.func21 rfl rfl (Nat.le_of_ble_eq_true rfl) ?_
 simp only [T.lay, Nat.zero_add, Tryz.ntmps21, Nat.reduceAdd]
 repeat (first | refine code_seq ?_ | ((first | (refine code_region ?_ ?_; (focus rfl)) | (refine code_guards (gs := ?_) ?_ ?_; rotate_left; (focus rfl))); simp only [run1, run2, wanted, go_sem, Nat.reduceLT, Nat.reduceAdd, Nat.reduceEqDiff, reduceIte, reduceCtorEq, alD, Nat.add_eq, h0'.symm, faQ0, faQ1, Nat.add_zero, ld3, ld24, c1, e1, hst, R1.c1, R1.c0, e2, e3, gg44, t2]) | (refine code_cond_true ?_ ?_; (focus (simp only [aev, regAt_set, Nat.reduceEqDiff, reduceIte, alD, Nat.add_eq, h0'.symm, faQ0, faQ1, Nat.add_zero, ld3, ld24, c1, e1, hst, R1.c1, R1.c0, e2, e3, gg44, t2]; done))) | (refine code_cond_false ?_ ?_; (focus (simp only [aev, regAt_set, Nat.reduceEqDiff, reduceIte, alD, Nat.add_eq, h0'.symm, faQ0, faQ1, Nat.add_zero, ld3, ld24, c1, e1, hst, R1.c1, R1.c0, e2, e3, gg44, t2]; done))) | ((first | refine code_skip ?_ | refine code_label ?_ | refine code_exit ?_); try simp only [then_exit, then_normal, blockC, Nat.reduceEqDiff, reduceIte]) | refine code_block ?_)
 rw [show k2 + 993 = (k + G + 793) + n + 200 from by omega]
 refine (collect (X := X) (v2 := .int .i64 (.ofNat deep)) (v6 := .pointer (some ⟨μ.next, 0, none⟩)) S2 hW R2.c0 R2.xn n (k + G + 793) 0 _ μ2 (.slice none 0 0) (Nat.zero_add n) (OwnK.nil _ _ _ _) ?_ ?_ ?_ ?_ ?_).mono ?_
 ·simp only [regAt_set, Nat.reduceEqDiff, reduceIte]
 ·simp only [regAt_set, Nat.reduceEqDiff, reduceIte, hw]
 ·simp only [regAt_set, Nat.reduceEqDiff, reduceIte]
 ·simp only [regAt_set, Nat.reduceEqDiff, reduceIte]
 ·simp only [regAt_set, Nat.reduceEqDiff, reduceIte]
 rintro a r μ3 ⟨rfl, tm', v3, rfl, o3, q0, q1, q2, q6, q12⟩
 obtain ⟨oi, ci, rfl, _⟩ := o3.good.at_ h0
 have g3 := o3.grow
 have R3 := R2.keep g3
 have hoi := o3.above oi ⟨_, _, rfl⟩
 have hr2 := R2.xn
 obtain ⟨v4, μ4, t4, rfl, kx4⟩ := items_ends (X := X) (g := k2 + 991) (c := ci) (deep := deep + 1) (G := G) hG (by omega) (by omega) h0 hS hnum hlast (by omega : left ≤ 3000) (fun h => by have := hq h; omega) R3 hoi.2 (by omega) (words_of o3)
 obtain ⟨v5, μ5, t5, rfl, g5⟩ := dlist_nil (X := X) (g := k2 + 987) (μ := μ4) (by omega)
 have g13 := g2.trans g3
 have hb5 : Blk μ5 μ.next 8 41 := ((hb1.of_get (g13.2 _ (by omega))).of_get (kx4.2 _ (by have := g13.1; omega) hne.symm)).of_get (g5.2 _ (by have := g13.1; have := kx4.1; omega))
 have s6 := stD (l := dL) hb5 rfl rfl
 have d6 := ldD (l := dL) hb5 rfl
 have fin : Kx μ (putL μ5 μ.next 0 dL) ri := (((kx1.trans (Kx.of ri g13)).trans kx4).trans (Kx.of ri g5)).new (Nat.le_refl _)
 have e4 : ieq (.ofNat n) 0 = false := (ieq_nat n 0).trans (decide_eq_false (by omega))
 have e5 : qwrap .i64 (Int.add (.ofNat deep) 1) = .ofNat (deep + 1) := add_nat deep 1 (by omega)
 simp only [blockC, reduceIte, then_normal]
 repeat (first | refine code_seq ?_ | ((first | (refine code_region ?_ ?_; (focus rfl)) | (refine code_guards (gs := ?_) ?_ ?_; rotate_left; (focus rfl))); simp only [run1, run2, wanted, go_sem, Nat.reduceLT, Nat.reduceAdd, Nat.reduceEqDiff, reduceIte, reduceCtorEq, q0, q1, q2, q6, q12, aBuiltin, aLen, Tryz.underlying114, cast_nat, e4, e5, gg50, t4, gg53, t5, s6]) | (refine code_cond_true ?_ ?_; (focus (simp only [aev, regAt_set, Nat.reduceEqDiff, reduceIte, q0, q1, q2, q6, q12, aBuiltin, aLen, Tryz.underlying114, cast_nat, e4, e5, gg50, t4, gg53, t5, s6]; done))) | (refine code_cond_false ?_ ?_; (focus (simp only [aev, regAt_set, Nat.reduceEqDiff, reduceIte, q0, q1, q2, q6, q12, aBuiltin, aLen, Tryz.underlying114, cast_nat, e4, e5, gg50, t4, gg53, t5, s6]; done))) | ((first | refine code_skip ?_ | refine code_label ?_ | refine code_exit ?_); try simp only [then_exit, then_normal, blockC, Nat.reduceEqDiff, reduceIte]) | refine code_block ?_)
 refine code_ret ?_
 refine ⟨rfl, _, ?_, ⟨dL, rfl, rfl, rfl⟩, fin⟩
 simp only [aResults, Tryz.results21, aRes, regAt_set, Nat.reduceEqDiff, reduceIte]
 simp only [q6, d6]
theorem ring_walk {ws : Nat → Nat} {c m : Nat} {x : Nat → Int} (R : RingW ws c m x false) (hm : 0 < m) : Walk ws (fun j => placeW (adr (c + j % m))) (fun j => sw (x (j % m))) 3001 := by
 have ht := R.top
 refine ⟨fun j hj => ?_, Nat.le_refl _, .inl ⟨rfl, adr (c + 3001 % m), rfl, ?_, R.hd _ (Nat.mod_lt _ hm)⟩⟩
 ·have hl := Nat.mod_lt j hm
  have ha := adr_top (k := c + j % m) (by omega)
  refine ⟨adr (c + j % m), rfl, by omega, R.hd _ hl, ?_, ?_⟩
  ·rw [R.car _ hl, if_neg (by rintro ⟨h, _⟩; cases h)]
  ·have e : (j + 1) % m = (j % m + 1) % m := by rw [Nat.mod_add_mod]
   rw [R.cdr _ hl]
   by_cases g : j % m + 1 < m
   ·rw [if_pos g]
    show _ = placeW (adr (c + (j + 1) % m))
    rw [e, Nat.mod_eq_of_lt g]
   ·rw [if_neg g, if_neg (by intro h; cases h)]
    show _ = placeW (adr (c + (j + 1) % m))
    rw [e, show j % m + 1 = m from by omega, Nat.mod_self, Nat.add_zero]
 ·have hl := Nat.mod_lt 3001 hm
  have ha := adr_top (k := c + 3001 % m) (by omega)
  omega
theorem ring_walk0 {ws : Nat → Nat} {c m : Nat} {x : Nat → Int} (R : RingW ws c m x true) (hm : 0 < m) : Walk ws (fun j => if j < m then placeW (adr (c + j)) else 21) (fun j => if j + 1 = m then placeW (adr (c + 0)) else sw (x j)) m := by
 have ht := R.top
 refine ⟨fun j hj => ?_, by omega, .inr ?_⟩
 ·have ha := adr_top (k := c + j) (by omega)
  refine ⟨adr (c + j), if_pos hj, by omega, R.hd _ hj, ?_, ?_⟩
  ·rw [R.car _ hj]
   by_cases g : j + 1 = m
   ·rw [if_pos ⟨rfl, g⟩, if_pos g]; rfl
   ·rw [if_neg (fun h => g h.2), if_neg g]
  ·rw [R.cdr _ hj]
   by_cases g : j + 1 < m
   ·rw [if_pos g, if_pos g]
   ·rw [if_neg g, if_pos rfl, if_neg g]
 ·rw [if_neg (Nat.lt_irrefl m)]
  exact np_nil
theorem rd_ring {ri sp hp ap wb lb c m : Nat} {ws : Nat → Nat} {p : Pos} {μ0 : Mem} {x : Nat → Int} {f0 : Bool} (hS : SP μ0 sp hp ap wb lb 2560 160 ws p) (R : RingW ws c m x f0) (hx : ∀ i, Sm (x i)) (hm : 0 < m) : ∀ s deep, deep + s = 61 → RdBad X μ0 ri sp (placeW (adr (c + 0))) deep (6000 + s * 1100) := by
 have ht := R.top
 intro s
 induction s with
 | zero =>
   intro deep hd g left μ hg hl h
   cases left with
   | zero => exact rd_out (by omega) h
   | succ left => exact rd_deep (by omega) h (by omega) (by omega)
 | succ s ih =>
   intro deep hd
   cases f0 with
   | false =>
     have hw := rd_walk (X := X) (ri := ri) (deep := deep) (G := 1000) (Nat.le_refl _) hS (ring_walk R hm) (by decide) (fun k hk => ⟨x (k % m), hx _, rfl⟩) (.inl ⟨x ((3001 - 1) % m), hx _, rfl⟩) (fun _ => by decide) (by omega)
     have hw : RdBad X μ0 ri sp (placeW (adr (c + 0 % m))) deep (3001 + 1000 + 1000) := hw
     rw [Nat.zero_mod] at hw
     exact hw.mono (by omega)
   | true =>
     have hl : (if m - 1 + 1 = m then placeW (adr (c + 0)) else sw (x (m - 1))) = placeW (adr (c + 0)) := if_pos (by omega)
     have hw := rd_walk (X := X) (ri := ri) (deep := deep) (G := 6000 + s * 1100) (by omega) hS (ring_walk0 R hm) hm (fun k hk => ⟨x k, hx _, if_neg (by omega)⟩) (.inr (by show RdBad X μ0 ri sp (if m - 1 + 1 = m then placeW (adr (c + 0)) else sw (x (m - 1))) _ _; rw [hl]; exact ih (deep + 1) (by omega))) (fun h => by
      obtain ⟨a, ha, h⟩ := h
      exfalso
      have h : (if m - 1 + 1 = m then placeW (adr (c + 0)) else sw (x (m - 1))) = sw a := h
      rw [hl] at h
      have := sw_mod a
      unfold placeW at h
      omega) (by omega)
     have hw : RdBad X μ0 ri sp (if 0 < m then placeW (adr (c + 0)) else 21) deep (m + (6000 + s * 1100) + 1000) := hw
     rw [if_pos hm] at hw
     exact hw.mono (by omega)
set_option maxRecDepth 20000 in
set_option maxHeartbeats 4000000 in
theorem read_ends {g sp hp ap wb lb c m : Nat} {ws : Nat → Nat} {p : Pos} {μ : Mem} {x : Nat → Int} {f0 : Bool} (hg : 74000 ≤ g) (hS : SP μ sp hp ap wb lb 2560 160 ws p) (R : RingW ws c m x f0) (hx : ∀ i, Sm (x i)) (hm : 0 < m) :
  EndsF (aFun Tryz.prog (aCode Tryz.prog X S0 g) 8 [.pointer (some ⟨sp, 0, none⟩), .int .u64 (.ofNat (placeW (adr (c + 0))))] μ) fun v μ' => v = .tuple #[.agg dZ.toArray, .int .i64 181] ∧ Grow μ μ' := by
 obtain ⟨k, rfl⟩ := Nat.exists_eq_add_of_le' hg
 obtain ⟨M0, h0⟩ : ∃ M : Mem, M = ⟨μ.obs.set μ.next obD, μ.next + 1⟩ := ⟨_, rfl⟩
 have g0 : Grow μ M0 := by rw [h0]; exact grow1 μ _
 have n0 : M0.next = μ.next + 1 := by rw [h0]
 obtain ⟨M1, h1⟩ : ∃ M : Mem, M = ⟨M0.obs.set M0.next (.cells (rdL sp 3000).length 75 (rdL sp 3000).toArray .e 0 0 false false), M0.next + 1⟩ := ⟨_, rfl⟩
 have R1 : Rdr M0 M1 M0.next sp 3000 := by
  have g1 : Grow M0 M1 := by rw [h1]; exact grow1 M0 _
  have o1 : M1.obs.get M0.next = some (.cells (rdL sp 3000).length 75 (rdL sp 3000).toArray .e 0 0 false false) := by rw [h1]; show T.get _ _ = _; rw [T.get_set, if_pos rfl]
  exact ⟨g1, Nat.le_refl _, by rw [h1]; exact Nat.lt_succ_self _, ⟨_, _, _, _, o1⟩, Has.new o1⟩
 obtain ⟨v2, μ2, t2, ⟨l, rfl, hl1, hl2⟩, kx2⟩ := rd_ring (X := X) (ri := M0.next) (hS.grow g0) R hx hm 61 0 rfl (k + 73996) 3000 M1 (by omega) (by decide) R1
 have g2 : Grow M0 μ2 := kx2.grow R1.grow (Nat.le_refl _)
 have hB : Blk ⟨μ2.obs.set μ2.next obD, μ2.next + 1⟩ μ2.next 8 41 := blkD (Grow.refl _)
 have s3 := stD (l := l) hB hl1 hl2
 obtain ⟨M3, h3⟩ : ∃ M, M = putL ⟨μ2.obs.set μ2.next obD, μ2.next + 1⟩ μ2.next 0 l := ⟨_, rfl⟩
 rw [← h3] at s3
 have g3 : Grow μ2 M3 := by rw [h3]; exact (grow1 μ2 obD).put_new (Nat.le_refl _)
 have hb : Blk M3 μ.next 8 41 := (blkD (h0 ▸ Grow.refl _) : Blk M0 μ.next 8 41).of_get ((g2.trans g3).2 _ (by omega))
 have s4 := stD (l := dZ) hb rfl rfl
 have d4 := ldD (l := dZ) hb rfl
 have fin : Grow μ (putL M3 μ.next 0 dZ) := (g0.trans (g2.trans g3)).put_new (Nat.le_refl _)
 have t2 : aFun Tryz.prog (aCode Tryz.prog X S0 (k + 73996)) 21 [.pointer (some ⟨M0.next, 0, none⟩), .int .u64 (.ofNat (placeW (adr (c + 0)))), .int .i64 0] M1 = some (.tuple #[.agg l.toArray, .bool false], μ2) := t2
 obtain ⟨w, hw⟩ : ∃ w, w = placeW (adr (c + 0)) := ⟨_, rfl⟩
 rw [← hw] at t2 ⊢
 have zR : aZeroOf Tryz.prog 75 = some (.agg #[.pointer none, .int .i64 0]) := by unfold aZeroOf; rw [k75]; rfl
 have hbd : ∀ (r : Rg) (x : Operand), aev Tryz.prog r x = .pointer (some ⟨sp, 0, none⟩) → aBuild Tryz.prog (aev Tryz.prog r) 75 #[(0, x), (1, .const (.int .i64 3000))] = some (.agg (rdL sp 3000).toArray) := fun r x h1 => by
  refine build_struct (pl := [(0, 1), (1, 1)]) zR Tryz.underlying75 (by kernel_rfl) ?_
  show aFill _ [.pointer none, .int .i64 0] [(0, aev Tryz.prog r x), (1, .int .i64 3000)] = some (rdL sp 3000)
  rw [h1]
  rfl
 have bx : ∀ l : List Value, aBox 75 (.agg l.toArray) = some (.cells l.length 75 l.toArray .e 0 0 false false, fun id => .pointer (some ⟨id, 0, none⟩)) := fun l => rfl
 refine fun_enter Tryz.func8 rfl rfl (Nat.le_of_ble_eq_true rfl) ?_
 simp only [T.lay, Nat.zero_add, Tryz.ntmps8, Nat.reduceAdd]
 repeat (first | refine code_seq ?_ | ((first | (refine code_region ?_ ?_; (focus rfl)) | (refine code_guards (gs := ?_) ?_ ?_; rotate_left; (focus rfl))); simp only [run1, run2, wanted, go_sem, Nat.reduceLT, Nat.reduceAdd, Nat.reduceEqDiff, reduceIte, reduceCtorEq, alD, Nat.add_eq, h0.symm, hbd, bx, h1.symm, gg21, t2, s3, bdD0, s4]) | (refine code_cond_true ?_ ?_; (focus (simp only [aev, regAt_set, Nat.reduceEqDiff, reduceIte, alD, Nat.add_eq, h0.symm, hbd, bx, h1.symm, gg21, t2, s3, bdD0, s4]; done))) | (refine code_cond_false ?_ ?_; (focus (simp only [aev, regAt_set, Nat.reduceEqDiff, reduceIte, alD, Nat.add_eq, h0.symm, hbd, bx, h1.symm, gg21, t2, s3, bdD0, s4]; done))) | ((first | refine code_skip ?_ | refine code_label ?_ | refine code_exit ?_); try simp only [then_exit, then_normal, blockC, Nat.reduceEqDiff, reduceIte]) | refine code_block ?_)
 refine code_ret ?_
 refine ⟨rfl, _, ?_, rfl, fin⟩
 simp only [aResults, Tryz.results8, aRes, regAt_set, Nat.reduceEqDiff, reduceIte]
 simp only [d4]
end
noncomputable section
variable {X : FuncId → List Value → Mem → Option (Value × Mem)}
theorem rem_any (a : Int) (n : Nat) : aDiv true .i64 .i64 a (.ofNat (n + 1)) = some (.int .i64 (a.tmod (.ofNat (n + 1)))) := by cases a <;> rfl
theorem rem1000 (a : Int) : aDiv true .i64 .i64 a 1000 = some (.int .i64 (a.tmod 1000)) := rem_any a 999
theorem rem2 (a : Int) : aDiv true .i64 .i64 a 2 = some (.int .i64 (a.tmod 2)) := rem_any a 1
theorem sm_rem (a : Int) : Sm (a.tmod 1000) := by
 cases a with
 | ofNat k =>
   have h := Nat.mod_lt k (show 0 < 1000 by decide)
   show (-1000000 : Int) < ((k % 1000 : Nat) : Int) ∧ ((k % 1000 : Nat) : Int) < 1000000
   omega
 | negSucc k =>
   have h := Nat.mod_lt (k + 1) (show 0 < 1000 by decide)
   show (-1000000 : Int) < -(((k + 1) % 1000 : Nat) : Int) ∧ -(((k + 1) % 1000 : Nat) : Int) < 1000000
   omega
theorem bsW2 (ρ : Operand → Value) (a b : Operand) (x y : Int) (ha : ρ a = .int .u64 x) (hb : ρ b = .int .u64 y) : aBuildSlice Tryz.prog ρ 114 2 #[(0, a), (1, b)] = some (.cells 2 27 #[.int .u64 x, .int .u64 y] .e 0 0 false false, fun id => .slice (some ⟨id, 0, none⟩) 2 4) := by
 unfold aBuildSlice
 simp only [Tryz.underlying114, iW, zW]
 show (match aFill _ [.int .u64 0, .int .u64 0] [(0, ρ a), (1, ρ b)] with | some cs => _ | none => none) = _
 rw [ha, hb]
 rfl
structure Mk (ws0 ws : Nat → Nat) (c i : Nat) (x : Nat → Int) : Prop where
 hd : ∀ j, j < i → ws (adr (c + j)) = headW 0 0 2
 car : ∀ j, j < i → ws (adr (c + j) + 1 + 0) = sw (x j)
 cdr : ∀ j, j + 1 < i → ws (adr (c + j) + 1 + 1) = placeW (adr (c + (j + 1)))
 last : ∀ j, j + 1 = i → ws (adr (c + j) + 1 + 1) = 21
 old : ∀ j t, j < c → t ≤ 2 → ws (adr j + t) = ws0 (adr j + t)
def pairW (ws : Nat → Nat) (q a : Nat) : Nat → Nat := obj ws q 0 2 fun k => if k = 0 then a else 21
theorem pairW_off {ws : Nat → Nat} {j k a t : Nat} (h : j ≠ k) (ht : t ≤ 2) : pairW ws (adr k) a (adr j + t) = ws (adr j + t) := by
 refine obj_out _ _ _ _ _ _ ?_
 rcases Nat.lt_or_gt_of_ne h with h | h
 ·have := adr_lt h; omega
 ·have := adr_lt h; omega
theorem Mk.one {ws0 ws : Nat → Nat} {c i : Nat} {x : Nat → Int} (h : Mk ws0 ws c i x) : (∀ j, j < i → pairW ws (adr (c + i)) (sw (x i)) (adr (c + j)) = headW 0 0 2) ∧ (∀ j, j < i → pairW ws (adr (c + i)) (sw (x i)) (adr (c + j) + 1 + 0) = sw (x j)) ∧ (∀ j, j + 1 < i → pairW ws (adr (c + i)) (sw (x i)) (adr (c + j) + 1 + 1) = placeW (adr (c + (j + 1)))) ∧ (∀ j t, j < c → t ≤ 2 → pairW ws (adr (c + i)) (sw (x i)) (adr j + t) = ws0 (adr j + t)) :=
 ⟨fun j hj => (pairW_off (t := 0) (by omega) (by decide)).trans (h.hd j hj), fun j hj => (pairW_off (t := 1) (by omega) (by decide)).trans (h.car j hj), fun j hj => (pairW_off (t := 2) (by omega) (by decide)).trans (h.cdr j hj), fun j t hj ht => (pairW_off (by omega) ht).trans (h.old j t hj ht)⟩
theorem pairW_0 (ws : Nat → Nat) (q a : Nat) : pairW ws q a q = headW 0 0 2 := obj_head _ _ _ _ _
theorem pairW_1 (ws : Nat → Nat) (q a : Nat) : pairW ws q a (q + 1 + 0) = a := obj_in _ _ _ _ _ 0 (by decide)
theorem pairW_2 (ws : Nat → Nat) (q a : Nat) : pairW ws q a (q + 1 + 1) = 21 := obj_in _ _ _ _ _ 1 (by decide)
theorem Mk.first {ws0 ws : Nat → Nat} {c : Nat} {x : Nat → Int} (h : Mk ws0 ws c 0 x) : Mk ws0 (pairW ws (adr (c + 0)) (sw (x 0))) c 1 x := by
 obtain ⟨_, _, _, h4⟩ := h.one
 refine ⟨fun j hj => ?_, fun j hj => ?_, fun j hj => absurd hj (by omega), fun j hj => ?_, h4⟩
 ·obtain rfl : j = 0 := by omega
  exact pairW_0 _ _ _
 ·obtain rfl : j = 0 := by omega
  exact pairW_1 _ _ _
 ·obtain rfl : j = 0 := by omega
  exact pairW_2 _ _ _
theorem put_off {ws : Nat → Nat} {j k f w t : Nat} (hf : f ≤ 1) (ht : t ≤ 2) (h : j ≠ k ∨ t ≠ 1 + f) : put ws (adr k + 1 + f) w (adr j + t) = ws (adr j + t) := by
 unfold put
 rw [if_neg]
 intro e
 rcases h with h | h
 ·rcases Nat.lt_or_gt_of_ne h with h | h
  ·have := adr_lt h; omega
  ·have := adr_lt h; omega
 ·by_cases g : j = k
  ·subst g; omega
  ·rcases Nat.lt_or_gt_of_ne g with h | h
   ·have := adr_lt h; omega
   ·have := adr_lt h; omega
theorem put_on {ws : Nat → Nat} {k f w : Nat} : put ws (adr k + 1 + f) w (adr k + 1 + f) = w := if_pos rfl
theorem Mk.next {ws0 ws : Nat → Nat} {c i : Nat} {x : Nat → Int} (h : Mk ws0 ws c (i + 1) x) : Mk ws0 (put (pairW ws (adr (c + (i + 1))) (sw (x (i + 1)))) (adr (c + i) + 1 + 1) (placeW (adr (c + (i + 1))))) c (i + 1 + 1) x := by
 obtain ⟨h1, h2, h3, h4⟩ := h.one
 refine ⟨fun j hj => ?_, fun j hj => ?_, fun j hj => ?_, fun j hj => ?_, fun j t hj ht => ?_⟩
 ·refine (put_off (f := 1) (t := 0) (by decide) (by decide) (.inr (by decide))).trans ?_
  by_cases e : j = i + 1
  ·subst e; exact pairW_0 _ _ _
  ·exact h1 j (by omega)
 ·refine (put_off (f := 1) (t := 1) (by decide) (by decide) (.inr (by decide))).trans ?_
  by_cases e : j = i + 1
  ·subst e; exact pairW_1 _ _ _
  ·exact h2 j (by omega)
 ·by_cases e : j = i
  ·subst e; exact put_on
  ·exact (put_off (f := 1) (t := 2) (by decide) (by decide) (.inl (by omega))).trans (h3 j (by omega))
 ·obtain rfl : j = i + 1 := by omega
  exact (put_off (f := 1) (t := 2) (by decide) (by decide) (.inl (by omega))).trans (pairW_2 _ _ _)
 ·exact (put_off (f := 1) (by decide) ht (.inl (by omega))).trans (h4 j t hj ht)
theorem Mk.ring {ws0 ws : Nat → Nat} {c m : Nat} {x : Nat → Int} (h : Mk ws0 ws c (m + 1) x) (hc : c + (m + 1) ≤ 100) (f0 : Bool) (hf : f0 = true → 0 < m) : RingW (put ws (adr (c + m) + 1 + (if f0 = true then 0 else 1)) (placeW (adr (c + 0)))) c (m + 1) x f0 ∧ ∀ j t, j < c → t ≤ 2 → put ws (adr (c + m) + 1 + (if f0 = true then 0 else 1)) (placeW (adr (c + 0))) (adr j + t) = ws0 (adr j + t) := by
 cases f0 with
 | true =>
   show RingW (put ws (adr (c + m) + 1 + 0) (placeW (adr (c + 0)))) c (m + 1) x true ∧ ∀ j t, j < c → t ≤ 2 → put ws (adr (c + m) + 1 + 0) (placeW (adr (c + 0))) (adr j + t) = ws0 (adr j + t)
   refine ⟨⟨fun i hi => ?_, fun i hi => ?_, fun i hi => ?_, hc⟩, fun j t hj ht => (put_off (f := 0) (by decide) ht (.inl (by omega))).trans (h.old j t hj ht)⟩
   ·exact (put_off (f := 0) (t := 0) (by decide) (by decide) (.inr (by decide))).trans (h.hd i hi)
   ·by_cases e : i = m
    ·subst e
     rw [if_pos ⟨rfl, rfl⟩]
     exact put_on
    ·rw [if_neg (fun g => by have := g.2; omega)]
     exact (put_off (f := 0) (t := 1) (by decide) (by decide) (.inl (by omega))).trans (h.car i hi)
   ·refine (put_off (f := 0) (t := 2) (by decide) (by decide) (.inr (by decide))).trans ?_
    by_cases e : i + 1 < m + 1
    ·rw [if_pos e]; exact h.cdr i e
    ·rw [if_neg e, if_pos rfl]; exact h.last i (by omega)
 | false =>
   show RingW (put ws (adr (c + m) + 1 + 1) (placeW (adr (c + 0)))) c (m + 1) x false ∧ ∀ j t, j < c → t ≤ 2 → put ws (adr (c + m) + 1 + 1) (placeW (adr (c + 0))) (adr j + t) = ws0 (adr j + t)
   refine ⟨⟨fun i hi => ?_, fun i hi => ?_, fun i hi => ?_, hc⟩, fun j t hj ht => (put_off (f := 1) (by decide) ht (.inl (by omega))).trans (h.old j t hj ht)⟩
   ·exact (put_off (f := 1) (t := 0) (by decide) (by decide) (.inr (by decide))).trans (h.hd i hi)
   ·rw [if_neg (fun g => by cases g.1)]
    exact (put_off (f := 1) (t := 1) (by decide) (by decide) (.inr (by decide))).trans (h.car i hi)
   ·by_cases e : i + 1 < m + 1
    ·rw [if_pos e]
     exact (put_off (f := 1) (t := 2) (by decide) (by decide) (.inl (by omega))).trans (h.cdr i e)
    ·rw [if_neg e, if_neg (fun g => by cases g)]
     obtain rfl : i = m := by omega
     exact put_on
set_option maxRecDepth 20000 in
set_option maxHeartbeats 4000000 in
theorem made_nil {g : Nat} {μ : Mem} (hg : 30 ≤ g) : aFun Tryz.prog (aCode Tryz.prog X S0 g) 12 [.int .i64 5, .int .i64 2] μ = some (.int .u64 21, μ) := by
 obtain ⟨k, rfl⟩ := Nat.exists_eq_add_of_le' hg
 refine ends_eq ?_
 have e1 : aConvInt Tryz.prog 3 26 (.int .i64 2) = some (.int .u64 2) := rfl
 have e2 : aConvInt Tryz.prog 3 26 (.int .i64 5) = some (.int .u64 5) := rfl
 have e3 : aDiv true .u64 .u64 2 2305843009213693952 = some (.int .u64 2) := rfl
 have e4 : qwrap .u64 (Int.mul 2 8) = 16 := rfl
 have e5 : qwrap .u64 (Int.add 16 5) = 21 := rfl
 refine fun_enter Tryz.func12 rfl rfl (Nat.le_of_ble_eq_true rfl) ?_
 simp only [T.lay, Nat.zero_add, Tryz.ntmps12, Nat.reduceAdd]
 repeat (first | refine code_seq ?_ | ((first | (refine code_region ?_ ?_; (focus rfl)) | (refine code_guards (gs := ?_) ?_ ?_; rotate_left; (focus rfl))); simp only [run1, run2, wanted, go_sem, Nat.reduceLT, Nat.reduceAdd, Nat.reduceEqDiff, reduceIte, reduceCtorEq, e1, e2, e3, e4, e5]) | (refine code_cond_true ?_ ?_; (focus (simp only [aev, regAt_set, Nat.reduceEqDiff, reduceIte, e1, e2, e3, e4, e5]; done))) | (refine code_cond_false ?_ ?_; (focus (simp only [aev, regAt_set, Nat.reduceEqDiff, reduceIte, e1, e2, e3, e4, e5]; done))) | ((first | refine code_skip ?_ | refine code_label ?_ | refine code_exit ?_); try simp only [then_exit, then_normal, blockC, Nat.reduceEqDiff, reduceIte]) | refine code_block ?_)
 refine code_ret ?_
 refine ⟨rfl, _, ?_, rfl, rfl⟩
 simp only [aResults, Tryz.results12, aRes, regAt_set, Nat.reduceEqDiff, reduceIte]
set_option maxRecDepth 20000 in
set_option maxHeartbeats 4000000 in
theorem made_char {g : Nat} {μ : Mem} (hg : 30 ≤ g) : aFun Tryz.prog (aCode Tryz.prog X S0 g) 12 [.int .i64 2, .int .i64 65] μ = some (.int .u64 522, μ) := by
 obtain ⟨k, rfl⟩ := Nat.exists_eq_add_of_le' hg
 refine ends_eq ?_
 have e1 : aConvInt Tryz.prog 3 26 (.int .i64 65) = some (.int .u64 65) := rfl
 have e2 : aConvInt Tryz.prog 3 26 (.int .i64 2) = some (.int .u64 2) := rfl
 have e3 : aDiv true .u64 .u64 65 2305843009213693952 = some (.int .u64 65) := rfl
 have e4 : qwrap .u64 (Int.mul 65 8) = 520 := rfl
 have e5 : qwrap .u64 (Int.add 520 2) = 522 := rfl
 refine fun_enter Tryz.func12 rfl rfl (Nat.le_of_ble_eq_true rfl) ?_
 simp only [T.lay, Nat.zero_add, Tryz.ntmps12, Nat.reduceAdd]
 repeat (first | refine code_seq ?_ | ((first | (refine code_region ?_ ?_; (focus rfl)) | (refine code_guards (gs := ?_) ?_ ?_; rotate_left; (focus rfl))); simp only [run1, run2, wanted, go_sem, Nat.reduceLT, Nat.reduceAdd, Nat.reduceEqDiff, reduceIte, reduceCtorEq, e1, e2, e3, e4, e5]) | (refine code_cond_true ?_ ?_; (focus (simp only [aev, regAt_set, Nat.reduceEqDiff, reduceIte, e1, e2, e3, e4, e5]; done))) | (refine code_cond_false ?_ ?_; (focus (simp only [aev, regAt_set, Nat.reduceEqDiff, reduceIte, e1, e2, e3, e4, e5]; done))) | ((first | refine code_skip ?_ | refine code_label ?_ | refine code_exit ?_); try simp only [then_exit, then_normal, blockC, Nat.reduceEqDiff, reduceIte]) | refine code_block ?_)
 refine code_ret ?_
 refine ⟨rfl, _, ?_, rfl, rfl⟩
 simp only [aResults, Tryz.results12, aRes, regAt_set, Nat.reduceEqDiff, reduceIte]
end
noncomputable section
variable {X : FuncId → List Value → Mem → Option (Value × Mem)}
def rx (gv : Nat → Int) : Nat → Int := fun i => (gv i).tmod 1000
structure Fro (μ : Mem) (ad : Option Addr) (gi go m : Nat) (gv : Nat → Int) : Prop where
 at_ : ∀ i, i < m → ad = some ⟨gi, go, none⟩ ∧ cellsAt μ gi (go + i) = some (.int .i64 (gv i))
 on : gi < μ.next
set_option maxRecDepth 20000 in
set_option maxHeartbeats 4000000 in
theorem ring_loop {sp hp ap wb lb c m gi go ca : Nat} {ad : Option Addr} {gv : Nat → Int} {bk : Value} {ws0 : Nat → Nat} {μ0 : Mem} (hc : c + m ≤ 100) (hF : Fro μ0 ad gi go m gv) (a1 : gi ≠ ap) (a2 : gi ≠ wb) (a3 : gi ≠ lb) :
  ∀ (r e i : Nat) (tm : T Value) (μ : Mem) (ws : Nat → Nat), i + r = m → Mk ws0 ws c i (rx gv) → SP μ sp hp ap wb lb 2560 160 ws (PR (c + i)) → Keeps μ0 μ ap wb lb →
   regAt tm 0 = .pointer (some ⟨sp, 0, none⟩) → regAt tm 2 = bk → regAt tm 1 = .slice ad m ca → regAt tm 17 = .slice ad m ca → regAt tm 18 = .int .i64 (.ofNat m) → regAt tm 19 = .int .i64 (.ofNat i) →
   (0 < i → regAt tm 8 = .int .u64 (.ofNat (placeW (adr (c + 0)))) ∧ regAt tm 9 = .int .u64 (.ofNat (placeW (adr (c + (i - 1)))))) →
   EndsC (aCode Tryz.prog X S0 (e + r + 2000) (.loop (loopBody Tryz.f6 0)) ⟨65, tm, [], none⟩ μ) fun a r' μ' => a = .exit 0 ∧ ∃ tm' ws', r' = ⟨65, tm', [], none⟩ ∧ Mk ws0 ws' c m (rx gv) ∧ SP μ' sp hp ap wb lb 2560 160 ws' (PR (c + m)) ∧ Keeps μ0 μ' ap wb lb ∧
    regAt tm' 0 = .pointer (some ⟨sp, 0, none⟩) ∧ regAt tm' 1 = .slice ad m ca ∧ regAt tm' 2 = bk ∧ (0 < m → regAt tm' 8 = .int .u64 (.ofNat (placeW (adr (c + 0)))) ∧ regAt tm' 9 = .int .u64 (.ofNat (placeW (adr (c + (m - 1)))))) := by
 intro r
 induction r with
 | zero =>
   intro e i tm μ ws hi hM hS hk r0 r2 r1 r17 r18 r19 r89
   obtain rfl : i = m := hi
   have e1 : ilt (.ofNat i) (.ofNat i) = false := (ilt_nat i i).trans (decide_eq_false (by omega))
   refine code_loop ?_
   repeat (first | refine code_seq ?_ | ((first | (refine code_region ?_ ?_; (focus rfl)) | (refine code_guards (gs := ?_) ?_ ?_; rotate_left; (focus rfl))); simp only [run1, run2, wanted, go_sem, Nat.reduceLT, Nat.reduceAdd, Nat.reduceEqDiff, reduceIte, reduceCtorEq, r18, r19, e1]) | (refine code_cond_true ?_ ?_; (focus (simp only [aev, regAt_set, Nat.reduceEqDiff, reduceIte, r18, r19, e1]; done))) | (refine code_cond_false ?_ ?_; (focus (simp only [aev, regAt_set, Nat.reduceEqDiff, reduceIte, r18, r19, e1]; done))) | ((first | refine code_skip ?_ | refine code_label ?_ | refine code_exit ?_); try simp only [then_exit, then_normal, blockC, Nat.reduceEqDiff, reduceIte]) | refine code_block ?_)
   refine ⟨trivial, _, ws, rfl, hM, hS, hk, ?_, ?_, ?_, fun h => ⟨?_, ?_⟩⟩
   ·simp only [regAt_set, Nat.reduceEqDiff, reduceIte, r0]
   ·simp only [regAt_set, Nat.reduceEqDiff, reduceIte, r1]
   ·simp only [regAt_set, Nat.reduceEqDiff, reduceIte, r2]
   ·simp only [regAt_set, Nat.reduceEqDiff, reduceIte, (r89 h).1]
   ·simp only [regAt_set, Nat.reduceEqDiff, reduceIte, (r89 h).2]
 | succ r ih =>
   intro e i tm μ ws hi hM hS hk r0 r2 r1 r17 r18 r19 r89
   have hlt : i < m := by omega
   obtain ⟨had, hcell⟩ := hF.at_ i hlt
   subst had
   have hgi := hF.on
   have cg : cellsAt μ gi (go + i) = some (.int .i64 (gv i)) := by rw [hk.cell hgi a1 a2 a3]; exact hcell
   have hab := hS.hs.ab
   have ha := adr_top (k := c + i) (by omega)
   have hsm : ∀ (M : Mem) g, 40 ≤ g → aFun Tryz.prog (aCode Tryz.prog X S0 g) 17 [.int .i64 ((gv i).tmod 1000)] M = some (.tuple #[.int .u64 (.ofNat (sw (rx gv i))), .bool true], M) := fun M g hg => rsmall_eq hg (sm_rem (gv i))
   have hmn : ∀ (M : Mem) g, 30 ≤ g → aFun Tryz.prog (aCode Tryz.prog X S0 g) 12 [.int .i64 5, .int .i64 2] M = some (.int .u64 21, M) := fun M g hg => made_nil hg
   obtain ⟨sx, hsx⟩ : ∃ x, x = sw (rx gv i) := ⟨_, rfl⟩
   obtain ⟨M1, h1⟩ : ∃ M : Mem, M = ⟨μ.obs.set μ.next (.cells 2 27 #[.int .u64 (.ofNat sx), .int .u64 21] .e 0 0 false false), μ.next + 1⟩ := ⟨_, rfl⟩
   have g1 : Grow μ M1 := by rw [h1]; exact grow1 μ _
   have o1 : M1.obs.get μ.next = some (.cells 2 27 #[.int .u64 (.ofNat sx), .int .u64 21] .e 0 0 false false) := by rw [h1]; show T.get _ _ = _; rw [T.get_set, if_pos rfl]
   have hli : ∀ k, k < 2 → cellsAt M1 μ.next k = some (.int .u64 (.ofNat ((fun k => if k = 0 then sx else 21) k))) := fun k hk => by
    rw [cellsAt_of (n := 2) (z := #[.int .u64 (.ofNat sx), .int .u64 21]) (ov := .e) (by rw [o1]; rfl) hk]
    have : k = 0 ∨ k = 1 := by omega
    rcases this with rfl | rfl <;> rfl
   obtain ⟨v2, μ2, t2o, rfl, S2o, k2⟩ := object_ends (X := X) (g := e + (r + 1) + 1991) (kd := 0) (n := 2) (q := adr (c + i)) (c := 4) (f := fun k => if k = 0 then sx else 21) (by omega) (hS.grow g1) hli (by rw [h1]; exact Nat.lt_succ_self _) (by have := hab.n1; omega) (by have := hab.n2; omega) (by have := hab.n3; omega) (by decide) (by decide) (by omega) (al_ring (k := c + i) (by omega))
   have t2 : aFun Tryz.prog (aCode Tryz.prog X S0 (e + (r + 1) + 1991)) 18 [.pointer (some ⟨sp, 0, none⟩), .int .i64 0, .slice (some ⟨μ.next, 0, none⟩) 2 4] M1 = some (.tuple #[.int .u64 (.ofNat (placeW (adr (c + i)))), .bool true], μ2) := t2o
   have k02 : Keeps μ0 μ2 ap wb lb := hk.trans ((Keeps.grow g1).trans k2)
   have hix : ∀ (ρ : Operand → Value) (a b : Operand), ρ a = .slice (some ⟨gi, go, none⟩) m ca → ρ b = .int .i64 (.ofNat i) → aIndexAddr Tryz.prog ρ 22 a b = some (.pointer (some ⟨gi, go + i, none⟩)) := fun ρ a b h1 h2 => indexAddr_slice (P := Tryz.prog) Tryz.underlying22 i3 rfl h1 h2 hlt
   have hbs : ∀ (ρ : Operand → Value) (x y : Operand), ρ x = .int .u64 (.ofNat sx) → ρ y = .int .u64 21 → aBuildSlice Tryz.prog ρ 114 2 #[(0, x), (1, y)] = some (.cells 2 27 #[.int .u64 (.ofNat sx), .int .u64 21] .e 0 0 false false, fun id => .slice (some ⟨id, 0, none⟩) 2 4) := fun ρ x y h1 h2 => bsW2 ρ x y _ _ h1 h2
   have e1 : ilt (.ofNat i) (.ofNat m) = true := (ilt_nat i m).trans (decide_eq_true hlt)
   have e2 : qwrap .i64 (Int.add (.ofNat i) 1) = .ofNat (i + 1) := add_nat i 1 (by omega)
   have e3 := rem1000 (gv i)
   have S2 : SP μ2 sp hp ap wb lb 2560 160 (pairW ws (adr (c + i)) sx) (PR (c + (i + 1))) := S2o
   obtain ⟨pq, hpq⟩ : ∃ x, x = placeW (adr (c + i)) := ⟨_, rfl⟩
   rw [← hpq] at t2
   rw [← hsx] at hsm
   cases i with
   | zero =>
     have hM1 := hM.first
     rw [← hsx] at hM1
     have e4 : ieq (.ofNat 0) 0 = true := rfl
     refine code_loop ?_
     repeat (first | refine code_seq ?_ | ((first | (refine code_region ?_ ?_; (focus rfl)) | (refine code_guards (gs := ?_) ?_ ?_; rotate_left; (focus rfl))); simp only [run1, run2, wanted, go_sem, Nat.reduceLT, Nat.reduceAdd, Nat.reduceEqDiff, reduceIte, reduceCtorEq, r0, r17, r18, r19, e1, hix, ld3, cg, e3, gg17, hsm, Nat.reduceLeDiff, gg12, hmn, hbs, Nat.add_eq, h1.symm, gg18, t2, e4, e2]) | (refine code_cond_true ?_ ?_; (focus (simp only [aev, regAt_set, Nat.reduceEqDiff, reduceIte, r0, r17, r18, r19, e1, hix, ld3, cg, e3, gg17, hsm, Nat.reduceLeDiff, gg12, hmn, hbs, Nat.add_eq, h1.symm, gg18, t2, e4, e2]; done))) | (refine code_cond_false ?_ ?_; (focus (simp only [aev, regAt_set, Nat.reduceEqDiff, reduceIte, r0, r17, r18, r19, e1, hix, ld3, cg, e3, gg17, hsm, Nat.reduceLeDiff, gg12, hmn, hbs, Nat.add_eq, h1.symm, gg18, t2, e4, e2]; done))) | ((first | refine code_skip ?_ | refine code_label ?_ | refine code_exit ?_); try simp only [then_exit, then_normal, blockC, Nat.reduceEqDiff, reduceIte]) | refine code_block ?_)
     rw [show e + (r + 1) + 1999 = e + r + 2000 from by omega]
     refine ih e 1 _ μ2 _ (by omega) hM1 S2 k02 ?_ ?_ ?_ ?_ ?_ ?_ fun _ => ⟨?_, ?_⟩
     ·simp only [regAt_set, Nat.reduceEqDiff, reduceIte, r0]
     ·simp only [regAt_set, Nat.reduceEqDiff, reduceIte, r2]
     ·simp only [regAt_set, Nat.reduceEqDiff, reduceIte, r1]
     ·simp only [regAt_set, Nat.reduceEqDiff, reduceIte, r17]
     ·simp only [regAt_set, Nat.reduceEqDiff, reduceIte, r18]
     ·simp only [regAt_set, Nat.reduceEqDiff, reduceIte]
     ·simp only [regAt_set, Nat.reduceEqDiff, reduceIte, hpq]
     ·simp only [regAt_set, Nat.reduceEqDiff, reduceIte, hpq]
   | succ i =>
     obtain ⟨r8, r9⟩ := r89 (Nat.succ_pos i)
     have hM1 := hM.next
     have hd1 := hM.one.1 i (Nat.lt_succ_self i)
     rw [← hsx] at hM1 hd1
     rw [← hpq] at hM1
     have ha1 := adr_top (k := c + i) (by omega)
     have r9 : regAt tm 9 = .int .u64 (.ofNat (placeW (adr (c + i)))) := r9
     obtain ⟨v3, μ3, t3, rfl, a3', n3, k3⟩ := hset (X := X) (g := e + (r + 1) + 1987) (i := 1) (w := pq) (by omega) S2.hs.at (by omega : adr (c + i) + 2 < 2560) (by decide) hd1 (by decide) (by decide) (by decide)
     have t3 : aFun Tryz.prog (aCode Tryz.prog X S0 (e + (r + 1) + 1987)) 11 [.pointer (some ⟨hp, 0, none⟩), .int .u64 (.ofNat (placeW (adr (c + i)))), .int .i64 1, .int .u64 (.ofNat pq)] μ2 = some (.int .i64 0, μ3) := t3
     have S3 := S2.setw a3' n3 k3
     have k03 : Keeps μ0 μ3 ap wb lb := k02.trans (Keeps.of n3 k3)
     have hH : ∀ g, 10 ≤ g → aFun Tryz.prog (aCode Tryz.prog X S0 g) 10 [.pointer (some ⟨sp, 0, none⟩)] μ2 = some (.pointer (some ⟨hp, 0, none⟩), μ2) := fun g hg => heap_of hg S2.sp0
     obtain ⟨lq, hlq⟩ : ∃ x, x = placeW (adr (c + i)) := ⟨_, rfl⟩
     rw [← hlq] at t3 r9
     obtain ⟨i1, hi1⟩ : ∃ x, x = i + 1 := ⟨_, rfl⟩
     rw [← hi1] at r19 e1 e2 hix cg e3
     have e4 : ieq (.ofNat i1) 0 = false := (ieq_nat i1 0).trans (decide_eq_false (by omega))
     rw [← hi1] at hsm
     refine code_loop ?_
     repeat (first | refine code_seq ?_ | ((first | (refine code_region ?_ ?_; (focus rfl)) | (refine code_guards (gs := ?_) ?_ ?_; rotate_left; (focus rfl))); simp only [run1, run2, wanted, go_sem, Nat.reduceLT, Nat.reduceAdd, Nat.reduceEqDiff, reduceIte, reduceCtorEq, r0, r9, r17, r18, r19, e1, hix, ld3, cg, e3, gg17, hsm, Nat.reduceLeDiff, gg12, hmn, hbs, Nat.add_eq, h1.symm, gg18, t2, e4, gg10, hH, gg11, t3, e2]) | (refine code_cond_true ?_ ?_; (focus (simp only [aev, regAt_set, Nat.reduceEqDiff, reduceIte, r0, r9, r17, r18, r19, e1, hix, ld3, cg, e3, gg17, hsm, Nat.reduceLeDiff, gg12, hmn, hbs, Nat.add_eq, h1.symm, gg18, t2, e4, gg10, hH, gg11, t3, e2]; done))) | (refine code_cond_false ?_ ?_; (focus (simp only [aev, regAt_set, Nat.reduceEqDiff, reduceIte, r0, r9, r17, r18, r19, e1, hix, ld3, cg, e3, gg17, hsm, Nat.reduceLeDiff, gg12, hmn, hbs, Nat.add_eq, h1.symm, gg18, t2, e4, gg10, hH, gg11, t3, e2]; done))) | ((first | refine code_skip ?_ | refine code_label ?_ | refine code_exit ?_); try simp only [then_exit, then_normal, blockC, Nat.reduceEqDiff, reduceIte]) | refine code_block ?_)
     rw [show e + (r + 1) + 1999 = e + r + 2000 from by omega]
     refine ih e (i + 1 + 1) _ μ3 _ (by omega) hM1 S3 k03 ?_ ?_ ?_ ?_ ?_ ?_ fun _ => ⟨?_, ?_⟩
     ·simp only [regAt_set, Nat.reduceEqDiff, reduceIte, r0]
     ·simp only [regAt_set, Nat.reduceEqDiff, reduceIte, r2]
     ·simp only [regAt_set, Nat.reduceEqDiff, reduceIte, r1]
     ·simp only [regAt_set, Nat.reduceEqDiff, reduceIte, r17]
     ·simp only [regAt_set, Nat.reduceEqDiff, reduceIte, r18]
     ·simp only [regAt_set, Nat.reduceEqDiff, reduceIte, hi1]
     ·simp only [regAt_set, Nat.reduceEqDiff, reduceIte, r8]
     ·simp only [regAt_set, Nat.reduceEqDiff, reduceIte, hpq]
      rfl
end
noncomputable section
variable {X : FuncId → List Value → Mem → Option (Value × Mem)}
def rf (bk : Int) (m : Nat) : Bool := ieq (bk.tmod 2) 0 && decide (1 < m)
set_option maxRecDepth 20000 in
set_option maxHeartbeats 4000000 in
theorem ring_ends {g sp hp ap wb lb c m gi go ca : Nat} {ad : Option Addr} {gv : Nat → Int} {bk : Int} {ws0 : Nat → Nat} {μ : Mem} (hg : 4000 ≤ g) (hS : SP μ sp hp ap wb lb 2560 160 ws0 (PR c)) (hc : c + m ≤ 100) (hm : 0 < m) (hF : Fro μ ad gi go m gv) (a1 : gi ≠ ap) (a2 : gi ≠ wb) (a3 : gi ≠ lb) :
  EndsF (aFun Tryz.prog (aCode Tryz.prog X S0 g) 6 [.pointer (some ⟨sp, 0, none⟩), .slice ad m ca, .int .i64 bk] μ) fun v μ' => v = .tuple #[.int .u64 (.ofNat (placeW (adr (c + 0)))), .bool true] ∧ ∃ ws', SP μ' sp hp ap wb lb 2560 160 ws' (PR (c + m)) ∧ RingW ws' c m (rx gv) (rf bk m) ∧ (∀ j t, j < c → t ≤ 2 → ws' (adr j + t) = ws0 (adr j + t)) ∧ Keeps μ μ' ap wb lb := by
 obtain ⟨k, rfl⟩ := Nat.exists_eq_add_of_le' hg
 obtain ⟨m', rfl⟩ : ∃ m', m = m' + 1 := ⟨m - 1, by omega⟩
 obtain ⟨m1, hm1⟩ : ∃ m1, m1 = m' + 1 := ⟨_, rfl⟩
 rw [← hm1]
 refine fun_enter Tryz.func6 rfl rfl (Nat.le_of_ble_eq_true rfl) ?_
 simp only [T.lay, Nat.zero_add, Tryz.ntmps6, Nat.reduceAdd]
 repeat (first | refine code_seq ?_ | ((first | (refine code_region ?_ ?_; (focus rfl)) | (refine code_guards (gs := ?_) ?_ ?_; rotate_left; (focus rfl))); simp only [run1, run2, wanted, go_sem, Nat.reduceLT, Nat.reduceAdd, Nat.reduceEqDiff, reduceIte, reduceCtorEq, aBuiltin, aLen, Tryz.underlying22, cast_nat]) | (refine code_cond_true ?_ ?_; (focus (simp only [aev, regAt_set, Nat.reduceEqDiff, reduceIte, aBuiltin, aLen, Tryz.underlying22, cast_nat]; done))) | (refine code_cond_false ?_ ?_; (focus (simp only [aev, regAt_set, Nat.reduceEqDiff, reduceIte, aBuiltin, aLen, Tryz.underlying22, cast_nat]; done))) | ((first | refine code_skip ?_ | refine code_label ?_ | refine code_exit ?_); try simp only [then_exit, then_normal, blockC, Nat.reduceEqDiff, reduceIte]) | refine code_block ?_)
 rw [show k + 3994 = (k + 1994 - m1) + m1 + 2000 from by omega]
 refine (ring_loop (X := X) (bk := .int .i64 bk) (ws0 := ws0) (ca := ca) (by omega : c + m1 ≤ 100) (hm1 ▸ hF) a1 a2 a3 m1 (k + 1994 - m1) 0 _ μ ws0 (Nat.zero_add m1) ⟨fun j h => absurd h (Nat.not_lt_zero j), fun j h => absurd h (Nat.not_lt_zero j), fun j h => absurd h (Nat.not_lt_zero _), fun j h => absurd h (Nat.succ_ne_zero j), fun j t _ _ => rfl⟩ hS (Keeps.grow (Grow.refl μ)) ?_ ?_ ?_ ?_ ?_ ?_ fun h => absurd h (Nat.lt_irrefl 0)).mono ?_
 ·simp only [regAt_set, Nat.reduceEqDiff, reduceIte]
 ·simp only [regAt_set, Nat.reduceEqDiff, reduceIte]
 ·simp only [regAt_set, Nat.reduceEqDiff, reduceIte]
 ·simp only [regAt_set, Nat.reduceEqDiff, reduceIte]
 ·simp only [regAt_set, Nat.reduceEqDiff, reduceIte]
 ·simp only [regAt_set, Nat.reduceEqDiff, reduceIte]
  rfl
 rintro a r μ1 ⟨rfl, tm', ws1, rfl, hM, S1, k1, q0, q1, q2, q89⟩
 obtain ⟨q8, q9⟩ := q89 (by omega)
 rw [hm1] at hM
 have q9 : regAt tm' 9 = .int .u64 (.ofNat (placeW (adr (c + m')))) := by rw [q9, hm1]; rfl
 have ha := adr_top (k := c + m') (by omega)
 have hd := hM.hd m' (Nat.lt_succ_self m')
 have hH : ∀ g, 10 ≤ g → aFun Tryz.prog (aCode Tryz.prog X S0 g) 10 [.pointer (some ⟨sp, 0, none⟩)] μ1 = some (.pointer (some ⟨hp, 0, none⟩), μ1) := fun g hg => heap_of hg S1.sp0
 have e1 := rem2 bk
 simp only [blockC, reduceIte, then_normal]
 cases hb : ieq (bk.tmod 2) 0 with
 | false =>
   have hf : rf bk m1 = false := by unfold rf; rw [hb]; rfl
   have hR := hM.ring hc false (fun h => by cases h)
   obtain ⟨v3, μ3, t3o, rfl, a3', n3, k3⟩ := hset (X := X) (g := k + 3992) (i := 1) (w := placeW (adr (c + 0))) (by omega) S1.hs.at (by omega : adr (c + m') + 2 < 2560) (by decide) hd (by decide) (by decide) (by decide)
   have t3 : aFun Tryz.prog (aCode Tryz.prog X S0 (k + 3992)) 11 [.pointer (some ⟨hp, 0, none⟩), .int .u64 (.ofNat (placeW (adr (c + m')))), .int .i64 1, .int .u64 (.ofNat (placeW (adr (c + 0))))] μ1 = some (.int .i64 0, μ3) := t3o
   rw [hf]
   repeat (first | refine code_seq ?_ | ((first | (refine code_region ?_ ?_; (focus rfl)) | (refine code_guards (gs := ?_) ?_ ?_; rotate_left; (focus rfl))); simp only [run1, run2, wanted, go_sem, Nat.reduceLT, Nat.reduceAdd, Nat.reduceEqDiff, reduceIte, reduceCtorEq, q0, q1, q2, q8, q9, aBuiltin, aLen, Tryz.underlying22, cast_nat, e1, hb, gg10, hH, Nat.reduceLeDiff, gg11, t3]) | (refine code_cond_true ?_ ?_; (focus (simp only [aev, regAt_set, Nat.reduceEqDiff, reduceIte, q0, q1, q2, q8, q9, aBuiltin, aLen, Tryz.underlying22, cast_nat, e1, hb, gg10, hH, Nat.reduceLeDiff, gg11, t3]; done))) | (refine code_cond_false ?_ ?_; (focus (simp only [aev, regAt_set, Nat.reduceEqDiff, reduceIte, q0, q1, q2, q8, q9, aBuiltin, aLen, Tryz.underlying22, cast_nat, e1, hb, gg10, hH, Nat.reduceLeDiff, gg11, t3]; done))) | ((first | refine code_skip ?_ | refine code_label ?_ | refine code_exit ?_); try simp only [then_exit, then_normal, blockC, Nat.reduceEqDiff, reduceIte]) | refine code_block ?_)
   refine code_ret ?_
   refine ⟨rfl, _, ?_, rfl, _, S1.setw a3' n3 k3, ?_, hR.2, k1.trans (Keeps.of n3 k3)⟩
   ·skip
    simp only [aResults, Tryz.results6, aRes, regAt_set, Nat.reduceEqDiff, reduceIte]
   ·rw [hm1]; exact hR.1
 | true =>
   cases hl : decide (1 < m1) with
   | false =>
     have hf : rf bk m1 = false := by unfold rf; rw [hb, hl]; rfl
     have e2 : ilt 1 (.ofNat m1) = false := (ilt_nat 1 m1).trans hl
     have hR := hM.ring hc false (fun h => by cases h)
     obtain ⟨v3, μ3, t3o, rfl, a3', n3, k3⟩ := hset (X := X) (g := k + 3992) (i := 1) (w := placeW (adr (c + 0))) (by omega) S1.hs.at (by omega : adr (c + m') + 2 < 2560) (by decide) hd (by decide) (by decide) (by decide)
     have t3 : aFun Tryz.prog (aCode Tryz.prog X S0 (k + 3992)) 11 [.pointer (some ⟨hp, 0, none⟩), .int .u64 (.ofNat (placeW (adr (c + m')))), .int .i64 1, .int .u64 (.ofNat (placeW (adr (c + 0))))] μ1 = some (.int .i64 0, μ3) := t3o
     rw [hf]
     repeat (first | refine code_seq ?_ | ((first | (refine code_region ?_ ?_; (focus rfl)) | (refine code_guards (gs := ?_) ?_ ?_; rotate_left; (focus rfl))); simp only [run1, run2, wanted, go_sem, Nat.reduceLT, Nat.reduceAdd, Nat.reduceEqDiff, reduceIte, reduceCtorEq, q0, q1, q2, q8, q9, aBuiltin, aLen, Tryz.underlying22, cast_nat, e1, hb, e2, gg10, hH, Nat.reduceLeDiff, gg11, t3]) | (refine code_cond_true ?_ ?_; (focus (simp only [aev, regAt_set, Nat.reduceEqDiff, reduceIte, q0, q1, q2, q8, q9, aBuiltin, aLen, Tryz.underlying22, cast_nat, e1, hb, e2, gg10, hH, Nat.reduceLeDiff, gg11, t3]; done))) | (refine code_cond_false ?_ ?_; (focus (simp only [aev, regAt_set, Nat.reduceEqDiff, reduceIte, q0, q1, q2, q8, q9, aBuiltin, aLen, Tryz.underlying22, cast_nat, e1, hb, e2, gg10, hH, Nat.reduceLeDiff, gg11, t3]; done))) | ((first | refine code_skip ?_ | refine code_label ?_ | refine code_exit ?_); try simp only [then_exit, then_normal, blockC, Nat.reduceEqDiff, reduceIte]) | refine code_block ?_)
     refine code_ret ?_
     refine ⟨rfl, _, ?_, rfl, _, S1.setw a3' n3 k3, ?_, hR.2, k1.trans (Keeps.of n3 k3)⟩
     ·skip
      simp only [aResults, Tryz.results6, aRes, regAt_set, Nat.reduceEqDiff, reduceIte]
     ·rw [hm1]; exact hR.1
   | true =>
     have hf : rf bk m1 = true := by unfold rf; rw [hb, hl]; rfl
     have e2 : ilt 1 (.ofNat m1) = true := (ilt_nat 1 m1).trans hl
     have hl1 := of_decide_eq_true hl
     have hR := hM.ring hc true (fun _ => by omega)
     obtain ⟨v3, μ3, t3o, rfl, a3', n3, k3⟩ := hset (X := X) (g := k + 3992) (i := 0) (w := placeW (adr (c + 0))) (by omega) S1.hs.at (by omega : adr (c + m') + 2 < 2560) (by decide) hd (by decide) (by decide) (by decide)
     have t3 : aFun Tryz.prog (aCode Tryz.prog X S0 (k + 3992)) 11 [.pointer (some ⟨hp, 0, none⟩), .int .u64 (.ofNat (placeW (adr (c + m')))), .int .i64 0, .int .u64 (.ofNat (placeW (adr (c + 0))))] μ1 = some (.int .i64 0, μ3) := t3o
     rw [hf]
     repeat (first | refine code_seq ?_ | ((first | (refine code_region ?_ ?_; (focus rfl)) | (refine code_guards (gs := ?_) ?_ ?_; rotate_left; (focus rfl))); simp only [run1, run2, wanted, go_sem, Nat.reduceLT, Nat.reduceAdd, Nat.reduceEqDiff, reduceIte, reduceCtorEq, q0, q1, q2, q8, q9, aBuiltin, aLen, Tryz.underlying22, cast_nat, e1, hb, e2, gg10, hH, Nat.reduceLeDiff, gg11, t3]) | (refine code_cond_true ?_ ?_; (focus (simp only [aev, regAt_set, Nat.reduceEqDiff, reduceIte, q0, q1, q2, q8, q9, aBuiltin, aLen, Tryz.underlying22, cast_nat, e1, hb, e2, gg10, hH, Nat.reduceLeDiff, gg11, t3]; done))) | (refine code_cond_false ?_ ?_; (focus (simp only [aev, regAt_set, Nat.reduceEqDiff, reduceIte, q0, q1, q2, q8, q9, aBuiltin, aLen, Tryz.underlying22, cast_nat, e1, hb, e2, gg10, hH, Nat.reduceLeDiff, gg11, t3]; done))) | ((first | refine code_skip ?_ | refine code_label ?_ | refine code_exit ?_); try simp only [then_exit, then_normal, blockC, Nat.reduceEqDiff, reduceIte]) | refine code_block ?_)
     refine code_ret ?_
     refine ⟨rfl, _, ?_, rfl, _, S1.setw a3' n3 k3, ?_, hR.2, k1.trans (Keeps.of n3 k3)⟩
     ·skip
      simp only [aResults, Tryz.results6, aRes, regAt_set, Nat.reduceEqDiff, reduceIte]
     ·rw [hm1]; exact hR.1
end
noncomputable section
variable {X : FuncId → List Value → Mem → Option (Value × Mem)}
theorem RingW.congr {ws ws' : Nat → Nat} {m : Nat} {x : Nat → Int} {f0 : Bool} (h : RingW ws 0 m x f0) (he : ∀ j t, j < m → t ≤ 2 → ws' (adr j + t) = ws (adr j + t)) : RingW ws' 0 m x f0 :=
 ⟨fun i hi => (he (0 + i) 0 (by omega) (by decide)).trans (h.hd i hi), fun i hi => (he (0 + i) 1 (by omega) (by decide)).trans (h.car i hi), fun i hi => (he (0 + i) 2 (by omega) (by decide)).trans (h.cdr i hi), h.top⟩
set_option maxRecDepth 20000 in
set_option maxHeartbeats 16000000 in
theorem law_out {k n ca : Nat} {ad : Option Addr} {bk : Int} {t0 : T Ob} (hal : ∀ k, aCallS Tryz.prog (aCode Tryz.prog X S0 k) S0 4 [] ⟨t0, 900⟩ = some (.bool true, ⟨t0, 900⟩)) (h : ¬ (1 ≤ n ∧ n ≤ 50)) :
  aFun Tryz.prog (aCode Tryz.prog X S0 (k + 100000)) 3 [.slice ad n ca, .int .i64 bk] ⟨t0, 900⟩ = some (.bool true, ⟨t0, 900⟩) := by
 refine ends_eq ?_
 by_cases h1 : n < 1
 ·have q1 : ilt (.ofNat n) 1 = true := (ilt_nat n 1).trans (decide_eq_true h1)
  refine fun_enter Tryz.func3 rfl rfl (Nat.le_of_ble_eq_true rfl) ?_
  simp only [T.lay, Nat.zero_add, Tryz.ntmps3, Nat.reduceAdd]
  repeat (first | refine code_seq ?_ | ((first | (refine code_region ?_ ?_; (focus rfl)) | (refine code_guards (gs := ?_) ?_ ?_; rotate_left; (focus rfl))); simp only [run1, run2, wanted, go_sem, Nat.reduceLT, Nat.reduceAdd, Nat.reduceEqDiff, reduceIte, reduceCtorEq, go_body (P := Tryz.prog) Tryz.func4 rfl, hal, aBuiltin, aLen, Tryz.underlying22, cast_nat, q1]) | (refine code_cond_true ?_ ?_; (focus (simp only [aev, regAt_set, Nat.reduceEqDiff, reduceIte, go_body (P := Tryz.prog) Tryz.func4 rfl, hal, aBuiltin, aLen, Tryz.underlying22, cast_nat, q1]; done))) | (refine code_cond_false ?_ ?_; (focus (simp only [aev, regAt_set, Nat.reduceEqDiff, reduceIte, go_body (P := Tryz.prog) Tryz.func4 rfl, hal, aBuiltin, aLen, Tryz.underlying22, cast_nat, q1]; done))) | ((first | refine code_skip ?_ | refine code_label ?_ | refine code_exit ?_); try simp only [then_exit, then_normal, blockC, Nat.reduceEqDiff, reduceIte]) | refine code_block ?_)
  refine code_ret ?_
  refine ⟨rfl, _, ?_, rfl, rfl⟩
  simp only [aResults, Tryz.results3, aRes, regAt_set, Nat.reduceEqDiff, reduceIte]
 ·have q1 : ilt (.ofNat n) 1 = false := (ilt_nat n 1).trans (decide_eq_false h1)
  have q2 : ilt 50 (.ofNat n) = true := (ilt_nat 50 n).trans (decide_eq_true (by omega))
  refine fun_enter Tryz.func3 rfl rfl (Nat.le_of_ble_eq_true rfl) ?_
  simp only [T.lay, Nat.zero_add, Tryz.ntmps3, Nat.reduceAdd]
  repeat (first | refine code_seq ?_ | ((first | (refine code_region ?_ ?_; (focus rfl)) | (refine code_guards (gs := ?_) ?_ ?_; rotate_left; (focus rfl))); simp only [run1, run2, wanted, go_sem, Nat.reduceLT, Nat.reduceAdd, Nat.reduceEqDiff, reduceIte, reduceCtorEq, go_body (P := Tryz.prog) Tryz.func4 rfl, hal, aBuiltin, aLen, Tryz.underlying22, cast_nat, q1, q2]) | (refine code_cond_true ?_ ?_; (focus (simp only [aev, regAt_set, Nat.reduceEqDiff, reduceIte, go_body (P := Tryz.prog) Tryz.func4 rfl, hal, aBuiltin, aLen, Tryz.underlying22, cast_nat, q1, q2]; done))) | (refine code_cond_false ?_ ?_; (focus (simp only [aev, regAt_set, Nat.reduceEqDiff, reduceIte, go_body (P := Tryz.prog) Tryz.func4 rfl, hal, aBuiltin, aLen, Tryz.underlying22, cast_nat, q1, q2]; done))) | ((first | refine code_skip ?_ | refine code_label ?_ | refine code_exit ?_); try simp only [then_exit, then_normal, blockC, Nat.reduceEqDiff, reduceIte]) | refine code_block ?_)
  refine code_ret ?_
  refine ⟨rfl, _, ?_, rfl, rfl⟩
  simp only [aResults, Tryz.results3, aRes, regAt_set, Nat.reduceEqDiff, reduceIte]
end
noncomputable section
def newRun (X : FuncId → List Value → Mem → Option (Value × Mem)) (g : Nat) (t0 : T Ob) : Option (Value × Mem) := aFun Tryz.prog (aCode Tryz.prog X S0 g) 5 [.int .i64 10] ⟨t0, 900⟩
def newMem (X : FuncId → List Value → Mem → Option (Value × Mem)) (g : Nat) (t0 : T Ob) : Mem := match newRun X g t0 with
 | some (_, m) => m
 | none => ⟨.e, 0⟩
structure NewOk (X : FuncId → List Value → Mem → Option (Value × Mem)) (g : Nat) (t0 : T Ob) (o0 : Option Ob) (r5 r6 : Ob) : Prop where
 val : (newRun X g t0).map (·.1) = some (.pointer (some ⟨911, 0, none⟩))
 next : (newMem X g t0).next = 912
 sp : ∃ ov, (newMem X g t0).obs.get 911 = some (.cells 3 62 #[.pointer (some ⟨909, 0, none⟩), .slice none 0 0, .map (some 910)] ov 0 0 false false) ∧ ov = .e
 hp : (newMem X g t0).obs.get 909 = some (.cells 1 91 #[.pointer (some ⟨907, 0, none⟩)] .e 0 0 false false)
 ap : (newMem X g t0).obs.get 907 = some (.cells 9 149 #[.slice (some ⟨902, 0, none⟩) 2560 5120, .slice (some ⟨905, 0, none⟩) 160 320, .int .i64 0, .int .i64 0, .int .i64 0, .int .i64 0, .int .i64 0, .int .i64 0, .int .i64 0] .e 0 0 false false)
 wb : (newMem X g t0).obs.get 902 = some (.cells 2560 27 #[.int .u64 0] .e 0 0 false false)
 lb : (newMem X g t0).obs.get 905 = some (.cells 320 255 #[.bool false, .bool false] .e 0 0 false false)
 zero : (newMem X g t0).obs.get 0 = none
 held0 : (newMem X g t0).obs.get 880 = o0
 ro5 : (newMem X g t0).obs.get 7 = some r5
 ro6 : (newMem X g t0).obs.get 10 = some r6
theorem new_ran {X : FuncId → List Value → Mem → Option (Value × Mem)} {g : Nat} {t0 : T Ob} {o0 : Option Ob} {r5 r6 : Ob} (h : NewOk X g t0 o0 r5 r6) : newRun X g t0 = some (.pointer (some ⟨911, 0, none⟩), newMem X g t0) := by
 have h := h.val
 unfold newMem
 cases hr : newRun X g t0 with
 | none => rw [hr] at h; cases h
 | some x =>
   obtain ⟨v, m⟩ := x
   rw [hr] at h
   simp only [Option.map_some, Option.some.injEq] at h
   rw [h]
variable {X : FuncId → List Value → Mem → Option (Value × Mem)}
def t00 (r5 r6 : Ob) : T Ob := (T.e.set 7 r5).set 10 r6
theorem newE (r5 r6 : Ob) : NewOk X 99995 (t00 r5 r6) none r5 r6 := ⟨by kernel_rfl, by kernel_rfl, ⟨_, by kernel_rfl, rfl⟩, by kernel_rfl, by kernel_rfl, by kernel_rfl, by kernel_rfl, by kernel_rfl, by kernel_rfl, by kernel_rfl, by kernel_rfl⟩
theorem new1 (r5 r6 o : Ob) : NewOk X 99995 ((t00 r5 r6).set 880 o) (some o) r5 r6 := ⟨by kernel_rfl, by kernel_rfl, ⟨_, by kernel_rfl, rfl⟩, by kernel_rfl, by kernel_rfl, by kernel_rfl, by kernel_rfl, by kernel_rfl, by kernel_rfl, by kernel_rfl, by kernel_rfl⟩
theorem cellAt_e1 (v : Value) (k : Nat) : cellAt #[v] .e k = v := by
 unfold cellAt
 simp only [T.get_e]
 have : Nat.mod k (#[v] : Array Value).size = 0 := Nat.mod_one k
 rw [this]; rfl
theorem cellAt_e2 (v : Value) (k : Nat) : cellAt #[v, v] .e k = v := by
 unfold cellAt
 simp only [T.get_e]
 have h2 : Nat.mod k (#[v, v] : Array Value).size < 2 := Nat.mod_lt k (show 0 < 2 by decide)
 obtain ⟨m, hm⟩ : ∃ m, Nat.mod k (#[v, v] : Array Value).size = m := ⟨_, rfl⟩
 rw [hm] at h2 ⊢
 match m with
 | 0 => rfl
 | 1 => rfl
 | m + 2 => omega
theorem cells_get {μ : Mem} {i n t o : Nat} {z : Array Value} {ov : T Value} {fx sh : Bool} (h : μ.obs.get i = some (.cells n t z ov 0 0 fx sh)) (ho : o < n) : cellsAt μ i o = some (cellAt z ov o) := by
 unfold cellsAt
 rw [h]
 show (if o < n then _ else _) = _
 rw [if_pos ho]
theorem NewOk.space {g : Nat} {t0 : T Ob} {o0 : Option Ob} {r5 r6 : Ob} (h : NewOk X g t0 o0 r5 r6) : SP (newMem X g t0) 911 909 907 902 905 2560 160 (fun _ => 0) P0 := by
 obtain ⟨ov, hs, rfl⟩ := h.sp
 have hh := h.hp
 have hn := h.next
 have ha := h.ap
 refine ⟨by rw [cells_get hs (by decide)]; rfl, by rw [hn]; decide, by decide, by decide, by decide, ⟨by rw [cells_get hh (by decide)]; rfl, ⟨⟨⟨5120, by rw [cells_get ha (by decide)]; rfl⟩, ⟨_, _, _, _, h.wb, fun k hk => cellAt_e1 _ k⟩, by decide⟩, ⟨⟨160, by rw [cells_get ha (by decide)]; rfl, Nat.le_refl _⟩, ⟨_, _, _, _, h.lb⟩, fun k hk => ?_, fun k hk => ⟨false, ?_⟩⟩, ⟨_, _, _, _, ha⟩, by rw [hn]; decide, by rw [hn]; decide, by rw [hn]; decide, by decide, by decide, by decide, by decide⟩, by rw [hn]; decide, by decide, by decide, by decide⟩, ⟨?_, ?_, ?_, ?_, ?_⟩⟩
 ·rw [cells_get h.lb (by omega), cellAt_e2]; rfl
 ·rw [cells_get h.lb (by omega), cellAt_e2]
 all_goals (rw [cells_get ha (by decide)]; rfl)
end
noncomputable section
variable {X : FuncId → List Value → Mem → Option (Value × Mem)}
set_option maxRecDepth 20000 in
set_option maxHeartbeats 16000000 in
theorem law_main {k n ca gi go : Nat} {ad : Option Addr} {gv : Nat → Int} {bk : Int} {t0 : T Ob} {o0 : Option Ob} {r5 r6 : Ob} (hX : Esc X) (hN : NewOk X (k + 99995) t0 o0 r5 r6) (hal : ∀ k, aCallS Tryz.prog (aCode Tryz.prog X S0 k) S0 4 [] ⟨t0, 900⟩ = some (.bool true, ⟨t0, 900⟩))
  (hrom : Rom (newMem X (k + 99995) t0)) (hn1 : 1 ≤ n) (hn2 : n ≤ 50) (hgo : ∀ i, i < n → ad = some ⟨gi, go, none⟩ ∧ cellsAt (newMem X (k + 99995) t0) gi (go + i) = some (.int .i64 (gv i))) (hgi : gi < 900) :
  EndsF (aFun Tryz.prog (aCode Tryz.prog X S0 (k + 100000)) 3 [.slice ad n ca, .int .i64 bk] ⟨t0, 900⟩) fun v μ' => v = .bool true ∧ Keeps (newMem X (k + 99995) t0) μ' 907 902 905 := by
 have hnew := new_ran hN
 have hnx := hN.next
 have S0' := hN.space
 obtain ⟨μ0, hμ0⟩ : ∃ M, M = newMem X (k + 99995) t0 := ⟨_, rfl⟩
 unfold newRun at hnew
 rw [← hμ0] at hnew hnx S0' hrom hgo ⊢
 have q1 : ilt (.ofNat n) 1 = false := (ilt_nat n 1).trans (decide_eq_false (by omega))
 have q2 : ilt 50 (.ofNat n) = false := (ilt_nat 50 n).trans (decide_eq_false (by omega))
 have hF0 : Fro μ0 ad gi go n gv := ⟨hgo, by omega⟩
 have S0' : SP μ0 911 909 907 902 905 2560 160 (fun _ => 0) (PR 0) := S0'
 obtain ⟨v1, μ1, t1, rfl, ws1, S1, R1, _, k1⟩ := ring_ends (X := X) (g := k + 99994) (ca := ca) (bk := bk) (by omega) S0' (by omega : 0 + n ≤ 100) (by omega) hF0 (by omega) (by omega) (by omega)
 rw [Nat.zero_add] at S1
 have hF1 : Fro μ1 ad gi go n gv := ⟨fun i hi => ⟨(hgo i hi).1, by rw [k1.cell (by omega) (by omega) (by omega) (by omega)]; exact (hgo i hi).2⟩, Nat.lt_of_lt_of_le hF0.on k1.1⟩
 obtain ⟨v2, μ2, t2, rfl, ws2, S2, Rb, old2, k2⟩ := ring_ends (X := X) (g := k + 99993) (ca := ca) (bk := bk) (by omega) S1 (by omega : n + n ≤ 100) (by omega) hF1 (by omega) (by omega) (by omega)
 have Ra := R1.congr old2
 have k02 := k1.trans k2
 have hr2 : Rom μ2 := hrom.keeps ⟨by decide, by decide, by decide⟩ k02
 have hx : ∀ i, Sm (rx gv i) := fun i => sm_rem (gv i)
 obtain ⟨v3, μ3, t3, rfl, g3⟩ := show_ends (X := X) (g := k + 99991) (c := 0) hX (by omega) hr2 S2 Ra hx (by omega)
 have S3 := S2.grow g3
 obtain ⟨v4, μ4, t4, rfl, g4⟩ := read_ends (X := X) (g := k + 99990) (c := 0) (by omega) S3 Ra hx (by omega)
 have hB : Blk ⟨μ4.obs.set μ4.next obD, μ4.next + 1⟩ μ4.next 8 41 := blkD (Grow.refl _)
 have s5 := stD (l := dZ) hB rfl rfl
 obtain ⟨M5, h5⟩ : ∃ M, M = putL ⟨μ4.obs.set μ4.next obD, μ4.next + 1⟩ μ4.next 0 dZ := ⟨_, rfl⟩
 rw [← h5] at s5
 have g5 : Grow μ4 M5 := by rw [h5]; exact (grow1 μ4 obD).put_new (Nat.le_refl _)
 have g35 := g3.trans (g4.trans g5)
 have S5 := S2.grow g35
 obtain ⟨v6, μ6, t6, rfl, g6⟩ := equal_rings (X := X) (g := k + 99989) (by omega) S5 Ra Rb (by omega)
 obtain ⟨v7, μ7, t7, rfl, g7⟩ := equal_same (X := X) (g := k + 99988) (sp := 911) (w := placeW (adr (0 + 0))) (μ := μ6) (by omega)
 have S7 := S5.grow (g6.trans g7)
 have ha0 := adr_top (k := 0 + 0) (by omega)
 have hb0 := adr_top (k := n + 0) (by omega)
 obtain ⟨v8, μ8, t8o, rfl, a8, n8, k8⟩ := hset (X := X) (g := k + 99987) (i := 0) (w := 522) (by omega) S7.hs.at (by omega : adr (n + 0) + 2 < 2560) (by decide) (Rb.hd 0 (by omega)) (by decide) (by decide) (by decide)
 have t8 : aFun Tryz.prog (aCode Tryz.prog X S0 (k + 99987)) 11 [.pointer (some ⟨909, 0, none⟩), .int .u64 (.ofNat (placeW (adr (n + 0)))), .int .i64 0, .int .u64 522] μ7 = some (.int .i64 0, μ8) := t8o
 have S8 := S7.setw a8 n8 k8
 have hne : adr (0 + 0) ≠ adr (n + 0) := adr_ne (by omega)
 have w1 : put ws2 (adr (n + 0) + 1 + 0) 522 (adr (0 + 0)) = headW 0 0 2 := (put_off (ws := ws2) (j := 0 + 0) (k := n + 0) (f := 0) (t := 0) (by decide) (by decide) (.inr (by decide))).trans (Ra.hd 0 (by omega))
 have w2 : put ws2 (adr (n + 0) + 1 + 0) 522 (adr (n + 0)) = headW 0 0 2 := (put_off (ws := ws2) (j := n + 0) (k := n + 0) (f := 0) (t := 0) (by decide) (by decide) (.inr (by decide))).trans (Rb.hd 0 (by omega))
 have hcar : ws2 (adr (0 + 0) + 1 + 0) = sw (rx gv 0) := (Ra.car 0 (by omega)).trans (if_neg fun h => by
  have h1 := h.1
  unfold rf at h1
  have := of_decide_eq_true (Bool.and_eq_true_iff.1 h1).2
  omega)
 have w3 : put ws2 (adr (n + 0) + 1 + 0) 522 (adr (0 + 0) + 1 + 0) = sw (rx gv 0) := (put_off (ws := ws2) (j := 0 + 0) (k := n + 0) (f := 0) (t := 1) (by decide) (by decide) (.inl (by omega))).trans hcar
 obtain ⟨v9, μ9, t9, rfl, g9⟩ := equal_char (X := X) (g := k + 99986) (w := 522) (a := rx gv 0) (qa := adr (0 + 0)) (qb := adr (n + 0)) (by omega) S8 (by omega) (by omega) w1 w2 hne (hx 0) w3 put_on (by decide) (by decide) (by decide)
 have fin : Keeps μ0 μ9 907 902 905 := k02.trans ((Keeps.grow (g35.trans (g6.trans g7))).trans ((Keeps.of n8 k8).trans (Keeps.grow g9)))
 obtain ⟨pa, hpa⟩ : ∃ x, x = placeW (adr (0 + 0)) := ⟨_, rfl⟩
 obtain ⟨pb, hpb⟩ : ∃ x, x = placeW (adr (n + 0)) := ⟨_, rfl⟩
 rw [← hpa] at t1 t3 t4 t6 t7 t9
 rw [← hpb] at t2 t6 t8 t9
 have hH : ∀ g, 10 ≤ g → aFun Tryz.prog (aCode Tryz.prog X S0 g) 10 [.pointer (some ⟨911, 0, none⟩)] μ7 = some (.pointer (some ⟨909, 0, none⟩), μ7) := fun g hg => heap_of hg S7.sp0
 have hmc : ∀ (M : Mem) g, 30 ≤ g → aFun Tryz.prog (aCode Tryz.prog X S0 g) 12 [.int .i64 2, .int .i64 65] M = some (.int .u64 522, M) := fun M g hg => made_char hg
 have f1 : ieq 181 181 = true := rfl
 have f2 : ieq 0 0 = true := rfl
 refine fun_enter Tryz.func3 rfl rfl (Nat.le_of_ble_eq_true rfl) ?_
 simp only [T.lay, Nat.zero_add, Tryz.ntmps3, Nat.reduceAdd]
 repeat (first | refine code_seq ?_ | ((first | (refine code_region ?_ ?_; (focus rfl)) | (refine code_guards (gs := ?_) ?_ ?_; rotate_left; (focus rfl))); simp only [run1, run2, wanted, go_sem, Nat.reduceLT, Nat.reduceAdd, Nat.reduceEqDiff, reduceIte, reduceCtorEq, go_body (P := Tryz.prog) Tryz.func4 rfl, hal, aBuiltin, aLen, Tryz.underlying22, cast_nat, q1, q2, gg5, hnew, gg6, t1, t2, gg7, t3, gg8, t4, alD, Nat.add_eq, s5, gg9, t6, t7, gg10, hH, Nat.reduceLeDiff, gg12, hmc, gg11, t8, t9, f1, f2]) | (refine code_cond_true ?_ ?_; (focus (simp only [aev, regAt_set, Nat.reduceEqDiff, reduceIte, go_body (P := Tryz.prog) Tryz.func4 rfl, hal, aBuiltin, aLen, Tryz.underlying22, cast_nat, q1, q2, gg5, hnew, gg6, t1, t2, gg7, t3, gg8, t4, alD, Nat.add_eq, s5, gg9, t6, t7, gg10, hH, Nat.reduceLeDiff, gg12, hmc, gg11, t8, t9, f1, f2]; done))) | (refine code_cond_false ?_ ?_; (focus (simp only [aev, regAt_set, Nat.reduceEqDiff, reduceIte, go_body (P := Tryz.prog) Tryz.func4 rfl, hal, aBuiltin, aLen, Tryz.underlying22, cast_nat, q1, q2, gg5, hnew, gg6, t1, t2, gg7, t3, gg8, t4, alD, Nat.add_eq, s5, gg9, t6, t7, gg10, hH, Nat.reduceLeDiff, gg12, hmc, gg11, t8, t9, f1, f2]; done))) | ((first | refine code_skip ?_ | refine code_label ?_ | refine code_exit ?_); try simp only [then_exit, then_normal, blockC, Nat.reduceEqDiff, reduceIte]) | refine code_block ?_)
 refine code_ret ?_
 refine ⟨rfl, _, ?_, rfl, fin⟩
 simp only [aResults, Tryz.results3, aRes, regAt_set, Nat.reduceEqDiff, reduceIte]
end
noncomputable section
variable {X : FuncId → List Value → Mem → Option (Value × Mem)}
theorem law_all {n ca go : Nat} {ad : Option Addr} {gv : Nat → Int} {fr : Int} {t0 : T Ob} {o0 : Option Ob} {r5 r6 : Ob} (hX : Esc X) (hN : NewOk X 99995 t0 o0 r5 r6) (g0 : t0.get 880 = o0) (g5 : t0.get 7 = some r5) (g6 : t0.get 10 = some r6)
  (hal : ∀ k, aCallS Tryz.prog (aCode Tryz.prog X S0 k) S0 4 [] ⟨t0, 900⟩ = some (.bool true, ⟨t0, 900⟩)) (hrom : Rom ⟨t0, 900⟩)
  (hgo : ∀ i, i < n → ad = some ⟨880, go, none⟩ ∧ cellsAt ⟨t0, 900⟩ 880 (go + i) = some (.int .i64 (gv i))) :
  EndsF (aFun Tryz.prog (aCode Tryz.prog X S0 100000) 3 [.slice ad n ca, .int .i64 fr] ⟨t0, 900⟩) fun v μ' => v = .bool true ∧ μ'.obs.get 880 = o0 ∧ μ'.obs.get 7 = some r5 ∧ μ'.obs.get 10 = some r6 := by
 by_cases h : 1 ≤ n ∧ n ≤ 50
 ·have hm : newMem X (0 + 99995) t0 = newMem X 99995 t0 := by rw [Nat.zero_add]
  have hN' : NewOk X (0 + 99995) t0 o0 r5 r6 := by rw [Nat.zero_add]; exact hN
  have e880 : (newMem X 99995 t0).obs.get 880 = (Mem.obs ⟨t0, 900⟩).get 880 := hN.held0.trans g0.symm
  have e5 : (newMem X 99995 t0).obs.get 7 = (Mem.obs ⟨t0, 900⟩).get 7 := hN.ro5.trans g5.symm
  have hrom' : Rom (newMem X (0 + 99995) t0) := by
   rw [hm]
   exact ⟨by rw [hN.next]; decide, fun k hk => by rw [← hrom.at_ k hk]; unfold cellsAt; rw [e5]⟩
  obtain ⟨v, μ', hr, rfl, hk⟩ := law_main (X := X) (k := 0) (gi := 880) (go := go) (gv := gv) (ca := ca) (bk := fr) hX hN' hal hrom' h.1 h.2 (fun i hi => ⟨(hgo i hi).1, by rw [hm, ← (hgo i hi).2]; unfold cellsAt; rw [e880]⟩) (by decide)
  rw [hm] at hk
  have hnx := hN.next
  have hr : aFun Tryz.prog (aCode Tryz.prog X S0 100000) 3 [.slice ad n ca, .int .i64 fr] ⟨t0, 900⟩ = some (.bool true, μ') := by rw [Nat.zero_add] at hr; exact hr
  exact ⟨_, μ', hr, rfl, (hk.2 880 (by omega) (by decide) (by decide) (by decide)).trans hN.held0, (hk.2 _ (by omega) (by decide) (by decide) (by decide)).trans hN.ro5, (hk.2 _ (by omega) (by decide) (by decide) (by decide)).trans hN.ro6⟩
 ·have hr := law_out (X := X) (k := 0) (ca := ca) (ad := ad) (bk := fr) (n := n) hal h
  rw [Nat.zero_add] at hr
  exact ⟨_, _, hr, rfl, g0, g5, g6⟩
end
noncomputable section
structure HandsR (P : Program) (W : World) (nx : Nat) (J : Nat → Ev.Loc) (t : T Ob) : Prop where
 loc : ∀ i, J i = noneKnown nx i ∨ ∃ b, J i = .at b 0 ∧ i ≠ P.globals.size ∧ i < nx ∧ (i < P.globals.size → b = i) ∧
  ((∃ c ty fz, t.get i = some (.held c ty fz) ∧ W.heap[b]? = some (.cells c ty fz)) ∨ (∃ l ty, t.get i = some (.rom l ty) ∧ W.heap[b]? = some (.cells l.toArray ty (0, 0)) ∧ ∀ v ∈ l, plainV 5 v = true))
 inj : ∀ i j b, J i = .at b 0 → J j = .at b 0 → i = j
 only : ∀ i o, t.get i = some o → ∃ b, J i = .at b 0
theorem none_not (nx i b s : Nat) : noneKnown nx i ≠ .at b s := fun e => by unfold noneKnown at e; split at e <;> cases e
theorem handsR_calls {P : Program} {X : FuncId → List Value → Mem → Option (Value × Mem)} (hN : Named P) (hX : XOk P X) (hm : P.follows .mixedOrders = true) {S : List (FuncId × LK)} (hS : SumsOk P S) {k : Nat} {g : FuncId} {nx : Nat} (hnx : P.globals.size < nx) {W : World} {J : Nat → Ev.Loc} {t : T Ob} (h : HandsR P W nx J t)
  {args : List Value} {args' : Array Value} (ha : ARel J args.toArray args') {v : Value} {μ' : Mem} (hrun : aFun P (aCode P X S k) g args ⟨t, nx⟩ = some (v, μ')) (hk : ∀ i b, J i = .at b 0 → μ'.obs.get i = t.get i) (hpv : plainV 5 v = true) :
  Calls P g args' W fun e W' => e = .returned v ∧ Same W W' := by
 have at0 : ∀ {i b s}, J i = .at b s → s = 0 ∧ i ≠ P.globals.size ∧ i < nx ∧ (i < P.globals.size → b = i) ∧
   ((∃ c ty fz, t.get i = some (.held c ty fz) ∧ W.heap[b]? = some (.cells c ty fz)) ∨ (∃ l ty, t.get i = some (.rom l ty) ∧ W.heap[b]? = some (.cells l.toArray ty (0, 0)) ∧ ∀ v ∈ l, plainV 5 v = true)) := fun {i b s} e => by
  rcases h.loc i with e1 | ⟨b1, e1, h1, h2, h3, h4⟩
  ·rw [e1] at e; exact absurd e (none_not _ _ _ _)
  ·rw [e1] at e; cases e; exact ⟨rfl, h1, h2, h3, h4⟩
 have nk : ∀ i, (i = P.globals.size ∨ nx ≤ i) → J i = noneKnown nx i := fun i hi => by
  rcases h.loc i with e1 | ⟨b1, e1, h1, h2, _⟩
  ·exact e1
  ·omega
 have hr : Rel J ⟨t, nx⟩ W := by
  refine ⟨fun i j b s t2 e1 e2 => ?_, fun i b s e => ?_, fun i hi => ?_, fun i o ho _ => ?_⟩
  ·obtain ⟨rfl, _⟩ := at0 e1
   obtain ⟨rfl, _⟩ := at0 e2
   exact h.inj i j b e1 e2
  ·obtain ⟨_, _, _, _, ⟨c, ty, fz, _, h4⟩ | ⟨l, ty, _, h4, _⟩⟩ := at0 e
   ·exact (Array.getElem?_eq_some_iff.1 h4).1
   ·exact (Array.getElem?_eq_some_iff.1 h4).1
  ·rw [nk i (.inr hi)]; exact if_neg (Nat.not_lt.2 hi)
  ·obtain ⟨b, e⟩ := h.only i o ho
   have ho' : t.get i = some o := ho
   obtain ⟨_, _, _, _, ⟨c, ty, fz, h3, h4⟩ | ⟨l, ty, h3, h4, h5⟩⟩ := at0 e
   ·rw [h3] at ho'
    cases ho'
    exact ⟨b, 0, e, h4⟩
   ·rw [h3] at ho'
    cases ho'
    exact ⟨b, 0, e, h4, fun v hv => plain_refl 5 (h5 v hv)⟩
 have hB : Base P J := by
  refine ⟨fun g hg => ?_, ?_⟩
  ·rcases h.loc g with e1 | ⟨b1, e1, h1, h2, h3, _⟩
   ·exact .inr (by rw [e1]; exact if_pos (Nat.lt_trans hg hnx))
   ·obtain rfl := h3 hg
    exact .inl ⟨0, e1⟩
  ·rw [nk _ (.inl rfl)]; exact if_pos hnx
 refine callsIn_wide.1 (fun_ok (code_ok hN hX hm hS k).1 g args _ _ μ' hrun _ W args' hr hB ha 0 _ fun J' v' w' h1 h2 h3 => ?_)
 refine ⟨by rw [plain_eq 5 hpv h1], h3.os, h3.output, h3.size, fun b2 hb2 => ?_, h3.tape⟩
 by_cases hex : ∃ i, J i = .at b2 0
 ·obtain ⟨i, e⟩ := hex
  have hJ1 : ∀ {o : Ob}, t.get i = some o → o ≠ .dead → ObRel J' w' b2 0 o := fun {o} ho hd => by
   obtain ⟨b3, s3, hJ, hob⟩ := h2.obj i _ ((hk i b2 e).trans ho) hd
   rcases h3.at_ _ _ _ e with e3 | ⟨e3, _⟩
   ·rw [e3] at hJ; cases hJ; exact hob
   ·rw [e3] at hJ; cases hJ
  obtain ⟨_, _, _, _, ⟨c, ty, fz, h5, h6⟩ | ⟨l, ty, h5, h6, _⟩⟩ := at0 e
  ·have hob' : w'.heap[b2]? = _ := hJ1 h5 (by simp)
   rw [hob', h6]
  ·obtain ⟨hc, _⟩ := hJ1 h5 (by simp)
   rw [hc, h6]
 ·refine h3.frame b2 hb2 fun i s e => ?_
  obtain ⟨rfl, _⟩ := at0 e
  exact absurd ⟨i, e⟩ hex
end
noncomputable section
def J0R : Nat → Ev.Loc := fun i => if i = 7 then .at 7 0 else if i = 10 then .at 10 0 else noneKnown 900 i
theorem t00_5 (r5 r6 : Ob) : (t00 r5 r6).get 7 = some r5 := by unfold t00; rw [T.get_set, if_neg (by decide), T.get_set, if_pos rfl]
theorem t00_6 (r5 r6 : Ob) : (t00 r5 r6).get 10 = some r6 := by unfold t00; rw [T.get_set, if_pos rfl]
theorem t00_off (r5 r6 : Ob) (i : Nat) (h5 : i ≠ 7) (h6 : i ≠ 10) : (t00 r5 r6).get i = none := by unfold t00; rw [T.get_set, if_neg h6, T.get_set, if_neg h5, T.get_e]
theorem J0R_at {i b : Nat} (h : J0R i = .at b 0) : (i = 7 ∨ i = 10) ∧ b = i := by
 unfold J0R at h
 by_cases h5 : i = 7
 ·rw [if_pos h5] at h; cases h; exact ⟨.inl h5, h5.symm⟩
 ·rw [if_neg h5] at h
  by_cases h6 : i = 10
  ·rw [if_pos h6] at h; cases h; exact ⟨.inr h6, h6.symm⟩
  ·rw [if_neg h6] at h; exact absurd h (none_not _ _ _ _)
theorem hands0R {W : World} {l5 l6 : List Value} {t5 t6 : TypeId} (h5 : W.heap[(7 : Nat)]? = some (.cells l5.toArray t5 (0, 0))) (h6 : W.heap[(10 : Nat)]? = some (.cells l6.toArray t6 (0, 0))) (p5 : ∀ v ∈ l5, plainV 5 v = true) (p6 : ∀ v ∈ l6, plainV 5 v = true) :
  HandsR Tryz.prog W 900 J0R (t00 (.rom l5 t5) (.rom l6 t6)) := by
 refine ⟨fun i => ?_, fun i j b e1 e2 => (J0R_at e1).2.symm.trans (J0R_at e2).2, fun i o ho => ?_⟩
 ·by_cases h : i = 7
  ·subst h
   exact .inr ⟨_, if_pos rfl, by decide +kernel, by decide, fun _ => rfl, .inr ⟨l5, t5, t00_5 _ _, h5, p5⟩⟩
  ·by_cases g : i = 10
   ·subst g
    exact .inr ⟨_, (if_neg (by decide)).trans (if_pos rfl), by decide +kernel, by decide, fun _ => rfl, .inr ⟨l6, t6, t00_6 _ _, h6, p6⟩⟩
   ·exact .inl ((if_neg h).trans (if_neg g))
 ·by_cases h : i = 7
  ·subst h; exact ⟨_, if_pos rfl⟩
  ·by_cases g : i = 10
   ·subst g; exact ⟨_, (if_neg (by decide)).trans (if_pos rfl)⟩
   ·rw [t00_off _ _ _ h g] at ho; cases ho
def J1R (b : Nat) : Nat → Ev.Loc := fun i => if i = 880 then .at b 0 else J0R i
theorem hands1R {W : World} {b : Nat} {c : Array Value} {ty : TypeId} {fz : Nat × Nat} {l5 l6 : List Value} {t5 t6 : TypeId} (hb : W.heap[b]? = some (.cells c ty fz)) (n5 : b ≠ 7) (n6 : b ≠ 10) (h : HandsR Tryz.prog W 900 J0R (t00 (.rom l5 t5) (.rom l6 t6))) :
  HandsR Tryz.prog W 900 (J1R b) ((t00 (.rom l5 t5) (.rom l6 t6)).set 880 (.held c ty fz)) := by
 refine ⟨fun i => ?_, fun i j b' e1 e2 => ?_, fun i o ho => ?_⟩
 ·by_cases g : i = 880
  ·subst g
   exact .inr ⟨b, if_pos rfl, by decide +kernel, by decide, fun hh => absurd hh (by decide +kernel), .inl ⟨c, ty, fz, by rw [T.get_set, if_pos rfl], hb⟩⟩
  ·have e : J1R b i = J0R i := if_neg g
   rw [e]
   rcases h.loc i with h1 | ⟨b1, h1, h2, h3, h4, h5⟩
   ·exact .inl h1
   ·refine .inr ⟨b1, h1, h2, h3, h4, ?_⟩
    rw [T.get_set, if_neg g]
    exact h5
 ·unfold J1R at e1 e2
  by_cases g1 : i = 880
  ·by_cases g2 : j = 880
   ·rw [g1, g2]
   ·rw [if_pos g1] at e1; rw [if_neg g2] at e2; cases e1
    have := J0R_at e2
    rcases this.1 with h1 | h1
    ·exact absurd (this.2.trans h1) n5
    ·exact absurd (this.2.trans h1) n6
  ·rw [if_neg g1] at e1
   by_cases g2 : j = 880
   ·rw [if_pos g2] at e2; cases e2
    have := J0R_at e1
    rcases this.1 with h1 | h1
    ·exact absurd (this.2.trans h1) n5
    ·exact absurd (this.2.trans h1) n6
   ·rw [if_neg g2] at e2; exact h.inj i j b' e1 e2
 ·by_cases g : i = 880
  ·exact ⟨b, if_pos g⟩
  ·rw [T.get_set, if_neg g] at ho
   obtain ⟨b1, h1⟩ := h.only i o ho
   exact ⟨b1, (if_neg g).trans h1⟩
end
noncomputable section
theorem arel_pair {J : Nat → Ev.Loc} {v v' u u' : Value} (h : VRel J v v') (g : VRel J u u') : ARel J [v, u].toArray #[v', u'] := ⟨rfl, fun i a b ha hb => by
 match i with
 | 0 => simp at ha hb; subst ha hb; exact h
 | 1 => simp at ha hb; subst ha hb; exact g
 | i + 2 => simp at ha⟩
def Emp (v : Value) (ad : Option Addr) (c : Nat) : Prop := (ad = none ∧ c = 0 ∧ v = .slice none 0 0) ∨ ∃ a cap, ad = some ⟨0, 0, none⟩ ∧ c = 2 * cap ∧ v = .slice (some a) 0 cap
structure Full (W : World) (v : Value) (kd : IntKind) (b o n cap : Nat) (c : Array Value) (t : TypeId) (fz : Nat × Nat) (z : Nat → Int) : Prop where
 val : v = .slice (some ⟨b, o, none⟩) n cap
 pos : 0 < n
 le : n ≤ cap
 blk : W.heap[b]? = some (.cells c t fz)
 cell : ∀ k, k < n → c[o + k]? = some (.int kd (z k))
theorem Emp.rel {v : Value} {ad : Option Addr} {c : Nat} (h : Emp v ad c) {J : Nat → Ev.Loc} (hJ : J 0 = .dead) : VRel J (.slice ad 0 c) v := by
 rcases h with ⟨rfl, rfl, rfl⟩ | ⟨a, cap, rfl, rfl, rfl⟩
 ·exact .sliceNil 0 0
 ·exact .sliceDead a cap hJ (.inl ⟨by omega, by omega⟩)
theorem Full.cells {W : World} {v : Value} {kd : IntKind} {b o n cap : Nat} {c : Array Value} {t : TypeId} {fz : Nat × Nat} {z : Nat → Int} (h : Full W v kd b o n cap c t fz z) {μ : Mem} {hid : Nat} (hh : μ.obs.get hid = some (.held c t fz)) (k : Nat) (hk : k < n) : cellsAt μ hid (o + k) = some (.int kd (z k)) := by
 obtain ⟨hsz, hcj⟩ := Array.getElem?_eq_some_iff.1 (h.cell k hk)
 have hm : Nat.mod (o + k) (c.map strip).size = o + k := by show (o + k) % _ = _; rw [Nat.mod_eq_of_lt]; simpa using hsz
 unfold cellsAt
 rw [hh]
 show (if o + k < c.size then _ else _) = _
 rw [if_pos hsz]
 simp only [cellAt, T.get_e, hm]
 simp [Array.getD, hsz, hcj]
 rfl
theorem Full.rel {W : World} {v : Value} {kd : IntKind} {b o n cap : Nat} {c : Array Value} {t : TypeId} {fz : Nat × Nat} {z : Nat → Int} (h : Full W v kd b o n cap c t fz z) {J : Nat → Ev.Loc} {hid : Nat} (hJ : J hid = .at b 0) : VRel J (.slice (some ⟨hid, o, none⟩) n (2 * cap)) v := by
 rw [h.val]
 exact .slice hJ (.inl ⟨by omega, by omega⟩)
end
noncomputable section
theorem named : Named Tryz.prog := named_of (by kernel_rfl)
theorem mixed : Tryz.prog.follows .mixedOrders = true := by kernel_rfl
def xs : List (FuncId × XK) := [(110, .f64bits), (117, .same), (120, .f64from), (213, .noZero 5), (222, .f64bits), (279, .f64from), (163, .indexByte), (215, .indexByte)]
theorem esc : Esc (aExt xs) := fun v μ => rfl
theorem rows : ∀ x ∈ xs, ∃ fn, XRow Tryz.prog x.1 x.2 fn := by
 intro x hx
 simp only [xs, List.mem_cons, List.not_mem_nil, or_false] at hx
 rcases hx with rfl | rfl | rfl | rfl | rfl | rfl | rfl | rfl
 ·exact ⟨_, Tryz.func110, by kernel_rfl, by kernel_rfl, by kernel_rfl, by kernel_rfl, fun e h => by cases h⟩
 ·exact ⟨_, Tryz.func117, by kernel_rfl, by kernel_rfl, by kernel_rfl, by kernel_rfl, fun e h => by cases h⟩
 ·exact ⟨_, Tryz.func120, by kernel_rfl, by kernel_rfl, by kernel_rfl, by kernel_rfl, fun e h => by cases h⟩
 ·exact ⟨_, Tryz.func213, by kernel_rfl, by kernel_rfl, by kernel_rfl, by kernel_rfl, fun e h => by cases h; exact ⟨Tryz.f213.resultTypes.getD 0 0, by kernel_rfl, by kernel_rfl⟩⟩
 ·exact ⟨_, Tryz.func222, by kernel_rfl, by kernel_rfl, by kernel_rfl, by kernel_rfl, fun e h => by cases h⟩
 ·exact ⟨_, Tryz.func279, by kernel_rfl, by kernel_rfl, by kernel_rfl, by kernel_rfl, fun e h => by cases h⟩
 ·exact ⟨_, Tryz.func163, by kernel_rfl, by kernel_rfl, by kernel_rfl, by kernel_rfl, fun e h => by cases h⟩
 ·exact ⟨_, Tryz.func215, by kernel_rfl, by kernel_rfl, by kernel_rfl, by kernel_rfl, fun e h => by cases h⟩
theorem dead900 : noneKnown 900 0 = .dead := if_pos (by decide)
theorem ran_e {W : World} {v : Value} {ad : Option Addr} {c : Nat} {fr : Int} {l5 l6 : List Value} {t5 t6 : TypeId} (sums : SumsOk Tryz.prog S0) (hH : HandsR Tryz.prog W 900 J0R (t00 (.rom l5 t5) (.rom l6 t6)))
  (hal : ∀ k, aCallS Tryz.prog (aCode Tryz.prog (aExt xs) S0 k) S0 4 [] ⟨t00 (.rom l5 t5) (.rom l6 t6), 900⟩ = some (.bool true, ⟨t00 (.rom l5 t5) (.rom l6 t6), 900⟩)) (hrom : Rom ⟨t00 (.rom l5 t5) (.rom l6 t6), 900⟩)
  (h : Emp v ad c) : Calls Tryz.prog 3 #[v, .int .i64 fr] W fun e W' => e = .returned (.bool true) ∧ Same W W' := by
 obtain ⟨v1, μ', hrun, hv1, k8, k5, k6⟩ := law_all (X := aExt xs) (hX := esc) (n := 0) (ca := c) (ad := ad) (go := 0) (gv := fun _ => 0) (fr := fr) (newE (X := aExt xs) (.rom l5 t5) (.rom l6 t6)) (t00_off _ _ _ (by decide) (by decide)) (t00_5 _ _) (t00_6 _ _) hal hrom (fun i hi => absurd hi (Nat.not_lt_zero _))
 subst hv1
 refine handsR_calls named (aExt_ok rows) mixed sums (by decide +kernel) hH (arel_pair (h.rel ((if_neg (by decide)).trans ((if_neg (by decide)).trans dead900))) (.int _ _)) hrun (fun i b e => ?_) rfl
 rcases (J0R_at e).1 with rfl | rfl
 ·rw [k5, t00_5]
 ·rw [k6, t00_6]
end
noncomputable section
theorem romKept_congr {μ μ' : Mem} : ∀ (rs : List (Nat × List Value × TypeId)), (∀ x ∈ rs, μ.obs.get x.1 = μ'.obs.get x.1) → romKept μ rs = romKept μ' rs
 | [], _ => rfl
 | x :: rs, h => by
   have h1 := h x (List.mem_cons_self ..)
   have h2 := romKept_congr rs fun y hy => h y (List.mem_cons_of_mem _ hy)
   unfold romKept at h2 ⊢
   simp only [List.all_cons, h1, h2]
theorem alive_call {X : FuncId → List Value → Mem → Option (Value × Mem)} {μ : Mem} (h : romKept μ roms = true) (k : Nat) : aCallS Tryz.prog (aCode Tryz.prog X S0 k) S0 4 [] μ = some (.bool true, μ) := by
 show (match romKept μ roms with | true => some (Value.bool true, μ) | false => none) = _
 rw [h]
def ni64 : Value → Bool
 | .int .i64 _ => false
 | _ => true
theorem Full.off {W : World} {v : Value} {b o n cap : Nat} {c : Array Value} {t : TypeId} {fz : Nat × Nat} {z : Nat → Int} (h : Full W v .i64 b o n cap c t fz z) {g : Nat} {l : List Value} {t5 : TypeId} (hg : W.heap[g]? = some (.cells l.toArray t5 (0, 0))) (hn : l.all ni64 = true) : b ≠ g := by
 rintro rfl
 have e := h.blk
 rw [hg] at e
 injection e with e
 injection e with e1 e2 e3
 have hc := h.cell 0 h.pos
 rw [← e1] at hc
 have hc : l[o + 0]? = some (.int .i64 (z 0)) := by simpa using hc
 have := List.all_eq_true.1 hn _ (List.mem_of_getElem? hc)
 simp [ni64] at this
structure Laid (W : World) (l5 l6 : List Value) (t5 t6 : TypeId) : Prop where
 h5 : W.heap[(7 : Nat)]? = some (.cells l5.toArray t5 (0, 0))
 h6 : W.heap[(10 : Nat)]? = some (.cells l6.toArray t6 (0, 0))
 p5 : l5.all (plainV 5) = true
 p6 : l6.all (plainV 5) = true
 n5 : l5.all ni64 = true
 n6 : l6.all ni64 = true
 kept : romKept ⟨t00 (.rom l5 t5) (.rom l6 t6), 900⟩ roms = true
 off : roms.all (fun x => Nat.blt x.1 880) = true
 rom : Rom ⟨t00 (.rom l5 t5) (.rom l6 t6), 900⟩
theorem ran_f {W : World} {v : Value} {fr : Int} {b o n cap : Nat} {c : Array Value} {t : TypeId} {fz : Nat × Nat} {z : Nat → Int} {l5 l6 : List Value} {t5 t6 : TypeId} (sums : SumsOk Tryz.prog S0) (hL : Laid W l5 l6 t5 t6) (h : Full W v .i64 b o n cap c t fz z) :
  Calls Tryz.prog 3 #[v, .int .i64 fr] W fun e W' => e = .returned (.bool true) ∧ Same W W' := by
 have hH := hands1R h.blk (h.off hL.h5 hL.n5) (h.off hL.h6 hL.n6) (hands0R hL.h5 hL.h6 (List.all_eq_true.1 hL.p5) (List.all_eq_true.1 hL.p6))
 have e8 : ((t00 (.rom l5 t5) (.rom l6 t6)).set 880 (Ob.held c t fz)).get 880 = some (Ob.held c t fz) := by rw [T.get_set, if_pos rfl]
 have eo : ∀ i, i ≠ 880 → ((t00 (.rom l5 t5) (.rom l6 t6)).set 880 (Ob.held c t fz)).get i = (t00 (.rom l5 t5) (.rom l6 t6)).get i := fun i hi => by rw [T.get_set, if_neg hi]
 have e5 := (eo 7 (by decide)).trans (t00_5 (.rom l5 t5) (.rom l6 t6))
 have e6 := (eo 10 (by decide)).trans (t00_6 (.rom l5 t5) (.rom l6 t6))
 have hk : romKept ⟨(t00 (.rom l5 t5) (.rom l6 t6)).set 880 (Ob.held c t fz), 900⟩ roms = true := by
  rw [← hL.kept]
  refine romKept_congr _ fun x hx => eo _ ?_
  have hx' : Nat.ble (x.1 + 1) 880 = true := List.all_eq_true.1 hL.off x hx
  exact Nat.ne_of_lt (Nat.le_of_ble_eq_true hx')
 have hrom : Rom ⟨(t00 (.rom l5 t5) (.rom l6 t6)).set 880 (Ob.held c t fz), 900⟩ := ⟨(by decide : 7 < 900), fun k hk => by
  rw [← hL.rom.at_ k hk]
  have e : (Mem.obs ⟨(t00 (.rom l5 t5) (.rom l6 t6)).set 880 (Ob.held c t fz), 900⟩).get 7 = (Mem.obs ⟨t00 (.rom l5 t5) (.rom l6 t6), 900⟩).get 7 := eo _ (by decide)
  unfold cellsAt
  rw [e]⟩
 obtain ⟨v1, μ', hrun, hv1, k8, k5, k6⟩ := law_all (X := aExt xs) (hX := esc) (n := n) (ca := 2 * cap) (ad := some ⟨880, o, none⟩) (go := o) (gv := z) (fr := fr) (new1 (X := aExt xs) (.rom l5 t5) (.rom l6 t6) (.held c t fz)) e8 e5 e6 (fun k => alive_call hk k) hrom (fun i hi => ⟨rfl, h.cells (μ := ⟨_, 900⟩) e8 i hi⟩)
 subst hv1
 refine handsR_calls named (aExt_ok rows) mixed sums (by decide +kernel) hH (arel_pair (h.rel (if_pos rfl)) (.int _ _)) hrun (fun i b' e => ?_) rfl
 by_cases g : i = 880
 ·subst g; exact k8.trans e8.symm
 ·have e : J0R i = .at b' 0 := (if_neg g).symm.trans e
  rcases (J0R_at e).1 with rfl | rfl
  ·exact k5.trans e5.symm
  ·exact k6.trans e6.symm
def Reads (W : World) (v : Value) (kd : IntKind) : Prop := (∃ ad c, Emp v ad c) ∨ ∃ b o n cap c t fz z, Full W v kd b o n cap c t fz z
theorem reads_nil (W : World) (kd : IntKind) : Reads W (.slice none 0 0) kd := .inl ⟨none, 0, .inl ⟨rfl, rfl, rfl⟩⟩
theorem reads_some {W : World} {a : Addr} {len cap : Nat} {kd : IntKind} {zs : List Int} (hlc : len ≤ cap) (hl : len ≤ zs.length) (hcell : ∀ i, i < zs.length → W.cell? (a.add i) = some (.int kd (zs.getD i 0))) : Reads W (.slice (some a) len cap) kd := by
 by_cases hn : len = 0
 ·subst hn
  exact .inl ⟨some ⟨0, 0, none⟩, 2 * cap, .inr ⟨a, cap, rfl, rfl, rfl⟩⟩
 have h0 := hcell 0 (by omega)
 have ha0 : a.add 0 = a := rfl
 rw [ha0] at h0
 obtain ⟨b, o, sp⟩ := a
 obtain ⟨c, t, fz, hb, hsp⟩ : ∃ c t fz, W.heap[b]? = some (.cells c t fz) ∧ sp = none := by
  unfold World.cell? at h0
  simp only at h0
  split at h0
  ·rename_i c t fz hb
   refine ⟨c, t, fz, hb, ?_⟩
   cases sp with
   | none => rfl
   | some x => simp at h0
  ·cases h0
 subst hsp
 have hc : ∀ j, j < zs.length → c[o + j]? = some (.int kd (zs.getD j 0)) := fun j hj => by
  have h1 := hcell j hj
  unfold World.cell? Addr.add at h1
  by_cases hj0 : j = 0
  ·subst hj0; simp only [if_true, hb] at h1; simpa using h1
  ·rw [if_neg hj0] at h1; simp only [hb] at h1; simpa using h1
 exact .inr ⟨b, o, len, cap, c, t, fz, fun k => zs.getD k 0, ⟨rfl, by omega, hlc, hb, fun k hk => hc k (by omega)⟩⟩
theorem ran_any {W : World} {v : Value} {fr : Int} {l5 l6 : List Value} {t5 t6 : TypeId} (sums : SumsOk Tryz.prog S0) (hL : Laid W l5 l6 t5 t6) (h : Reads W v .i64) :
  Calls Tryz.prog 3 #[v, .int .i64 fr] W fun e W' => e = .returned (.bool true) ∧ Same W W' := by
 rcases h with ⟨ad, c, h⟩ | ⟨b, o, n, cap, c, t, fz, z, h⟩
 ·exact ran_e sums (hands0R hL.h5 hL.h6 (List.all_eq_true.1 hL.p5) (List.all_eq_true.1 hL.p6)) (fun k => alive_call hL.kept k) hL.rom h
 ·exact ran_f sums hL h
end
end Go.Proofs.YtohkikbhgcgmfaaGreatDoor.vr
