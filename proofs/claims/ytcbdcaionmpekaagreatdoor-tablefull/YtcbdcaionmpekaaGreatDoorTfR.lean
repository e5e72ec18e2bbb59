/-
  distafflaw19.TableFull, part R: its walk and its law. No conditions.
-/
import Derived.Test.YtcbdcaionmpekaaGreatDoorTfQ
set_option linter.unusedSimpArgs false
set_option linter.unusedVariables false
namespace Go.Proofs.YtcbdcaionmpekaaGreatDoor.tf
open Go Go.Proofs Go.Proofs.YtcbdcaionmpekaaGreatDoor.Ev
noncomputable section
variable {X : FuncId → List Value → Mem → Option (Value × Mem)}
structure TxtAt (ws : Nat → Nat) (q N : Nat) : Prop where
 head : ws q = headW 18 0 2
 many : ws (q + 1) = 1
 sign : ws (q + 2) = 120
 room : q + 2 < N
def hashX : Nat := mixF (seedK + 1) 120
theorem hashX_lt : hashX < 18446744073709551616 := mixF_lt _ _ (by decide) (by decide)
theorem seedC1 : (14695981039346656038 : Int) = .ofNat (seedK + 1) := rfl
theorem pf_x (k : Nat) (hk : k < 2) : pf (fun _ => 120) 2 32 1 1 k = if k = 0 then 1 else 120 := by
 have : k = 0 ∨ k = 1 := by omega
 rcases this with rfl | rfl <;> decide
set_option maxRecDepth 20000 in
set_option maxHeartbeats 4000000 in
theorem sum_text {g sp hp ap wb lb N L q : Nat} {ws : Nat → Nat} {p : Pos} {μ : Mem} (hg : 2500 ≤ g) (h : SP μ sp hp ap wb lb N L ws p) (ht : TxtAt ws q N) :
  EndsF (aFun Tryz.prog (aCode Tryz.prog X S0 g) 30 [.pointer (some ⟨sp, 0, none⟩), .int .u64 (.ofNat (placeW q))] μ) fun v μ' => v = .tuple #[.int .u64 (.ofNat hashX), .bool true] ∧ Grow μ μ' := by
 obtain ⟨k, rfl⟩ := Nat.exists_eq_add_of_le' hg
 have hq := ht.room
 obtain ⟨v1, μ1, t1, ⟨l, rfl, o1, e1⟩, g1⟩ := asnum_no (X := X) (g := k + 2496) (μ := μ) (by omega) h (by omega) ht.head (by decide) (by decide) (by decide) (by decide) (by decide)
 obtain ⟨μ2, s2, d2, g2, k2⟩ := num_store (μ := μ1) o1 e1 (Grow.refl _)
 obtain ⟨v3, μ3, t3, v4, rfl, hO⟩ := astext_ends (X := X) (g := k + 2495) (m := 2) (n := 1) (x := fun _ => 120) (μ := μ2) (by omega) (h.grow (g1.trans g2)) (by decide) (by omega) ht.head (fun k hk => by
  rw [pf_x k hk]
  have : k = 0 ∨ k = 1 := by omega
  rcases this with rfl | rfl
  ·exact ht.many
  ·exact ht.sign) (by decide) (fun _ => by decide)
 obtain ⟨i, c, rfl, hc⟩ : ∃ i c, v4 = .slice (some ⟨i, 0, none⟩) 1 c ∧ cellsAt μ3 i 0 = some (.int .i64 (.ofNat 120)) := by
  rcases hO.good with ⟨_, e⟩ | ⟨i, m, z, ov, fx, sh, c, e1, e2, e3, e4, e5⟩
  ·cases e
  ·exact ⟨i, c, e1, by
    rw [cellsAt_of (n := m) (z := z) (ov := ov) (by rw [e2]; rfl) (Nat.lt_of_lt_of_le Nat.zero_lt_one e3)]
    exact congrArg some (e4 0 (by simp [wl]))⟩
 have hm : ∀ g, 60 ≤ g → aFun Tryz.prog (aCode Tryz.prog X S0 g) 57 [.int .u64 (.ofNat (seedK + 1)), .int .u64 (.ofNat 120)] μ3 = some (.int .u64 (.ofNat hashX), μ3) := fun g hg => mixF_eq hg (by decide) (by decide)
 have f1 : ilt 0 (.ofNat 1) = true := rfl
 have f2 : qwrap .i64 (Int.add 0 1) = 1 := rfl
 have f3 : ilt 1 (.ofNat 1) = false := rfl
 have f4 : aConvInt Tryz.prog 3 26 (.int .i64 (.ofNat 120)) = some (.int .u64 (.ofNat 120)) := rfl
 have hix : ∀ (ρ : Operand → Value) (a b : Operand), ρ a = .slice (some ⟨i, 0, none⟩) 1 c → ρ b = .int .i64 0 → aIndexAddr Tryz.prog ρ 22 a b = some (.pointer (some ⟨i, 0, none⟩)) := fun ρ a b h1 h2 => indexAddr_slice (m := 0) Tryz.underlying22 i3 rfl h1 h2 (by decide)
 obtain ⟨hx, hxe⟩ : ∃ x, x = hashX := ⟨_, rfl⟩
 obtain ⟨sk, hsk⟩ : ∃ x, x = seedK + 1 := ⟨_, rfl⟩
 have sC : (14695981039346656038 : Int) = .ofNat sk := by rw [hsk]; exact seedC1
 rw [← hxe, ← hsk] at hm
 rw [← hxe]
 refine fun_enter Tryz.func30 rfl rfl (Nat.le_of_ble_eq_true rfl) ?_
 simp only [T.lay, Nat.zero_add, Tryz.ntmps30, Nat.reduceAdd]
 repeat (first | refine code_seq ?_ | ((first | (refine code_region ?_ ?_; (focus rfl)) | (refine code_guards (gs := ?_) ?_ ?_; rotate_left; (focus rfl))); simp only [run1, run2, wanted, go_sem, Nat.reduceLT, Nat.reduceAdd, Nat.reduceEqDiff, reduceIte, reduceCtorEq, gg55, t1, al36, Nat.add_eq, s2, gg58, t3, aBuiltin, aLen, Tryz.underlying22, cast_nat, sC, f1, hix, ld3, hc, f4, gg57, hm, Nat.reduceLeDiff, f2, f3]) | (refine code_cond_true ?_ ?_; (focus (simp only [aev, regAt_set, Nat.reduceEqDiff, reduceIte, gg55, t1, al36, Nat.add_eq, s2, gg58, t3, aBuiltin, aLen, Tryz.underlying22, cast_nat, sC, f1, hix, ld3, hc, f4, gg57, hm, Nat.reduceLeDiff, f2, f3]; done))) | (refine code_cond_false ?_ ?_; (focus (simp only [aev, regAt_set, Nat.reduceEqDiff, reduceIte, gg55, t1, al36, Nat.add_eq, s2, gg58, t3, aBuiltin, aLen, Tryz.underlying22, cast_nat, sC, f1, hix, ld3, hc, f4, gg57, hm, Nat.reduceLeDiff, f2, f3]; done))) | ((first | refine code_skip ?_ | refine code_label ?_ | refine code_exit ?_); try simp only [then_exit, then_normal, blockC, Nat.reduceEqDiff, reduceIte]) | refine code_block ?_ | refine code_loop ?_)
 refine code_ret ?_
 refine ⟨rfl, _, ?_, rfl, g1.trans (g2.trans hO.grow)⟩
 simp only [aResults, Tryz.results30, aRes, regAt_set, Nat.reduceEqDiff, reduceIte]
def Key (ws : Nat → Nat) (N w h : Nat) : Prop := (∃ n, Sm n ∧ w = sw n ∧ h = hashI n) ∨ ∃ q, TxtAt ws q N ∧ w = placeW q ∧ h = hashX
theorem Key.lt {ws : Nat → Nat} {N w h : Nat} (k : Key ws N w h) : h < 18446744073709551616 := by
 rcases k with ⟨n, _, _, rfl⟩ | ⟨q, _, _, rfl⟩
 ·exact hashI_lt n
 ·exact hashX_lt
theorem sum_key {g sp hp ap wb lb N L w h : Nat} {ws : Nat → Nat} {p : Pos} {μ : Mem} (hg : 2500 ≤ g) (hr : Rom μ) (hs : SP μ sp hp ap wb lb N L ws p) (hk : Key ws N w h) :
  EndsF (aFun Tryz.prog (aCode Tryz.prog X S0 g) 30 [.pointer (some ⟨sp, 0, none⟩), .int .u64 (.ofNat w)] μ) fun v μ' => v = .tuple #[.int .u64 (.ofNat h), .bool true] ∧ Grow μ μ' := by
 rcases hk with ⟨n, hn, rfl, rfl⟩ | ⟨q, hq, rfl, rfl⟩
 ·exact sum_small (by omega) hr hn
 ·exact sum_text hg hs hq
theorem same_key {g sp hp ap wb lb N L w h : Nat} {a : Int} {ws : Nat → Nat} {p : Pos} {μ : Mem} (hg : 800 ≤ g) (ha : Sm a) (hs : SP μ sp hp ap wb lb N L ws p) (hk : Key ws N w h) :
  EndsF (aFun Tryz.prog (aCode Tryz.prog X S0 g) 61 [.pointer (some ⟨sp, 0, none⟩), .int .u64 (.ofNat (sw a)), .int .u64 (.ofNat w)] μ) fun v μ' => v = .bool (decide (sw a = w)) ∧ Grow μ μ' := by
 rcases hk with ⟨n, hn, rfl, rfl⟩ | ⟨q, hq, rfl, rfl⟩
 ·by_cases e : a = n
  ·subst e
   rw [decide_eq_true rfl]
   exact tsame_of (by omega) (equal_same (by omega))
  ·rw [decide_eq_false fun h => e (sw_inj ha hn h)]
   exact tsame_of (by omega) (equal_no (by omega) hs.sp0 hs.spn fun μ1 g1 => eqv_small (by omega) ha hn e)
 ·rw [decide_eq_false (by have := sw_mod a; unfold placeW; omega)]
  exact tsame_of (by omega) (equal_no (by omega) hs.sp0 hs.spn fun μ1 g1 => eqv_obj (by omega) ha (hs.grow g1) (by have := hq.room; omega) hq.head (by decide) (by decide) (by decide) (by decide))
end
noncomputable section
variable {X : FuncId → List Value → Mem → Option (Value × Mem)}
def vL (sp t cnt used e ix room places : Nat) : List Value := [.pointer (some ⟨sp, 0, none⟩), .int .u64 (.ofNat t), .int .i64 (.ofNat cnt), .int .i64 (.ofNat used), .int .u64 (.ofNat (placeW e)), .int .u64 (.ofNat (placeW ix)), .int .i64 (.ofNat room), .int .i64 (.ofNat places)]
set_option maxRecDepth 20000 in
set_option maxHeartbeats 4000000 in
theorem heap_of {g sp hp : Nat} {μ : Mem} (hg : 10 ≤ g) (h : cellsAt μ sp 0 = some (.pointer (some ⟨hp, 0, none⟩))) : aFun Tryz.prog (aCode Tryz.prog X S0 g) 50 [.pointer (some ⟨sp, 0, none⟩)] μ = some (.pointer (some ⟨hp, 0, none⟩), μ) := by
 obtain ⟨k, rfl⟩ := Nat.exists_eq_add_of_le' hg
 refine ends_eq ?_
 refine fun_enter Tryz.func50 rfl rfl (Nat.le_of_ble_eq_true rfl) ?_
 simp only [T.lay, Nat.zero_add, Tryz.ntmps50, Nat.reduceAdd]
 repeat (first | refine code_seq ?_ | ((first | (refine code_region ?_ ?_; (focus rfl)) | (refine code_guards (gs := ?_) ?_ ?_; rotate_left; (focus rfl))); simp only [run1, run2, wanted, go_sem, Nat.reduceLT, Nat.reduceAdd, Nat.reduceEqDiff, reduceIte, reduceCtorEq, faS0, Nat.add_zero, ldHp, h]) | (refine code_cond_true ?_ ?_; (focus (simp only [aev, regAt_set, Nat.reduceEqDiff, reduceIte, faS0, Nat.add_zero, ldHp, h]; done))) | (refine code_cond_false ?_ ?_; (focus (simp only [aev, regAt_set, Nat.reduceEqDiff, reduceIte, faS0, Nat.add_zero, ldHp, h]; done))) | ((first | refine code_skip ?_ | refine code_label ?_ | refine code_exit ?_); try simp only [then_exit, then_normal, blockC, Nat.reduceEqDiff, reduceIte]) | refine code_block ?_)
 refine code_ret ?_
 refine ⟨rfl, _, ?_, rfl, rfl⟩
 simp only [aResults, Tryz.results50, aRes, regAt_set, Nat.reduceEqDiff, reduceIte]
theorem hget {g hp ap wb N q kd pn n i : Nat} {ws : Nat → Nat} {μ : Mem} (hg : 80 ≤ g) (hH : HeapAt μ hp ap wb N ws) (hq : q + n < N) (hN : N < 1000000) (hw : ws q = headW kd pn n) (h1 : kd < 32) (h2 : pn < 8) (hi : i < n) :
  EndsF (aFun Tryz.prog (aCode Tryz.prog X S0 g) 53 [.pointer (some ⟨hp, 0, none⟩), .int .u64 (.ofNat (placeW q)), .int .i64 (.ofNat i)] μ) fun v μ' => v = .tuple #[.int .u64 (.ofNat (ws (q + 1 + i))), .int .i64 0] ∧ Grow μ μ' := by
 obtain ⟨k, rfl⟩ := Nat.exists_eq_add_of_le' hg
 exact heap_get hH hq hN hw h1 h2 hi
theorem hset {g hp ap wb N q kd pn n i w : Nat} {ws : Nat → Nat} {μ : Mem} (hg : 80 ≤ g) (hH : HeapAt μ hp ap wb N ws) (hq : q + n < N) (hN : N < 1000000) (hw : ws q = headW kd pn n) (h1 : kd < 32) (h2 : pn < 8) (hi : i < n) :
  EndsF (aFun Tryz.prog (aCode Tryz.prog X S0 g) 62 [.pointer (some ⟨hp, 0, none⟩), .int .u64 (.ofNat (placeW q)), .int .i64 (.ofNat i), .int .u64 (.ofNat w)] μ) fun v μ' => v = .int .i64 0 ∧ HeapAt μ' hp ap wb N (put ws (q + 1 + i) w) ∧ μ.next ≤ μ'.next ∧ ∀ j, j < μ.next → j ≠ wb → μ'.obs.get j = μ.obs.get j := by
 obtain ⟨k, rfl⟩ := Nat.exists_eq_add_of_le' hg
 exact heap_set hH hq hN hw h1 h2 hi
theorem hkind {g hp ap wb N q kd pn n : Nat} {ws : Nat → Nat} {μ : Mem} (hg : 80 ≤ g) (hH : HeapAt μ hp ap wb N ws) (hq : q < N) (hN : N < 1000000) (hw : ws q = headW kd pn n) (h1 : kd < 32) (h2 : pn < 8) (h3 : n < 1000000) :
  EndsF (aFun Tryz.prog (aCode Tryz.prog X S0 g) 51 [.pointer (some ⟨hp, 0, none⟩), .int .u64 (.ofNat (placeW q))] μ) fun v μ' => v = .int .i64 (.ofNat kd) ∧ Grow μ μ' := by
 obtain ⟨k, rfl⟩ := Nat.exists_eq_add_of_le' hg
 exact heap_kind hH hq hN hw h1 h2 h3
theorem hsize {g hp ap wb N q kd pn n : Nat} {ws : Nat → Nat} {μ : Mem} (hg : 80 ≤ g) (hH : HeapAt μ hp ap wb N ws) (hq : q < N) (hN : N < 1000000) (hw : ws q = headW kd pn n) (h1 : kd < 32) (h2 : pn < 8) (h3 : n < 1000000) :
  EndsF (aFun Tryz.prog (aCode Tryz.prog X S0 g) 52 [.pointer (some ⟨hp, 0, none⟩), .int .u64 (.ofNat (placeW q))] μ) fun v μ' => v = .int .i64 (.ofNat n) ∧ Grow μ μ' := by
 obtain ⟨k, rfl⟩ := Nat.exists_eq_add_of_le' hg
 exact heap_size hH hq hN hw h1 h2 h3
structure VW (μ : Mem) (vi sp hp ap wb lb : Nat) (ws : Nat → Nat) (p : Pos) (t cnt used e ix room places : Nat) : Prop where
 hs : SP μ sp hp ap wb lb 51200 3200 ws p
 has : Has μ vi 0 (vL sp t cnt used e ix room places)
 blk : Blk μ vi 8 81
 vn : vi < μ.next
 v1 : vi ≠ ap
 v2 : vi ≠ wb
 v3 : vi ≠ lb
 v4 : vi ≠ sp
 v5 : vi ≠ hp
 dj : e + 2 * room < ix ∨ ix + places < e
 he : ws e = headW 1 0 (2 * room)
 hi : ws ix = headW 1 0 places
 re : e + 2 * room < 51200
 ri : ix + places < 51200
 r1 : room ≤ 100
 r2 : places ≤ 128
theorem VW.grow {μ μ' : Mem} {vi sp hp ap wb lb : Nat} {ws : Nat → Nat} {p : Pos} {t cnt used e ix room places : Nat} (h : VW μ vi sp hp ap wb lb ws p t cnt used e ix room places) (g : Grow μ μ') : VW μ' vi sp hp ap wb lb ws p t cnt used e ix room places :=
 ⟨h.hs.grow g, h.has.keep (g.2 _ h.vn), h.blk.of_get (g.2 _ h.vn), Nat.lt_of_lt_of_le h.vn g.1, h.v1, h.v2, h.v3, h.v4, h.v5, h.dj, h.he, h.hi, h.re, h.ri, h.r1, h.r2⟩
theorem VW.up {μ : Mem} {vi sp hp ap wb lb d : Nat} {ws : Nat → Nat} {p : Pos} {t cnt used e ix room places : Nat} (h : VW μ vi sp hp ap wb lb ws p t cnt used e ix room places) : VW ⟨μ.obs, μ.next + d⟩ vi sp hp ap wb lb ws p t cnt used e ix room places := h.grow (grow_up μ d)
set_option maxRecDepth 20000 in
set_option maxHeartbeats 4000000 in
theorem vat_eq {g vi sp hp ap wb lb t cnt used e ix room places q : Nat} {ws : Nat → Nat} {p : Pos} {n : Int} {μ : Mem} (hg : 120 ≤ g) (h : VW μ vi sp hp ap wb lb ws p t cnt used e ix room places) (hq : q < places) (hn : Sm n) (hw : ws (ix + 1 + q) = sw n) :
  EndsF (aFun Tryz.prog (aCode Tryz.prog X S0 g) 60 [.pointer (some ⟨vi, 0, none⟩), .int .i64 (.ofNat q)] μ) fun v μ' => v = .int .i64 n ∧ Grow μ μ' := by
 obtain ⟨k, rfl⟩ := Nat.exists_eq_add_of_le' hg
 have hU := h.up (d := 16)
 have c0 : cellsAt ⟨μ.obs, μ.next + 16⟩ vi 0 = some (.pointer (some ⟨sp, 0, none⟩)) := h.has.cell 0 (by simp [vL])
 have c5 : cellsAt ⟨μ.obs, μ.next + 16⟩ vi 5 = some (.int .u64 (.ofNat (placeW ix))) := h.has.cell 5 (by simp [vL])
 have hH : ∀ g, 10 ≤ g → aFun Tryz.prog (aCode Tryz.prog X S0 g) 50 [.pointer (some ⟨sp, 0, none⟩)] ⟨μ.obs, μ.next + 16⟩ = some (.pointer (some ⟨hp, 0, none⟩), ⟨μ.obs, μ.next + 16⟩) := fun g hg => heap_of hg hU.hs.sp0
 obtain ⟨v1, μ1, h1, rfl, g1⟩ := hget (X := X) (g := k + 117) (i := q) (by omega) hU.hs.hs.at (n := places) h.ri (by decide) h.hi (by decide) (by decide) hq
 rw [hw] at h1
 have hv : ∀ g, 20 ≤ g → aFun Tryz.prog (aCode Tryz.prog X S0 g) 54 [.int .u64 (.ofNat (sw n))] μ1 = some (.int .i64 n, μ1) := fun g hg => value_small hg hn
 refine fun_enter Tryz.func60 rfl rfl (Nat.le_of_ble_eq_true rfl) ?_
 simp only [T.lay, Nat.zero_add, Tryz.ntmps60, Nat.reduceAdd]
 refine code_seq ?_
 refine code_region ?_ ?_
 ·rfl
 simp only [run1, go_sem, Nat.reduceLT, Nat.reduceAdd, Nat.reduceEqDiff, reduceIte, reduceCtorEq]
 refine code_seq ?_
 refine code_draw (n := 16) (ms := [0, 1, 3, 7, 15, 0, 32, 96, 224, 0, 1023, 2047, 4095, 4095, 8191, 32767]) (ord := [0, 1, 2, 3, 4, 5, 6, 7, 8, 9, 10, 11, 12, 13, 14, 15]) (ds := ?_) ?_ ?_ ?_ ?_ ?_ ?_
 rotate_left
 ·kernel_rfl
 ·kernel_rfl
 ·kernel_rfl
 ·rfl
 ·rfl
 iterate 16 (refine drun_true (by first | rfl | (simp only [wanted, go_sem, Nat.reduceLT, Nat.reduceAdd, Nat.reduceEqDiff, reduceIte, reduceCtorEq, fa81_0, fa81_5, Nat.add_zero, ld24, ldW, c0, c5, gg50, hH, Nat.reduceLeDiff, gg53, h1])) (by simp only [aDrawOne, heavy, aReads, eqVal_self, go_sem, Nat.reduceLT, Nat.reduceAdd, Nat.reduceEqDiff, reduceIte, reduceCtorEq, fa81_0, fa81_5, Nat.add_zero, ld24, ldW, c0, c5, gg50, hH, Nat.reduceLeDiff, gg53, h1]; try exact rfl) rfl ?_)
 simp only [dRun, endsD_some, then_normal]
 repeat (first | refine code_seq ?_ | ((first | (refine code_region ?_ ?_; (focus rfl)) | (refine code_guards (gs := ?_) ?_ ?_; rotate_left; (focus rfl))); simp only [run1, run2, wanted, go_sem, Nat.reduceLT, Nat.reduceAdd, Nat.reduceEqDiff, reduceIte, reduceCtorEq, gg54, hv, Nat.reduceLeDiff]) | (refine code_cond_true ?_ ?_; (focus (simp only [aev, regAt_set, Nat.reduceEqDiff, reduceIte, gg54, hv, Nat.reduceLeDiff]; done))) | (refine code_cond_false ?_ ?_; (focus (simp only [aev, regAt_set, Nat.reduceEqDiff, reduceIte, gg54, hv, Nat.reduceLeDiff]; done))) | ((first | refine code_skip ?_ | refine code_label ?_ | refine code_exit ?_); try simp only [then_exit, then_normal, blockC, Nat.reduceEqDiff, reduceIte]) | refine code_block ?_)
 refine code_ret ?_
 refine ⟨rfl, _, ?_, rfl, (grow_up μ 16).trans g1⟩
 simp only [aResults, Tryz.results60, aRes, regAt_set, Nat.reduceEqDiff, reduceIte]
set_option maxRecDepth 20000 in
set_option maxHeartbeats 4000000 in
theorem entry_eq {g vi sp hp ap wb lb t cnt used e ix room places i : Nat} {ws : Nat → Nat} {p : Pos} {μ : Mem} (hg : 140 ≤ g) (h : VW μ vi sp hp ap wb lb ws p t cnt used e ix room places) (hi : i < room) :
  EndsF (aFun Tryz.prog (aCode Tryz.prog X S0 g) 32 [.pointer (some ⟨vi, 0, none⟩), .int .i64 (.ofNat i)] μ) fun v μ' => v = .tuple #[.int .u64 (.ofNat (ws (e + 1 + i * 2))), .int .u64 (.ofNat (ws (e + 1 + (i * 2 + 1))))] ∧ Grow μ μ' := by
 obtain ⟨k, rfl⟩ := Nat.exists_eq_add_of_le' hg
 have hr := h.r1
 have hU := h.up (d := 17)
 have c0 : cellsAt ⟨μ.obs, μ.next + 17⟩ vi 0 = some (.pointer (some ⟨sp, 0, none⟩)) := h.has.cell 0 (by simp [vL])
 have c4 : cellsAt ⟨μ.obs, μ.next + 17⟩ vi 4 = some (.int .u64 (.ofNat (placeW e))) := h.has.cell 4 (by simp [vL])
 have hH : ∀ g, 10 ≤ g → aFun Tryz.prog (aCode Tryz.prog X S0 g) 50 [.pointer (some ⟨sp, 0, none⟩)] ⟨μ.obs, μ.next + 17⟩ = some (.pointer (some ⟨hp, 0, none⟩), ⟨μ.obs, μ.next + 17⟩) := fun g hg => heap_of hg hU.hs.sp0
 obtain ⟨v1, μ1, h1, rfl, g1⟩ := hget (X := X) (g := k + 137) (i := i * 2) (by omega) hU.hs.hs.at (n := 2 * room) h.re (by decide) h.he (by decide) (by decide) (by omega)
 have hV := hU.grow g1
 have hV2 := hV.up (d := 18)
 have d0 : cellsAt ⟨μ1.obs, μ1.next + 18⟩ vi 0 = some (.pointer (some ⟨sp, 0, none⟩)) := hV.has.cell 0 (by simp [vL])
 have d4 : cellsAt ⟨μ1.obs, μ1.next + 18⟩ vi 4 = some (.int .u64 (.ofNat (placeW e))) := hV.has.cell 4 (by simp [vL])
 have hH2 : ∀ g, 10 ≤ g → aFun Tryz.prog (aCode Tryz.prog X S0 g) 50 [.pointer (some ⟨sp, 0, none⟩)] ⟨μ1.obs, μ1.next + 18⟩ = some (.pointer (some ⟨hp, 0, none⟩), ⟨μ1.obs, μ1.next + 18⟩) := fun g hg => heap_of hg hV2.hs.sp0
 obtain ⟨v2, μ2, h2, rfl, g2⟩ := hget (X := X) (g := k + 136) (i := i * 2 + 1) (by omega) hV2.hs.hs.at (n := 2 * room) h.re (by decide) h.he (by decide) (by decide) (by omega)
 have e1 : qwrap .i64 (Int.mul (.ofNat i) 2) = .ofNat (i * 2) := mul_nat i 2 (by omega)
 obtain ⟨y, hy⟩ : ∃ y, y = i * 2 := ⟨_, rfl⟩
 obtain ⟨z, hz⟩ : ∃ z, z = y + 1 := ⟨_, rfl⟩
 have e2 : qwrap .i64 (Int.add (.ofNat y) 1) = .ofNat z := hz ▸ add_nat y 1 (by omega)
 rw [← hy] at h1 e1 h2 ⊢
 rw [← hz] at h2 ⊢
 obtain ⟨a, ha⟩ : ∃ a, a = ws (e + 1 + y) := ⟨_, rfl⟩
 obtain ⟨b, hb⟩ : ∃ b, b = ws (e + 1 + z) := ⟨_, rfl⟩
 rw [← ha] at h1 ⊢
 rw [← hb] at h2 ⊢
 refine fun_enter Tryz.func32 rfl rfl (Nat.le_of_ble_eq_true rfl) ?_
 simp only [T.lay, Nat.zero_add, Tryz.ntmps32, Nat.reduceAdd]
 refine code_seq ?_
 refine code_region ?_ ?_
 ·rfl
 simp only [run1, go_sem, Nat.reduceLT, Nat.reduceAdd, Nat.reduceEqDiff, reduceIte, reduceCtorEq]
 refine code_seq ?_
 refine code_draw (n := 17) (ms := [0, 1, 3, 7, 15, 0, 32, 96, 224, 0, 512, 2047, 4095, 8191, 8191, 16383, 65535]) (ord := [0, 1, 2, 3, 4, 5, 6, 7, 8, 9, 10, 11, 12, 13, 14, 15, 16]) (ds := ?_) ?_ ?_ ?_ ?_ ?_ ?_
 rotate_left
 ·kernel_rfl
 ·kernel_rfl
 ·kernel_rfl
 ·rfl
 ·rfl
 iterate 17 (refine drun_true (by first | rfl | (simp only [wanted, go_sem, Nat.reduceLT, Nat.reduceAdd, Nat.reduceEqDiff, reduceIte, reduceCtorEq, fa81_0, fa81_4, Nat.add_zero, ld24, ldW, c0, c4, gg50, hH, Nat.reduceLeDiff, e1, gg53, h1])) (by simp only [aDrawOne, heavy, aReads, eqVal_self, go_sem, Nat.reduceLT, Nat.reduceAdd, Nat.reduceEqDiff, reduceIte, reduceCtorEq, fa81_0, fa81_4, Nat.add_zero, ld24, ldW, c0, c4, gg50, hH, Nat.reduceLeDiff, e1, gg53, h1]; try exact rfl) rfl ?_)
 simp only [dRun, endsD_some, then_normal]
 refine code_seq ?_
 refine code_draw (n := 18) (ms := [0, 1, 3, 7, 15, 0, 32, 96, 224, 0, 512, 1536, 4095, 8191, 16383, 16383, 32767, 131071]) (ord := [0, 1, 2, 3, 4, 5, 6, 7, 8, 9, 10, 11, 12, 13, 14, 15, 16, 17]) (ds := ?_) ?_ ?_ ?_ ?_ ?_ ?_
 rotate_left
 ·kernel_rfl
 ·kernel_rfl
 ·kernel_rfl
 ·rfl
 ·rfl
 iterate 18 (refine drun_true (by first | rfl | (simp only [wanted, go_sem, Nat.reduceLT, Nat.reduceAdd, Nat.reduceEqDiff, reduceIte, reduceCtorEq, fa81_0, fa81_4, Nat.add_zero, ld24, ldW, d0, d4, gg50, hH2, Nat.reduceLeDiff, e1, e2, gg53, h2])) (by simp only [aDrawOne, heavy, aReads, eqVal_self, go_sem, Nat.reduceLT, Nat.reduceAdd, Nat.reduceEqDiff, reduceIte, reduceCtorEq, fa81_0, fa81_4, Nat.add_zero, ld24, ldW, d0, d4, gg50, hH2, Nat.reduceLeDiff, e1, e2, gg53, h2]; try exact rfl) rfl ?_)
 simp only [dRun, endsD_some, then_normal]
 repeat (first | refine code_seq ?_ | ((first | (refine code_region ?_ ?_; (focus rfl)) | (refine code_guards (gs := ?_) ?_ ?_; rotate_left; (focus rfl))); simp only [run1, run2, wanted, go_sem, Nat.reduceLT, Nat.reduceAdd, Nat.reduceEqDiff, reduceIte, reduceCtorEq]) | (refine code_cond_true ?_ ?_; (focus (simp only [aev, regAt_set, Nat.reduceEqDiff, reduceIte]; done))) | (refine code_cond_false ?_ ?_; (focus (simp only [aev, regAt_set, Nat.reduceEqDiff, reduceIte]; done))) | ((first | refine code_skip ?_ | refine code_label ?_ | refine code_exit ?_); try simp only [then_exit, then_normal, blockC, Nat.reduceEqDiff, reduceIte]) | refine code_block ?_)
 refine code_ret ?_
 refine ⟨rfl, _, ?_, rfl, (grow_up μ 17).trans (g1.trans ((grow_up μ1 18).trans g2))⟩
 simp only [aResults, Tryz.results32, aRes, regAt_set, Nat.reduceEqDiff, reduceIte]
end
noncomputable section
variable {X : FuncId → List Value → Mem → Option (Value × Mem)}
def occ (I : Nat → Int) : Nat → Nat
 | 0 => 0
 | m + 1 => occ I m + if I m = -1 then 0 else 1
theorem occ_free (I : Nat → Int) : ∀ m, occ I m < m → ∃ q, q < m ∧ I q = -1
 | 0, h => absurd h (Nat.lt_irrefl _)
 | m + 1, h => by
   by_cases e : I m = -1
   ·exact ⟨m, Nat.lt_succ_self _, e⟩
   ·unfold occ at h
    rw [if_neg e] at h
    obtain ⟨q, h1, h2⟩ := occ_free I m (by omega)
    exact ⟨q, by omega, h2⟩
def kwd : Option Int → Nat
 | none => 45
 | some n => sw n
structure TL (ws : Nat → Nat) (e ix room places used : Nat) (I : Nat → Int) (K : Nat → Option Int) : Prop where
 le : used ≤ room
 lt : used < places
 idx : ∀ q, q < places → ws (ix + 1 + q) = sw (I q)
 rng : ∀ q, q < places → I q = -1 ∨ (0 ≤ I q ∧ I q < used)
 key : ∀ i, i < used → ws (e + 1 + i * 2) = kwd (K i)
 ksm : ∀ i n, i < used → K i = some n → Sm n
 path : ∀ i n, i < used → K i = some n → ∃ d, d < places ∧ I ((hashI n % places + d) % places) = i ∧ ∀ d', d' < d → I ((hashI n % places + d') % places) ≠ -1
 cnt : occ I places = used
theorem TL.free {ws : Nat → Nat} {e ix room places used : Nat} {I : Nat → Int} {K : Nat → Option Int} (h : TL ws e ix room places used I K) (s : Nat) : ∃ f, f < places ∧ I ((s + f) % places) = -1 := by
 obtain ⟨q, hq, h1⟩ := occ_free I places (by rw [h.cnt]; exact h.lt)
 have h0 : 0 < places := by have := h.lt; omega
 obtain ⟨r, hr⟩ : ∃ r, r = s % places := ⟨_, rfl⟩
 have hr2 : r < places := by rw [hr]; exact Nat.mod_lt _ h0
 refine ⟨(q + places - r) % places, Nat.mod_lt _ h0, ?_⟩
 rw [Nat.add_mod_mod, show s + (q + places - r) = s / places * places + (q + places) from by have := Nat.div_add_mod s places; rw [Nat.mul_comm] at this; omega, Nat.add_comm, Nat.add_mul_mod_self_right, Nat.add_mod_right, Nat.mod_eq_of_lt hq]
 exact h1
theorem sw_ne45 (n : Int) : sw n ≠ 45 := by have := sw_mod n; omega
theorem key_small {ws : Nat → Nat} {N h : Nat} {n : Int} (hk : Key ws N (sw n) h) (hn : Sm n) : h = hashI n := by
 rcases hk with ⟨m, hm, e, rfl⟩ | ⟨q, hq, e, _⟩
 ·rw [sw_inj hn hm e]
 ·have := sw_mod n; unfold placeW at e; omega
set_option maxRecDepth 20000 in
set_option maxHeartbeats 4000000 in
theorem single_eq {g : Nat} {μ : Mem} (hg : 40 ≤ g) : aFun Tryz.prog (aCode Tryz.prog X S0 g) 18 [.int .i64 5] μ = some (.int .u64 (.ofNat 45), μ) := by
 obtain ⟨k, rfl⟩ := Nat.exists_eq_add_of_le' hg
 refine ends_eq ?_
 have hm : ∀ g, 20 ≤ g → aFun Tryz.prog (aCode Tryz.prog X S0 g) 39 [.int .u64 5, .int .i64 5] μ = some (.int .u64 (.ofNat 45), μ) := fun g hg => by
  obtain ⟨k, rfl⟩ := Nat.exists_eq_add_of_le' hg
  refine ends_eq ?_
  have e2 : aShift true .u64 5 3 = some (.int .u64 (.ofNat 40)) := rfl
  have e3 : aBits Nat.lor .u64 .u64 (.ofNat 40) 5 = some (.int .u64 (.ofNat 45)) := rfl
  have e4 : qwrap .u64 5 = 5 := rfl
  refine fun_enter Tryz.func39 rfl rfl (Nat.le_of_ble_eq_true rfl) ?_
  simp only [T.lay, Nat.zero_add, Tryz.ntmps39, Nat.reduceAdd]
  repeat (first | refine code_seq ?_ | ((first | (refine code_region ?_ ?_; (focus rfl)) | (refine code_guards (gs := ?_) ?_ ?_; rotate_left; (focus rfl))); simp only [run1, run2, wanted, go_sem, Nat.reduceLT, Nat.reduceAdd, Nat.reduceEqDiff, reduceIte, reduceCtorEq, cviW, e4, e2, e3]) | (refine code_cond_true ?_ ?_; (focus (simp only [aev, regAt_set, Nat.reduceEqDiff, reduceIte, cviW, e4, e2, e3]; done))) | (refine code_cond_false ?_ ?_; (focus (simp only [aev, regAt_set, Nat.reduceEqDiff, reduceIte, cviW, e4, e2, e3]; done))) | ((first | refine code_skip ?_ | refine code_label ?_ | refine code_exit ?_); try simp only [then_exit, then_normal, blockC, Nat.reduceEqDiff, reduceIte]) | refine code_block ?_)
  refine code_ret ?_
  refine ⟨rfl, _, ?_, rfl, rfl⟩
  simp only [aResults, Tryz.results39, aRes, regAt_set, Nat.reduceEqDiff, reduceIte]
 refine fun_enter Tryz.func18 rfl rfl (Nat.le_of_ble_eq_true rfl) ?_
 simp only [T.lay, Nat.zero_add, Tryz.ntmps18, Nat.reduceAdd]
 repeat (first | refine code_seq ?_ | ((first | (refine code_region ?_ ?_; (focus rfl)) | (refine code_guards (gs := ?_) ?_ ?_; rotate_left; (focus rfl))); simp only [run1, run2, wanted, go_sem, Nat.reduceLT, Nat.reduceAdd, Nat.reduceEqDiff, reduceIte, reduceCtorEq, gg39, hm, Nat.reduceLeDiff]) | (refine code_cond_true ?_ ?_; (focus (simp only [aev, regAt_set, Nat.reduceEqDiff, reduceIte, gg39, hm, Nat.reduceLeDiff]; done))) | (refine code_cond_false ?_ ?_; (focus (simp only [aev, regAt_set, Nat.reduceEqDiff, reduceIte, gg39, hm, Nat.reduceLeDiff]; done))) | ((first | refine code_skip ?_ | refine code_label ?_ | refine code_exit ?_); try simp only [then_exit, then_normal, blockC, Nat.reduceEqDiff, reduceIte]) | refine code_block ?_)
 refine code_ret ?_
 refine ⟨rfl, _, ?_, rfl, rfl⟩
 simp only [aResults, Tryz.results18, aRes, regAt_set, Nat.reduceEqDiff, reduceIte]
def Found (used places h w : Nat) (I : Nat → Int) (K : Nat → Option Int) (i pl : Int) : Prop :=
 (∃ j n, i = .ofNat j ∧ j < used ∧ K j = some n ∧ w = sw n) ∨
 (i = -1 ∧ (∀ j n, j < used → K j = some n → w ≠ sw n) ∧ ∃ d, d < places ∧ pl = .ofNat ((h % places + d) % places) ∧ I ((h % places + d) % places) = -1 ∧ ∀ d', d' < d → I ((h % places + d') % places) ≠ -1)
end
noncomputable section
variable {X : FuncId → List Value → Mem → Option (Value × Mem)}
theorem ilt_neg1 : ilt (-1) 0 = true := rfl
theorem mod_step (s d m : Nat) : ((s + d) % m + 1) % m = (s + (d + 1)) % m := by rw [Nat.mod_add_mod, Nat.add_assoc]
set_option maxRecDepth 20000 in
set_option maxHeartbeats 4000000 in
theorem find_none {G vi sp hp ap wb lb t cnt used e ix room places w h s d : Nat} {ws : Nat → Nat} {I : Nat → Int} {K : Nat → Option Int} {p : Pos} {μ0 μ : Mem} {tm : T Value} (hG : 1000 ≤ G) (hV : VW μ0 vi sp hp ap wb lb ws p t cnt used e ix room places) (hT : TL ws e ix room places used I K) (hk : Key ws 51200 w h)
  (hs : s = h % places) (hd : d < places) (hI : I ((s + d) % places) = -1) (hg : Grow μ0 μ) (h1 : ∀ d', d' < d → I ((s + d') % places) ≠ -1) (h2 : ∀ d', d' < d → ∀ j n, I ((s + d') % places) = .ofNat j → K j = some n → w ≠ sw n)
  (r0 : regAt tm 0 = .pointer (some ⟨vi, 0, none⟩)) (r8 : regAt tm 8 = .int .i64 (.ofNat ((s + d) % places))) (r23 : regAt tm 23 = .int .i64 (.ofNat places)) (r24 : regAt tm 24 = .int .i64 (.ofNat d)) :
  EndsC (aCode Tryz.prog X S0 G (.loop (loopBody Tryz.f31 0)) ⟨60, tm, [], none⟩ μ) fun a r μ' => a = .ret ∧ Grow μ0 μ' ∧ ∃ tm' i pl, r = ⟨60, tm', [], none⟩ ∧ regAt tm' 6 = .int .i64 i ∧ regAt tm' 7 = .int .i64 pl ∧ Found used places h w I K i pl := by
 obtain ⟨k, rfl⟩ := Nat.exists_eq_add_of_le' hG
 obtain ⟨pl, hpl⟩ : ∃ pl, pl = (s + d) % places := ⟨_, rfl⟩
 have hp2 : pl < places := by rw [hpl]; exact Nat.mod_lt _ (by omega)
 rw [← hpl] at hI r8
 have e1 : ilt (.ofNat d) (.ofNat places) = true := (ilt_nat d places).trans (decide_eq_true hd)
 obtain ⟨v1, μ1, t1, rfl, g1⟩ := vat_eq (X := X) (g := k + 993) (n := -1) (q := pl) (by omega) (hV.grow hg) hp2 ⟨by decide, by decide⟩ (by rw [hT.idx _ hp2, hI])
 have e2 := ilt_neg1
 have fin : Found used places h w I K (-1) (.ofNat pl) := by
  refine .inr ⟨rfl, fun j n hj hK hw => ?_, d, hd, by rw [hpl, hs], by rw [← hs, ← hpl]; exact hI, fun d' hd' => by rw [← hs]; exact h1 d' hd'⟩
  subst hw
  have hn := hT.ksm j n hj hK
  have hh := key_small hk hn
  obtain ⟨dj, hdj, hIj, hbj⟩ := hT.path j n hj hK
  rw [← hh, ← hs] at hIj
  rw [← hh, ← hs] at hbj
  rcases Nat.lt_trichotomy dj d with hlt | heq | hgt
  ·exact h2 dj hlt j n hIj hK rfl
  ·rw [heq, ← hpl, hI] at hIj
   have : (-1 : Int) = (j : Int) := hIj
   omega
  ·exact hbj d hgt (by rw [← hpl]; exact hI)
 refine code_loop ?_
 repeat (first | refine code_seq ?_ | ((first | (refine code_region ?_ ?_; (focus rfl)) | (refine code_guards (gs := ?_) ?_ ?_; rotate_left; (focus rfl))); simp only [run1, run2, wanted, go_sem, Nat.reduceLT, Nat.reduceAdd, Nat.reduceEqDiff, reduceIte, reduceCtorEq, r24, r23, e1, r0, r8, gg60, t1, e2]) | (refine code_cond_true ?_ ?_; (focus (simp only [aev, regAt_set, Nat.reduceEqDiff, reduceIte, r24, r23, e1, r0, r8, gg60, t1, e2]; done))) | (refine code_cond_false ?_ ?_; (focus (simp only [aev, regAt_set, Nat.reduceEqDiff, reduceIte, r24, r23, e1, r0, r8, gg60, t1, e2]; done))) | ((first | refine code_skip ?_ | refine code_label ?_ | refine code_exit ?_); try simp only [then_exit, then_normal, blockC, Nat.reduceEqDiff, reduceIte]) | refine code_block ?_)
 refine code_ret ?_
 refine ⟨rfl, hg.trans g1, _, -1, .ofNat pl, rfl, ?_, ?_, fin⟩
 ·simp only [regAt_set, Nat.reduceEqDiff, reduceIte]
 ·simp only [regAt_set, Nat.reduceEqDiff, reduceIte]
set_option maxRecDepth 20000 in
set_option maxHeartbeats 8000000 in
theorem find_loop {vi sp hp ap wb lb t cnt used e ix room places w h s f : Nat} {ws : Nat → Nat} {I : Nat → Int} {K : Nat → Option Int} {p : Pos} {μ0 : Mem} (hV : VW μ0 vi sp hp ap wb lb ws p t cnt used e ix room places) (hT : TL ws e ix room places used I K) (hk : Key ws 51200 w h)
  (hs : s = h % places) (hf : f < places) (hff : I ((s + f) % places) = -1) :
  ∀ (m x d : Nat) (tm : T Value) (μ : Mem), d + m = f → Grow μ0 μ → (∀ d', d' < d → I ((s + d') % places) ≠ -1) → (∀ d', d' < d → ∀ j n, I ((s + d') % places) = .ofNat j → K j = some n → w ≠ sw n) →
   regAt tm 0 = .pointer (some ⟨vi, 0, none⟩) → regAt tm 1 = .int .u64 (.ofNat w) → regAt tm 8 = .int .i64 (.ofNat ((s + d) % places)) → regAt tm 23 = .int .i64 (.ofNat places) → regAt tm 24 = .int .i64 (.ofNat d) →
   EndsC (aCode Tryz.prog X S0 (x + m + 1000) (.loop (loopBody Tryz.f31 0)) ⟨60, tm, [], none⟩ μ) fun a r μ' => a = .ret ∧ Grow μ0 μ' ∧ ∃ tm' i pl, r = ⟨60, tm', [], none⟩ ∧ regAt tm' 6 = .int .i64 i ∧ regAt tm' 7 = .int .i64 pl ∧ Found used places h w I K i pl := by
 intro m
 induction m with
 | zero =>
   intro x d tm μ hd hg h1 h2 r0 r1 r8 r23 r24
   obtain rfl : d = f := hd
   exact find_none (by omega) hV hT hk hs hf hff hg h1 h2 r0 r8 r23 r24
 | succ m ih =>
   intro x d tm μ hd hg h1 h2 r0 r1 r8 r23 r24
   by_cases hI : I ((s + d) % places) = -1
   ·exact find_none (by omega) hV hT hk hs (by omega) hI hg h1 h2 r0 r8 r23 r24
   obtain ⟨pl, hpl⟩ : ∃ pl, pl = (s + d) % places := ⟨_, rfl⟩
   have hp2 : pl < places := by rw [hpl]; exact Nat.mod_lt _ (by omega)
   rw [← hpl] at hI r8
   obtain ⟨j, hj⟩ : ∃ j : Nat, I pl = .ofNat j := by
    rcases hT.rng pl hp2 with e | ⟨e1, _⟩
    ·exact absurd e hI
    ·exact ⟨(I pl).toNat, by show I pl = ((I pl).toNat : Int); omega⟩
   have hju : j < used := by
    rcases hT.rng pl hp2 with e | ⟨_, e2⟩
    ·exact absurd e hI
    ·rw [hj] at e2; have : (j : Int) < used := e2; omega
   have hjr := hT.le
   have hr1 := hV.r1
   have hr2 := hV.r2
   have e1 : ilt (.ofNat d) (.ofNat places) = true := (ilt_nat d places).trans (decide_eq_true (by omega))
   obtain ⟨v1, μ1, t1, rfl, g1⟩ := vat_eq (X := X) (g := x + m + 994) (n := .ofNat j) (q := pl) (by omega) (hV.grow hg) hp2 ⟨by show (-1000000 : Int) < (j : Int); omega, by show (j : Int) < 1000000; omega⟩ (by rw [hT.idx _ hp2, hj])
   have e2 : ilt (.ofNat j) 0 = false := rfl
   obtain ⟨v2, μ2, t2, rfl, g2⟩ := entry_eq (X := X) (g := x + m + 991) (i := j) (by omega) (hV.grow (hg.trans g1)) (by omega)
   rw [hT.key j hju] at t2
   have c0 : cellsAt μ2 vi 0 = some (.pointer (some ⟨sp, 0, none⟩)) := ((hV.grow (hg.trans (g1.trans g2))).has.cell 0 (by simp [vL]))
   have c7 : ∀ μ', Grow μ0 μ' → cellsAt μ' vi 7 = some (.int .i64 (.ofNat places)) := fun μ' g => (hV.grow g).has.cell 7 (by simp [vL])
   have hsi : ∀ g, 40 ≤ g → aFun Tryz.prog (aCode Tryz.prog X S0 g) 18 [.int .i64 5] μ2 = some (.int .u64 (.ofNat 45), μ2) := fun g hg => single_eq hg
   have hF : 40 ≤ x + m + 990 := by omega
   have e3 : qwrap .i64 (Int.add (.ofNat pl) 1) = .ofNat (pl + 1) := add_nat pl 1 (by omega)
   obtain ⟨q, hq⟩ : ∃ q, q = (pl + 1) % places := ⟨_, rfl⟩
   have hq2 : q = (s + (d + 1)) % places := by rw [hq, hpl]; exact mod_step s d places
   have e4 : aDiv true .i64 .i64 (.ofNat (pl + 1)) (.ofNat places) = some (.int .i64 (.ofNat q)) := rem_nat _ _ _ (by omega) hq
   have e5 : qwrap .i64 (Int.add (.ofNat d) 1) = .ofNat (d + 1) := add_nat d 1 (by omega)
   have go : ∀ (μ3 : Mem) (tm' : T Value), Grow μ0 μ3 → (∀ n, K j = some n → w ≠ sw n) → regAt tm' 0 = .pointer (some ⟨vi, 0, none⟩) → regAt tm' 1 = .int .u64 (.ofNat w) → regAt tm' 8 = .int .i64 (.ofNat q) → regAt tm' 23 = .int .i64 (.ofNat places) → regAt tm' 24 = .int .i64 (.ofNat (d + 1)) →
     EndsC (aCode Tryz.prog X S0 (x + m + 1000) (.loop (loopBody Tryz.f31 0)) ⟨60, tm', [], none⟩ μ3) fun a r μ' => a = .ret ∧ Grow μ0 μ' ∧ ∃ tm' i pl, r = ⟨60, tm', [], none⟩ ∧ regAt tm' 6 = .int .i64 i ∧ regAt tm' 7 = .int .i64 pl ∧ Found used places h w I K i pl := fun μ3 tm' gg hne q0 q1 q8 q23 q24 => by
    refine ih x (d + 1) tm' μ3 (by omega) gg (fun d' hd' => ?_) (fun d' hd' j' n' hj' hK' => ?_) q0 q1 (by rw [q8, hq2]) q23 q24
    ·rcases Nat.lt_succ_iff_lt_or_eq.1 hd' with e | rfl
     ·exact h1 d' e
     ·rw [← hpl]; exact hI
    ·rcases Nat.lt_succ_iff_lt_or_eq.1 hd' with e | rfl
     ·exact h2 d' e j' n' hj' hK'
     ·rw [← hpl, hj] at hj'
      have : j = j' := Int.ofNat.inj hj'
      subst this
      exact hne n' hK'
   cases hKj : K j with
   | none =>
     rw [hKj] at t2
     have t2 : aFun Tryz.prog (aCode Tryz.prog X S0 (x + m + 991)) 32 [.pointer (some ⟨vi, 0, none⟩), .int .i64 (.ofNat j)] μ1 = some (.tuple #[.int .u64 (.ofNat 45), .int .u64 (.ofNat (ws (e + 1 + (j * 2 + 1))))], μ2) := t2
     obtain ⟨y, hy⟩ : ∃ y, y = ws (e + 1 + (j * 2 + 1)) := ⟨_, rfl⟩
     rw [← hy] at t2
     have e6 : ieq (.ofNat 45) (.ofNat 45) = true := rfl
     have c7' := c7 μ2 (hg.trans (g1.trans g2))
     refine code_loop ?_
     rw [show x + (m + 1) + 999 = x + m + 1000 from by omega]
     repeat (first | refine code_seq ?_ | ((first | (refine code_region ?_ ?_; (focus rfl)) | (refine code_guards (gs := ?_) ?_ ?_; rotate_left; (focus rfl))); simp only [run1, run2, wanted, go_sem, Nat.reduceLT, Nat.reduceAdd, Nat.reduceEqDiff, reduceIte, reduceCtorEq, r24, r23, e1, r0, r8, gg60, t1, e2, gg32, t2, gg18, hsi, hF, e6, fa81_7, ld3, c7', e3, e4, e5]) | (refine code_cond_true ?_ ?_; (focus (simp only [aev, regAt_set, Nat.reduceEqDiff, reduceIte, r24, r23, e1, r0, r8, gg60, t1, e2, gg32, t2, gg18, hsi, hF, e6, fa81_7, ld3, c7', e3, e4, e5]; done))) | (refine code_cond_false ?_ ?_; (focus (simp only [aev, regAt_set, Nat.reduceEqDiff, reduceIte, r24, r23, e1, r0, r8, gg60, t1, e2, gg32, t2, gg18, hsi, hF, e6, fa81_7, ld3, c7', e3, e4, e5]; done))) | ((first | refine code_skip ?_ | refine code_label ?_ | refine code_exit ?_); try simp only [then_exit, then_normal, blockC, Nat.reduceEqDiff, reduceIte]) | refine code_block ?_)
     refine go μ2 _ (hg.trans (g1.trans g2)) (fun n hn => by rw [hKj] at hn; cases hn) ?_ ?_ ?_ ?_ ?_ <;> simp only [regAt_set, Nat.reduceEqDiff, reduceIte, r0, r1, r23]
   | some n =>
     rw [hKj] at t2
     have t2 : aFun Tryz.prog (aCode Tryz.prog X S0 (x + m + 991)) 32 [.pointer (some ⟨vi, 0, none⟩), .int .i64 (.ofNat j)] μ1 = some (.tuple #[.int .u64 (.ofNat (sw n)), .int .u64 (.ofNat (ws (e + 1 + (j * 2 + 1))))], μ2) := t2
     obtain ⟨y, hy⟩ : ∃ y, y = ws (e + 1 + (j * 2 + 1)) := ⟨_, rfl⟩
     have hn := hT.ksm j n hju hKj
     have e6 : ieq (.ofNat (sw n)) (.ofNat 45) = false := (ieq_nat _ _).trans (decide_eq_false (sw_ne45 n))
     obtain ⟨v3, μ3, t3, rfl, g3⟩ := same_key (X := X) (g := x + m + 990) (by omega) hn (hV.grow (hg.trans (g1.trans g2))).hs hk
     have c7' := c7 μ3 (hg.trans (g1.trans (g2.trans g3)))
     obtain ⟨z, hz⟩ : ∃ z, z = sw n := ⟨_, rfl⟩
     rw [← hy, ← hz] at t2
     rw [← hz] at t3 e6
     by_cases hzw : z = w
     ·rw [decide_eq_true hzw] at t3
      refine code_loop ?_
      rw [show x + (m + 1) + 999 = x + m + 1000 from by omega]
      repeat (first | refine code_seq ?_ | ((first | (refine code_region ?_ ?_; (focus rfl)) | (refine code_guards (gs := ?_) ?_ ?_; rotate_left; (focus rfl))); simp only [run1, run2, wanted, go_sem, Nat.reduceLT, Nat.reduceAdd, Nat.reduceEqDiff, reduceIte, reduceCtorEq, r24, r23, e1, r0, r1, r8, gg60, t1, e2, gg32, t2, gg18, hsi, hF, e6, fa81_0, Nat.add_zero, ld24, c0, gg61, t3]) | (refine code_cond_true ?_ ?_; (focus (simp only [aev, regAt_set, Nat.reduceEqDiff, reduceIte, r24, r23, e1, r0, r1, r8, gg60, t1, e2, gg32, t2, gg18, hsi, hF, e6, fa81_0, Nat.add_zero, ld24, c0, gg61, t3]; done))) | (refine code_cond_false ?_ ?_; (focus (simp only [aev, regAt_set, Nat.reduceEqDiff, reduceIte, r24, r23, e1, r0, r1, r8, gg60, t1, e2, gg32, t2, gg18, hsi, hF, e6, fa81_0, Nat.add_zero, ld24, c0, gg61, t3]; done))) | ((first | refine code_skip ?_ | refine code_label ?_ | refine code_exit ?_); try simp only [then_exit, then_normal, blockC, Nat.reduceEqDiff, reduceIte]) | refine code_block ?_)
      refine code_ret ?_
      refine ⟨rfl, hg.trans (g1.trans (g2.trans g3)), _, .ofNat j, .ofNat pl, rfl, ?_, ?_, .inl ⟨j, n, rfl, hju, hKj, hzw.symm.trans hz⟩⟩
      ·simp only [regAt_set, Nat.reduceEqDiff, reduceIte]
      ·simp only [regAt_set, Nat.reduceEqDiff, reduceIte]
     ·rw [decide_eq_false hzw] at t3
      refine code_loop ?_
      rw [show x + (m + 1) + 999 = x + m + 1000 from by omega]
      repeat (first | refine code_seq ?_ | ((first | (refine code_region ?_ ?_; (focus rfl)) | (refine code_guards (gs := ?_) ?_ ?_; rotate_left; (focus rfl))); simp only [run1, run2, wanted, go_sem, Nat.reduceLT, Nat.reduceAdd, Nat.reduceEqDiff, reduceIte, reduceCtorEq, r24, r23, e1, r0, r1, r8, gg60, t1, e2, gg32, t2, gg18, hsi, hF, e6, fa81_0, fa81_7, ld3, Nat.add_zero, ld24, c0, gg61, t3, c7', e3, e4, e5]) | (refine code_cond_true ?_ ?_; (focus (simp only [aev, regAt_set, Nat.reduceEqDiff, reduceIte, r24, r23, e1, r0, r1, r8, gg60, t1, e2, gg32, t2, gg18, hsi, hF, e6, fa81_0, fa81_7, ld3, Nat.add_zero, ld24, c0, gg61, t3, c7', e3, e4, e5]; done))) | (refine code_cond_false ?_ ?_; (focus (simp only [aev, regAt_set, Nat.reduceEqDiff, reduceIte, r24, r23, e1, r0, r1, r8, gg60, t1, e2, gg32, t2, gg18, hsi, hF, e6, fa81_0, fa81_7, ld3, Nat.add_zero, ld24, c0, gg61, t3, c7', e3, e4, e5]; done))) | ((first | refine code_skip ?_ | refine code_label ?_ | refine code_exit ?_); try simp only [then_exit, then_normal, blockC, Nat.reduceEqDiff, reduceIte]) | refine code_block ?_)
      refine go μ3 _ (hg.trans (g1.trans (g2.trans g3))) (fun n' hn' hw => hzw ?_) ?_ ?_ ?_ ?_ ?_
      ·rw [hKj] at hn'; injection hn' with hn'; rw [hz, hn', hw]
      all_goals simp only [regAt_set, Nat.reduceEqDiff, reduceIte, r0, r1, r23]
theorem cv3_26n (n : Nat) (h : n < 1000000) : aConvInt Tryz.prog 3 26 (.int .i64 (.ofNat n)) = some (.int .u64 (.ofNat n)) := by
 rw [cv3_26, qu64 n (by omega)]
theorem cv26_3 (n : Nat) (h : n < 1000000) : aConvInt Tryz.prog 26 3 (.int .u64 (.ofNat n)) = some (.int .i64 (.ofNat n)) := by
 simp only [aConvInt, Tryz.underlying3, Tryz.underlying26]
 rw [q64 n (by omega)]
theorem remu (m n : Nat) (hn : 0 < n) : aDiv true .u64 .u64 (.ofNat m) (.ofNat n) = some (.int .u64 (.ofNat (m % n))) := by
 cases n with
 | zero => omega
 | succ n => rfl
set_option maxRecDepth 20000 in
set_option maxHeartbeats 4000000 in
theorem find_ends {g vi sp hp ap wb lb t cnt used e ix room places w h : Nat} {ws : Nat → Nat} {I : Nat → Int} {K : Nat → Option Int} {p : Pos} {μ : Mem} (hg : 1200 ≤ g) (hV : VW μ vi sp hp ap wb lb ws p t cnt used e ix room places) (hT : TL ws e ix room places used I K) (hk : Key ws 51200 w h) :
  EndsF (aFun Tryz.prog (aCode Tryz.prog X S0 g) 31 [.pointer (some ⟨vi, 0, none⟩), .int .u64 (.ofNat w), .int .u64 (.ofNat h)] μ) fun v μ' => Grow μ μ' ∧ ∃ i pl, v = .tuple #[.int .i64 i, .int .i64 pl] ∧ Found used places h w I K i pl := by
 obtain ⟨k, rfl⟩ := Nat.exists_eq_add_of_le' hg
 have hp0 : 0 < places := by have := hT.lt; omega
 have hr2 := hV.r2
 obtain ⟨s, hs⟩ : ∃ s, s = h % places := ⟨_, rfl⟩
 have hs2 : s < places := by rw [hs]; exact Nat.mod_lt _ hp0
 obtain ⟨f, hf, hff⟩ := hT.free s
 have c7 : cellsAt μ vi 7 = some (.int .i64 (.ofNat places)) := hV.has.cell 7 (by simp [vL])
 have e1 := cv3_26n places (by omega)
 have e2 : aDiv true .u64 .u64 (.ofNat h) (.ofNat places) = some (.int .u64 (.ofNat s)) := by rw [remu _ _ hp0, hs]
 have e3 := cv26_3 s (by omega)
 refine fun_enter Tryz.func31 rfl rfl (Nat.le_of_ble_eq_true rfl) ?_
 simp only [T.lay, Nat.zero_add, Tryz.ntmps31, Nat.reduceAdd]
 refine code_seq ?_
 refine code_region ?_ ?_
 ·rfl
 simp only [run1, go_sem, Nat.reduceLT, Nat.reduceAdd, Nat.reduceEqDiff, reduceIte, reduceCtorEq]
 refine code_seq ?_
 refine code_region ?_ ?_
 ·rfl
 simp only [run1, go_sem, Nat.reduceLT, Nat.reduceAdd, Nat.reduceEqDiff, reduceIte, reduceCtorEq, fa81_7, ld3, c7, e1, e2, e3]
 refine code_seq ?_
 refine code_seq ?_
 refine code_region ?_ ?_
 ·rfl
 simp only [run1, go_sem, Nat.reduceLT, Nat.reduceAdd, Nat.reduceEqDiff, reduceIte, reduceCtorEq, fa81_7, ld3, c7]
 refine code_block ?_
 rw [show k + 1195 = (k + 195 - f) + f + 1000 from by omega]
 refine (find_loop (X := X) hV hT hk hs hf hff f (k + 195 - f) 0 _ μ (by omega) (Grow.refl _) (fun d' hd' => absurd hd' (by omega)) (fun d' hd' => absurd hd' (by omega)) ?_ ?_ ?_ ?_ ?_).mono ?_
 ·simp only [regAt_set, Nat.reduceEqDiff, reduceIte]
 ·simp only [regAt_set, Nat.reduceEqDiff, reduceIte]
 ·simp only [regAt_set, Nat.reduceEqDiff, reduceIte]
  rw [Nat.add_zero, Nat.mod_eq_of_lt hs2]
 ·simp only [regAt_set, Nat.reduceEqDiff, reduceIte]
 ·simp only [regAt_set, Nat.reduceEqDiff, reduceIte]
  rfl
 rintro a r μ' ⟨rfl, gf, tm', i, pl, rfl, q6, q7, hF⟩
 refine ⟨rfl, _, ?_, gf, i, pl, rfl, hF⟩
 simp only [aResults, Tryz.results31, aRes, regAt_set, Nat.reduceEqDiff, reduceIte]
 simp only [q6, q7]
end
noncomputable section
variable {X : FuncId → List Value → Mem → Option (Value × Mem)}
theorem SP.at_ {μ μ' : Mem} {sp hp ap wb lb N L : Nat} {ws : Nat → Nat} {p : Pos} (h : SP μ sp hp ap wb lb N L ws p) (hn : μ.next ≤ μ'.next) (e1 : μ'.obs.get sp = μ.obs.get sp) (e2 : μ'.obs.get hp = μ.obs.get hp) (e3 : μ'.obs.get ap = μ.obs.get ap) (e4 : μ'.obs.get wb = μ.obs.get wb) (e5 : μ'.obs.get lb = μ.obs.get lb) : SP μ' sp hp ap wb lb N L ws p :=
 ⟨by rw [← h.sp0]; unfold cellsAt; rw [e1], Nat.lt_of_lt_of_le h.spn hn, h.s1, h.s2, h.s3,
  ⟨by rw [← h.hs.head]; unfold cellsAt; rw [e2], ⟨h.hs.ab.arena.keep e3 e4, h.hs.ab.lines.keep (by unfold cellsAt; rw [e3]) e5, h.hs.ab.blk.of_get e3, Nat.lt_of_lt_of_le h.hs.ab.n1 hn, Nat.lt_of_lt_of_le h.hs.ab.n2 hn, Nat.lt_of_lt_of_le h.hs.ab.n3 hn, h.hs.ab.d1, h.hs.ab.d2, h.hs.ab.N1, h.hs.ab.L1⟩, Nat.lt_of_lt_of_le h.hs.hn hn, h.hs.ha, h.hs.hw, h.hs.hl⟩,
  h.ac.keeps e3⟩
theorem SP.setw {μ μ' : Mem} {sp hp ap wb lb N L : Nat} {ws ws' : Nat → Nat} {p : Pos} (h : SP μ sp hp ap wb lb N L ws p) (hA : HeapAt μ' hp ap wb N ws') (hn : μ.next ≤ μ'.next) (hk : ∀ j, j < μ.next → j ≠ wb → μ'.obs.get j = μ.obs.get j) : SP μ' sp hp ap wb lb N L ws' p :=
 ⟨by rw [← h.sp0]; unfold cellsAt; rw [hk sp h.spn h.s2], Nat.lt_of_lt_of_le h.spn hn, h.s1, h.s2, h.s3,
  ⟨hA.head, h.hs.ab.setw hA.arena hn hk, Nat.lt_of_lt_of_le h.hs.hn hn, h.hs.ha, h.hs.hw, h.hs.hl⟩,
  h.ac.keeps (hk ap h.hs.ab.n1 h.hs.ab.arena.apart)⟩
theorem VW.setw {μ μ' : Mem} {vi sp hp ap wb lb : Nat} {ws ws' : Nat → Nat} {p : Pos} {t cnt used e ix room places : Nat} (h : VW μ vi sp hp ap wb lb ws p t cnt used e ix room places) (hA : HeapAt μ' hp ap wb 51200 ws') (hn : μ.next ≤ μ'.next) (hk : ∀ j, j < μ.next → j ≠ wb → μ'.obs.get j = μ.obs.get j) (h1 : ws' e = ws e) (h2 : ws' ix = ws ix) : VW μ' vi sp hp ap wb lb ws' p t cnt used e ix room places :=
 ⟨h.hs.setw hA hn hk, h.has.keep (hk vi h.vn h.v2), h.blk.of_get (hk vi h.vn h.v2), Nat.lt_of_lt_of_le h.vn hn, h.v1, h.v2, h.v3, h.v4, h.v5, h.dj, h1.trans h.he, h2.trans h.hi, h.re, h.ri, h.r1, h.r2⟩
theorem VW.field {μ : Mem} {vi sp hp ap wb lb : Nat} {ws : Nat → Nat} {p : Pos} {t cnt used e ix room places : Nat} (h : VW μ vi sp hp ap wb lb ws p t cnt used e ix room places) (k : Nat) (v : Value) {t' cnt' used' : Nat} (hk : k < 8) (hl : (vL sp t cnt used e ix room places).set k v = vL sp t' cnt' used' e ix room places) : VW (putL μ vi k [v]) vi sp hp ap wb lb ws p t' cnt' used' e ix room places := by
 have hh := h.has.set h.blk (k := k) (v := v) (by simpa [vL] using hk)
 rw [hl, Nat.zero_add] at hh
 refine ⟨h.hs.at_ (by rw [putL_next]; exact Nat.le_refl _) (putL_get _ _ _ _ (Ne.symm h.v4)) (putL_get _ _ _ _ (Ne.symm h.v5)) (putL_get _ _ _ _ (Ne.symm h.v1)) (putL_get _ _ _ _ (Ne.symm h.v2)) (putL_get _ _ _ _ (Ne.symm h.v3)), hh, Blk.put (i := vi) _ _ h.blk, by rw [putL_next]; exact h.vn, h.v1, h.v2, h.v3, h.v4, h.v5, h.dj, h.he, h.hi, h.re, h.ri, h.r1, h.r2⟩
def Wr (μ μ' : Mem) (wb : Nat) : Prop := μ.next ≤ μ'.next ∧ ∀ j, j < μ.next → j ≠ wb → μ'.obs.get j = μ.obs.get j
theorem Wr.trans {a b c : Mem} {wb : Nat} (h : Wr a b wb) (g : Wr b c wb) : Wr a c wb := ⟨Nat.le_trans h.1 g.1, fun j h1 h2 => (g.2 j (Nat.lt_of_lt_of_le h1 h.1) h2).trans (h.2 j h1 h2)⟩
theorem Wr.grow {a b : Mem} (wb : Nat) (h : Grow a b) : Wr a b wb := ⟨h.1, fun j h1 _ => h.2 j h1⟩
def Wv (μ μ' : Mem) (wb vi : Nat) : Prop := μ.next ≤ μ'.next ∧ ∀ j, j < μ.next → j ≠ wb → j ≠ vi → μ'.obs.get j = μ.obs.get j
theorem Wv.trans {a b c : Mem} {wb vi : Nat} (h : Wv a b wb vi) (g : Wv b c wb vi) : Wv a c wb vi := ⟨Nat.le_trans h.1 g.1, fun j h1 h2 h3 => (g.2 j (Nat.lt_of_lt_of_le h1 h.1) h2 h3).trans (h.2 j h1 h2 h3)⟩
theorem Wv.of {a b : Mem} {wb : Nat} (vi : Nat) (h : Wr a b wb) : Wv a b wb vi := ⟨h.1, fun j h1 h2 _ => h.2 j h1 h2⟩
theorem Wv.put (a : Mem) (wb vi o : Nat) (vs : List Value) : Wv a (putL a vi o vs) wb vi := ⟨by rw [putL_next]; exact Nat.le_refl _, fun j _ _ h => putL_get _ _ _ _ h⟩
def setE (ws : Nat → Nat) (e i k x : Nat) : Nat → Nat := put (put ws (e + 1 + i * 2) k) (e + 1 + (i * 2 + 1)) x
theorem setE_off {ws : Nat → Nat} {e i k x q : Nat} (h : q ≠ e + 1 + i * 2) (h2 : q ≠ e + 1 + (i * 2 + 1)) : setE ws e i k x q = ws q := by
 unfold setE put; rw [if_neg h2, if_neg h]
theorem setE_key (ws : Nat → Nat) (e i k x : Nat) : setE ws e i k x (e + 1 + i * 2) = k := by
 unfold setE put; rw [if_neg (by omega), if_pos rfl]
theorem setE_val (ws : Nat → Nat) (e i k x : Nat) : setE ws e i k x (e + 1 + (i * 2 + 1)) = x := by
 unfold setE put; rw [if_pos rfl]
set_option maxRecDepth 20000 in
set_option maxHeartbeats 4000000 in
theorem vput_ends {g vi sp hp ap wb lb t cnt used e ix room places i kw x : Nat} {ws : Nat → Nat} {p : Pos} {μ : Mem} (hg : 140 ≤ g) (h : VW μ vi sp hp ap wb lb ws p t cnt used e ix room places) (hi : i < room) :
  EndsF (aFun Tryz.prog (aCode Tryz.prog X S0 g) 33 [.pointer (some ⟨vi, 0, none⟩), .int .i64 (.ofNat i), .int .u64 (.ofNat kw), .int .u64 (.ofNat x)] μ) fun v μ' => VW μ' vi sp hp ap wb lb (setE ws e i kw x) p t cnt used e ix room places ∧ Wr μ μ' wb := by
 obtain ⟨k, rfl⟩ := Nat.exists_eq_add_of_le' hg
 have hr := h.r1
 have hdj := h.dj
 have hU := h.up (d := 13)
 have c0 : cellsAt ⟨μ.obs, μ.next + 13⟩ vi 0 = some (.pointer (some ⟨sp, 0, none⟩)) := h.has.cell 0 (by simp [vL])
 have c4 : cellsAt ⟨μ.obs, μ.next + 13⟩ vi 4 = some (.int .u64 (.ofNat (placeW e))) := h.has.cell 4 (by simp [vL])
 have hH : ∀ g, 10 ≤ g → aFun Tryz.prog (aCode Tryz.prog X S0 g) 50 [.pointer (some ⟨sp, 0, none⟩)] ⟨μ.obs, μ.next + 13⟩ = some (.pointer (some ⟨hp, 0, none⟩), ⟨μ.obs, μ.next + 13⟩) := fun g hg => heap_of hg hU.hs.sp0
 obtain ⟨v1, μ1, t1, rfl, a1, n1, k1⟩ := hset (X := X) (g := k + 138) (i := i * 2) (w := kw) (by omega) hU.hs.hs.at (n := 2 * room) h.re (by decide) h.he (by decide) (by decide) (by omega)
 have hV := hU.setw a1 n1 k1 (by unfold put; rw [if_neg (by omega)]) (by unfold put; rw [if_neg (by omega)])
 have hV2 := hV.up (d := 14)
 have d0 : cellsAt ⟨μ1.obs, μ1.next + 14⟩ vi 0 = some (.pointer (some ⟨sp, 0, none⟩)) := hV.has.cell 0 (by simp [vL])
 have d4 : cellsAt ⟨μ1.obs, μ1.next + 14⟩ vi 4 = some (.int .u64 (.ofNat (placeW e))) := hV.has.cell 4 (by simp [vL])
 have hH2 : ∀ g, 10 ≤ g → aFun Tryz.prog (aCode Tryz.prog X S0 g) 50 [.pointer (some ⟨sp, 0, none⟩)] ⟨μ1.obs, μ1.next + 14⟩ = some (.pointer (some ⟨hp, 0, none⟩), ⟨μ1.obs, μ1.next + 14⟩) := fun g hg => heap_of hg hV2.hs.sp0
 obtain ⟨v2, μ2, t2, rfl, a2, n2, k2⟩ := hset (X := X) (g := k + 138) (i := i * 2 + 1) (w := x) (by omega) hV2.hs.hs.at (n := 2 * room) h.re (by decide) hV.he (by decide) (by decide) (by omega)
 have hW := hV2.setw a2 n2 k2 (by unfold put; rw [if_neg (by omega)]) (by unfold put; rw [if_neg (by omega)])
 have e1 : qwrap .i64 (Int.mul (.ofNat i) 2) = .ofNat (i * 2) := mul_nat i 2 (by omega)
 obtain ⟨y, hy⟩ : ∃ y, y = i * 2 := ⟨_, rfl⟩
 obtain ⟨z, hz⟩ : ∃ z, z = y + 1 := ⟨_, rfl⟩
 have e2 : qwrap .i64 (Int.add (.ofNat y) 1) = .ofNat z := hz ▸ add_nat y 1 (by omega)
 have fin : VW μ2 vi sp hp ap wb lb (setE ws e i kw x) p t cnt used e ix room places ∧ Wr μ μ2 wb :=
  ⟨hW, (Wr.grow wb (grow_up μ 13)).trans (Wr.trans ⟨n1, k1⟩ ((Wr.grow wb (grow_up μ1 14)).trans ⟨n2, k2⟩))⟩
 rw [← hy] at t1 e1 t2
 rw [← hz] at t2
 refine fun_enter Tryz.func33 rfl rfl (Nat.le_of_ble_eq_true rfl) ?_
 simp only [T.lay, Nat.zero_add, Tryz.ntmps33, Nat.reduceAdd]
 refine code_seq ?_
 refine code_draw (n := 13) (ms := [0, 1, 3, 7, 15, 0, 32, 96, 224, 0, 512, 0, 4095]) (ord := [0, 1, 2, 3, 4, 5, 6, 7, 8, 9, 10, 11, 12]) (ds := ?_) ?_ ?_ ?_ ?_ ?_ ?_
 rotate_left
 ·kernel_rfl
 ·kernel_rfl
 ·kernel_rfl
 ·rfl
 ·rfl
 iterate 13 (refine drun_true (by first | rfl | (simp only [wanted, go_sem, Nat.reduceLT, Nat.reduceAdd, Nat.reduceEqDiff, reduceIte, reduceCtorEq, fa81_0, fa81_4, Nat.add_zero, ld24, ldW, c0, c4, gg50, hH, Nat.reduceLeDiff, e1, gg62, t1])) (by simp only [aDrawOne, heavy, aReads, eqVal_self, go_sem, Nat.reduceLT, Nat.reduceAdd, Nat.reduceEqDiff, reduceIte, reduceCtorEq, fa81_0, fa81_4, Nat.add_zero, ld24, ldW, c0, c4, gg50, hH, Nat.reduceLeDiff, e1, gg62, t1]; try exact rfl) rfl ?_)
 simp only [dRun, endsD_some, then_normal]
 refine code_draw (n := 14) (ms := [0, 1, 3, 7, 15, 0, 32, 96, 224, 0, 512, 1536, 0, 8191]) (ord := [0, 1, 2, 3, 4, 5, 6, 7, 8, 9, 10, 11, 12, 13]) (ds := ?_) ?_ ?_ ?_ ?_ ?_ ?_
 rotate_left
 ·kernel_rfl
 ·kernel_rfl
 ·kernel_rfl
 ·rfl
 ·rfl
 iterate 14 (refine drun_true (by first | rfl | (simp only [wanted, go_sem, Nat.reduceLT, Nat.reduceAdd, Nat.reduceEqDiff, reduceIte, reduceCtorEq, fa81_0, fa81_4, Nat.add_zero, ld24, ldW, d0, d4, gg50, hH2, Nat.reduceLeDiff, e1, e2, gg62, t2])) (by simp only [aDrawOne, heavy, aReads, eqVal_self, go_sem, Nat.reduceLT, Nat.reduceAdd, Nat.reduceEqDiff, reduceIte, reduceCtorEq, fa81_0, fa81_4, Nat.add_zero, ld24, ldW, d0, d4, gg50, hH2, Nat.reduceLeDiff, e1, e2, gg62, t2]; try exact rfl) rfl ?_)
 simp only [dRun, endsD_some, then_normal]
 exact ⟨rfl, _, rfl, fin⟩
end
noncomputable section
variable {X : FuncId → List Value → Mem → Option (Value × Mem)}
theorem sm_nat {n : Nat} (h : n < 1000000) : Sm (.ofNat n) := ⟨by show (-1000000 : Int) < (n : Int); omega, by show (n : Int) < 1000000; omega⟩
def addW (ws : Nat → Nat) (e ix used pl kw x : Nat) : Nat → Nat := put (setE ws e used kw x) (ix + 1 + pl) (sw (.ofNat used))
set_option maxRecDepth 20000 in
set_option maxHeartbeats 4000000 in
theorem add_ends {g vi sp hp ap wb lb t cnt used e ix room places pl kw x : Nat} {ws : Nat → Nat} {p : Pos} {μ : Mem} (hg : 200 ≤ g) (h : VW μ vi sp hp ap wb lb ws p t cnt used e ix room places) (hu : used < room) (hpl : pl < places) (hc : cnt < 1000) :
  EndsF (aFun Tryz.prog (aCode Tryz.prog X S0 g) 35 [.pointer (some ⟨vi, 0, none⟩), .int .i64 (.ofNat pl), .int .u64 (.ofNat kw), .int .u64 (.ofNat x)] μ) fun v μ' => VW μ' vi sp hp ap wb lb (addW ws e ix used pl kw x) p t (cnt + 1) (used + 1) e ix room places ∧ Wv μ μ' wb vi := by
 obtain ⟨k, rfl⟩ := Nat.exists_eq_add_of_le' hg
 have hr := h.r1
 have hr2 := h.r2
 have hdj := h.dj
 have c3 : cellsAt μ vi 3 = some (.int .i64 (.ofNat used)) := h.has.cell 3 (by simp [vL])
 obtain ⟨v1, μ1, t1, hV, w1⟩ := vput_ends (X := X) (g := k + 198) (i := used) (kw := kw) (x := x) (by omega) h hu
 have hU := hV.up (d := 16)
 have d0 : cellsAt ⟨μ1.obs, μ1.next + 16⟩ vi 0 = some (.pointer (some ⟨sp, 0, none⟩)) := hV.has.cell 0 (by simp [vL])
 have d3 : cellsAt ⟨μ1.obs, μ1.next + 16⟩ vi 3 = some (.int .i64 (.ofNat used)) := hV.has.cell 3 (by simp [vL])
 have d5 : cellsAt ⟨μ1.obs, μ1.next + 16⟩ vi 5 = some (.int .u64 (.ofNat (placeW ix))) := hV.has.cell 5 (by simp [vL])
 have hH : ∀ g, 10 ≤ g → aFun Tryz.prog (aCode Tryz.prog X S0 g) 50 [.pointer (some ⟨sp, 0, none⟩)] ⟨μ1.obs, μ1.next + 16⟩ = some (.pointer (some ⟨hp, 0, none⟩), ⟨μ1.obs, μ1.next + 16⟩) := fun g hg => heap_of hg hU.hs.sp0
 have hS : ∀ g, 60 ≤ g → aFun Tryz.prog (aCode Tryz.prog X S0 g) 19 [.int .i64 (.ofNat used)] ⟨μ1.obs, μ1.next + 16⟩ = some (.int .u64 (.ofNat (sw (.ofNat used))), ⟨μ1.obs, μ1.next + 16⟩) := fun g hg => tsmall_eq hg (sm_nat (by omega))
 obtain ⟨v2, μ2, t2, rfl, a2, n2, k2⟩ := hset (X := X) (g := k + 197) (i := pl) (w := sw (.ofNat used)) (by omega) hU.hs.hs.at (n := places) h.ri (by decide) hU.hi (by decide) (by decide) hpl
 have hW := hU.setw a2 n2 k2 (by unfold put; rw [if_neg (by omega)]) (by unfold put; rw [if_neg (by omega)])
 have f3 : cellsAt μ2 vi 3 = some (.int .i64 (.ofNat used)) := hW.has.cell 3 (by simp [vL])
 have s3 := store_put (P := Tryz.prog) (t := 3) (v := .int .i64 (.ofNat (used + 1))) i3 rfl rfl hW.blk (show 3 < 8 by decide)
 have hY := hW.field 3 (.int .i64 (.ofNat (used + 1))) (t' := t) (cnt' := cnt) (used' := used + 1) (by decide) rfl
 have f2 : cellsAt (putL μ2 vi 3 [.int .i64 (.ofNat (used + 1))]) vi 2 = some (.int .i64 (.ofNat cnt)) := hY.has.cell 2 (by simp [vL])
 have s2 := store_put (P := Tryz.prog) (t := 3) (v := .int .i64 (.ofNat (cnt + 1))) i3 rfl rfl hY.blk (show 2 < 8 by decide)
 have hZ := hY.field 2 (.int .i64 (.ofNat (cnt + 1))) (t' := t) (cnt' := cnt + 1) (used' := used + 1) (by decide) rfl
 have e1 : qwrap .i64 (Int.add (.ofNat used) 1) = .ofNat (used + 1) := add_nat used 1 (by omega)
 have e2 : qwrap .i64 (Int.add (.ofNat cnt) 1) = .ofNat (cnt + 1) := add_nat cnt 1 (by omega)
 have fin := And.intro hZ ((Wv.of vi (w1.trans ((Wr.grow wb (grow_up μ1 16)).trans ⟨n2, k2⟩))).trans ((Wv.put μ2 wb vi 3 [.int .i64 (.ofNat (used + 1))]).trans (Wv.put _ wb vi 2 [.int .i64 (.ofNat (cnt + 1))])))
 obtain ⟨su, hsu⟩ : ∃ z, z = sw (.ofNat used) := ⟨_, rfl⟩
 rw [← hsu] at hS t2
 refine fun_enter Tryz.func35 rfl rfl (Nat.le_of_ble_eq_true rfl) ?_
 simp only [T.lay, Nat.zero_add, Tryz.ntmps35, Nat.reduceAdd]
 refine code_seq ?_
 refine code_region ?_ ?_
 ·rfl
 simp only [run1, go_sem, Nat.reduceLT, Nat.reduceAdd, Nat.reduceEqDiff, reduceIte, reduceCtorEq, fa81_3, ld3, c3, gg33, t1]
 refine code_seq ?_
 refine code_draw (n := 16) (ms := [0, 1, 3, 7, 15, 0, 32, 96, 224, 0, 0, 1024, 3072, 7168, 15391, 32767]) (ord := [0, 1, 2, 3, 4, 10, 11, 12, 13, 14, 5, 6, 7, 8, 9, 15]) (ds := ?_) ?_ ?_ ?_ ?_ ?_ ?_
 rotate_left
 ·kernel_rfl
 ·kernel_rfl
 ·kernel_rfl
 ·rfl
 ·rfl
 iterate 16 (refine drun_true (by first | rfl | (simp only [wanted, go_sem, Nat.reduceLT, Nat.reduceAdd, Nat.reduceEqDiff, reduceIte, reduceCtorEq, fa81_0, fa81_3, fa81_5, Nat.add_zero, ld24, ld3, ldW, d0, d3, d5, gg50, hH, Nat.reduceLeDiff, gg19, hS, gg62, t2, (show bef [0, 1, 3, 7, 15, 0, 32, 96, 224, 0, 0, 1024, 3072, 7168, 15391, 32767] 4 3 = false from by kernel_rfl), (show bef [0, 1, 3, 7, 15, 0, 32, 96, 224, 0, 0, 1024, 3072, 7168, 15391, 32767] 14 3 = false from by kernel_rfl), (show bef [0, 1, 3, 7, 15, 0, 32, 96, 224, 0, 0, 1024, 3072, 7168, 15391, 32767] 15 3 = false from by kernel_rfl), (show bef [0, 1, 3, 7, 15, 0, 32, 96, 224, 0, 0, 1024, 3072, 7168, 15391, 32767] 4 8 = false from by kernel_rfl), (show bef [0, 1, 3, 7, 15, 0, 32, 96, 224, 0, 0, 1024, 3072, 7168, 15391, 32767] 14 8 = false from by kernel_rfl), (show bef [0, 1, 3, 7, 15, 0, 32, 96, 224, 0, 0, 1024, 3072, 7168, 15391, 32767] 15 8 = false from by kernel_rfl), (show bef [0, 1, 3, 7, 15, 0, 32, 96, 224, 0, 0, 1024, 3072, 7168, 15391, 32767] 4 13 = false from by kernel_rfl), (show bef [0, 1, 3, 7, 15, 0, 32, 96, 224, 0, 0, 1024, 3072, 7168, 15391, 32767] 14 13 = false from by kernel_rfl), (show bef [0, 1, 3, 7, 15, 0, 32, 96, 224, 0, 0, 1024, 3072, 7168, 15391, 32767] 15 13 = false from by kernel_rfl)])) (by simp only [aDrawOne, heavy, aReads, eqVal_self, go_sem, Nat.reduceLT, Nat.reduceAdd, Nat.reduceEqDiff, reduceIte, reduceCtorEq, fa81_0, fa81_3, fa81_5, Nat.add_zero, ld24, ld3, ldW, d0, d3, d5, gg50, hH, Nat.reduceLeDiff, gg19, hS, gg62, t2, (show bef [0, 1, 3, 7, 15, 0, 32, 96, 224, 0, 0, 1024, 3072, 7168, 15391, 32767] 4 3 = false from by kernel_rfl), (show bef [0, 1, 3, 7, 15, 0, 32, 96, 224, 0, 0, 1024, 3072, 7168, 15391, 32767] 14 3 = false from by kernel_rfl), (show bef [0, 1, 3, 7, 15, 0, 32, 96, 224, 0, 0, 1024, 3072, 7168, 15391, 32767] 15 3 = false from by kernel_rfl), (show bef [0, 1, 3, 7, 15, 0, 32, 96, 224, 0, 0, 1024, 3072, 7168, 15391, 32767] 4 8 = false from by kernel_rfl), (show bef [0, 1, 3, 7, 15, 0, 32, 96, 224, 0, 0, 1024, 3072, 7168, 15391, 32767] 14 8 = false from by kernel_rfl), (show bef [0, 1, 3, 7, 15, 0, 32, 96, 224, 0, 0, 1024, 3072, 7168, 15391, 32767] 15 8 = false from by kernel_rfl), (show bef [0, 1, 3, 7, 15, 0, 32, 96, 224, 0, 0, 1024, 3072, 7168, 15391, 32767] 4 13 = false from by kernel_rfl), (show bef [0, 1, 3, 7, 15, 0, 32, 96, 224, 0, 0, 1024, 3072, 7168, 15391, 32767] 14 13 = false from by kernel_rfl), (show bef [0, 1, 3, 7, 15, 0, 32, 96, 224, 0, 0, 1024, 3072, 7168, 15391, 32767] 15 13 = false from by kernel_rfl)]; try exact rfl) rfl ?_)
 simp only [dRun, endsD_some, then_normal]
 refine code_seq ?_
 refine code_region ?_ ?_
 ·rfl
 simp only [run1, go_sem, Nat.reduceLT, Nat.reduceAdd, Nat.reduceEqDiff, reduceIte, reduceCtorEq, fa81_3, ld3, f3, e1, s3]
 refine code_region ?_ ?_
 ·rfl
 simp only [run1, go_sem, Nat.reduceLT, Nat.reduceAdd, Nat.reduceEqDiff, reduceIte, reduceCtorEq, fa81_2, ld3, f2, e2, s2]
 exact ⟨rfl, _, rfl, fin⟩
def stW (ws : Nat → Nat) (tq cnt used e ix : Nat) : Nat → Nat := put (put (put (put ws (tq + 1 + 0) (sw (.ofNat cnt))) (tq + 1 + 1) (sw (.ofNat used))) (tq + 1 + 2) (placeW e)) (tq + 1 + 3) (placeW ix)
theorem stW_off {ws : Nat → Nat} {tq cnt used e ix q : Nat} (h : q ≤ tq ∨ tq + 4 < q) : stW ws tq cnt used e ix q = ws q := by
 unfold stW put; rw [if_neg (by omega), if_neg (by omega), if_neg (by omega), if_neg (by omega)]
set_option maxRecDepth 20000 in
set_option maxHeartbeats 8000000 in
theorem store_ends {g vi sp hp ap wb lb tq cnt used e ix room places : Nat} {ws : Nat → Nat} {p : Pos} {μ : Mem} (hg : 200 ≤ g) (h : VW μ vi sp hp ap wb lb ws p (placeW tq) cnt used e ix room places) (ht : ws tq = headW 3 0 4) (htr : tq + 4 < 51200) (d1 : tq + 4 < e ∨ e < tq) (d2 : tq + 4 < ix ∨ ix < tq) (hc : cnt < 1000) (hu : used < 1000) :
  EndsF (aFun Tryz.prog (aCode Tryz.prog X S0 g) 36 [.pointer (some ⟨vi, 0, none⟩)] μ) fun v μ' => VW μ' vi sp hp ap wb lb (stW ws tq cnt used e ix) p (placeW tq) cnt used e ix room places ∧ Wr μ μ' wb := by
 obtain ⟨k, rfl⟩ := Nat.exists_eq_add_of_le' hg
 have c0 : cellsAt μ vi 0 = some (.pointer (some ⟨sp, 0, none⟩)) := h.has.cell 0 (by simp [vL])
 have hH : ∀ g, 10 ≤ g → aFun Tryz.prog (aCode Tryz.prog X S0 g) 50 [.pointer (some ⟨sp, 0, none⟩)] μ = some (.pointer (some ⟨hp, 0, none⟩), μ) := fun g hg => heap_of hg h.hs.sp0
 have U1 := h.up (d := 11)
 have x1 : cellsAt ⟨μ.obs, μ.next + 11⟩ vi 1 = some (.int .u64 (.ofNat (placeW tq))) := h.has.cell 1 (by simp [vL])
 have x2 : cellsAt ⟨μ.obs, μ.next + 11⟩ vi 2 = some (.int .i64 (.ofNat cnt)) := h.has.cell 2 (by simp [vL])
 have y1 : ∀ g, 60 ≤ g → aFun Tryz.prog (aCode Tryz.prog X S0 g) 19 [.int .i64 (.ofNat cnt)] ⟨μ.obs, μ.next + 11⟩ = some (.int .u64 (.ofNat (sw (.ofNat cnt))), ⟨μ.obs, μ.next + 11⟩) := fun g hg => tsmall_eq hg (sm_nat (by omega))
 obtain ⟨v1, μ1, t1, rfl, a1, n1, k1⟩ := hset (X := X) (g := k + 197) (i := 0) (w := sw (.ofNat cnt)) (by omega) U1.hs.hs.at (n := 4) htr (by decide) ht (by decide) (by decide) (by decide)
 have V1 := U1.setw a1 n1 k1 (by unfold put; rw [if_neg (by omega)]) (by unfold put; rw [if_neg (by omega)])
 have q1 : put ws (tq + 1 + 0) (sw (.ofNat cnt)) tq = headW 3 0 4 := by unfold put; rw [if_neg (by omega)]; exact ht
 have U2 := V1.up (d := 11)
 have x3 : cellsAt ⟨μ1.obs, μ1.next + 11⟩ vi 1 = some (.int .u64 (.ofNat (placeW tq))) := V1.has.cell 1 (by simp [vL])
 have x4 : cellsAt ⟨μ1.obs, μ1.next + 11⟩ vi 3 = some (.int .i64 (.ofNat used)) := V1.has.cell 3 (by simp [vL])
 have y2 : ∀ g, 60 ≤ g → aFun Tryz.prog (aCode Tryz.prog X S0 g) 19 [.int .i64 (.ofNat used)] ⟨μ1.obs, μ1.next + 11⟩ = some (.int .u64 (.ofNat (sw (.ofNat used))), ⟨μ1.obs, μ1.next + 11⟩) := fun g hg => tsmall_eq hg (sm_nat (by omega))
 obtain ⟨v2, μ2, t2, rfl, a2, n2, k2⟩ := hset (X := X) (g := k + 196) (i := 1) (w := sw (.ofNat used)) (by omega) U2.hs.hs.at (n := 4) htr (by decide) q1 (by decide) (by decide) (by decide)
 have V2 := U2.setw a2 n2 k2 (by unfold put; rw [if_neg (by omega)]) (by unfold put; rw [if_neg (by omega)])
 have q2 : put (put ws (tq + 1 + 0) (sw (.ofNat cnt))) (tq + 1 + 1) (sw (.ofNat used)) tq = headW 3 0 4 := by unfold put; rw [if_neg (by omega)]; exact q1
 have U3 := V2.up (d := 10)
 have x5 : cellsAt ⟨μ2.obs, μ2.next + 10⟩ vi 1 = some (.int .u64 (.ofNat (placeW tq))) := V2.has.cell 1 (by simp [vL])
 have x6 : cellsAt ⟨μ2.obs, μ2.next + 10⟩ vi 4 = some (.int .u64 (.ofNat (placeW e))) := V2.has.cell 4 (by simp [vL])
 obtain ⟨v3, μ3, t3, rfl, a3, n3, k3⟩ := hset (X := X) (g := k + 195) (i := 2) (w := placeW e) (by omega) U3.hs.hs.at (n := 4) htr (by decide) q2 (by decide) (by decide) (by decide)
 have V3 := U3.setw a3 n3 k3 (by unfold put; rw [if_neg (by omega)]) (by unfold put; rw [if_neg (by omega)])
 have q3 : put (put (put ws (tq + 1 + 0) (sw (.ofNat cnt))) (tq + 1 + 1) (sw (.ofNat used))) (tq + 1 + 2) (placeW e) tq = headW 3 0 4 := by unfold put; rw [if_neg (by omega)]; exact q2
 have U4 := V3.up (d := 10)
 have x7 : cellsAt ⟨μ3.obs, μ3.next + 10⟩ vi 1 = some (.int .u64 (.ofNat (placeW tq))) := V3.has.cell 1 (by simp [vL])
 have x8 : cellsAt ⟨μ3.obs, μ3.next + 10⟩ vi 5 = some (.int .u64 (.ofNat (placeW ix))) := V3.has.cell 5 (by simp [vL])
 obtain ⟨v4, μ4, t4, rfl, a4, n4, k4⟩ := hset (X := X) (g := k + 195) (i := 3) (w := placeW ix) (by omega) U4.hs.hs.at (n := 4) htr (by decide) q3 (by decide) (by decide) (by decide)
 have V4 := U4.setw a4 n4 k4 (by unfold put; rw [if_neg (by omega)]) (by unfold put; rw [if_neg (by omega)])
 have fin : VW μ4 vi sp hp ap wb lb (stW ws tq cnt used e ix) p (placeW tq) cnt used e ix room places ∧ Wr μ μ4 wb :=
  ⟨V4, (Wr.grow wb (grow_up μ 11)).trans (Wr.trans ⟨n1, k1⟩ ((Wr.grow wb (grow_up μ1 11)).trans (Wr.trans ⟨n2, k2⟩ ((Wr.grow wb (grow_up μ2 10)).trans (Wr.trans ⟨n3, k3⟩ ((Wr.grow wb (grow_up μ3 10)).trans ⟨n4, k4⟩))))))⟩
 obtain ⟨sc, hsc⟩ : ∃ z, z = sw (.ofNat cnt) := ⟨_, rfl⟩
 obtain ⟨su, hsu⟩ : ∃ z, z = sw (.ofNat used) := ⟨_, rfl⟩
 rw [← hsc] at y1 t1
 rw [← hsu] at y2 t2
 have z0 : (Value.int .i64 (.ofNat 0)) = .int .i64 0 := rfl
 have t1 : aFun Tryz.prog (aCode Tryz.prog X S0 (k + 197)) 62 [.pointer (some ⟨hp, 0, none⟩), .int .u64 (.ofNat (placeW tq)), .int .i64 0, .int .u64 (.ofNat sc)] ⟨μ.obs, μ.next + 11⟩ = some (.int .i64 0, μ1) := t1
 have t2 : aFun Tryz.prog (aCode Tryz.prog X S0 (k + 196)) 62 [.pointer (some ⟨hp, 0, none⟩), .int .u64 (.ofNat (placeW tq)), .int .i64 1, .int .u64 (.ofNat su)] ⟨μ1.obs, μ1.next + 11⟩ = some (.int .i64 0, μ2) := t2
 have t3 : aFun Tryz.prog (aCode Tryz.prog X S0 (k + 195)) 62 [.pointer (some ⟨hp, 0, none⟩), .int .u64 (.ofNat (placeW tq)), .int .i64 2, .int .u64 (.ofNat (placeW e))] ⟨μ2.obs, μ2.next + 10⟩ = some (.int .i64 0, μ3) := t3
 have t4 : aFun Tryz.prog (aCode Tryz.prog X S0 (k + 195)) 62 [.pointer (some ⟨hp, 0, none⟩), .int .u64 (.ofNat (placeW tq)), .int .i64 3, .int .u64 (.ofNat (placeW ix))] ⟨μ3.obs, μ3.next + 10⟩ = some (.int .i64 0, μ4) := t4
 refine fun_enter Tryz.func36 rfl rfl (Nat.le_of_ble_eq_true rfl) ?_
 simp only [T.lay, Nat.zero_add, Tryz.ntmps36, Nat.reduceAdd]
 refine code_seq ?_
 refine code_region ?_ ?_
 ·rfl
 simp only [run1, go_sem, Nat.reduceLT, Nat.reduceAdd, Nat.reduceEqDiff, reduceIte, reduceCtorEq, fa81_0, Nat.add_zero, ld24, c0, gg50, hH, Nat.reduceLeDiff]
 refine code_seq ?_
 refine code_draw (n := 11) (ms := [0, 0, 2, 6, 14, 0, 32, 96, 224, 480, 1023]) (ord := [5, 6, 7, 8, 9, 0, 1, 2, 3, 4, 10]) (ds := ?_) ?_ ?_ ?_ ?_ ?_ ?_
 rotate_left
 ·kernel_rfl
 ·kernel_rfl
 ·kernel_rfl
 ·rfl
 ·rfl
 iterate 11 (refine drun_true (by first | rfl | (simp only [wanted, go_sem, Nat.reduceLT, Nat.reduceAdd, Nat.reduceEqDiff, reduceIte, reduceCtorEq, fa81_1, fa81_2, ld3, ldW, x1, x2, gg19, y1, Nat.reduceLeDiff, gg62, t1])) (by simp only [aDrawOne, heavy, aReads, eqVal_self, go_sem, Nat.reduceLT, Nat.reduceAdd, Nat.reduceEqDiff, reduceIte, reduceCtorEq, fa81_1, fa81_2, ld3, ldW, x1, x2, gg19, y1, Nat.reduceLeDiff, gg62, t1]; try exact rfl) rfl ?_)
 simp only [dRun, endsD_some, then_normal]
 refine code_seq ?_
 refine code_draw (n := 11) (ms := [0, 0, 2, 6, 14, 0, 32, 96, 224, 480, 1023]) (ord := [5, 6, 7, 8, 9, 0, 1, 2, 3, 4, 10]) (ds := ?_) ?_ ?_ ?_ ?_ ?_ ?_
 rotate_left
 ·kernel_rfl
 ·kernel_rfl
 ·kernel_rfl
 ·rfl
 ·rfl
 iterate 11 (refine drun_true (by first | rfl | (simp only [wanted, go_sem, Nat.reduceLT, Nat.reduceAdd, Nat.reduceEqDiff, reduceIte, reduceCtorEq, fa81_1, fa81_3, ld3, ldW, x3, x4, gg19, y2, Nat.reduceLeDiff, gg62, t2])) (by simp only [aDrawOne, heavy, aReads, eqVal_self, go_sem, Nat.reduceLT, Nat.reduceAdd, Nat.reduceEqDiff, reduceIte, reduceCtorEq, fa81_1, fa81_3, ld3, ldW, x3, x4, gg19, y2, Nat.reduceLeDiff, gg62, t2]; try exact rfl) rfl ?_)
 simp only [dRun, endsD_some, then_normal]
 refine code_seq ?_
 refine code_draw (n := 10) (ms := [0, 0, 2, 6, 14, 0, 32, 96, 224, 511]) (ord := [0, 1, 2, 3, 4, 5, 6, 7, 8, 9]) (ds := ?_) ?_ ?_ ?_ ?_ ?_ ?_
 rotate_left
 ·kernel_rfl
 ·kernel_rfl
 ·kernel_rfl
 ·rfl
 ·rfl
 iterate 10 (refine drun_true (by first | rfl | (simp only [wanted, go_sem, Nat.reduceLT, Nat.reduceAdd, Nat.reduceEqDiff, reduceIte, reduceCtorEq, fa81_1, fa81_4, ldW, x5, x6, Nat.reduceLeDiff, gg62, t3])) (by simp only [aDrawOne, heavy, aReads, eqVal_self, go_sem, Nat.reduceLT, Nat.reduceAdd, Nat.reduceEqDiff, reduceIte, reduceCtorEq, fa81_1, fa81_4, ldW, x5, x6, Nat.reduceLeDiff, gg62, t3]; try exact rfl) rfl ?_)
 simp only [dRun, endsD_some, then_normal]
 refine code_draw (n := 10) (ms := [0, 0, 2, 6, 14, 0, 32, 96, 224, 511]) (ord := [0, 1, 2, 3, 4, 5, 6, 7, 8, 9]) (ds := ?_) ?_ ?_ ?_ ?_ ?_ ?_
 rotate_left
 ·kernel_rfl
 ·kernel_rfl
 ·kernel_rfl
 ·rfl
 ·rfl
 iterate 10 (refine drun_true (by first | rfl | (simp only [wanted, go_sem, Nat.reduceLT, Nat.reduceAdd, Nat.reduceEqDiff, reduceIte, reduceCtorEq, fa81_1, fa81_5, ldW, x7, x8, Nat.reduceLeDiff, gg62, t4])) (by simp only [aDrawOne, heavy, aReads, eqVal_self, go_sem, Nat.reduceLT, Nat.reduceAdd, Nat.reduceEqDiff, reduceIte, reduceCtorEq, fa81_1, fa81_5, ldW, x7, x8, Nat.reduceLeDiff, gg62, t4]; try exact rfl) rfl ?_)
 simp only [dRun, endsD_some, then_normal]
 exact ⟨rfl, _, rfl, fin⟩
end
noncomputable section
variable {X : FuncId → List Value → Mem → Option (Value × Mem)}
set_option maxRecDepth 20000 in
set_option maxHeartbeats 4000000 in
theorem object_ends {g sp hp ap wb lb N L q kd n li c : Nat} {f : Nat → Nat} {ws : Nat → Nat} {p p' : Pos} {μ : Mem} (hg : 600 ≤ g) (h : SP μ sp hp ap wb lb N L ws p)
  (hli : ∀ k, k < n → cellsAt μ li k = some (.int .u64 (.ofNat (f k)))) (hln : li < μ.next) (l1 : li ≠ ap) (l2 : li ≠ wb) (l3 : li ≠ lb) (h2 : kd < 16) (hn : n ≤ 240) (hq : q + n < N) (hal : Al X N L (n + 1) q p p') :
  EndsF (aFun Tryz.prog (aCode Tryz.prog X S0 g) 20 [.pointer (some ⟨sp, 0, none⟩), .int .i64 (.ofNat kd), .slice (some ⟨li, 0, none⟩) n c] μ) fun v μ' => v = .tuple #[.int .u64 (.ofNat (placeW q)), .bool true] ∧ SP μ' sp hp ap wb lb N L (obj ws q kd n f) p' ∧ Keeps μ μ' ap wb lb := by
 obtain ⟨k, rfl⟩ := Nat.exists_eq_add_of_le' hg
 have hr : ∀ g, 20 ≤ g → aFun Tryz.prog (aCode Tryz.prog X S0 g) 41 [.int .i64 (.ofNat kd)] μ = some (.bool false, μ) := fun g hg => by rw [rawb_eq hg (by omega), decide_eq_false (by omega)]
 obtain ⟨v1, μ1, t1, rfl, h1, k1⟩ := raw_al (X := X) (g := k + 596) (c := c) (by omega) h hli hln l1 l2 l3 (by omega : kd < 32) hn hq hal
 refine fun_enter Tryz.func20 rfl rfl (Nat.le_of_ble_eq_true rfl) ?_
 simp only [T.lay, Nat.zero_add, Tryz.ntmps20, Nat.reduceAdd]
 repeat (first | refine code_seq ?_ | ((first | (refine code_region ?_ ?_; (focus rfl)) | (refine code_guards (gs := ?_) ?_ ?_; rotate_left; (focus rfl))); simp only [run1, run2, wanted, go_sem, Nat.reduceLT, Nat.reduceAdd, Nat.reduceEqDiff, reduceIte, reduceCtorEq, gg41, hr, Nat.reduceLeDiff, gg42, t1]) | (refine code_cond_true ?_ ?_; (focus (simp only [aev, regAt_set, Nat.reduceEqDiff, reduceIte, gg41, hr, Nat.reduceLeDiff, gg42, t1]; done))) | (refine code_cond_false ?_ ?_; (focus (simp only [aev, regAt_set, Nat.reduceEqDiff, reduceIte, gg41, hr, Nat.reduceLeDiff, gg42, t1]; done))) | ((first | refine code_skip ?_ | refine code_label ?_ | refine code_exit ?_); try simp only [then_exit, then_normal, blockC, Nat.reduceEqDiff, reduceIte]) | refine code_block ?_)
 refine code_ret ?_
 refine ⟨rfl, _, ?_, rfl, h1, k1⟩
 simp only [aResults, Tryz.results20, aRes, regAt_set, Nat.reduceEqDiff, reduceIte]
set_option maxRecDepth 20000 in
set_option maxHeartbeats 4000000 in
theorem filled_loop {li n w : Nat} {v0 : Value} {μ0 : Mem} (hln : μ0.next ≤ li) (hn : n < 1000) : ∀ (m x i : Nat) (tm : T Value) (μ : Mem), i + m = n → Grow μ0 μ → li < μ.next → Blk μ li n 27 → (∀ k, k < i → cellsAt μ li k = some (.int .u64 (.ofNat w))) →
  regAt tm 0 = v0 → regAt tm 2 = .int .u64 (.ofNat w) → regAt tm 8 = .slice (some ⟨li, 0, none⟩) n (2 * n) → regAt tm 13 = .int .i64 (.ofNat n) → regAt tm 14 = .int .i64 (.ofNat i) →
  EndsC (aCode Tryz.prog X S0 (x + m + 40) (.loop (loopBody Tryz.f17 0)) ⟨27, tm, [], none⟩ μ) fun a r μ' => a = .exit 0 ∧ Grow μ0 μ' ∧ li < μ'.next ∧ (∀ k, k < n → cellsAt μ' li k = some (.int .u64 (.ofNat w))) ∧ ∃ tm', r = ⟨27, tm', [], none⟩ ∧ regAt tm' 0 = v0 ∧ regAt tm' 8 = .slice (some ⟨li, 0, none⟩) n (2 * n) := by
 intro m
 induction m with
 | zero =>
   intro x i tm μ hi hg hlt hb hc r0 r2 r8 r13 r14
   obtain rfl : i = n := hi
   have e1 : ilt (.ofNat i) (.ofNat i) = false := (ilt_nat i i).trans (decide_eq_false (by omega))
   refine code_loop ?_
   repeat (first | refine code_seq ?_ | ((first | (refine code_region ?_ ?_; (focus rfl)) | (refine code_guards (gs := ?_) ?_ ?_; rotate_left; (focus rfl))); simp only [run1, run2, wanted, go_sem, Nat.reduceLT, Nat.reduceAdd, Nat.reduceEqDiff, reduceIte, reduceCtorEq, r13, r14, e1]) | (refine code_cond_true ?_ ?_; (focus (simp only [aev, regAt_set, Nat.reduceEqDiff, reduceIte, r13, r14, e1]; done))) | (refine code_cond_false ?_ ?_; (focus (simp only [aev, regAt_set, Nat.reduceEqDiff, reduceIte, r13, r14, e1]; done))) | ((first | refine code_skip ?_ | refine code_label ?_ | refine code_exit ?_); try simp only [then_exit, then_normal, blockC, Nat.reduceEqDiff, reduceIte]) | refine code_block ?_)
   refine ⟨trivial, hg, hlt, hc, _, rfl, ?_, ?_⟩ <;> simp only [regAt_set, Nat.reduceEqDiff, reduceIte, r0, r8]
 | succ m ih =>
   intro x i tm μ hi hg hlt hb hc r0 r2 r8 r13 r14
   have e1 : ilt (.ofNat i) (.ofNat n) = true := (ilt_nat i n).trans (decide_eq_true (by omega))
   have hix : ∀ (ρ : Operand → Value) (a b : Operand), ρ a = .slice (some ⟨li, 0, none⟩) n (2 * n) → ρ b = .int .i64 (.ofNat i) → aIndexAddr Tryz.prog ρ 68 a b = some (.pointer (some ⟨li, i, none⟩)) := fun ρ a b h1 h2 => by
    rw [indexAddr_slice (P := Tryz.prog) Tryz.underlying68 iW rfl h1 h2 (by omega), Nat.zero_add]
   have st := store_put (P := Tryz.prog) (t := 27) (v := .int .u64 (.ofNat w)) iW rfl rfl hb (show i < n by omega)
   have e2 : qwrap .i64 (Int.add (.ofNat i) 1) = .ofNat (i + 1) := add_nat i 1 (by omega)
   refine code_loop ?_
   rw [show x + (m + 1) + 39 = x + m + 40 from by omega]
   repeat (first | refine code_seq ?_ | ((first | (refine code_region ?_ ?_; (focus rfl)) | (refine code_guards (gs := ?_) ?_ ?_; rotate_left; (focus rfl))); simp only [run1, run2, wanted, go_sem, Nat.reduceLT, Nat.reduceAdd, Nat.reduceEqDiff, reduceIte, reduceCtorEq, r13, r14, e1, r8, r2, hix, st, e2]) | (refine code_cond_true ?_ ?_; (focus (simp only [aev, regAt_set, Nat.reduceEqDiff, reduceIte, r13, r14, e1, r8, r2, hix, st, e2]; done))) | (refine code_cond_false ?_ ?_; (focus (simp only [aev, regAt_set, Nat.reduceEqDiff, reduceIte, r13, r14, e1, r8, r2, hix, st, e2]; done))) | ((first | refine code_skip ?_ | refine code_label ?_ | refine code_exit ?_); try simp only [then_exit, then_normal, blockC, Nat.reduceEqDiff, reduceIte]) | refine code_block ?_)
   refine ih x (i + 1) _ _ (by omega) (hg.put_new hln) (by rw [putL_next]; exact hlt) (Blk.put (i := li) _ _ hb) (fun k hk => ?_) ?_ ?_ ?_ ?_ ?_
   ·rw [cells_put hb (by simp; omega)]
    by_cases e : k = i
    ·subst e
     rw [dif_pos ⟨rfl, Nat.le_refl _, by simp⟩]
     simp
    ·rw [dif_neg (by simp only [List.length_singleton]; omega)]
     exact hc k (by omega)
   all_goals simp only [regAt_set, Nat.reduceEqDiff, reduceIte, r0, r2, r8, r13]
set_option maxRecDepth 20000 in
set_option maxHeartbeats 4000000 in
theorem filled_ends {g sp hp ap wb lb N L q n w : Nat} {ws : Nat → Nat} {p p' : Pos} {μ : Mem} (hg : 1200 ≤ g) (h : SP μ sp hp ap wb lb N L ws p) (hn : n ≤ 240) (hq : q + n < N) (hal : Al X N L (n + 1) q p p') :
  EndsF (aFun Tryz.prog (aCode Tryz.prog X S0 g) 17 [.pointer (some ⟨sp, 0, none⟩), .int .i64 (.ofNat n), .int .u64 (.ofNat w)] μ) fun v μ' => v = .tuple #[.int .u64 (.ofNat (placeW q)), .bool true] ∧ SP μ' sp hp ap wb lb N L (obj ws q 1 n fun _ => w) p' ∧ Keeps μ μ' ap wb lb := by
 obtain ⟨k, rfl⟩ := Nat.exists_eq_add_of_le' hg
 have hms := msW n (by omega)
 obtain ⟨μ1, h1⟩ : ∃ M : Mem, M = ⟨μ.obs.set μ.next (wsO n), Nat.add μ.next 1⟩ := ⟨_, rfl⟩
 have g1 : Grow μ μ1 := by rw [h1]; exact grow1 μ _
 have n1 : μ1.next = μ.next + 1 := by rw [h1]
 have b1 : Blk μ1 μ.next n 27 := by rw [h1]; exact ⟨#[.int .u64 0], .e, false, false, by show T.get _ _ = _; rw [T.get_set, if_pos rfl]; rfl⟩
 refine fun_enter Tryz.func17 rfl rfl (Nat.le_of_ble_eq_true rfl) ?_
 simp only [T.lay, Nat.zero_add, Tryz.ntmps17, Nat.reduceAdd]
 refine code_seq ?_
 refine code_region ?_ ?_
 ·rfl
 simp only [run1, go_sem, Nat.reduceLT, Nat.reduceAdd, Nat.reduceEqDiff, reduceIte, reduceCtorEq]
 refine code_seq ?_
 refine code_region ?_ ?_
 ·rfl
 simp only [run1, go_sem, Nat.reduceLT, Nat.reduceAdd, Nat.reduceEqDiff, reduceIte, reduceCtorEq, hms, h1.symm]
 refine code_seq ?_
 refine code_seq ?_
 refine code_region ?_ ?_
 ·rfl
 simp only [run1, go_sem, Nat.reduceLT, Nat.reduceAdd, Nat.reduceEqDiff, reduceIte, reduceCtorEq, aBuiltin, aLen, Tryz.underlying68, cast_nat]
 refine code_block ?_
 rw [show k + 1195 = (k + 1155 - n) + n + 40 from by omega]
 refine (filled_loop (X := X) (v0 := .pointer (some ⟨sp, 0, none⟩)) (li := μ.next) (n := n) (w := w) (μ0 := μ) (Nat.le_refl _) (by omega) n (k + 1155 - n) 0 _ μ1 (by omega) g1 (by omega) b1 (fun k hk => absurd hk (by omega)) ?_ ?_ ?_ ?_ ?_).mono ?_
 ·simp only [regAt_set, Nat.reduceEqDiff, reduceIte]
 ·simp only [regAt_set, Nat.reduceEqDiff, reduceIte]
 ·simp only [regAt_set, Nat.reduceEqDiff, reduceIte]
 ·simp only [regAt_set, Nat.reduceEqDiff, reduceIte]
 ·simp only [regAt_set, Nat.reduceEqDiff, reduceIte]
  rfl
 rintro a r μ2 ⟨rfl, g2, n2, c2, tm', rfl, q0, q8⟩
 have hab := h.hs.ab
 obtain ⟨v3, μ3, t3, rfl, h3, k3⟩ := object_ends (X := X) (g := k + 1195) (kd := 1) (f := fun _ => w) (c := 2 * n) (by omega) (h.grow g2) c2 n2 (by have := hab.n1; omega) (by have := hab.n2; omega) (by have := hab.n3; omega) (by decide) hn hq hal
 have t3 : aFun Tryz.prog (aCode Tryz.prog X S0 (k + 1195)) 20 [.pointer (some ⟨sp, 0, none⟩), .int .i64 1, .slice (some ⟨μ.next, 0, none⟩) n (2 * n)] μ2 = some (.tuple #[.int .u64 (.ofNat (placeW q)), .bool true], μ3) := t3
 simp only [blockC, reduceIte, then_normal]
 repeat (first | refine code_seq ?_ | ((first | (refine code_region ?_ ?_; (focus rfl)) | (refine code_guards (gs := ?_) ?_ ?_; rotate_left; (focus rfl))); simp only [run1, run2, wanted, go_sem, Nat.reduceLT, Nat.reduceAdd, Nat.reduceEqDiff, reduceIte, reduceCtorEq, q0, q8, gg20, t3]) | (refine code_cond_true ?_ ?_; (focus (simp only [aev, regAt_set, Nat.reduceEqDiff, reduceIte, q0, q8, gg20, t3]; done))) | (refine code_cond_false ?_ ?_; (focus (simp only [aev, regAt_set, Nat.reduceEqDiff, reduceIte, q0, q8, gg20, t3]; done))) | ((first | refine code_skip ?_ | refine code_label ?_ | refine code_exit ?_); try simp only [then_exit, then_normal, blockC, Nat.reduceEqDiff, reduceIte]) | refine code_block ?_)
 refine code_ret ?_
 refine ⟨rfl, _, ?_, rfl, h3, (Keeps.grow g2).trans k3⟩
 simp only [aResults, Tryz.results17, aRes, regAt_set, Nat.reduceEqDiff, reduceIte]
end
noncomputable section
variable {X : FuncId → List Value → Mem → Option (Value × Mem)}
structure PV (μ : Mem) (vi sp hp ap wb lb : Nat) (ws : Nat → Nat) (p : Pos) (l : List Value) : Prop where
 hs : SP μ sp hp ap wb lb 51200 3200 ws p
 has : Has μ vi 0 l
 blk : Blk μ vi 8 81
 vn : vi < μ.next
 v1 : vi ≠ ap
 v2 : vi ≠ wb
 v3 : vi ≠ lb
 v4 : vi ≠ sp
 v5 : vi ≠ hp
 len : l.length = 8
theorem PV.grow {μ μ' : Mem} {vi sp hp ap wb lb : Nat} {ws : Nat → Nat} {p : Pos} {l : List Value} (h : PV μ vi sp hp ap wb lb ws p l) (g : Grow μ μ') : PV μ' vi sp hp ap wb lb ws p l :=
 ⟨h.hs.grow g, h.has.keep (g.2 _ h.vn), h.blk.of_get (g.2 _ h.vn), Nat.lt_of_lt_of_le h.vn g.1, h.v1, h.v2, h.v3, h.v4, h.v5, h.len⟩
theorem PV.field {μ : Mem} {vi sp hp ap wb lb : Nat} {ws : Nat → Nat} {p : Pos} {l l' : List Value} (h : PV μ vi sp hp ap wb lb ws p l) (k : Nat) (v : Value) (hk : k < 8) (hl : l.set k v = l') : PV (putL μ vi k [v]) vi sp hp ap wb lb ws p l' := by
 have hh := h.has.set h.blk (k := k) (v := v) (by rw [h.len]; exact hk)
 rw [hl, Nat.zero_add] at hh
 exact ⟨h.hs.at_ (by rw [putL_next]; exact Nat.le_refl _) (putL_get _ _ _ _ (Ne.symm h.v4)) (putL_get _ _ _ _ (Ne.symm h.v5)) (putL_get _ _ _ _ (Ne.symm h.v1)) (putL_get _ _ _ _ (Ne.symm h.v2)) (putL_get _ _ _ _ (Ne.symm h.v3)), hh, Blk.put (i := vi) _ _ h.blk, by rw [putL_next]; exact h.vn, h.v1, h.v2, h.v3, h.v4, h.v5, by rw [← hl, List.length_set]; exact h.len⟩
def vZ (sp t : Nat) : List Value := [.pointer (some ⟨sp, 0, none⟩), .int .u64 (.ofNat t), .int .i64 0, .int .i64 0, .int .u64 0, .int .u64 0, .int .i64 0, .int .i64 0]
def v0L : List Value := [.pointer none, .int .u64 0, .int .i64 0, .int .i64 0, .int .u64 0, .int .u64 0, .int .i64 0, .int .i64 0]
theorem z81 : aZeroOf Tryz.prog 81 = some (.agg v0L.toArray) := by unfold aZeroOf; rw [j81]; rfl
theorem bd81 (ρ : Operand → Value) (x y : Operand) (sp t : Nat) (h1 : ρ x = .pointer (some ⟨sp, 0, none⟩)) (h2 : ρ y = .int .u64 (.ofNat t)) : aBuild Tryz.prog ρ 81 #[(0, x), (1, y)] = some (.agg (vZ sp t).toArray) := by
 refine build_struct (pl := [(0, 1), (1, 1), (2, 1), (3, 1), (4, 1), (5, 1), (6, 1), (7, 1)]) z81 Tryz.underlying81 (by kernel_rfl) ?_
 show aFill _ v0L [(0, ρ x), (1, ρ y)] = some (vZ sp t)
 rw [h1, h2]
 rfl
theorem bx81 (l : List Value) : aBox 81 (.agg l.toArray) = some (.cells l.length 81 l.toArray .e 0 0 false false, fun id => .pointer (some ⟨id, 0, none⟩)) := rfl
structure TW (ws : Nat → Nat) (tq cnt used e ix room places : Nat) : Prop where
 ht : ws tq = headW 3 0 4
 f0 : ws (tq + 1 + 0) = sw (.ofNat cnt)
 f1 : ws (tq + 1 + 1) = sw (.ofNat used)
 f2 : ws (tq + 1 + 2) = placeW e
 f3 : ws (tq + 1 + 3) = placeW ix
 he : ws e = headW 1 0 (2 * room)
 hi : ws ix = headW 1 0 places
 rt : tq + 4 < 51200
 re : e + 2 * room < 51200
 ri : ix + places < 51200
 r1 : room ≤ 100
 r2 : places ≤ 128
 r3 : 0 < places
 dj : e + 2 * room < ix ∨ ix + places < e
 d1 : tq + 4 < e ∨ e + 2 * room < tq
 d2 : tq + 4 < ix ∨ ix + places < tq
 c1 : cnt < 1000
 u1 : used < 1000
set_option maxRecDepth 20000 in
set_option maxHeartbeats 16000000 in
theorem look_ends {g sp hp ap wb lb tq cnt used e ix room places : Nat} {ws : Nat → Nat} {p : Pos} {μ : Mem} (hg : 300 ≤ g) (hS : SP μ sp hp ap wb lb 51200 3200 ws p) (h : TW ws tq cnt used e ix room places) :
  EndsF (aFun Tryz.prog (aCode Tryz.prog X S0 g) 29 [.pointer (some ⟨sp, 0, none⟩), .int .u64 (.ofNat (placeW tq))] μ) fun v μ' => ∃ vi, v = .tuple #[.pointer (some ⟨vi, 0, none⟩), .bool true] ∧ μ.next ≤ vi ∧ VW μ' vi sp hp ap wb lb ws p (placeW tq) cnt used e ix room places ∧ Grow μ μ' := by
 obtain ⟨k, rfl⟩ := Nat.exists_eq_add_of_le' hg
 have c1 := h.c1
 have u1 := h.u1
 have hrt := h.rt
 have hre := h.re
 have hri := h.ri
 have H : ∀ (μ' : Mem), Grow μ μ' → ∀ g, 10 ≤ g → aFun Tryz.prog (aCode Tryz.prog X S0 g) 50 [.pointer (some ⟨sp, 0, none⟩)] μ' = some (.pointer (some ⟨hp, 0, none⟩), μ') := fun μ' gg g hg => heap_of hg (hS.grow gg).sp0
 have H0 := H μ (Grow.refl _)
 obtain ⟨v1, μ1, t1, rfl, g1⟩ := hkind (X := X) (g := k + 296) (by omega) hS.hs.at (by omega) (by decide) h.ht (by decide) (by decide) (by decide)
 have H1 := H μ1 g1
 obtain ⟨v2, μ2, t2, rfl, g2⟩ := hsize (X := X) (g := k + 296) (by omega) (hS.grow g1).hs.at (by omega) (by decide) h.ht (by decide) (by decide) (by decide)
 have g12 := g1.trans g2
 have S2 := hS.grow g12
 obtain ⟨μ3, h3⟩ : ∃ M : Mem, M = ⟨μ2.obs.set μ2.next (.cells (vZ sp (placeW tq)).length 81 (vZ sp (placeW tq)).toArray .e 0 0 false false), μ2.next + 1⟩ := ⟨_, rfl⟩
 have g3 : Grow μ2 μ3 := by rw [h3]; exact grow1 μ2 _
 have P3 : PV μ3 μ2.next sp hp ap wb lb ws p (vZ sp (placeW tq)) :=
  ⟨S2.grow g3, Has.new (t := 81) (fx := false) (sh := false) (by rw [h3]; show T.get _ _ = _; rw [T.get_set, if_pos rfl]), ⟨(vZ sp (placeW tq)).toArray, .e, false, false, by rw [h3]; show T.get _ _ = _; rw [T.get_set, if_pos rfl]; rfl⟩, by rw [h3]; exact Nat.lt_succ_self _, by have := S2.hs.ab.n1; omega, by have := S2.hs.ab.n2; omega, by have := S2.hs.ab.n3; omega, by have := S2.spn; omega, by have := S2.hs.hn; omega, rfl⟩
 obtain ⟨vi, hvi⟩ : ∃ vi, vi = μ2.next := ⟨_, rfl⟩
 rw [← hvi] at P3
 have H3 := H μ3 (g12.trans g3)
 obtain ⟨v4, μ4, t4, rfl, g4⟩ := hget (X := X) (g := k + 295) (i := 0) (by omega) P3.hs.hs.at (n := 4) hrt (by decide) h.ht (by decide) (by decide) (by decide)
 rw [h.f0] at t4
 have P4 := P3.grow g4
 have H4 := H μ4 (g12.trans (g3.trans g4))
 obtain ⟨v5, μ5, t5, rfl, g5⟩ := hget (X := X) (g := k + 294) (i := 1) (by omega) P4.hs.hs.at (n := 4) hrt (by decide) h.ht (by decide) (by decide) (by decide)
 rw [h.f1] at t5
 have P5 := P4.grow g5
 have q1 : ∀ g, 20 ≤ g → aFun Tryz.prog (aCode Tryz.prog X S0 g) 54 [.int .u64 (.ofNat (sw (.ofNat cnt)))] μ5 = some (.int .i64 (.ofNat cnt), μ5) := fun g hg => value_small hg (sm_nat (by omega))
 have q2 : ∀ g, 20 ≤ g → aFun Tryz.prog (aCode Tryz.prog X S0 g) 54 [.int .u64 (.ofNat (sw (.ofNat used)))] μ5 = some (.int .i64 (.ofNat used), μ5) := fun g hg => value_small hg (sm_nat (by omega))
 have s2 := store_put (P := Tryz.prog) (t := 3) (v := .int .i64 (.ofNat cnt)) i3 rfl rfl P5.blk (show 2 < 8 by decide)
 have P6 := P5.field 2 (.int .i64 (.ofNat cnt)) (by decide) rfl
 have s3 := store_put (P := Tryz.prog) (t := 3) (v := .int .i64 (.ofNat used)) i3 rfl rfl P6.blk (show 3 < 8 by decide)
 have P7 := P6.field 3 (.int .i64 (.ofNat used)) (by decide) rfl
 obtain ⟨m7, hm7⟩ : ∃ m : Mem, m = putL (putL μ5 vi 2 [.int .i64 (.ofNat cnt)]) vi 3 [.int .i64 (.ofNat used)] := ⟨_, rfl⟩
 rw [← hm7] at s3 P7
 have G : Grow μ μ5 := g12.trans (g3.trans (g4.trans g5))
 have hvn : μ.next ≤ vi := by rw [hvi]; exact g12.1
 have G7 : Grow μ m7 := by rw [hm7]; exact (G.put_new hvn).put_new hvn
 have H7 := H m7 G7
 obtain ⟨v8, μ8, t8, rfl, g8⟩ := hget (X := X) (g := k + 292) (i := 2) (by omega) P7.hs.hs.at (n := 4) hrt (by decide) h.ht (by decide) (by decide) (by decide)
 rw [h.f2] at t8
 have P8 := P7.grow g8
 have s4 := store_put (P := Tryz.prog) (t := 27) (v := .int .u64 (.ofNat (placeW e))) iW rfl rfl P8.blk (show 4 < 8 by decide)
 have P9 := P8.field 4 (.int .u64 (.ofNat (placeW e))) (by decide) rfl
 obtain ⟨m9, hm9⟩ : ∃ m : Mem, m = putL μ8 vi 4 [.int .u64 (.ofNat (placeW e))] := ⟨_, rfl⟩
 rw [← hm9] at s4 P9
 have G9 : Grow μ m9 := by rw [hm9]; exact (G7.trans g8).put_new hvn
 have H9 := H m9 G9
 obtain ⟨v10, μ10, t10, rfl, g10⟩ := hget (X := X) (g := k + 291) (i := 3) (by omega) P9.hs.hs.at (n := 4) hrt (by decide) h.ht (by decide) (by decide) (by decide)
 rw [h.f3] at t10
 have P10 := P9.grow g10
 have s5 := store_put (P := Tryz.prog) (t := 27) (v := .int .u64 (.ofNat (placeW ix))) iW rfl rfl P10.blk (show 5 < 8 by decide)
 have P11 := P10.field 5 (.int .u64 (.ofNat (placeW ix))) (by decide) rfl
 obtain ⟨m11, hm11⟩ : ∃ m : Mem, m = putL μ10 vi 5 [.int .u64 (.ofNat (placeW ix))] := ⟨_, rfl⟩
 rw [← hm11] at s5 P11
 have G11 : Grow μ m11 := by rw [hm11]; exact (G9.trans g10).put_new hvn
 have U := P11.grow (grow_up m11 23)
 have GU := G11.trans (grow_up m11 23)
 have HU := H _ GU
 have a4 : cellsAt ⟨m11.obs, m11.next + 23⟩ vi 4 = some (.int .u64 (.ofNat (placeW e))) := U.has.cell 4 (by simp [vZ])
 have a5 : cellsAt ⟨m11.obs, m11.next + 23⟩ vi 5 = some (.int .u64 (.ofNat (placeW ix))) := U.has.cell 5 (by simp [vZ])
 obtain ⟨v12, μ12, t12, rfl, g12'⟩ := hsize (X := X) (g := k + 290) (by omega) U.hs.hs.at (by omega) (by decide) h.he (by decide) (by decide) (by have := h.r1; omega)
 have P12 := U.grow g12'
 have H12 := H μ12 (GU.trans g12')
 have b4 : cellsAt μ12 vi 4 = some (.int .u64 (.ofNat (placeW e))) := P12.has.cell 4 (by simp [vZ])
 have b5 : cellsAt μ12 vi 5 = some (.int .u64 (.ofNat (placeW ix))) := P12.has.cell 5 (by simp [vZ])
 obtain ⟨v13, μ13, t13, rfl, g13⟩ := hsize (X := X) (g := k + 290) (by omega) P12.hs.hs.at (by omega) (by decide) h.hi (by decide) (by decide) (by have := h.r2; omega)
 have P13 := P12.grow g13
 have c4 : cellsAt μ13 vi 4 = some (.int .u64 (.ofNat (placeW e))) := P13.has.cell 4 (by simp [vZ])
 have c5 : cellsAt μ13 vi 5 = some (.int .u64 (.ofNat (placeW ix))) := P13.has.cell 5 (by simp [vZ])
 have e1 : aDiv false .i64 .i64 (.ofNat (2 * room)) 2 = some (.int .i64 (.ofNat room)) := by
  show some (Value.int .i64 (qwrap .i64 (.ofNat (2 * room / 2)))) = _
  rw [show 2 * room / 2 = room from by omega, q64 _ (by have := h.r1; omega)]
 have s6 := store_put (P := Tryz.prog) (t := 3) (v := .int .i64 (.ofNat room)) i3 rfl rfl P13.blk (show 6 < 8 by decide)
 have P14 := P13.field 6 (.int .i64 (.ofNat room)) (by decide) rfl
 have s7 := store_put (P := Tryz.prog) (t := 3) (v := .int .i64 (.ofNat places)) i3 rfl rfl P14.blk (show 7 < 8 by decide)
 have P15 := P14.field 7 (.int .i64 (.ofNat places)) (by decide) rfl
 obtain ⟨m15, hm15⟩ : ∃ m : Mem, m = putL (putL μ13 vi 6 [.int .i64 (.ofNat room)]) vi 7 [.int .i64 (.ofNat places)] := ⟨_, rfl⟩
 rw [← hm15] at s7 P15
 have G15 : Grow μ m15 := by rw [hm15]; exact ((GU.trans (g12'.trans g13)).put_new hvn).put_new hvn
 have P16 := P15.grow (grow_up m15 8)
 have f7 : cellsAt ⟨m15.obs, m15.next + 8⟩ vi 7 = some (.int .i64 (.ofNat places)) := P16.has.cell 7 (by simp [vZ])
 have V : VW ⟨m15.obs, m15.next + 8⟩ vi sp hp ap wb lb ws p (placeW tq) cnt used e ix room places :=
  ⟨P16.hs, P16.has, P16.blk, P16.vn, P16.v1, P16.v2, P16.v3, P16.v4, P16.v5, h.dj, h.he, h.hi, h.re, h.ri, h.r1, h.r2⟩
 have t4 : aFun Tryz.prog (aCode Tryz.prog X S0 (k + 295)) 53 [.pointer (some ⟨hp, 0, none⟩), .int .u64 (.ofNat (placeW tq)), .int .i64 0] μ3 = some (.tuple #[.int .u64 (.ofNat (sw (.ofNat cnt))), .int .i64 0], μ4) := t4
 have t5 : aFun Tryz.prog (aCode Tryz.prog X S0 (k + 294)) 53 [.pointer (some ⟨hp, 0, none⟩), .int .u64 (.ofNat (placeW tq)), .int .i64 1] μ4 = some (.tuple #[.int .u64 (.ofNat (sw (.ofNat used))), .int .i64 0], μ5) := t5
 have t8 : aFun Tryz.prog (aCode Tryz.prog X S0 (k + 292)) 53 [.pointer (some ⟨hp, 0, none⟩), .int .u64 (.ofNat (placeW tq)), .int .i64 2] m7 = some (.tuple #[.int .u64 (.ofNat (placeW e)), .int .i64 0], μ8) := t8
 have t10 : aFun Tryz.prog (aCode Tryz.prog X S0 (k + 291)) 53 [.pointer (some ⟨hp, 0, none⟩), .int .u64 (.ofNat (placeW tq)), .int .i64 3] m9 = some (.tuple #[.int .u64 (.ofNat (placeW ix)), .int .i64 0], μ10) := t10
 have e3 : ieq (.ofNat 3) 3 = true := rfl
 have e4 : ieq (.ofNat 4) 4 = true := rfl
 have e5 : ilt 0 (.ofNat places) = true := (ilt_nat 0 places).trans (decide_eq_true h.r3)
 have hbd : ∀ (ρ : Operand → Value) (x y : Operand), ρ x = .pointer (some ⟨sp, 0, none⟩) → ρ y = .int .u64 (.ofNat (placeW tq)) → aBuild Tryz.prog ρ 81 #[(0, x), (1, y)] = some (.agg (vZ sp (placeW tq)).toArray) := fun ρ x y h1 h2 => bd81 ρ x y sp _ h1 h2
 have h3' : (⟨μ2.obs.set μ2.next (.cells (vZ sp (placeW tq)).length 81 (vZ sp (placeW tq)).toArray .e 0 0 false false), Nat.add μ2.next 1⟩ : Mem) = μ3 := h3.symm
 obtain ⟨sc, hsc⟩ : ∃ z, z = sw (.ofNat cnt) := ⟨_, rfl⟩
 obtain ⟨su, hsu⟩ : ∃ z, z = sw (.ofNat used) := ⟨_, rfl⟩
 obtain ⟨tw, htw⟩ : ∃ z, z = placeW tq := ⟨_, rfl⟩
 obtain ⟨ew, hew⟩ : ∃ z, z = placeW e := ⟨_, rfl⟩
 obtain ⟨iw, hiw⟩ : ∃ z, z = placeW ix := ⟨_, rfl⟩
 rw [← hsc] at t4 q1
 rw [← hsu] at t5 q2
 rw [← htw] at t1 t2 t4 t5 t8 t10 hbd h3'
 rw [← hew] at t8 s4 a4 b4 c4 t12 hm9
 rw [← hiw] at t10 s5 a5 b5 c5 t13 hm11
 have fin : ∃ vi', Value.tuple #[.pointer (some ⟨vi, 0, none⟩), .bool true] = .tuple #[.pointer (some ⟨vi', 0, none⟩), .bool true] ∧ μ.next ≤ vi' ∧ VW ⟨m15.obs, m15.next + 8⟩ vi' sp hp ap wb lb ws p (placeW tq) cnt used e ix room places ∧ Grow μ ⟨m15.obs, m15.next + 8⟩ := ⟨vi, rfl, hvn, V, G15.trans (grow_up m15 8)⟩
 rw [← htw] at fin
 rw [← hvi] at h3'
 rw [← htw]
 refine fun_enter Tryz.func29 rfl rfl (Nat.le_of_ble_eq_true rfl) ?_
 simp only [T.lay, Nat.zero_add, Tryz.ntmps29, Nat.reduceAdd]
 refine code_seq ?_
 refine code_region ?_ ?_
 ·rfl
 simp only [run1, go_sem, Nat.reduceLT, Nat.reduceAdd, Nat.reduceEqDiff, reduceIte, reduceCtorEq]
 refine code_seq ?_
 refine code_seq ?_
 refine code_guards (gs := ?_) ?_ ?_
 rotate_left
 ·rfl
 iterate 12 (refine run2_true (by first | rfl | (simp only [wanted, go_sem, Nat.reduceLT, Nat.reduceAdd, Nat.reduceEqDiff, reduceIte, reduceCtorEq, gg50, H0, H1, Nat.reduceLeDiff, gg51, t1, gg52, t2, e3, e4])) (by simp only [go_sem, Nat.reduceLT, Nat.reduceAdd, Nat.reduceEqDiff, reduceIte, reduceCtorEq, gg50, H0, H1, Nat.reduceLeDiff, gg51, t1, gg52, t2, e3, e4]; try exact rfl) rfl ?_)
 simp only [run2, ends_some, then_normal]
 refine code_cond_false ?_ ?_
 ·simp only [aev, regAt_set, Nat.reduceEqDiff, reduceIte]
 refine code_skip ?_
 simp only [then_normal]
 refine code_seq ?_
 refine code_region ?_ ?_
 ·rfl
 simp only [run1, go_sem, Nat.reduceLT, Nat.reduceAdd, Nat.reduceEqDiff, reduceIte, reduceCtorEq, hbd, bx81, h3', hvi.symm]
 refine code_seq ?_
 refine code_region ?_ ?_
 ·rfl
 simp only [run1, go_sem, Nat.reduceLT, Nat.reduceAdd, Nat.reduceEqDiff, reduceIte, reduceCtorEq, gg50, H3, Nat.reduceLeDiff, gg53, t4]
 refine code_seq ?_
 refine code_region ?_ ?_
 ·rfl
 simp only [run1, go_sem, Nat.reduceLT, Nat.reduceAdd, Nat.reduceEqDiff, reduceIte, reduceCtorEq, gg50, H4, Nat.reduceLeDiff, gg53, t5]
 refine code_seq ?_
 refine code_region ?_ ?_
 ·rfl
 simp only [run1, go_sem, Nat.reduceLT, Nat.reduceAdd, Nat.reduceEqDiff, reduceIte, reduceCtorEq, gg54, q1, q2, Nat.reduceLeDiff, fa81_2, fa81_3, s2, s3]
 refine code_seq ?_
 refine code_region ?_ ?_
 ·rfl
 simp only [run1, go_sem, Nat.reduceLT, Nat.reduceAdd, Nat.reduceEqDiff, reduceIte, reduceCtorEq, gg50, H7, Nat.reduceLeDiff, gg53, t8, fa81_4, s4, hm9.symm]
 refine code_seq ?_
 refine code_region ?_ ?_
 ·rfl
 simp only [run1, go_sem, Nat.reduceLT, Nat.reduceAdd, Nat.reduceEqDiff, reduceIte, reduceCtorEq, gg50, H9, Nat.reduceLeDiff, gg53, t10, fa81_5, s5, hm11.symm]
 refine code_seq ?_
 refine code_draw (n := 23) (ms := [0, 0, 0, 4, 0, 16, 48, 112, 252, 508, 0, 1532, 0, 4096, 12288, 28672, 65020, 131069, 262141, 524285, 1048575, 2097151, 4194303]) (ord := [2, 3, 4, 5, 6, 7, 8, 10, 11, 12, 13, 14, 15, 16, 0, 9, 17, 18, 19, 1, 20, 21, 22]) (ds := ?_) ?_ ?_ ?_ ?_ ?_ ?_
 rotate_left
 ·kernel_rfl
 ·kernel_rfl
 ·kernel_rfl
 ·rfl
 ·rfl
 iterate 23 (refine drun_true (by first | rfl | (simp only [wanted, go_sem, Nat.reduceLT, Nat.reduceAdd, Nat.reduceEqDiff, reduceIte, reduceCtorEq, gg50, HU, H12, Nat.reduceLeDiff, fa81_4, fa81_5, fa81_6, fa81_7, ldW, a4, a5, b4, b5, c4, c5, gg52, t12, t13, e1, s6, s7, (show bef [0, 0, 0, 4, 0, 16, 48, 112, 252, 508, 0, 1532, 0, 4096, 12288, 28672, 65020, 131069, 262141, 524285, 1048575, 2097151, 4194303] 3 7 = false from by kernel_rfl), (show bef [0, 0, 0, 4, 0, 16, 48, 112, 252, 508, 0, 1532, 0, 4096, 12288, 28672, 65020, 131069, 262141, 524285, 1048575, 2097151, 4194303] 8 7 = false from by kernel_rfl), (show bef [0, 0, 0, 4, 0, 16, 48, 112, 252, 508, 0, 1532, 0, 4096, 12288, 28672, 65020, 131069, 262141, 524285, 1048575, 2097151, 4194303] 11 7 = false from by kernel_rfl), (show bef [0, 0, 0, 4, 0, 16, 48, 112, 252, 508, 0, 1532, 0, 4096, 12288, 28672, 65020, 131069, 262141, 524285, 1048575, 2097151, 4194303] 16 7 = false from by kernel_rfl), (show bef [0, 0, 0, 4, 0, 16, 48, 112, 252, 508, 0, 1532, 0, 4096, 12288, 28672, 65020, 131069, 262141, 524285, 1048575, 2097151, 4194303] 19 7 = false from by kernel_rfl), (show bef [0, 0, 0, 4, 0, 16, 48, 112, 252, 508, 0, 1532, 0, 4096, 12288, 28672, 65020, 131069, 262141, 524285, 1048575, 2097151, 4194303] 22 7 = false from by kernel_rfl), (show bef [0, 0, 0, 4, 0, 16, 48, 112, 252, 508, 0, 1532, 0, 4096, 12288, 28672, 65020, 131069, 262141, 524285, 1048575, 2097151, 4194303] 3 15 = false from by kernel_rfl), (show bef [0, 0, 0, 4, 0, 16, 48, 112, 252, 508, 0, 1532, 0, 4096, 12288, 28672, 65020, 131069, 262141, 524285, 1048575, 2097151, 4194303] 8 15 = false from by kernel_rfl), (show bef [0, 0, 0, 4, 0, 16, 48, 112, 252, 508, 0, 1532, 0, 4096, 12288, 28672, 65020, 131069, 262141, 524285, 1048575, 2097151, 4194303] 11 15 = false from by kernel_rfl), (show bef [0, 0, 0, 4, 0, 16, 48, 112, 252, 508, 0, 1532, 0, 4096, 12288, 28672, 65020, 131069, 262141, 524285, 1048575, 2097151, 4194303] 16 15 = false from by kernel_rfl), (show bef [0, 0, 0, 4, 0, 16, 48, 112, 252, 508, 0, 1532, 0, 4096, 12288, 28672, 65020, 131069, 262141, 524285, 1048575, 2097151, 4194303] 19 15 = false from by kernel_rfl), (show bef [0, 0, 0, 4, 0, 16, 48, 112, 252, 508, 0, 1532, 0, 4096, 12288, 28672, 65020, 131069, 262141, 524285, 1048575, 2097151, 4194303] 22 15 = false from by kernel_rfl)])) (by simp only [aDrawOne, heavy, aReads, eqVal_self, go_sem, Nat.reduceLT, Nat.reduceAdd, Nat.reduceEqDiff, reduceIte, reduceCtorEq, gg50, HU, H12, Nat.reduceLeDiff, fa81_4, fa81_5, fa81_6, fa81_7, ldW, a4, a5, b4, b5, c4, c5, gg52, t12, t13, e1, s6, s7, (show bef [0, 0, 0, 4, 0, 16, 48, 112, 252, 508, 0, 1532, 0, 4096, 12288, 28672, 65020, 131069, 262141, 524285, 1048575, 2097151, 4194303] 3 7 = false from by kernel_rfl), (show bef [0, 0, 0, 4, 0, 16, 48, 112, 252, 508, 0, 1532, 0, 4096, 12288, 28672, 65020, 131069, 262141, 524285, 1048575, 2097151, 4194303] 8 7 = false from by kernel_rfl), (show bef [0, 0, 0, 4, 0, 16, 48, 112, 252, 508, 0, 1532, 0, 4096, 12288, 28672, 65020, 131069, 262141, 524285, 1048575, 2097151, 4194303] 11 7 = false from by kernel_rfl), (show bef [0, 0, 0, 4, 0, 16, 48, 112, 252, 508, 0, 1532, 0, 4096, 12288, 28672, 65020, 131069, 262141, 524285, 1048575, 2097151, 4194303] 16 7 = false from by kernel_rfl), (show bef [0, 0, 0, 4, 0, 16, 48, 112, 252, 508, 0, 1532, 0, 4096, 12288, 28672, 65020, 131069, 262141, 524285, 1048575, 2097151, 4194303] 19 7 = false from by kernel_rfl), (show bef [0, 0, 0, 4, 0, 16, 48, 112, 252, 508, 0, 1532, 0, 4096, 12288, 28672, 65020, 131069, 262141, 524285, 1048575, 2097151, 4194303] 22 7 = false from by kernel_rfl), (show bef [0, 0, 0, 4, 0, 16, 48, 112, 252, 508, 0, 1532, 0, 4096, 12288, 28672, 65020, 131069, 262141, 524285, 1048575, 2097151, 4194303] 3 15 = false from by kernel_rfl), (show bef [0, 0, 0, 4, 0, 16, 48, 112, 252, 508, 0, 1532, 0, 4096, 12288, 28672, 65020, 131069, 262141, 524285, 1048575, 2097151, 4194303] 8 15 = false from by kernel_rfl), (show bef [0, 0, 0, 4, 0, 16, 48, 112, 252, 508, 0, 1532, 0, 4096, 12288, 28672, 65020, 131069, 262141, 524285, 1048575, 2097151, 4194303] 11 15 = false from by kernel_rfl), (show bef [0, 0, 0, 4, 0, 16, 48, 112, 252, 508, 0, 1532, 0, 4096, 12288, 28672, 65020, 131069, 262141, 524285, 1048575, 2097151, 4194303] 16 15 = false from by kernel_rfl), (show bef [0, 0, 0, 4, 0, 16, 48, 112, 252, 508, 0, 1532, 0, 4096, 12288, 28672, 65020, 131069, 262141, 524285, 1048575, 2097151, 4194303] 19 15 = false from by kernel_rfl), (show bef [0, 0, 0, 4, 0, 16, 48, 112, 252, 508, 0, 1532, 0, 4096, 12288, 28672, 65020, 131069, 262141, 524285, 1048575, 2097151, 4194303] 22 15 = false from by kernel_rfl)]; try exact rfl) rfl ?_)
 simp only [dRun, endsD_some, then_normal]
 refine code_seq ?_
 refine code_draw (n := 8) (ms := [0, 0, 2, 6, 14, 30, 1, 127]) (ord := [0, 1, 2, 3, 4, 5, 6, 7]) (ds := ?_) ?_ ?_ ?_ ?_ ?_ ?_
 rotate_left
 ·kernel_rfl
 ·kernel_rfl
 ·kernel_rfl
 ·rfl
 ·rfl
 iterate 8 (refine drun_true (by first | rfl | (simp only [wanted, go_sem, Nat.reduceLT, Nat.reduceAdd, Nat.reduceEqDiff, reduceIte, reduceCtorEq, fa81_7, ld3, f7, e5])) (by simp only [aDrawOne, heavy, aReads, eqVal_self, go_sem, Nat.reduceLT, Nat.reduceAdd, Nat.reduceEqDiff, reduceIte, reduceCtorEq, fa81_7, ld3, f7, e5]; try exact rfl) rfl ?_)
 simp only [dRun, endsD_some, then_normal]
 refine code_ret ?_
 refine ⟨rfl, _, ?_, fin⟩
 simp only [aResults, Tryz.results29, aRes, regAt_set, Nat.reduceEqDiff, reduceIte]
end
noncomputable section
variable {X : FuncId → List Value → Mem → Option (Value × Mem)}
def RP (room places : Nat) : Prop := (room = 8 ∧ places = 16) ∨ (room = 16 ∧ places = 32) ∨ (room = 32 ∧ places = 64) ∨ (room = 64 ∧ places = 128) ∨ (room = 100 ∧ places = 128)
theorem RP.b {room places : Nat} (h : RP room places) : 8 ≤ room ∧ room ≤ 100 ∧ 16 ≤ places ∧ places ≤ 128 ∧ room + 1 < places := by unfold RP at h; omega
def upd {α : Type} (f : Nat → α) (q : Nat) (x : α) : Nat → α := fun k => if k = q then x else f k
theorem upd_at {α : Type} (f : Nat → α) (q : Nat) (x : α) : upd f q x q = x := if_pos rfl
theorem upd_off {α : Type} (f : Nat → α) {q k : Nat} (x : α) (h : k ≠ q) : upd f q x k = f k := if_neg h
theorem occ_upd_out (I : Nat → Int) (q : Nat) (x : Int) : ∀ m, m ≤ q → occ (upd I q x) m = occ I m
 | 0, _ => rfl
 | m + 1, h => by
   unfold occ
   rw [occ_upd_out I q x m (by omega), upd_off I x (by omega)]
theorem occ_upd (I : Nat → Int) (q : Nat) (x : Int) (hx : x ≠ -1) (hq : I q = -1) : ∀ m, q < m → occ (upd I q x) m = occ I m + 1
 | 0, h => absurd h (Nat.not_lt_zero _)
 | m + 1, h => by
   unfold occ
   by_cases e : q = m
   ·subst e
    rw [occ_upd_out I q x q (Nat.le_refl _), upd_at, if_neg hx, if_pos hq]
   ·rw [occ_upd I q x hx hq m (by omega), upd_off I x (by omega)]
    omega
structure TD (ws : Nat → Nat) (e used : Nat) (K : Nat → Option Int) (V : Nat → Nat) : Prop where
 val : ∀ i, i < used → K i ≠ none → ws (e + 1 + (i * 2 + 1)) = V i
 uniq : ∀ i j n, i < used → j < used → K i = some n → K j = some n → i = j
def kc (K : Nat → Option Int) : Nat → Nat
 | 0 => 0
 | m + 1 => kc K m + if K m = none then 0 else 1
theorem kc_le (K : Nat → Option Int) : ∀ m, kc K m ≤ m
 | 0 => Nat.le_refl _
 | m + 1 => by have := kc_le K m; unfold kc; split <;> omega
theorem kc_upd_out (K : Nat → Option Int) (q : Nat) (x : Option Int) : ∀ m, m ≤ q → kc (upd K q x) m = kc K m
 | 0, _ => rfl
 | m + 1, h => by
   unfold kc
   rw [kc_upd_out K q x m (by omega), upd_off K x (by omega)]
theorem kc_drop (K : Nat → Option Int) (q : Nat) (hq : K q ≠ none) : ∀ m, q < m → kc (upd K q none) m + 1 = kc K m
 | 0, h => absurd h (Nat.not_lt_zero _)
 | m + 1, h => by
   unfold kc
   by_cases e : q = m
   ·subst e
    rw [kc_upd_out K q none q (Nat.le_refl _), upd_at, if_pos rfl, if_neg hq]
   ·have := kc_drop K q hq m (by omega)
    rw [upd_off K none (by omega)]
    omega
def Dic (used : Nat) (K : Nat → Option Int) (V : Nat → Nat) (n : Int) (v : Nat) : Prop := ∃ i, i < used ∧ K i = some n ∧ V i = v
theorem TL.add {ws : Nat → Nat} {e ix room places used pl d : Nat} {I : Nat → Int} {K : Nat → Option Int} {n : Int} {x : Nat} (h : TL ws e ix room places used I K) (hn : Sm n) (hu : used < room) (hp : used + 1 < places) (hdj : e + 2 * room < ix ∨ ix + places < e)
  (hd : d < places) (hpl : pl = (hashI n % places + d) % places) (hI : I pl = -1) (hb : ∀ d', d' < d → I ((hashI n % places + d') % places) ≠ -1) :
  TL (addW ws e ix used pl (sw n) x) e ix room places (used + 1) (upd I pl (.ofNat used)) (upd K used (some n)) := by
 have hpl2 : pl < places := by rw [hpl]; exact Nat.mod_lt _ (by omega)
 have hx : (Int.ofNat used) ≠ -1 := by show ((used : Nat) : Int) ≠ -1; omega
 refine ⟨hu, hp, fun q hq => ?_, fun q hq => ?_, fun i hi => ?_, fun i m hi hK => ?_, fun i m hi hK => ?_, ?_⟩
 ·unfold addW put
  by_cases e1 : q = pl
  ·subst e1; rw [if_pos rfl, upd_at]
  ·rw [if_neg (by omega), upd_off I _ e1, setE_off (by omega) (by omega)]
   exact h.idx q hq
 ·by_cases e1 : q = pl
  ·subst e1; rw [upd_at]; right; constructor
   ·show (0 : Int) ≤ (used : Int); omega
   ·show ((used : Nat) : Int) < ((used + 1 : Nat) : Int); omega
  ·rw [upd_off I _ e1]
   rcases h.rng q hq with h1 | ⟨h1, h2⟩
   ·exact .inl h1
   ·exact .inr ⟨h1, by omega⟩
 ·unfold addW put
  rw [if_neg (by omega)]
  by_cases e1 : i = used
  ·subst e1; rw [upd_at, setE_key]; rfl
  ·rw [upd_off K _ e1, setE_off (by omega) (by omega)]
   exact h.key i (by omega)
 ·by_cases e1 : i = used
  ·subst e1; rw [upd_at] at hK; cases hK; exact hn
  ·rw [upd_off K _ e1] at hK
   exact h.ksm i m (by omega) hK
 ·by_cases e1 : i = used
  ·subst e1
   rw [upd_at] at hK
   cases hK
   refine ⟨d, hd, by rw [← hpl, upd_at]; rfl, fun d' hd' => ?_⟩
   by_cases e2 : (hashI n % places + d') % places = pl
   ·rw [e2, upd_at]; exact hx
   ·rw [upd_off I _ e2]; exact hb d' hd'
  ·rw [upd_off K _ e1] at hK
   obtain ⟨d0, hd0, h1, h2⟩ := h.path i m (by omega) hK
   refine ⟨d0, hd0, ?_, fun d' hd' => ?_⟩
   ·rw [upd_off I _ ?_]
    ·exact h1
    ·intro e2
     rw [e2, hI] at h1
     have : (-1 : Int) = ((i : Nat) : Int) := h1
     omega
   ·by_cases e2 : (hashI m % places + d') % places = pl
    ·rw [e2, upd_at]; exact hx
    ·rw [upd_off I _ e2]; exact h2 d' hd'
 ·rw [occ_upd I pl _ hx hI places hpl2, h.cnt]
theorem TD.add {ws : Nat → Nat} {e ix room places used pl : Nat} {K : Nat → Option Int} {V : Nat → Nat} {n : Int} {x : Nat} (h : TD ws e used K V) (hu : used < room) (hpl : pl < places) (hdj : e + 2 * room < ix ∨ ix + places < e) (hne : ∀ j m, j < used → K j = some m → m ≠ n) :
  TD (addW ws e ix used pl (sw n) x) e (used + 1) (upd K used (some n)) (upd V used x) := by
 refine ⟨fun i hi hK => ?_, fun i j m hi hj h1 h2 => ?_⟩
 ·unfold addW put
  rw [if_neg (by omega)]
  by_cases e1 : i = used
  ·subst e1; rw [upd_at, setE_val]
  ·rw [upd_off V _ e1, setE_off (by omega) (by omega)]
   rw [upd_off K _ e1] at hK
   exact h.val i (by omega) hK
 ·by_cases e1 : i = used
  ·by_cases e2 : j = used
   ·rw [e1, e2]
   ·rw [e1, upd_at] at h1
    rw [upd_off K _ e2] at h2
    cases h1
    exact absurd rfl (hne j n (by omega) h2)
  ·rw [upd_off K _ e1] at h1
   by_cases e2 : j = used
   ·rw [e2, upd_at] at h2
    cases h2
    exact absurd rfl (hne i n (by omega) h1)
   ·rw [upd_off K _ e2] at h2
    exact h.uniq i j m (by omega) (by omega) h1 h2
theorem Dic.add {used : Nat} {K : Nat → Option Int} {V : Nat → Nat} {n : Int} {x : Nat} (m : Int) (v : Nat) : Dic (used + 1) (upd K used (some n)) (upd V used x) m v ↔ (m = n ∧ v = x) ∨ Dic used K V m v := by
 constructor
 ·rintro ⟨i, hi, h1, h2⟩
  by_cases e1 : i = used
  ·subst e1
   rw [upd_at] at h1 h2
   cases h1
   exact .inl ⟨rfl, h2.symm⟩
  ·rw [upd_off K _ e1] at h1
   rw [upd_off V _ e1] at h2
   exact .inr ⟨i, by omega, h1, h2⟩
 ·rintro (⟨rfl, rfl⟩ | ⟨i, hi, h1, h2⟩)
  ·exact ⟨used, Nat.lt_succ_self _, upd_at _ _ _, upd_at _ _ _⟩
  ·exact ⟨i, by omega, by rw [upd_off K _ (by omega)]; exact h1, by rw [upd_off V _ (by omega)]; exact h2⟩
end
noncomputable section
variable {X : FuncId → List Value → Mem → Option (Value × Mem)}
structure TS (μ : Mem) (sp hp ap wb lb : Nat) (ws : Nat → Nat) (p : Pos) (b s tq cnt used e ix room places : Nat) (I : Nat → Int) (K : Nat → Option Int) (V : Nat → Nat) : Prop where
 hs : SP μ sp hp ap wb lb 51200 3200 ws p
 rom : Rom μ
 gp : Gp p b s
 tw : TW ws tq cnt used e ix room places
 tl : TL ws e ix room places used I K
 td : TD ws e used K V
 nf : ∀ k, (tq ≤ k ∧ k ≤ tq + 4) ∨ (e ≤ k ∧ k ≤ e + 2 * room) ∨ (ix ≤ k ∧ k ≤ ix + places) → ¬ Free p k
 ck : kc K used = cnt
 rp : RP room places
 r5 : 5 ≠ ap ∧ 5 ≠ wb ∧ 5 ≠ lb
theorem TS.grow {μ μ' : Mem} {sp hp ap wb lb : Nat} {ws : Nat → Nat} {p : Pos} {b s tq cnt used e ix room places : Nat} {I : Nat → Int} {K : Nat → Option Int} {V : Nat → Nat} (h : TS μ sp hp ap wb lb ws p b s tq cnt used e ix room places I K V) (g : Grow μ μ') : TS μ' sp hp ap wb lb ws p b s tq cnt used e ix room places I K V :=
 ⟨h.hs.grow g, h.rom.grow g, h.gp, h.tw, h.tl, h.td, h.nf, h.ck, h.rp, h.r5⟩
set_option maxRecDepth 20000 in
set_option maxHeartbeats 8000000 in
theorem ref_ends {g sp hp ap wb lb b s tq cnt used e ix room places w h : Nat} {ws : Nat → Nat} {p : Pos} {I : Nat → Int} {K : Nat → Option Int} {V : Nat → Nat} {μ : Mem} (hg : 3000 ≤ g) (hT : TS μ sp hp ap wb lb ws p b s tq cnt used e ix room places I K V) (hk : Key ws 51200 w h) :
  EndsF (aFun Tryz.prog (aCode Tryz.prog X S0 g) 15 [.pointer (some ⟨sp, 0, none⟩), .int .u64 (.ofNat (placeW tq)), .int .u64 (.ofNat w)] μ) fun v μ' => Grow μ μ' ∧
   ((∃ j n, j < used ∧ K j = some n ∧ w = sw n ∧ v = .tuple #[.int .u64 (.ofNat (V j)), .bool true, .int .i64 0]) ∨ ((∀ j n, j < used → K j = some n → w ≠ sw n) ∧ v = .tuple #[.int .u64 0, .bool false, .int .i64 0])) := by
 obtain ⟨k, rfl⟩ := Nat.exists_eq_add_of_le' hg
 obtain ⟨v1, μ1, t1, vi, rfl, hvi, V1, g1⟩ := look_ends (X := X) (g := k + 2997) (by omega) hT.hs hT.tw
 obtain ⟨v2, μ2, t2, rfl, g2⟩ := sum_key (X := X) (g := k + 2996) (by omega) (hT.rom.grow g1) V1.hs hk
 have V2 := V1.grow g2
 obtain ⟨v3, μ3, t3, g3, i, pl, rfl, hF⟩ := find_ends (X := X) (g := k + 2994) (by omega) V2 hT.tl hk
 have V3 := V2.grow g3
 rcases hF with ⟨j, n, rfl, hj, hK, rfl⟩ | ⟨rfl, hne, _⟩
 ·have hjr : j < room := Nat.lt_of_lt_of_le hj hT.tl.le
  obtain ⟨v4, μ4, t4, rfl, g4⟩ := entry_eq (X := X) (g := k + 2992) (by omega) V3 hjr
  rw [hT.td.val j hj (by rw [hK]; exact fun e => by cases e)] at t4
  have e1 : ilt (.ofNat j) 0 = false := rfl
  have fin : Grow μ μ4 ∧ ((∃ j' n', j' < used ∧ K j' = some n' ∧ sw n = sw n' ∧ Value.tuple #[.int .u64 (.ofNat (V j)), .bool true, .int .i64 0] = .tuple #[.int .u64 (.ofNat (V j')), .bool true, .int .i64 0]) ∨ ((∀ j' n', j' < used → K j' = some n' → sw n ≠ sw n') ∧ Value.tuple #[.int .u64 (.ofNat (V j)), .bool true, .int .i64 0] = .tuple #[.int .u64 0, .bool false, .int .i64 0])) :=
   ⟨g1.trans (g2.trans (g3.trans g4)), .inl ⟨j, n, hj, hK, rfl, rfl⟩⟩
  obtain ⟨x, hx⟩ : ∃ x, x = ws (e + 1 + j * 2) := ⟨_, rfl⟩
  obtain ⟨y, hy⟩ : ∃ y, y = V j := ⟨_, rfl⟩
  obtain ⟨z, hz⟩ : ∃ z, z = sw n := ⟨_, rfl⟩
  rw [← hx, ← hy] at t4
  rw [← hy] at fin
  rw [← hz] at t2 t3 fin ⊢
  refine fun_enter Tryz.func15 rfl rfl (Nat.le_of_ble_eq_true rfl) ?_
  simp only [T.lay, Nat.zero_add, Tryz.ntmps15, Nat.reduceAdd]
  repeat (first | refine code_seq ?_ | ((first | (refine code_region ?_ ?_; (focus rfl)) | (refine code_guards (gs := ?_) ?_ ?_; rotate_left; (focus rfl))); simp only [run1, run2, wanted, go_sem, Nat.reduceLT, Nat.reduceAdd, Nat.reduceEqDiff, reduceIte, reduceCtorEq, gg29, t1, gg30, t2, gg31, t3, e1, gg32, t4]) | (refine code_cond_true ?_ ?_; (focus (simp only [aev, regAt_set, Nat.reduceEqDiff, reduceIte, gg29, t1, gg30, t2, gg31, t3, e1, gg32, t4]; done))) | (refine code_cond_false ?_ ?_; (focus (simp only [aev, regAt_set, Nat.reduceEqDiff, reduceIte, gg29, t1, gg30, t2, gg31, t3, e1, gg32, t4]; done))) | ((first | refine code_skip ?_ | refine code_label ?_ | refine code_exit ?_); try simp only [then_exit, then_normal, blockC, Nat.reduceEqDiff, reduceIte]) | refine code_block ?_)
  refine code_ret ?_
  refine ⟨rfl, _, ?_, fin⟩
  simp only [aResults, Tryz.results15, aRes, regAt_set, Nat.reduceEqDiff, reduceIte]
 ·have e1 : ilt (-1) 0 = true := rfl
  refine fun_enter Tryz.func15 rfl rfl (Nat.le_of_ble_eq_true rfl) ?_
  simp only [T.lay, Nat.zero_add, Tryz.ntmps15, Nat.reduceAdd]
  repeat (first | refine code_seq ?_ | ((first | (refine code_region ?_ ?_; (focus rfl)) | (refine code_guards (gs := ?_) ?_ ?_; rotate_left; (focus rfl))); simp only [run1, run2, wanted, go_sem, Nat.reduceLT, Nat.reduceAdd, Nat.reduceEqDiff, reduceIte, reduceCtorEq, gg29, t1, gg30, t2, gg31, t3, e1]) | (refine code_cond_true ?_ ?_; (focus (simp only [aev, regAt_set, Nat.reduceEqDiff, reduceIte, gg29, t1, gg30, t2, gg31, t3, e1]; done))) | (refine code_cond_false ?_ ?_; (focus (simp only [aev, regAt_set, Nat.reduceEqDiff, reduceIte, gg29, t1, gg30, t2, gg31, t3, e1]; done))) | ((first | refine code_skip ?_ | refine code_label ?_ | refine code_exit ?_); try simp only [then_exit, then_normal, blockC, Nat.reduceEqDiff, reduceIte]) | refine code_block ?_)
  refine code_ret ?_
  refine ⟨rfl, _, ?_, g1.trans (g2.trans g3), .inr ⟨hne, rfl⟩⟩
  simp only [aResults, Tryz.results15, aRes, regAt_set, Nat.reduceEqDiff, reduceIte]
set_option maxRecDepth 20000 in
set_option maxHeartbeats 8000000 in
theorem tcount_ends {g sp hp ap wb lb b s tq cnt used e ix room places : Nat} {ws : Nat → Nat} {p : Pos} {I : Nat → Int} {K : Nat → Option Int} {V : Nat → Nat} {μ : Mem} (hg : 400 ≤ g) (hT : TS μ sp hp ap wb lb ws p b s tq cnt used e ix room places I K V) :
  EndsF (aFun Tryz.prog (aCode Tryz.prog X S0 g) 14 [.pointer (some ⟨sp, 0, none⟩), .int .u64 (.ofNat (placeW tq))] μ) fun v μ' => v = .tuple #[.int .i64 (.ofNat cnt), .int .i64 0] ∧ Grow μ μ' := by
 obtain ⟨k, rfl⟩ := Nat.exists_eq_add_of_le' hg
 obtain ⟨v1, μ1, t1, vi, rfl, hvi, V1, g1⟩ := look_ends (X := X) (g := k + 397) (by omega) hT.hs hT.tw
 have c2 : cellsAt μ1 vi 2 = some (.int .i64 (.ofNat cnt)) := V1.has.cell 2 (by simp [vL])
 refine fun_enter Tryz.func14 rfl rfl (Nat.le_of_ble_eq_true rfl) ?_
 simp only [T.lay, Nat.zero_add, Tryz.ntmps14, Nat.reduceAdd]
 repeat (first | refine code_seq ?_ | ((first | (refine code_region ?_ ?_; (focus rfl)) | (refine code_guards (gs := ?_) ?_ ?_; rotate_left; (focus rfl))); simp only [run1, run2, wanted, go_sem, Nat.reduceLT, Nat.reduceAdd, Nat.reduceEqDiff, reduceIte, reduceCtorEq, gg29, t1, fa81_2, ld3, c2]) | (refine code_cond_true ?_ ?_; (focus (simp only [aev, regAt_set, Nat.reduceEqDiff, reduceIte, gg29, t1, fa81_2, ld3, c2]; done))) | (refine code_cond_false ?_ ?_; (focus (simp only [aev, regAt_set, Nat.reduceEqDiff, reduceIte, gg29, t1, fa81_2, ld3, c2]; done))) | ((first | refine code_skip ?_ | refine code_label ?_ | refine code_exit ?_); try simp only [then_exit, then_normal, blockC, Nat.reduceEqDiff, reduceIte]) | refine code_block ?_)
 refine code_ret ?_
 refine ⟨rfl, _, ?_, rfl, g1⟩
 simp only [aResults, Tryz.results14, aRes, regAt_set, Nat.reduceEqDiff, reduceIte]
end
noncomputable section
variable {X : FuncId → List Value → Mem → Option (Value × Mem)}
theorem TL.drop {ws : Nat → Nat} {e ix room places used j x : Nat} {I : Nat → Int} {K : Nat → Option Int} (h : TL ws e ix room places used I K) (hj : j < used) (hdj : e + 2 * room < ix ∨ ix + places < e) : TL (setE ws e j 45 x) e ix room places used I (upd K j none) := by
 have hle := h.le
 refine ⟨h.le, h.lt, fun q hq => ?_, h.rng, fun i hi => ?_, fun i n hi hK => ?_, fun i n hi hK => ?_, h.cnt⟩
 ·rw [setE_off (by omega) (by omega)]; exact h.idx q hq
 ·by_cases e1 : i = j
  ·subst e1; rw [setE_key, upd_at]; rfl
  ·rw [setE_off (by omega) (by omega), upd_off K _ e1]; exact h.key i hi
 ·by_cases e1 : i = j
  ·subst e1; rw [upd_at] at hK; cases hK
  ·rw [upd_off K _ e1] at hK; exact h.ksm i n hi hK
 ·by_cases e1 : i = j
  ·subst e1; rw [upd_at] at hK; cases hK
  ·rw [upd_off K _ e1] at hK; exact h.path i n hi hK
theorem TD.drop {ws : Nat → Nat} {e used j x : Nat} {K : Nat → Option Int} {V : Nat → Nat} (h : TD ws e used K V) : TD (setE ws e j 45 x) e used (upd K j none) V := by
 refine ⟨fun i hi hK => ?_, fun i i' n hi hi' h1 h2 => ?_⟩
 ·by_cases e1 : i = j
  ·subst e1; rw [upd_at] at hK; exact absurd rfl hK
  ·rw [upd_off K _ e1] at hK
   rw [setE_off (by omega) (by omega)]
   exact h.val i hi hK
 ·by_cases e1 : i = j
  ·subst e1; rw [upd_at] at h1; cases h1
  ·by_cases e2 : i' = j
   ·subst e2; rw [upd_at] at h2; cases h2
   ·rw [upd_off K _ e1] at h1
    rw [upd_off K _ e2] at h2
    exact h.uniq i i' n hi hi' h1 h2
theorem TL.st {ws : Nat → Nat} {tq cnt us e ix room places used : Nat} {I : Nat → Int} {K : Nat → Option Int} (h : TL ws e ix room places used I K) (d1 : tq + 4 < e ∨ e + 2 * room < tq) (d2 : tq + 4 < ix ∨ ix + places < tq) : TL (stW ws tq cnt us e ix) e ix room places used I K := by
 have hle := h.le
 exact ⟨h.le, h.lt, fun q hq => by rw [stW_off (by omega)]; exact h.idx q hq, h.rng, fun i hi => by rw [stW_off (by omega)]; exact h.key i hi, h.ksm, h.path, h.cnt⟩
theorem TD.st {ws : Nat → Nat} {tq cnt us e ix room used : Nat} {K : Nat → Option Int} {V : Nat → Nat} (h : TD ws e used K V) (hu : used ≤ room) (d1 : tq + 4 < e ∨ e + 2 * room < tq) : TD (stW ws tq cnt us e ix) e used K V :=
 ⟨fun i hi hK => by rw [stW_off (by omega)]; exact h.val i hi hK, h.uniq⟩
theorem stW_0 (ws : Nat → Nat) (tq cnt us e ix : Nat) : stW ws tq cnt us e ix (tq + 1 + 0) = sw (.ofNat cnt) := by unfold stW put; rw [if_neg (by omega), if_neg (by omega), if_neg (by omega), if_pos rfl]
theorem stW_1 (ws : Nat → Nat) (tq cnt us e ix : Nat) : stW ws tq cnt us e ix (tq + 1 + 1) = sw (.ofNat us) := by unfold stW put; rw [if_neg (by omega), if_neg (by omega), if_pos rfl]
theorem stW_2 (ws : Nat → Nat) (tq cnt us e ix : Nat) : stW ws tq cnt us e ix (tq + 1 + 2) = placeW e := by unfold stW put; rw [if_neg (by omega), if_pos rfl]
theorem stW_3 (ws : Nat → Nat) (tq cnt us e ix : Nat) : stW ws tq cnt us e ix (tq + 1 + 3) = placeW ix := by unfold stW put; rw [if_pos rfl]
theorem TW.st {ws ws' : Nat → Nat} {tq cnt used e ix room places cnt' us' e' ix' room' places' : Nat} (h : TW ws tq cnt used e ix room places) (ht : ws' tq = headW 3 0 4) (he : ws' e' = headW 1 0 (2 * room')) (hi : ws' ix' = headW 1 0 places') (re : e' + 2 * room' < 51200) (ri : ix' + places' < 51200) (r1 : room' ≤ 100) (r2 : places' ≤ 128) (r3 : 0 < places')
  (dj : e' + 2 * room' < ix' ∨ ix' + places' < e') (d1 : tq + 4 < e' ∨ e' + 2 * room' < tq) (d2 : tq + 4 < ix' ∨ ix' + places' < tq) (hc : cnt' < 1000) (hu : us' < 1000) : TW (stW ws' tq cnt' us' e' ix') tq cnt' us' e' ix' room' places' :=
 ⟨by rw [stW_off (by omega)]; exact ht, stW_0 .., stW_1 .., stW_2 .., stW_3 .., by rw [stW_off (by omega)]; exact he, by rw [stW_off (by omega)]; exact hi, h.rt, re, ri, r1, r2, r3, dj, d1, d2, hc, hu⟩
theorem Rom.wr {μ μ' : Mem} {wb : Nat} (h : Rom μ) (hw : 5 ≠ wb) (g : Wr μ μ' wb) : Rom μ' :=
 ⟨Nat.lt_of_lt_of_le h.lt g.1, fun k hk => by rw [← h.at_ k hk]; unfold cellsAt; rw [g.2 _ h.lt hw]⟩
theorem Wv.rom {μ μ' : Mem} {wb vi : Nat} (h : Rom μ) (hw : 5 ≠ wb) (hv : 5 ≠ vi) (g : Wv μ μ' wb vi) : Rom μ' :=
 ⟨Nat.lt_of_lt_of_le h.lt g.1, fun k hk => by rw [← h.at_ k hk]; unfold cellsAt; rw [g.2 _ h.lt hw hv]⟩
theorem Wv.keeps {μ μ0 μ' : Mem} {ap wb lb vi : Nat} (g0 : Grow μ μ0) (hv : μ.next ≤ vi) (g : Wv μ0 μ' wb vi) : Keeps μ μ' ap wb lb :=
 ⟨Nat.le_trans g0.1 g.1, fun i hi _ h2 _ => (g.2 i (Nat.lt_of_lt_of_le hi g0.1) h2 (by omega)).trans (g0.2 i hi)⟩
set_option maxRecDepth 20000 in
set_option maxHeartbeats 16000000 in
theorem del_ends {g sp hp ap wb lb b s tq cnt used e ix room places w h : Nat} {ws : Nat → Nat} {p : Pos} {I : Nat → Int} {K : Nat → Option Int} {V : Nat → Nat} {μ : Mem} (hg : 3000 ≤ g) (hT : TS μ sp hp ap wb lb ws p b s tq cnt used e ix room places I K V) (hk : Key ws 51200 w h) :
  EndsF (aFun Tryz.prog (aCode Tryz.prog X S0 g) 13 [.pointer (some ⟨sp, 0, none⟩), .int .u64 (.ofNat (placeW tq)), .int .u64 (.ofNat w)] μ) fun v μ' =>
   (∃ j n ws', j < used ∧ K j = some n ∧ w = sw n ∧ v = .tuple #[.bool true, .int .i64 0] ∧ Keeps μ μ' ap wb lb ∧ 0 < cnt ∧ TS μ' sp hp ap wb lb ws' p b s tq (cnt - 1) used e ix room places I (upd K j none) V) ∨
   ((∀ j n, j < used → K j = some n → w ≠ sw n) ∧ v = .tuple #[.bool false, .int .i64 0] ∧ Grow μ μ') := by
 obtain ⟨k, rfl⟩ := Nat.exists_eq_add_of_le' hg
 obtain ⟨v1, μ1, t1, vi, rfl, hvi, V1, g1⟩ := look_ends (X := X) (g := k + 2997) (by omega) hT.hs hT.tw
 obtain ⟨v2, μ2, t2, rfl, g2⟩ := sum_key (X := X) (g := k + 2996) (by omega) (hT.rom.grow g1) V1.hs hk
 have V2 := V1.grow g2
 obtain ⟨v3, μ3, t3, g3, i, pl, rfl, hF⟩ := find_ends (X := X) (g := k + 2994) (by omega) V2 hT.tl hk
 have V3 := V2.grow g3
 have g13 := g1.trans (g2.trans g3)
 have hW := hT.tw
 rcases hF with ⟨j, n, rfl, hj, hK, rfl⟩ | ⟨rfl, hne, _⟩
 ·have hjr : j < room := Nat.lt_of_lt_of_le hj hT.tl.le
  have e1 : ilt (.ofNat j) 0 = false := rfl
  have hsi : ∀ g, 40 ≤ g → aFun Tryz.prog (aCode Tryz.prog X S0 g) 18 [.int .i64 5] μ3 = some (.int .u64 (.ofNat 45), μ3) := fun g hg => single_eq hg
  obtain ⟨v4, μ4, t4, V4, w4⟩ := vput_ends (X := X) (g := k + 2992) (i := j) (kw := 45) (x := 45) (by omega) V3 hjr
  have hcp : 0 < cnt := by
   rw [← hT.ck]
   have := kc_drop K j (by rw [hK]; exact fun e => by cases e) used hj
   omega
  have f2 : cellsAt μ4 vi 2 = some (.int .i64 (.ofNat cnt)) := V4.has.cell 2 (by simp [vL])
  have s2 := store_put (P := Tryz.prog) (t := 3) (v := .int .i64 (.ofNat (cnt - 1))) i3 rfl rfl V4.blk (show 2 < 8 by decide)
  have V5 := V4.field 2 (.int .i64 (.ofNat (cnt - 1))) (t' := placeW tq) (cnt' := cnt - 1) (used' := used) (by decide) rfl
  have e2 : qwrap .i64 (Int.sub (.ofNat cnt) 1) = .ofNat (cnt - 1) := sub_nat cnt 1 (by omega) (by have := hW.c1; omega)
  have hht : setE ws e j 45 45 tq = headW 3 0 4 := by rw [setE_off (by have := hW.d1; omega) (by have := hW.d1; omega)]; exact hW.ht
  obtain ⟨v6, μ6, t6, V6, w6⟩ := store_ends (X := X) (g := k + 2990) (by omega) V5 hht hW.rt (by have := hW.d1; omega) (by have := hW.d2; omega) (by have := hW.c1; omega) hW.u1
  have hwv : Wv μ3 μ6 wb vi := (Wv.of vi w4).trans ((Wv.put μ4 wb vi 2 [.int .i64 (.ofNat (cnt - 1))]).trans (Wv.of vi w6))
  have r5v : 5 ≠ vi := by have := hT.rom.lt; omega
  have fin : TS μ6 sp hp ap wb lb (stW (setE ws e j 45 45) tq (cnt - 1) used e ix) p b s tq (cnt - 1) used e ix room places I (upd K j none) V :=
   ⟨V6.hs, Wv.rom (hT.rom.grow g13) hT.r5.2.1 r5v hwv, hT.gp, hW.st hht V5.he V5.hi hW.re hW.ri hW.r1 hW.r2 hW.r3 hW.dj hW.d1 hW.d2 (by have := hW.c1; omega) hW.u1, (hT.tl.drop hj hW.dj).st hW.d1 hW.d2, hT.td.drop.st hT.tl.le hW.d1, hT.nf, by
    have := kc_drop K j (by rw [hK]; exact fun e => by cases e) used hj
    rw [hT.ck] at this; omega, hT.rp, hT.r5⟩
  have hkp : Keeps μ μ6 ap wb lb := Wv.keeps g13 hvi hwv
  have fin2 := And.intro hkp (And.intro hcp fin)
  obtain ⟨z, hz⟩ : ∃ z, z = sw n := ⟨_, rfl⟩
  rw [← hz] at t2 t3 ⊢
  refine fun_enter Tryz.func13 rfl rfl (Nat.le_of_ble_eq_true rfl) ?_
  simp only [T.lay, Nat.zero_add, Tryz.ntmps13, Nat.reduceAdd]
  repeat (first | refine code_seq ?_ | ((first | (refine code_region ?_ ?_; (focus rfl)) | (refine code_guards (gs := ?_) ?_ ?_; rotate_left; (focus rfl))); simp only [run1, run2, wanted, go_sem, Nat.reduceLT, Nat.reduceAdd, Nat.reduceEqDiff, reduceIte, reduceCtorEq, gg29, t1, gg30, t2, gg31, t3, e1, gg18, hsi, Nat.reduceLeDiff, gg33, t4, fa81_2, ld3, f2, e2, s2, gg36, t6]) | (refine code_cond_true ?_ ?_; (focus (simp only [aev, regAt_set, Nat.reduceEqDiff, reduceIte, gg29, t1, gg30, t2, gg31, t3, e1, gg18, hsi, Nat.reduceLeDiff, gg33, t4, fa81_2, ld3, f2, e2, s2, gg36, t6]; done))) | (refine code_cond_false ?_ ?_; (focus (simp only [aev, regAt_set, Nat.reduceEqDiff, reduceIte, gg29, t1, gg30, t2, gg31, t3, e1, gg18, hsi, Nat.reduceLeDiff, gg33, t4, fa81_2, ld3, f2, e2, s2, gg36, t6]; done))) | ((first | refine code_skip ?_ | refine code_label ?_ | refine code_exit ?_); try simp only [then_exit, then_normal, blockC, Nat.reduceEqDiff, reduceIte]) | refine code_block ?_)
  refine code_ret ?_
  refine ⟨rfl, _, ?_, .inl ⟨j, n, _, hj, hK, hz, rfl, fin2⟩⟩
  simp only [aResults, Tryz.results13, aRes, regAt_set, Nat.reduceEqDiff, reduceIte]
 ·have e1 : ilt (-1) 0 = true := rfl
  refine fun_enter Tryz.func13 rfl rfl (Nat.le_of_ble_eq_true rfl) ?_
  simp only [T.lay, Nat.zero_add, Tryz.ntmps13, Nat.reduceAdd]
  repeat (first | refine code_seq ?_ | ((first | (refine code_region ?_ ?_; (focus rfl)) | (refine code_guards (gs := ?_) ?_ ?_; rotate_left; (focus rfl))); simp only [run1, run2, wanted, go_sem, Nat.reduceLT, Nat.reduceAdd, Nat.reduceEqDiff, reduceIte, reduceCtorEq, gg29, t1, gg30, t2, gg31, t3, e1]) | (refine code_cond_true ?_ ?_; (focus (simp only [aev, regAt_set, Nat.reduceEqDiff, reduceIte, gg29, t1, gg30, t2, gg31, t3, e1]; done))) | (refine code_cond_false ?_ ?_; (focus (simp only [aev, regAt_set, Nat.reduceEqDiff, reduceIte, gg29, t1, gg30, t2, gg31, t3, e1]; done))) | ((first | refine code_skip ?_ | refine code_label ?_ | refine code_exit ?_); try simp only [then_exit, then_normal, blockC, Nat.reduceEqDiff, reduceIte]) | refine code_block ?_)
  refine code_ret ?_
  refine ⟨rfl, _, ?_, .inr ⟨hne, rfl, g13⟩⟩
  simp only [aResults, Tryz.results13, aRes, regAt_set, Nat.reduceEqDiff, reduceIte]
end
noncomputable section
variable {X : FuncId → List Value → Mem → Option (Value × Mem)}
theorem VW.other {μ μ' : Mem} {vi vo sp hp ap wb lb : Nat} {ws ws' : Nat → Nat} {p : Pos} {t cnt used e ix room places : Nat} (h : VW μ vi sp hp ap wb lb ws p t cnt used e ix room places) (g : Wv μ μ' wb vo) (hne : vi ≠ vo) (hs : SP μ' sp hp ap wb lb 51200 3200 ws' p) (h1 : ws' e = ws e) (h2 : ws' ix = ws ix) : VW μ' vi sp hp ap wb lb ws' p t cnt used e ix room places :=
 ⟨hs, h.has.keep (g.2 vi h.vn h.v2 hne), h.blk.of_get (g.2 vi h.vn h.v2 hne), Nat.lt_of_lt_of_le h.vn g.1, h.v1, h.v2, h.v3, h.v4, h.v5, h.dj, h1.trans h.he, h2.trans h.hi, h.re, h.ri, h.r1, h.r2⟩
theorem Wv.grow {a b : Mem} (wb vi : Nat) (h : Grow a b) : Wv a b wb vi := ⟨h.1, fun j h1 _ _ => h.2 j h1⟩
structure Old (ws0 : Nat → Nat) (e ix room places used : Nat) (I : Nat → Int) (K : Nat → Option Int) (V : Nat → Nat) : Prop where
 tl : TL ws0 e ix room places used I K
 td : TD ws0 e used K V
structure Cp (μ0 μ : Mem) (vi vo sp hp ap wb lb : Nat) (ws0 ws : Nat → Nat) (p : Pos) (t cnt used e ix room places i u e' ix' room' places' : Nat) (K : Nat → Option Int) (V : Nat → Nat) (I' : Nat → Int) (K' : Nat → Option Int) (V' : Nat → Nat) : Prop where
 old : VW μ vi sp hp ap wb lb ws p t cnt used e ix room places
 new : VW μ vo sp hp ap wb lb ws p t u u e' ix' room' places'
 tl : TL ws e' ix' room' places' u I' K'
 td : TD ws e' u K' V'
 dic : ∀ n v, Dic u K' V' n v ↔ Dic i K V n v
 kc1 : kc K' u = u
 kc2 : kc K i = u
 same : ∀ q, (q < e' ∨ e' + 2 * room' < q) → (q < ix' ∨ ix' + places' < q) → ws q = ws0 q
 rom : Rom μ
 wv : Wv μ0 μ wb vo
theorem kc_mono (K : Nat → Option Int) {i j : Nat} (h : i ≤ j) : kc K i ≤ kc K j := by
 induction j with
 | zero => have : i = 0 := by omega
           subst this; exact Nat.le_refl _
 | succ j ih =>
   by_cases e : i = j + 1
   ·subst e; exact Nat.le_refl _
   ·have := ih (by omega)
    have h2 : kc K (j + 1) = kc K j + if K j = none then 0 else 1 := rfl
    rw [h2]
    omega
theorem TL.congr {ws ws' : Nat → Nat} {e ix room places used : Nat} {I : Nat → Int} {K : Nat → Option Int} (h : TL ws e ix room places used I K) (hq : ∀ q, (e ≤ q ∧ q ≤ e + 2 * room) ∨ (ix ≤ q ∧ q ≤ ix + places) → ws' q = ws q) : TL ws' e ix room places used I K := by
 have hle := h.le
 exact ⟨h.le, h.lt, fun q hq' => by rw [hq _ (by omega)]; exact h.idx q hq', h.rng, fun i hi => by rw [hq _ (by omega)]; exact h.key i hi, h.ksm, h.path, h.cnt⟩
theorem TD.congr {ws ws' : Nat → Nat} {e room used : Nat} {K : Nat → Option Int} {V : Nat → Nat} (h : TD ws e used K V) (hu : used ≤ room) (hq : ∀ q, e ≤ q ∧ q ≤ e + 2 * room → ws' q = ws q) : TD ws' e used K V :=
 ⟨fun i hi hK => by rw [hq _ (by omega)]; exact h.val i hi hK, h.uniq⟩
set_option maxRecDepth 20000 in
set_option maxHeartbeats 16000000 in
theorem copy_loop {vi vo sp hp ap wb lb t cnt used e ix room places e' ix' room' places' : Nat} {ws0 : Nat → Nat} {p : Pos} {I : Nat → Int} {K : Nat → Option Int} {V : Nat → Nat} {μ0 : Mem} (ho : Old ws0 e ix room places used I K V) (hvo : μ0.next ≤ vo ∨ True) (hne : vi ≠ vo) (r5w : 5 ≠ wb) (r5v : 5 ≠ vo)
  (hr : kc K used ≤ room') (hp' : kc K used + 1 < places') (d1 : e + 2 * room < e' ∨ e' + 2 * room' < e) (d2 : e + 2 * room < ix' ∨ ix' + places' < e) (d3 : ix + places < e' ∨ e' + 2 * room' < ix) (d4 : ix + places < ix' ∨ ix' + places' < ix) :
  ∀ (m x i : Nat) (tm : T Value) (μ : Mem) (ws : Nat → Nat) (u : Nat) (I' : Nat → Int) (K' : Nat → Option Int) (V' : Nat → Nat), i + m = used → Cp μ0 μ vi vo sp hp ap wb lb ws0 ws p t cnt used e ix room places i u e' ix' room' places' K V I' K' V' →
   regAt tm 0 = .pointer (some ⟨vi, 0, none⟩) → regAt tm 9 = .pointer (some ⟨vo, 0, none⟩) → regAt tm 80 = .int .i64 (.ofNat used) → regAt tm 81 = .int .i64 (.ofNat i) →
   EndsC (aCode Tryz.prog X S0 (x + m + 3000) (.loop (loopBody Tryz.f34 0)) ⟨116, tm, [], none⟩ μ) fun a r μ' => a = .exit 0 ∧ (∃ tm', r = ⟨116, tm', [], none⟩ ∧ regAt tm' 9 = .pointer (some ⟨vo, 0, none⟩)) ∧
    ∃ ws' I2 K2 V2, Cp μ0 μ' vi vo sp hp ap wb lb ws0 ws' p t cnt used e ix room places used (kc K used) e' ix' room' places' K V I2 K2 V2 := by
 intro m
 induction m with
 | zero =>
   intro x i tm μ ws u I' K' V' hi C r0 r9 r80 r81
   obtain rfl : i = used := hi
   have e1 : ilt (.ofNat i) (.ofNat i) = false := (ilt_nat i i).trans (decide_eq_false (by omega))
   obtain rfl := C.kc2
   refine code_loop ?_
   repeat (first | refine code_seq ?_ | ((first | (refine code_region ?_ ?_; (focus rfl)) | (refine code_guards (gs := ?_) ?_ ?_; rotate_left; (focus rfl))); simp only [run1, run2, wanted, go_sem, Nat.reduceLT, Nat.reduceAdd, Nat.reduceEqDiff, reduceIte, reduceCtorEq, r80, r81, e1]) | (refine code_cond_true ?_ ?_; (focus (simp only [aev, regAt_set, Nat.reduceEqDiff, reduceIte, r80, r81, e1]; done))) | (refine code_cond_false ?_ ?_; (focus (simp only [aev, regAt_set, Nat.reduceEqDiff, reduceIte, r80, r81, e1]; done))) | ((first | refine code_skip ?_ | refine code_label ?_ | refine code_exit ?_); try simp only [then_exit, then_normal, blockC, Nat.reduceEqDiff, reduceIte]) | refine code_block ?_)
   refine ⟨trivial, ⟨_, rfl, ?_⟩, ws, I', K', V', C⟩
   simp only [regAt_set, Nat.reduceEqDiff, reduceIte, r9]
 | succ m ih =>
   intro x i tm μ ws u I' K' V' hi C r0 r9 r80 r81
   have hle := ho.tl.le
   have hr1 := C.old.r1
   have e1 : ilt (.ofNat i) (.ofNat used) = true := (ilt_nat i used).trans (decide_eq_true (by omega))
   have e5 : qwrap .i64 (Int.add (.ofNat i) 1) = .ofNat (i + 1) := add_nat i 1 (by omega)
   obtain ⟨v1, μ1, t1, rfl, g1⟩ := entry_eq (X := X) (g := x + m + 2993) (i := i) (by omega) C.old (by omega)
   rw [C.same (e + 1 + i * 2) (by omega) (by omega), C.same (e + 1 + (i * 2 + 1)) (by omega) (by omega), ho.tl.key i (by omega)] at t1
   have hsi : ∀ g, 40 ≤ g → aFun Tryz.prog (aCode Tryz.prog X S0 g) 18 [.int .i64 5] μ1 = some (.int .u64 (.ofNat 45), μ1) := fun g hg => single_eq hg
   have hF : 40 ≤ x + m + 2991 := by omega
   have g1w : Wv μ μ1 wb vo := Wv.grow wb vo g1
   cases hK : K i with
   | none =>
     rw [hK] at t1
     obtain ⟨y, hy⟩ : ∃ y, y = ws0 (e + 1 + (i * 2 + 1)) := ⟨_, rfl⟩
     have t1 : aFun Tryz.prog (aCode Tryz.prog X S0 (x + m + 2993)) 32 [.pointer (some ⟨vi, 0, none⟩), .int .i64 (.ofNat i)] μ = some (.tuple #[.int .u64 (.ofNat 45), .int .u64 (.ofNat y)], μ1) := by rw [hy]; exact t1
     have e6 : ieq (.ofNat 45) (.ofNat 45) = true := rfl
     have C' : Cp μ0 μ1 vi vo sp hp ap wb lb ws0 ws p t cnt used e ix room places (i + 1) u e' ix' room' places' K V I' K' V' :=
      ⟨C.old.grow g1, C.new.grow g1, C.tl, C.td, fun n v => (C.dic n v).trans ⟨fun ⟨j, h1, h2, h3⟩ => ⟨j, by omega, h2, h3⟩, fun ⟨j, h1, h2, h3⟩ => ⟨j, by
       have : j ≠ i := fun e => by rw [e, hK] at h2; cases h2
       omega, h2, h3⟩⟩, C.kc1, by show kc K i + _ = u; rw [if_pos hK]; exact C.kc2, C.same, C.rom.grow g1, C.wv.trans g1w⟩
     refine code_loop ?_
     rw [show x + (m + 1) + 2999 = x + m + 3000 from by omega]
     repeat (first | refine code_seq ?_ | ((first | (refine code_region ?_ ?_; (focus rfl)) | (refine code_guards (gs := ?_) ?_ ?_; rotate_left; (focus rfl))); simp only [run1, run2, wanted, go_sem, Nat.reduceLT, Nat.reduceAdd, Nat.reduceEqDiff, reduceIte, reduceCtorEq, r80, r81, e1, r0, gg32, t1, gg18, hsi, hF, e6, e5]) | (refine code_cond_true ?_ ?_; (focus (simp only [aev, regAt_set, Nat.reduceEqDiff, reduceIte, r80, r81, e1, r0, gg32, t1, gg18, hsi, hF, e6, e5]; done))) | (refine code_cond_false ?_ ?_; (focus (simp only [aev, regAt_set, Nat.reduceEqDiff, reduceIte, r80, r81, e1, r0, gg32, t1, gg18, hsi, hF, e6, e5]; done))) | ((first | refine code_skip ?_ | refine code_label ?_ | refine code_exit ?_); try simp only [then_exit, then_normal, blockC, Nat.reduceEqDiff, reduceIte]) | refine code_block ?_)
     refine ih x (i + 1) _ μ1 ws u I' K' V' (by omega) C' ?_ ?_ ?_ ?_ <;> simp only [regAt_set, Nat.reduceEqDiff, reduceIte, r0, r9, r80]
   | some n =>
     have hn := ho.tl.ksm i n (by omega) hK
     rw [hK, ho.td.val i (by omega) (by rw [hK]; exact fun e => by cases e)] at t1
     have t1 : aFun Tryz.prog (aCode Tryz.prog X S0 (x + m + 2993)) 32 [.pointer (some ⟨vi, 0, none⟩), .int .i64 (.ofNat i)] μ = some (.tuple #[.int .u64 (.ofNat (sw n)), .int .u64 (.ofNat (V i))], μ1) := t1
     have e6 : ieq (.ofNat (sw n)) (.ofNat 45) = false := (ieq_nat _ _).trans (decide_eq_false (sw_ne45 n))
     have hkey : Key ws 51200 (sw n) (hashI n) := .inl ⟨n, hn, rfl, rfl⟩
     have O1 := C.old.grow g1
     have c0 : cellsAt μ1 vi 0 = some (.pointer (some ⟨sp, 0, none⟩)) := O1.has.cell 0 (by simp [vL])
     obtain ⟨v2, μ2, t2, rfl, g2⟩ := sum_key (X := X) (g := x + m + 2991) (by omega) (C.rom.grow g1) O1.hs hkey
     have N2 := (C.new.grow g1).grow g2
     obtain ⟨v3, μ3, t3, g3, ii, pp, rfl, hFd⟩ := find_ends (X := X) (g := x + m + 2990) (by omega) N2 C.tl hkey
     have N3 := N2.grow g3
     have g13 := g1.trans (g2.trans g3)
     have hno : ∀ j n', j < u → K' j = some n' → n' ≠ n := fun j n' hj hK' e => by
      subst e
      obtain ⟨i', h1, h2, h3⟩ := (C.dic n' (V' j)).1 ⟨j, hj, hK', rfl⟩
      have := ho.td.uniq i' i n' (by omega) (by omega) h2 hK
      omega
     obtain ⟨rfl, d, hd, rfl, hI, hbf⟩ : ii = -1 ∧ ∃ d, d < places' ∧ pp = .ofNat ((hashI n % places' + d) % places') ∧ I' ((hashI n % places' + d) % places') = -1 ∧ ∀ d', d' < d → I' ((hashI n % places' + d') % places') ≠ -1 := by
      rcases hFd with ⟨j, n', rfl, hj, hK', e⟩ | ⟨e1, _, e2⟩
      ·exact absurd (sw_inj hn (C.tl.ksm j n' hj hK') e).symm (hno j n' hj hK')
      ·exact ⟨e1, e2⟩
     obtain ⟨pl, hpl⟩ : ∃ pl, pl = (hashI n % places' + d) % places' := ⟨_, rfl⟩
     rw [← hpl] at t3 hI
     have hku : kc K (i + 1) = u + 1 := by show kc K i + _ = u + 1; rw [if_neg (by rw [hK]; exact fun e => by cases e), C.kc2]
     have hum : u + 1 ≤ kc K used := by rw [← hku]; exact kc_mono K (by omega)
     have hpl2 : pl < places' := by rw [hpl]; exact Nat.mod_lt _ (by omega)
     have hu1 := N3.r1
     obtain ⟨v4, μ4, t4, N4, w4⟩ := add_ends (X := X) (g := x + m + 2990) (kw := sw n) (x := V i) (by omega) N3 (by omega) hpl2 (by omega)
     have hoff : ∀ q, (q < e' ∨ e' + 2 * room' < q) → (q < ix' ∨ ix' + places' < q) → addW ws e' ix' u pl (sw n) (V i) q = ws q := fun q h1 h2 => by
      unfold addW put
      rw [if_neg (by omega), setE_off (by omega) (by omega)]
     have O4 := (C.old.grow g13).other w4 hne N4.hs (hoff e (by omega) (by omega)) (hoff ix (by omega) (by omega))
     have C' : Cp μ0 μ4 vi vo sp hp ap wb lb ws0 (addW ws e' ix' u pl (sw n) (V i)) p t cnt used e ix room places (i + 1) (u + 1) e' ix' room' places' K V (upd I' pl (.ofNat u)) (upd K' u (some n)) (upd V' u (V i)) := by
      refine ⟨O4, N4, C.tl.add hn (by omega) (by omega) N3.dj hd hpl hI hbf, C.td.add (by omega) hpl2 N3.dj hno, fun m' v => ?_, ?_, hku, fun q h1 h2 => (hoff q h1 h2).trans (C.same q h1 h2), Wv.rom (C.rom.grow g13) r5w r5v w4, (C.wv.trans (Wv.grow wb vo g13)).trans w4⟩
      ·rw [Dic.add]
       constructor
       ·rintro (⟨rfl, rfl⟩ | h)
        ·exact ⟨i, Nat.lt_succ_self _, hK, rfl⟩
        ·obtain ⟨j, h1, h2, h3⟩ := (C.dic m' v).1 h
         exact ⟨j, by omega, h2, h3⟩
       ·rintro ⟨j, h1, h2, h3⟩
        by_cases e : j = i
        ·subst e
         rw [hK] at h2
         cases h2
         exact .inl ⟨rfl, h3.symm⟩
        ·exact .inr ((C.dic m' v).2 ⟨j, by omega, h2, h3⟩)
      ·show kc (upd K' u (some n)) u + _ = u + 1
       rw [kc_upd_out K' u _ u (Nat.le_refl _), C.kc1, upd_at, if_neg (fun e => by cases e)]
     obtain ⟨z, hz⟩ : ∃ z, z = sw n := ⟨_, rfl⟩
     obtain ⟨y, hy⟩ : ∃ y, y = V i := ⟨_, rfl⟩
     obtain ⟨hh, hhe⟩ : ∃ z, z = hashI n := ⟨_, rfl⟩
     rw [← hz, ← hy] at t1 t4
     rw [← hz] at t2 t3 e6
     rw [← hhe] at t2 t3
     refine code_loop ?_
     rw [show x + (m + 1) + 2999 = x + m + 3000 from by omega]
     repeat (first | refine code_seq ?_ | ((first | (refine code_region ?_ ?_; (focus rfl)) | (refine code_guards (gs := ?_) ?_ ?_; rotate_left; (focus rfl))); simp only [run1, run2, wanted, go_sem, Nat.reduceLT, Nat.reduceAdd, Nat.reduceEqDiff, reduceIte, reduceCtorEq, r80, r81, e1, r0, r9, gg32, t1, gg18, hsi, hF, e6, fa81_0, Nat.add_zero, ld24, c0, gg30, t2, gg31, t3, gg35, t4, e5]) | (refine code_cond_true ?_ ?_; (focus (simp only [aev, regAt_set, Nat.reduceEqDiff, reduceIte, r80, r81, e1, r0, r9, gg32, t1, gg18, hsi, hF, e6, fa81_0, Nat.add_zero, ld24, c0, gg30, t2, gg31, t3, gg35, t4, e5]; done))) | (refine code_cond_false ?_ ?_; (focus (simp only [aev, regAt_set, Nat.reduceEqDiff, reduceIte, r80, r81, e1, r0, r9, gg32, t1, gg18, hsi, hF, e6, fa81_0, Nat.add_zero, ld24, c0, gg30, t2, gg31, t3, gg35, t4, e5]; done))) | ((first | refine code_skip ?_ | refine code_label ?_ | refine code_exit ?_); try simp only [then_exit, then_normal, blockC, Nat.reduceEqDiff, reduceIte]) | refine code_block ?_)
     refine ih x (i + 1) _ μ4 _ (u + 1) _ _ _ (by omega) C' ?_ ?_ ?_ ?_ <;> simp only [regAt_set, Nat.reduceEqDiff, reduceIte, r0, r9, r80]
end
noncomputable section
variable {X : FuncId → List Value → Mem → Option (Value × Mem)}
theorem disj {a m b n : Nat} (h : ∀ k, a ≤ k → k ≤ a + m → b ≤ k → k ≤ b + n → False) : a + m < b ∨ b + n < a := by
 by_cases c : a ≤ b
 ·exact .inl (Nat.lt_of_not_le fun hh => h b c hh (Nat.le_refl _) (Nat.le_add_right _ _))
 ·exact .inr (Nat.lt_of_not_le fun hh => h a (Nat.le_refl _) (Nat.le_add_right _ _) (by omega) hh)
def nR (room : Nat) : Nat := if 100 < room * 2 then 100 else room * 2
def nP (places : Nat) : Nat := if 128 < places * 2 then 128 else places * 2
theorem RP.next {room places : Nat} (h : RP room places) : RP (nR room) (nP places) ∧ (room < nR room ∨ room = 100) ∧ (room = 100 → nR room = 100) := by
 rcases h with ⟨rfl, rfl⟩ | ⟨rfl, rfl⟩ | ⟨rfl, rfl⟩ | ⟨rfl, rfl⟩ | ⟨rfl, rfl⟩ <;> (unfold RP nR nP; decide)
theorem min_nR (room : Nat) : (if (100 : Int) < Int.ofNat (room * 2) then (100 : Int) else Int.ofNat (room * 2)) = .ofNat (nR room) := by
 unfold nR
 by_cases h : 100 < room * 2
 ·rw [if_pos h, if_pos (by show (100 : Int) < ((room * 2 : Nat) : Int); omega)]; rfl
 ·rw [if_neg h, if_neg (by show ¬ (100 : Int) < ((room * 2 : Nat) : Int); omega)]
theorem min_nP (places : Nat) : (if (128 : Int) < Int.ofNat (places * 2) then (128 : Int) else Int.ofNat (places * 2)) = .ofNat (nP places) := by
 unfold nP
 by_cases h : 128 < places * 2
 ·rw [if_pos h, if_pos (by show (128 : Int) < ((places * 2 : Nat) : Int); omega)]; rfl
 ·rw [if_neg h, if_neg (by show ¬ (128 : Int) < ((places * 2 : Nat) : Int); omega)]
theorem VW.keeps {μ μ' : Mem} {vi sp hp ap wb lb : Nat} {ws ws' : Nat → Nat} {p p' : Pos} {t cnt used e ix room places : Nat} (h : VW μ vi sp hp ap wb lb ws p t cnt used e ix room places) (g : Keeps μ μ' ap wb lb) (hs : SP μ' sp hp ap wb lb 51200 3200 ws' p') (h1 : ws' e = ws e) (h2 : ws' ix = ws ix) : VW μ' vi sp hp ap wb lb ws' p' t cnt used e ix room places :=
 ⟨hs, h.has.keep (g.2 vi h.vn h.v1 h.v2 h.v3), h.blk.of_get (g.2 vi h.vn h.v1 h.v2 h.v3), Nat.lt_of_lt_of_le h.vn g.1, h.v1, h.v2, h.v3, h.v4, h.v5, h.dj, h1.trans h.he, h2.trans h.hi, h.re, h.ri, h.r1, h.r2⟩
theorem Rom.keeps {μ μ' : Mem} {ap wb lb : Nat} (h : Rom μ) (r : 5 ≠ ap ∧ 5 ≠ wb ∧ 5 ≠ lb) (g : Keeps μ μ' ap wb lb) : Rom μ' :=
 ⟨Nat.lt_of_lt_of_le h.lt g.1, fun k hk => by rw [← h.at_ k hk]; unfold cellsAt; rw [g.2 _ h.lt r.1 r.2.1 r.2.2]⟩
theorem occ_empty : ∀ m, occ (fun _ => -1) m = 0
 | 0 => rfl
 | m + 1 => by unfold occ; rw [occ_empty m, if_pos rfl]
theorem TL.empty {ws : Nat → Nat} {e ix room places : Nat} (hp : 0 < places) (h : ∀ q, q < places → ws (ix + 1 + q) = sw (-1)) : TL ws e ix room places 0 (fun _ => -1) (fun _ => none) :=
 ⟨Nat.zero_le _, hp, h, fun _ _ => .inl rfl, fun i hi => absurd hi (Nat.not_lt_zero _), fun i n hi => absurd hi (Nat.not_lt_zero _), fun i n hi => absurd hi (Nat.not_lt_zero _), occ_empty places⟩
structure Gr (μ μ' : Mem) (vo sp hp ap wb lb : Nat) (ws ws' : Nat → Nat) (p p' : Pos) (room b b' s tq cnt used e' ix' room' places' : Nat) (K : Nat → Option Int) (V : Nat → Nat) (I' : Nat → Int) (K' : Nat → Option Int) (V' : Nat → Nat) : Prop where
 hvo : μ.next ≤ vo
 vw : VW μ' vo sp hp ap wb lb ws' p' (placeW tq) cnt cnt e' ix' room' places'
 tl : TL ws' e' ix' room' places' cnt I' K'
 td : TD ws' e' cnt K' V'
 dic : ∀ n v, Dic cnt K' V' n v ↔ Dic used K V n v
 hkc : kc K' cnt = cnt
 rp : RP room' places'
 lt : cnt < room'
 gp : Gp p' b' s
 b1 : b ≤ b' + 2
 b2 : b' ≤ b
 nf : ∀ k, (tq ≤ k ∧ k ≤ tq + 4) ∨ (e' ≤ k ∧ k ≤ e' + 2 * room') ∨ (ix' ≤ k ∧ k ≤ ix' + places') → ¬ Free p' k
 fr : ∀ k, Free p' k → Free p k
 rom : Rom μ'
 kp : Keeps μ μ' ap wb lb
 d1 : tq + 4 < e' ∨ e' + 2 * room' < tq
 d2 : tq + 4 < ix' ∨ ix' + places' < tq
 hws : ∀ q, ¬ Free p q → ws' q = ws q
 rr : room < cnt * 2 → room' = nR room
set_option maxRecDepth 20000 in
set_option maxHeartbeats 16000000 in
theorem grown_ends {g vi sp hp ap wb lb b s tq cnt used e ix room places : Nat} {ws : Nat → Nat} {p : Pos} {I : Nat → Int} {K : Nat → Option Int} {V : Nat → Nat} {μ : Mem} (hg : 5000 ≤ g) (hV : VW μ vi sp hp ap wb lb ws p (placeW tq) cnt used e ix room places) (ho : Old ws e ix room places used I K V) (hgp : Gp p b s) (hb : 184 ≤ b) (hb2 : b ≤ 200) (hck : kc K used = cnt) (hc : cnt < 100) (hrp : RP room places)
  (nf : ∀ k, (tq ≤ k ∧ k ≤ tq + 4) ∨ (e ≤ k ∧ k ≤ e + 2 * room) ∨ (ix ≤ k ∧ k ≤ ix + places) → ¬ Free p k) (hrom : Rom μ) (r5 : 5 ≠ ap ∧ 5 ≠ wb ∧ 5 ≠ lb) (htr : tq + 4 < 51200) :
  EndsF (aFun Tryz.prog (aCode Tryz.prog X S0 g) 34 [.pointer (some ⟨vi, 0, none⟩)] μ) fun v μ' => ∃ vo ws' p' b' e' ix' room' places' I' K' V', v = .tuple #[.pointer (some ⟨vo, 0, none⟩), .bool true] ∧ Gr μ μ' vo sp hp ap wb lb ws ws' p p' room b b' s tq cnt used e' ix' room' places' K V I' K' V' := by
 obtain ⟨k, rfl⟩ := Nat.exists_eq_add_of_le' hg
 have hle := ho.tl.le
 have hkl := kc_le K used
 obtain ⟨room', places', hch, hrp', hlt⟩ : ∃ room' places', ((room < cnt * 2 ∧ room' = nR room ∧ places' = nP places) ∨ (¬ room < cnt * 2 ∧ room' = room ∧ places' = places)) ∧ RP room' places' ∧ cnt < room' := by
  by_cases h : room < cnt * 2
  ·refine ⟨nR room, nP places, .inl ⟨h, rfl, rfl⟩, hrp.next.1, ?_⟩
   rcases hrp.next.2.1 with h1 | h1
   ·omega
   ·rw [hrp.next.2.2 h1]; exact hc
  ·exact ⟨room, places, .inr ⟨h, rfl, rfl⟩, hrp, by have := hrp.b; omega⟩
 have hb' := hrp'.b
 have hbo := hrp.b
 obtain ⟨q1, p1, b1, al1, gp1, x1, x2, tk1⟩ := al_big (X := X) (n := 2 * room' + 1) hgp (by omega) hb2 (by omega) (by omega)
 obtain ⟨q2, p2, b2, al2, gp2, y1, y2, tk2⟩ := al_big (X := X) (n := places' + 1) gp1 (by omega) (by omega) (by omega) (by omega)
 have top1 := tk1.top
 have top2 := tk2.top
 have D1 : ∀ a m, (∀ k, a ≤ k → k ≤ a + m → ¬ Free p k) → a + m < q1 ∨ q1 + 2 * room' < a := fun a m h => disj fun k h1 h2 h3 h4 => h k h1 h2 (tk1.was k h3 (by omega)).1
 have D2 : ∀ a m, (∀ k, a ≤ k → k ≤ a + m → ¬ Free p1 k) → a + m < q2 ∨ q2 + places' < a := fun a m h => disj fun k h1 h2 h3 h4 => h k h1 h2 (tk2.was k h3 (by omega)).1
 have nf1 : ∀ k, ¬ Free p k → ¬ Free p1 k := fun k h h1 => h (tk1.sub k h1)
 have nf2 : ∀ k, ¬ Free p1 k → ¬ Free p2 k := fun k h h1 => h (tk2.sub k h1)
 have de1 := D1 e (2 * room) fun k h1 h2 => nf k (.inr (.inl ⟨h1, h2⟩))
 have di1 := D1 ix places fun k h1 h2 => nf k (.inr (.inr ⟨h1, h2⟩))
 have dt1 := D1 tq 4 fun k h1 h2 => nf k (.inl ⟨h1, h2⟩)
 have de2 := D2 e (2 * room) fun k h1 h2 => nf1 k (nf k (.inr (.inl ⟨h1, h2⟩)))
 have di2 := D2 ix places fun k h1 h2 => nf1 k (nf k (.inr (.inr ⟨h1, h2⟩)))
 have dt2 := D2 tq 4 fun k h1 h2 => nf1 k (nf k (.inl ⟨h1, h2⟩))
 have dd := D2 q1 (2 * room') fun k h1 h2 => (tk1.was k h1 (by omega)).2
 have G0 : Grow μ ⟨μ.obs, μ.next + 10⟩ := grow_up μ 10
 have c2 : cellsAt ⟨μ.obs, μ.next + 10⟩ vi 2 = some (.int .i64 (.ofNat cnt)) := hV.has.cell 2 (by simp [vL])
 have c6 : cellsAt ⟨μ.obs, μ.next + 10⟩ vi 6 = some (.int .i64 (.ofNat room)) := hV.has.cell 6 (by simp [vL])
 have c7 : cellsAt ⟨μ.obs, μ.next + 10⟩ vi 7 = some (.int .i64 (.ofNat places)) := hV.has.cell 7 (by simp [vL])
 have V1 := (hV.up (d := 10)).up (d := 13)
 have d0 : cellsAt ⟨μ.obs, μ.next + 10 + 13⟩ vi 0 = some (.pointer (some ⟨sp, 0, none⟩)) := hV.has.cell 0 (by simp [vL])
 obtain ⟨v1, μ1, t1, rfl, S1, K1⟩ := filled_ends (X := X) (g := k + 4995) (n := 2 * room') (w := 45) (q := q1) (by omega) V1.hs (by omega) (by omega) al1
 have O1 := V1.keeps K1 S1 (obj_out _ _ _ _ _ _ (by omega)) (obj_out _ _ _ _ _ _ (by omega))
 have V2 := O1.up (d := 12)
 have f0 : cellsAt ⟨μ1.obs, μ1.next + 12⟩ vi 0 = some (.pointer (some ⟨sp, 0, none⟩)) := O1.has.cell 0 (by simp [vL])
 obtain ⟨v2, μ2, t2, rfl, S2, K2⟩ := filled_ends (X := X) (g := k + 4993) (n := places') (w := sw (-1)) (q := q2) (by omega) V2.hs (by omega) (by omega) al2
 have O2 := V2.keeps K2 S2 (obj_out _ _ _ _ _ _ (by omega)) (obj_out _ _ _ _ _ _ (by omega))
 have h0 : cellsAt ⟨μ2.obs, μ2.next + 15⟩ vi 0 = some (.pointer (some ⟨sp, 0, none⟩)) := O2.has.cell 0 (by simp [vL])
 have h1 : cellsAt ⟨μ2.obs, μ2.next + 15⟩ vi 1 = some (.int .u64 (.ofNat (placeW tq))) := O2.has.cell 1 (by simp [vL])
 obtain ⟨vo, hvo⟩ : ∃ vo, vo = μ2.next + 13 := ⟨_, rfl⟩
 obtain ⟨μ3, h3⟩ : ∃ M : Mem, M = ⟨μ2.obs.set vo (.cells (vL sp (placeW tq) 0 0 q1 q2 room' places').length 81 (vL sp (placeW tq) 0 0 q1 q2 room' places').toArray .e 0 0 false false), μ2.next + 15⟩ := ⟨_, rfl⟩
 have G3 : Grow μ2 μ3 := by rw [h3]; exact ⟨Nat.le_add_right _ _, fun i hi => by show T.get _ i = _; rw [T.get_set, if_neg (by omega)]⟩
 have O3 := O2.grow G3
 have i3' : cellsAt μ3 vi 3 = some (.int .i64 (.ofNat used)) := O3.has.cell 3 (by simp [vL])
 have S3 := S2.grow G3
 have n2a := S2.hs.ab.n1
 have n2b := S2.hs.ab.n2
 have n2c := S2.hs.ab.n3
 have n2d := S2.spn
 have n2e := S2.hs.hn
 obtain ⟨ws2, hws2⟩ : ∃ w, w = obj (obj ws q1 1 (2 * room') fun _ => 45) q2 1 places' fun _ => sw (-1) := ⟨_, rfl⟩
 rw [← hws2] at O3 S3
 have hq1 : ws2 q1 = headW 1 0 (2 * room') := by rw [hws2, obj_out _ _ _ _ _ _ (by omega), obj_head]
 have hq2 : ws2 q2 = headW 1 0 places' := by rw [hws2, obj_head]
 have N3 : VW μ3 vo sp hp ap wb lb ws2 p2 (placeW tq) 0 0 q1 q2 room' places' :=
  ⟨S3, Has.new (t := 81) (fx := false) (sh := false) (by rw [h3]; show T.get _ _ = _; rw [T.get_set, if_pos rfl]), ⟨(vL sp (placeW tq) 0 0 q1 q2 room' places').toArray, .e, false, false, by rw [h3]; show T.get _ _ = _; rw [T.get_set, if_pos rfl]; rfl⟩, by rw [h3]; show vo < μ2.next + 15; omega, by omega, by omega, by omega, by omega, by omega, by omega, hq1, hq2, by omega, by omega, by omega, by omega⟩
 have hws : ∀ q, ¬ Free p q → ws2 q = ws q := fun q hq => by
  have e1 : q < q1 ∨ q1 + 2 * room' < q := by
   by_cases h : q1 ≤ q ∧ q < q1 + (2 * room' + 1)
   ·exact absurd (tk1.was q h.1 h.2).1 hq
   ·omega
  have e2 : q < q2 ∨ q2 + places' < q := by
   by_cases h : q2 ≤ q ∧ q < q2 + (places' + 1)
   ·exact absurd (tk2.was q h.1 h.2).1 (nf1 q hq)
   ·omega
  rw [hws2, obj_out _ _ _ _ _ _ e2, obj_out _ _ _ _ _ _ e1]
 have KP : Keeps μ μ3 ap wb lb := (Keeps.grow (G0.trans (grow_up _ 13))).trans (K1.trans ((Keeps.grow (grow_up μ1 12)).trans (K2.trans (Keeps.grow G3))))
 have hvl : vi < vo := by have := O2.vn; omega
 have r5v : 5 ≠ vo := by have := hrom.lt; have := KP.1; have := (hrom.keeps r5 KP).lt; have h4 := ((Keeps.grow (G0.trans (grow_up _ 13))).trans (K1.trans ((Keeps.grow (grow_up μ1 12)).trans K2))).1; omega
 have hT0 : TL ws2 q1 q2 room' places' 0 (fun _ => -1) (fun _ => none) := TL.empty (by omega) fun q hq => by rw [hws2, obj_in _ _ _ _ _ _ hq]
 have ho2 : Old ws2 e ix room places used I K V := ⟨ho.tl.congr fun q hq => hws q (nf q (.inr hq)), ho.td.congr ho.tl.le fun q hq => hws q (nf q (.inr (.inl hq)))⟩
 have C0 : Cp μ3 μ3 vi vo sp hp ap wb lb ws2 ws2 p2 (placeW tq) cnt used e ix room places 0 0 q1 q2 room' places' K V (fun _ => -1) (fun _ => none) (fun _ => 0) :=
  ⟨O3, N3, hT0, ⟨fun i hi => absurd hi (Nat.not_lt_zero _), fun i j n hi => absurd hi (Nat.not_lt_zero _)⟩, fun n v => ⟨fun ⟨j, h, _⟩ => absurd h (Nat.not_lt_zero _), fun ⟨j, h, _⟩ => absurd h (Nat.not_lt_zero _)⟩, rfl, rfl, fun q _ _ => rfl, hrom.keeps r5 KP, Wv.grow wb vo (Grow.refl _)⟩
 have m1 : qwrap .i64 (Int.mul (.ofNat cnt) 2) = .ofNat (cnt * 2) := mul_nat cnt 2 (by omega)
 have m2 : qwrap .i64 (Int.mul (.ofNat room) 2) = .ofNat (room * 2) := mul_nat room 2 (by omega)
 have m3 : qwrap .i64 (Int.mul (.ofNat places) 2) = .ofNat (places * 2) := mul_nat places 2 (by omega)
 refine fun_enter Tryz.func34 rfl rfl (Nat.le_of_ble_eq_true rfl) ?_
 simp only [T.lay, Nat.zero_add, Tryz.ntmps34, Nat.reduceAdd]
 refine code_seq ?_
 refine code_region ?_ ?_
 ·rfl
 simp only [run1, go_sem, Nat.reduceLT, Nat.reduceAdd, Nat.reduceEqDiff, reduceIte, reduceCtorEq]
 refine code_seq ?_
 refine code_draw (n := 10) (ms := [0, 1, 3, 7, 0, 16, 48, 112, 15, 511]) (ord := [0, 1, 2, 3, 4, 5, 6, 7, 8, 9]) (ds := ?_) ?_ ?_ ?_ ?_ ?_ ?_
 rotate_left
 ·kernel_rfl
 ·kernel_rfl
 ·kernel_rfl
 ·rfl
 ·rfl
 iterate 10 (refine drun_true (by first | rfl | (simp only [wanted, go_sem, Nat.reduceLT, Nat.reduceAdd, Nat.reduceEqDiff, reduceIte, reduceCtorEq, fa81_6, fa81_7, ld3, c6, c7])) (by simp only [aDrawOne, heavy, aReads, eqVal_self, go_sem, Nat.reduceLT, Nat.reduceAdd, Nat.reduceEqDiff, reduceIte, reduceCtorEq, fa81_6, fa81_7, ld3, c6, c7]; try exact rfl) rfl ?_)
 simp only [dRun, endsD_some, then_normal]
 refine code_seq ?_
 refine EndsC.mono (Q := fun a r μ' => a = .normal ∧ μ' = ⟨μ.obs, μ.next + 10⟩ ∧ ∃ tm, r = ⟨116, tm, [], none⟩ ∧ regAt tm 0 = .pointer (some ⟨vi, 0, none⟩) ∧ regAt tm 4 = .int .i64 (.ofNat room') ∧ regAt tm 5 = .int .i64 (.ofNat places')) ?_ ?_
 ·rcases hch with ⟨h, rfl, rfl⟩ | ⟨h, rfl, rfl⟩
  ·have e1 : ilt (.ofNat room) (.ofNat (cnt * 2)) = true := (ilt_nat _ _).trans (decide_eq_true h)
   have e2 := min_nR room
   have e3 := min_nP places
   refine code_seq ?_
   refine code_region ?_ ?_
   ·rfl
   simp only [run1, go_sem, Nat.reduceLT, Nat.reduceAdd, Nat.reduceEqDiff, reduceIte, reduceCtorEq, fa81_2, ld3, c2, m1, e1]
   refine code_cond_true ?_ ?_
   ·simp only [aev, regAt_set, Nat.reduceEqDiff, reduceIte]
   refine code_region ?_ ?_
   ·rfl
   simp only [run1, go_sem, Nat.reduceLT, Nat.reduceAdd, Nat.reduceEqDiff, reduceIte, reduceCtorEq, m2, m3, aBuiltin]
   refine ⟨trivial, trivial, _, rfl, ?_, ?_, ?_⟩ <;> simp only [regAt_set, Nat.reduceEqDiff, reduceIte, e2, e3]
  ·have e1 : ilt (.ofNat room') (.ofNat (cnt * 2)) = false := (ilt_nat _ _).trans (decide_eq_false h)
   refine code_seq ?_
   refine code_region ?_ ?_
   ·rfl
   simp only [run1, go_sem, Nat.reduceLT, Nat.reduceAdd, Nat.reduceEqDiff, reduceIte, reduceCtorEq, fa81_2, ld3, c2, m1, e1]
   refine code_cond_false ?_ ?_
   ·simp only [aev, regAt_set, Nat.reduceEqDiff, reduceIte]
   refine code_skip ?_
   refine ⟨rfl, rfl, _, rfl, ?_, ?_, ?_⟩ <;> simp only [regAt_set, Nat.reduceEqDiff, reduceIte]
 rintro a r μ' ⟨rfl, rfl, tm, rfl, q0, q4, q5⟩
 have m4 : qwrap .i64 (Int.mul (.ofNat room') 2) = .ofNat (2 * room') := by rw [Nat.mul_comm 2 room']; exact mul_nat room' 2 (by omega)
 have hs1 : ∀ g, 40 ≤ g → aFun Tryz.prog (aCode Tryz.prog X S0 g) 18 [.int .i64 5] ⟨μ.obs, μ.next + 10 + 13⟩ = some (.int .u64 (.ofNat 45), ⟨μ.obs, μ.next + 10 + 13⟩) := fun g hg => single_eq hg
 have hs2 : ∀ g, 60 ≤ g → aFun Tryz.prog (aCode Tryz.prog X S0 g) 19 [.int .i64 (-1)] ⟨μ1.obs, μ1.next + 12⟩ = some (.int .u64 (.ofNat (sw (-1))), ⟨μ1.obs, μ1.next + 12⟩) := fun g hg => tsmall_eq hg ⟨by decide, by decide⟩
 have hbd : ∀ (ρ : Operand → Value) (x1 x2 x3 x4 x5 x6 : Operand), ρ x1 = .pointer (some ⟨sp, 0, none⟩) → ρ x2 = .int .u64 (.ofNat (placeW tq)) → ρ x3 = .int .u64 (.ofNat (placeW q1)) → ρ x4 = .int .u64 (.ofNat (placeW q2)) → ρ x5 = .int .i64 (.ofNat room') → ρ x6 = .int .i64 (.ofNat places') → aBuild Tryz.prog ρ 81 #[(0, x1), (1, x2), (4, x3), (5, x4), (6, x5), (7, x6)] = some (.agg (vL sp (placeW tq) 0 0 q1 q2 room' places').toArray) := fun ρ x1 x2 x3 x4 x5 x6 h1 h2 h3 h4 h5 h6 => by
  refine build_struct (pl := [(0, 1), (1, 1), (2, 1), (3, 1), (4, 1), (5, 1), (6, 1), (7, 1)]) z81 Tryz.underlying81 (by kernel_rfl) ?_
  show aFill _ v0L [(0, ρ x1), (1, ρ x2), (4, ρ x3), (5, ρ x4), (6, ρ x5), (7, ρ x6)] = some _
  rw [h1, h2, h3, h4, h5, h6]
  rfl
 obtain ⟨sm1, hsm1⟩ : ∃ z, z = sw (-1) := ⟨_, rfl⟩
 rw [← hsm1] at t2 hs2
 refine code_seq ?_
 refine code_draw (n := 13) (ms := [0, 1, 3, 7, 0, 16, 0, 127, 255, 511, 511, 1023, 4095]) (ord := [6, 0, 1, 2, 3, 4, 5, 7, 8, 9, 10, 11, 12]) (ds := ?_) ?_ ?_ ?_ ?_ ?_ ?_
 rotate_left
 ·kernel_rfl
 ·kernel_rfl
 ·kernel_rfl
 ·rfl
 ·rfl
 iterate 13 (refine drun_true (by first | rfl | (simp only [wanted, go_sem, Nat.reduceLT, Nat.reduceAdd, Nat.reduceEqDiff, reduceIte, reduceCtorEq, q0, q4, fa81_0, Nat.add_zero, ld24, d0, m4, gg18, hs1, Nat.reduceLeDiff, gg17, t1])) (by simp only [aDrawOne, heavy, aReads, eqVal_self, go_sem, Nat.reduceLT, Nat.reduceAdd, Nat.reduceEqDiff, reduceIte, reduceCtorEq, q0, q4, fa81_0, Nat.add_zero, ld24, d0, m4, gg18, hs1, Nat.reduceLeDiff, gg17, t1]; try exact rfl) rfl ?_)
 simp only [dRun, endsD_some, then_normal]
 refine code_seq ?_
 refine code_seq ?_
 refine code_region ?_ ?_
 ·rfl
 simp only [run1, go_sem, Nat.reduceLT, Nat.reduceAdd, Nat.reduceEqDiff, reduceIte, reduceCtorEq]
 refine code_cond_false ?_ ?_
 ·simp only [aev, regAt_set, Nat.reduceEqDiff, reduceIte]
 refine code_skip ?_
 simp only [then_normal]
 refine code_seq ?_
 refine code_draw (n := 12) (ms := [0, 1, 3, 7, 0, 0, 63, 127, 255, 255, 511, 2047]) (ord := [5, 0, 1, 2, 3, 4, 6, 7, 8, 9, 10, 11]) (ds := ?_) ?_ ?_ ?_ ?_ ?_ ?_
 rotate_left
 ·kernel_rfl
 ·kernel_rfl
 ·kernel_rfl
 ·rfl
 ·rfl
 iterate 12 (refine drun_true (by first | rfl | (simp only [wanted, go_sem, Nat.reduceLT, Nat.reduceAdd, Nat.reduceEqDiff, reduceIte, reduceCtorEq, q0, q5, fa81_0, Nat.add_zero, ld24, f0, gg19, hs2, Nat.reduceLeDiff, gg17, t2])) (by simp only [aDrawOne, heavy, aReads, eqVal_self, go_sem, Nat.reduceLT, Nat.reduceAdd, Nat.reduceEqDiff, reduceIte, reduceCtorEq, q0, q5, fa81_0, Nat.add_zero, ld24, f0, gg19, hs2, Nat.reduceLeDiff, gg17, t2]; try exact rfl) rfl ?_)
 simp only [dRun, endsD_some, then_normal]
 refine code_seq ?_
 refine code_seq ?_
 refine code_region ?_ ?_
 ·rfl
 simp only [run1, go_sem, Nat.reduceLT, Nat.reduceAdd, Nat.reduceEqDiff, reduceIte, reduceCtorEq]
 refine code_cond_false ?_ ?_
 ·simp only [aev, regAt_set, Nat.reduceEqDiff, reduceIte]
 refine code_skip ?_
 simp only [then_normal]
 refine code_seq ?_
 refine code_draw (n := 15) (ms := [0, 1, 3, 7, 0, 16, 48, 112, 0, 0, 0, 0, 4095, 8191, 16383]) (ord := [0, 1, 2, 3, 4, 5, 6, 7, 8, 9, 10, 11, 12, 13, 14]) (ds := ?_) ?_ ?_ ?_ ?_ ?_ ?_
 rotate_left
 ·kernel_rfl
 ·kernel_rfl
 ·kernel_rfl
 ·rfl
 ·rfl
 iterate 15 (refine drun_true (by first | rfl | (simp only [wanted, go_sem, Nat.reduceLT, Nat.reduceAdd, Nat.reduceEqDiff, reduceIte, reduceCtorEq, q0, q4, q5, fa81_0, fa81_1, Nat.add_zero, ld24, ldW, h0, h1, hbd, bx81])) (by simp only [aDrawOne, heavy, aReads, eqVal_self, go_sem, Nat.reduceLT, Nat.reduceAdd, Nat.reduceEqDiff, reduceIte, reduceCtorEq, q0, q4, q5, fa81_0, fa81_1, Nat.add_zero, ld24, ldW, h0, h1, hbd, bx81]; try exact rfl) rfl ?_)
 simp only [dRun, endsD_some, then_normal]
 have h3' : (⟨μ2.obs.set (μ2.next + 13) (.cells (vL sp (placeW tq) 0 0 q1 q2 room' places').length 81 (vL sp (placeW tq) 0 0 q1 q2 room' places').toArray .e 0 0 false false), μ2.next + 15⟩ : Mem) = μ3 := by rw [h3, hvo]
 rw [show Nat.add μ2.next 13 = μ2.next + 13 from rfl, h3', ← hvo]
 refine code_seq ?_
 refine code_seq ?_
 refine code_region ?_ ?_
 ·rfl
 simp only [run1, go_sem, Nat.reduceLT, Nat.reduceAdd, Nat.reduceEqDiff, reduceIte, reduceCtorEq, q0, fa81_3, ld3, i3']
 refine code_block ?_
 have hus : used < 200 := by omega
 rw [show k + 4989 = (k + 1989 - used) + used + 3000 from by omega]
 refine (copy_loop (X := X) (μ0 := μ3) ho2 (.inr trivial) (by omega) r5.2.1 r5v (by omega) (by omega) (by omega) (by omega) (by omega) (by omega) used (k + 1989 - used) 0 _ μ3 ws2 0 _ _ _ (by omega) C0 ?_ ?_ ?_ ?_).mono ?_
 ·simp only [regAt_set, Nat.reduceEqDiff, reduceIte, q0]
 ·simp only [regAt_set, Nat.reduceEqDiff, reduceIte]
 ·simp only [regAt_set, Nat.reduceEqDiff, reduceIte]
 ·simp only [regAt_set, Nat.reduceEqDiff, reduceIte]
  rfl
 rintro a r μ' ⟨rfl, ⟨tm', rfl, u9⟩, ws', I', K', V', C⟩
 rw [hck] at C
 have fin : Gr μ μ' vo sp hp ap wb lb ws ws' p p2 room b b2 s tq cnt used q1 q2 room' places' K V I' K' V' := by
  have hk1 := KP.1
  have hpv : μ.next ≤ vo := by
   have := ((Keeps.grow (G0.trans (grow_up _ 13))).trans (K1.trans ((Keeps.grow (grow_up μ1 12)).trans K2))).1
   omega
  refine ⟨hpv, C.new, C.tl, C.td, C.dic, C.kc1, hrp', hlt, gp2, by omega, by omega, fun k hk => ?_, fun k hk => tk1.sub k (tk2.sub k hk), C.rom, ⟨Nat.le_trans KP.1 C.wv.1, fun i hi j1 j2 j3 => (C.wv.2 i (by omega) j2 (by omega)).trans (KP.2 i hi j1 j2 j3)⟩, dt1, dt2, fun q hq => ?_, fun h => by rcases hch with ⟨_, e, _⟩ | ⟨h2, _⟩; exact e; exact absurd h h2⟩
  ·rcases hk with h | h | h
   ·exact nf2 k (nf1 k (nf k (.inl h)))
   ·exact nf2 k (tk1.was k h.1 (by omega)).2
   ·exact (tk2.was k h.1 (by omega)).2
  ·rw [C.same q ?_ ?_, hws q hq]
   ·by_cases h : q1 ≤ q ∧ q < q1 + (2 * room' + 1)
    ·exact absurd (tk1.was q h.1 h.2).1 hq
    ·omega
   ·by_cases h : q2 ≤ q ∧ q < q2 + (places' + 1)
    ·exact absurd (tk2.was q h.1 h.2).1 (nf1 q hq)
    ·omega
 simp only [blockC, reduceIte, then_normal]
 repeat (first | refine code_seq ?_ | ((first | (refine code_region ?_ ?_; (focus rfl)) | (refine code_guards (gs := ?_) ?_ ?_; rotate_left; (focus rfl))); simp only [run1, run2, wanted, go_sem, Nat.reduceLT, Nat.reduceAdd, Nat.reduceEqDiff, reduceIte, reduceCtorEq, u9]) | (refine code_cond_true ?_ ?_; (focus (simp only [aev, regAt_set, Nat.reduceEqDiff, reduceIte, u9]; done))) | (refine code_cond_false ?_ ?_; (focus (simp only [aev, regAt_set, Nat.reduceEqDiff, reduceIte, u9]; done))) | ((first | refine code_skip ?_ | refine code_label ?_ | refine code_exit ?_); try simp only [then_exit, then_normal, blockC, Nat.reduceEqDiff, reduceIte]) | refine code_block ?_)
 refine code_ret ?_
 refine ⟨rfl, _, ?_, vo, ws', p2, b2, q1, q2, room', places', I', K', V', rfl, fin⟩
 simp only [aResults, Tryz.results34, aRes, regAt_set, Nat.reduceEqDiff, reduceIte]
end
noncomputable section
variable {X : FuncId → List Value → Mem → Option (Value × Mem)}
set_option maxRecDepth 20000 in
set_option maxHeartbeats 16000000 in
theorem set_full {g sp hp ap wb lb b s tq cnt used e ix room places w h x : Nat} {ws : Nat → Nat} {p : Pos} {I : Nat → Int} {K : Nat → Option Int} {V : Nat → Nat} {μ : Mem} (hg : 6000 ≤ g) (hT : TS μ sp hp ap wb lb ws p b s tq cnt used e ix room places I K V) (hk : Key ws 51200 w h) (hne : ∀ j n, j < used → K j = some n → w ≠ sw n) (hc : 100 ≤ cnt) :
  EndsF (aFun Tryz.prog (aCode Tryz.prog X S0 g) 11 [.pointer (some ⟨sp, 0, none⟩), .int .u64 (.ofNat (placeW tq)), .int .u64 (.ofNat w), .int .u64 (.ofNat x)] μ) fun v μ' => v = .tuple #[.bool false, .int .i64 191] ∧ Grow μ μ' := by
 obtain ⟨k, rfl⟩ := Nat.exists_eq_add_of_le' hg
 obtain ⟨v1, μ1, t1, vi, rfl, hvi, V1, g1⟩ := look_ends (X := X) (g := k + 5997) (by omega) hT.hs hT.tw
 obtain ⟨v2, μ2, t2, rfl, g2⟩ := sum_key (X := X) (g := k + 5996) (by omega) (hT.rom.grow g1) V1.hs hk
 have V2 := V1.grow g2
 obtain ⟨v3, μ3, t3, g3, i, pl, rfl, hF⟩ := find_ends (X := X) (g := k + 5994) (by omega) V2 hT.tl hk
 have V3 := V2.grow g3
 rcases hF with ⟨j, n, rfl, hj, hK, rfl⟩ | ⟨rfl, _, _⟩
 ·exact absurd rfl (hne j n hj hK)
 have e1 : ilt (-1) 0 = true := rfl
 have e2 : ilt (.ofNat cnt) 100 = false := (ilt_nat cnt 100).trans (decide_eq_false (by omega))
 have c2 : cellsAt μ3 vi 2 = some (.int .i64 (.ofNat cnt)) := V3.has.cell 2 (by simp [vL])
 refine fun_enter Tryz.func11 rfl rfl (Nat.le_of_ble_eq_true rfl) ?_
 simp only [T.lay, Nat.zero_add, Tryz.ntmps11, Nat.reduceAdd]
 repeat (first | refine code_seq ?_ | ((first | (refine code_region ?_ ?_; (focus rfl)) | (refine code_guards (gs := ?_) ?_ ?_; rotate_left; (focus rfl))); simp only [run1, run2, wanted, go_sem, Nat.reduceLT, Nat.reduceAdd, Nat.reduceEqDiff, reduceIte, reduceCtorEq, gg29, t1, gg30, t2, gg31, t3, e1, fa81_2, ld3, c2, e2]) | (refine code_cond_true ?_ ?_; (focus (simp only [aev, regAt_set, Nat.reduceEqDiff, reduceIte, gg29, t1, gg30, t2, gg31, t3, e1, fa81_2, ld3, c2, e2]; done))) | (refine code_cond_false ?_ ?_; (focus (simp only [aev, regAt_set, Nat.reduceEqDiff, reduceIte, gg29, t1, gg30, t2, gg31, t3, e1, fa81_2, ld3, c2, e2]; done))) | ((first | refine code_skip ?_ | refine code_label ?_ | refine code_exit ?_); try simp only [then_exit, then_normal, blockC, Nat.reduceEqDiff, reduceIte]) | refine code_block ?_)
 refine code_ret ?_
 refine ⟨rfl, _, ?_, rfl, g1.trans (g2.trans g3)⟩
 simp only [aResults, Tryz.results11, aRes, regAt_set, Nat.reduceEqDiff, reduceIte]
theorem addW_off {ws : Nat → Nat} {e ix used pl kw x q room places : Nat} (hu : used < room) (hp : pl < places) (h1 : q < e ∨ e + 2 * room < q) (h2 : q < ix ∨ ix + places < q) : addW ws e ix used pl kw x q = ws q := by
 unfold addW put
 rw [if_neg (by omega), setE_off (by omega) (by omega)]
theorem add_store {ga gs vi sp hp ap wb lb tq cnt used e ix room places pl kw x : Nat} {ws : Nat → Nat} {p : Pos} {μ : Mem} (h1 : 200 ≤ ga) (h2 : 200 ≤ gs) (h : VW μ vi sp hp ap wb lb ws p (placeW tq) cnt used e ix room places) (hu : used < room) (hpl : pl < places) (hc : cnt < 900) (ht : ws tq = headW 3 0 4) (htr : tq + 4 < 51200) (d1 : tq + 4 < e ∨ e + 2 * room < tq) (d2 : tq + 4 < ix ∨ ix + places < tq) :
  ∃ v4 μ4 v5 μ5, aFun Tryz.prog (aCode Tryz.prog X S0 ga) 35 [.pointer (some ⟨vi, 0, none⟩), .int .i64 (.ofNat pl), .int .u64 (.ofNat kw), .int .u64 (.ofNat x)] μ = some (v4, μ4) ∧
   aFun Tryz.prog (aCode Tryz.prog X S0 gs) 36 [.pointer (some ⟨vi, 0, none⟩)] μ4 = some (v5, μ5) ∧
   VW μ5 vi sp hp ap wb lb (stW (addW ws e ix used pl kw x) tq (cnt + 1) (used + 1) e ix) p (placeW tq) (cnt + 1) (used + 1) e ix room places ∧ Wv μ μ5 wb vi := by
 have hr := h.r1
 obtain ⟨v4, μ4, t4, V4, w4⟩ := add_ends (X := X) (g := ga) (kw := kw) (x := x) h1 h hu hpl (by omega)
 have ht' : addW ws e ix used pl kw x tq = headW 3 0 4 := by rw [addW_off hu hpl (by omega) (by omega)]; exact ht
 obtain ⟨v5, μ5, t5, V5, w5⟩ := store_ends (X := X) (g := gs) h2 V4 ht' htr (by omega) (by omega) (by omega) (by omega)
 exact ⟨v4, μ4, v5, μ5, t4, t5, V5, w4.trans (Wv.of vi w5)⟩
theorem ts_of {μ : Mem} {vi sp hp ap wb lb b s tq cnt used e ix room places pl d x : Nat} {ws ws0 : Nat → Nat} {p : Pos} {I : Nat → Int} {K : Nat → Option Int} {V : Nat → Nat} {n : Int} {a1 a2 a3 a4 a5 a6 : Nat} (h0 : TW ws0 tq a1 a2 a3 a4 a5 a6)
  (V5 : VW μ vi sp hp ap wb lb (stW (addW ws e ix used pl (sw n) x) tq (cnt + 1) (used + 1) e ix) p (placeW tq) (cnt + 1) (used + 1) e ix room places) (tl : TL ws e ix room places used I K) (td : TD ws e used K V) (hn : Sm n) (hu : used < room) (rp : RP room places) (ht : ws tq = headW 3 0 4) (dj : e + 2 * room < ix ∨ ix + places < e) (d1 : tq + 4 < e ∨ e + 2 * room < tq) (d2 : tq + 4 < ix ∨ ix + places < tq)
  (hd : d < places) (hpl : pl = (hashI n % places + d) % places) (hI : I pl = -1) (hb : ∀ d', d' < d → I ((hashI n % places + d') % places) ≠ -1) (hne : ∀ j m, j < used → K j = some m → m ≠ n) (gp : Gp p b s) (nf : ∀ k, (tq ≤ k ∧ k ≤ tq + 4) ∨ (e ≤ k ∧ k ≤ e + 2 * room) ∨ (ix ≤ k ∧ k ≤ ix + places) → ¬ Free p k) (ck : kc K used = cnt) (rom : Rom μ) (r5 : 5 ≠ ap ∧ 5 ≠ wb ∧ 5 ≠ lb) :
  TS μ sp hp ap wb lb (stW (addW ws e ix used pl (sw n) x) tq (cnt + 1) (used + 1) e ix) p b s tq (cnt + 1) (used + 1) e ix room places (upd I pl (.ofNat used)) (upd K used (some n)) (upd V used x) := by
 have hrb := rp.b
 have hpl2 : pl < places := by rw [hpl]; exact Nat.mod_lt _ (by omega)
 have hkl := kc_le K used
 have ht' : addW ws e ix used pl (sw n) x tq = headW 3 0 4 := by rw [addW_off hu hpl2 (by omega) (by omega)]; exact ht
 have he' : addW ws e ix used pl (sw n) x e = headW 1 0 (2 * room) := by rw [← V5.he, stW_off (by omega)]
 have hi' : addW ws e ix used pl (sw n) x ix = headW 1 0 places := by rw [← V5.hi, stW_off (by omega)]
 exact ⟨V5.hs, rom, gp, h0.st ht' he' hi' V5.re V5.ri V5.r1 V5.r2 (by omega) dj d1 d2 (by omega) (by omega), (tl.add hn hu (by omega) dj hd hpl hI hb).st d1 d2, (td.add hu hpl2 dj hne).st (by omega) d1, nf, by
  show kc (upd K used (some n)) used + _ = cnt + 1
  rw [kc_upd_out K used _ used (Nat.le_refl _), ck, upd_at, if_neg (fun e => by cases e)], rp, r5⟩
structure Sx (μ' : Mem) (sp hp ap wb lb : Nat) (ws' : Nat → Nat) (p p' : Pos) (b b' s tq cnt used room used' e' ix' room' places' : Nat) (I' : Nat → Int) (K K' : Nat → Option Int) (V V' : Nat → Nat) (n : Int) (x : Nat) : Prop where
 ts : TS μ' sp hp ap wb lb ws' p' b' s tq (cnt + 1) used' e' ix' room' places' I' K' V'
 dic : ∀ m v, Dic used' K' V' m v ↔ (m = n ∧ v = x) ∨ Dic used K V m v
 gr : (used < room ∧ room' = room ∧ b' = b ∧ used' = used + 1) ∨ (room ≤ used ∧ b ≤ b' + 2 ∧ b' ≤ b ∧ used' = cnt + 1 ∧ (room < cnt * 2 → room' = nR room))
 fr : ∀ k, Free p' k → Free p k
set_option maxRecDepth 20000 in
set_option maxHeartbeats 16000000 in
theorem set_ends {g sp hp ap wb lb b s tq cnt used e ix room places w h x : Nat} {ws : Nat → Nat} {p : Pos} {I : Nat → Int} {K : Nat → Option Int} {V : Nat → Nat} {μ : Mem} (hg : 6000 ≤ g) (hT : TS μ sp hp ap wb lb ws p b s tq cnt used e ix room places I K V) (hk : Key ws 51200 w h) (hne : ∀ j n, j < used → K j = some n → w ≠ sw n) (hc : cnt < 100) (hb : 184 ≤ b) (hb2 : b ≤ 200) (htx : ∀ q, TxtAt ws q 51200 → w = placeW q → ∀ k, q ≤ k → k ≤ q + 2 → ¬ Free p k) :
  EndsF (aFun Tryz.prog (aCode Tryz.prog X S0 g) 11 [.pointer (some ⟨sp, 0, none⟩), .int .u64 (.ofNat (placeW tq)), .int .u64 (.ofNat w), .int .u64 (.ofNat x)] μ) fun v μ' => v = .tuple #[.bool true, .int .i64 0] ∧ Keeps μ μ' ap wb lb ∧
   ∀ n, Sm n → w = sw n → ∃ ws' p' b' used' e' ix' room' places' I' K' V', Sx μ' sp hp ap wb lb ws' p p' b b' s tq cnt used room used' e' ix' room' places' I' K K' V V' n x := by
 obtain ⟨k, rfl⟩ := Nat.exists_eq_add_of_le' hg
 obtain ⟨v1, μ1, t1, vi, rfl, hvi, V1, g1⟩ := look_ends (X := X) (g := k + 5997) (by omega) hT.hs hT.tw
 obtain ⟨v2, μ2, t2, rfl, g2⟩ := sum_key (X := X) (g := k + 5996) (by omega) (hT.rom.grow g1) V1.hs hk
 have V2 := V1.grow g2
 obtain ⟨v3, μ3, t3, g3, i, pp, rfl, hF⟩ := find_ends (X := X) (g := k + 5994) (by omega) V2 hT.tl hk
 have V3 := V2.grow g3
 have g13 := g1.trans (g2.trans g3)
 have hrb := hT.rp.b
 have hule := hT.tl.le
 obtain ⟨rfl, d, hd, rfl, hI, hbf⟩ : i = -1 ∧ ∃ d, d < places ∧ pp = .ofNat ((h % places + d) % places) ∧ I ((h % places + d) % places) = -1 ∧ ∀ d', d' < d → I ((h % places + d') % places) ≠ -1 := by
  rcases hF with ⟨j, n, rfl, hj, hK, rfl⟩ | ⟨e1, _, e2⟩
  ·exact absurd rfl (hne j n hj hK)
  ·exact ⟨e1, e2⟩
 obtain ⟨pl, hpl⟩ : ∃ pl, pl = (h % places + d) % places := ⟨_, rfl⟩
 rw [← hpl] at t3 hI
 have hpl2 : pl < places := by rw [hpl]; exact Nat.mod_lt _ (by omega)
 have hn' : ∀ n, w = sw n → ∀ j m, j < used → K j = some m → m ≠ n := fun n e j m hj hK e2 => hne j m hj hK (by rw [e, e2])
 have e1 : ilt (-1) 0 = true := rfl
 have e2 : ilt (.ofNat cnt) 100 = true := (ilt_nat cnt 100).trans (decide_eq_true hc)
 have c2 : cellsAt μ3 vi 2 = some (.int .i64 (.ofNat cnt)) := V3.has.cell 2 (by simp [vL])
 have W3 := V3.up (d := 10)
 have c3 : cellsAt ⟨μ3.obs, μ3.next + 10⟩ vi 3 = some (.int .i64 (.ofNat used)) := W3.has.cell 3 (by simp [vL])
 have c6 : cellsAt ⟨μ3.obs, μ3.next + 10⟩ vi 6 = some (.int .i64 (.ofNat room)) := W3.has.cell 6 (by simp [vL])
 have r5v : 5 ≠ vi := by have := hT.rom.lt; omega
 by_cases hu : used < room
 ·have e3 : ilt (.ofNat used) (.ofNat room) = true := (ilt_nat used room).trans (decide_eq_true hu)
  obtain ⟨v4, μ4, v5, μ5, t4, t5, V5, w5⟩ := add_store (X := X) (ga := k + 5992) (gs := k + 5991) (kw := w) (x := x) (by omega) (by omega) W3 hu hpl2 (by omega) hT.tw.ht hT.tw.rt hT.tw.d1 hT.tw.d2
  have gw : Grow μ ⟨μ3.obs, μ3.next + 10⟩ := g13.trans (grow_up μ3 10)
  have kp : Keeps μ μ5 ap wb lb := Wv.keeps gw hvi w5
  have fin : ∀ n, Sm n → w = sw n → ∃ ws' p' b' used' e' ix' room' places' I' K' V', Sx μ5 sp hp ap wb lb ws' p p' b b' s tq cnt used room used' e' ix' room' places' I' K K' V V' n x := fun n hn e => by
   subst e
   have hh := key_small hk hn
   subst hh
   exact ⟨_, p, b, used + 1, e, ix, room, places, _, _, _, ts_of hT.tw V5 hT.tl hT.td hn hu hT.rp hT.tw.ht hT.tw.dj hT.tw.d1 hT.tw.d2 hd hpl hI hbf (hn' n rfl) hT.gp hT.nf hT.ck (hT.rom.keeps hT.r5 kp) hT.r5, fun m v => Dic.add m v, .inl ⟨hu, rfl, rfl, rfl⟩, fun k h => h⟩
  refine fun_enter Tryz.func11 rfl rfl (Nat.le_of_ble_eq_true rfl) ?_
  simp only [T.lay, Nat.zero_add, Tryz.ntmps11, Nat.reduceAdd]
  repeat (first | refine code_seq ?_ | ((first | (refine code_region ?_ ?_; (focus rfl)) | (refine code_guards (gs := ?_) ?_ ?_; rotate_left; (focus rfl))); simp only [run1, run2, wanted, go_sem, Nat.reduceLT, Nat.reduceAdd, Nat.reduceEqDiff, reduceIte, reduceCtorEq, gg29, t1, gg30, t2, gg31, t3, e1, fa81_2, ld3, c2, e2]) | (refine code_cond_true ?_ ?_; (focus (simp only [aev, regAt_set, Nat.reduceEqDiff, reduceIte, gg29, t1, gg30, t2, gg31, t3, e1, fa81_2, ld3, c2, e2]; done))) | (refine code_cond_false ?_ ?_; (focus (simp only [aev, regAt_set, Nat.reduceEqDiff, reduceIte, gg29, t1, gg30, t2, gg31, t3, e1, fa81_2, ld3, c2, e2]; done))) | ((first | refine code_skip ?_ | refine code_label ?_ | refine code_exit ?_); try simp only [then_exit, then_normal, blockC, Nat.reduceEqDiff, reduceIte]) | refine code_block ?_)
  refine code_draw (n := 10) (ms := [0, 1, 3, 7, 0, 16, 48, 112, 255, 511]) (ord := [0, 1, 2, 3, 4, 5, 6, 7, 8, 9]) (ds := ?_) ?_ ?_ ?_ ?_ ?_ ?_
  rotate_left
  ·kernel_rfl
  ·kernel_rfl
  ·kernel_rfl
  ·rfl
  ·rfl
  iterate 10 (refine drun_true (by first | rfl | (simp only [wanted, go_sem, Nat.reduceLT, Nat.reduceAdd, Nat.reduceEqDiff, reduceIte, reduceCtorEq, fa81_3, fa81_6, ld3, c3, c6, e3])) (by simp only [aDrawOne, heavy, aReads, eqVal_self, go_sem, Nat.reduceLT, Nat.reduceAdd, Nat.reduceEqDiff, reduceIte, reduceCtorEq, fa81_3, fa81_6, ld3, c3, c6, e3]; try exact rfl) rfl ?_)
  simp only [dRun, endsD_some, then_normal]
  repeat (first | refine code_seq ?_ | ((first | (refine code_region ?_ ?_; (focus rfl)) | (refine code_guards (gs := ?_) ?_ ?_; rotate_left; (focus rfl))); simp only [run1, run2, wanted, go_sem, Nat.reduceLT, Nat.reduceAdd, Nat.reduceEqDiff, reduceIte, reduceCtorEq, gg35, t4, gg36, t5]) | (refine code_cond_true ?_ ?_; (focus (simp only [aev, regAt_set, Nat.reduceEqDiff, reduceIte, gg35, t4, gg36, t5]; done))) | (refine code_cond_false ?_ ?_; (focus (simp only [aev, regAt_set, Nat.reduceEqDiff, reduceIte, gg35, t4, gg36, t5]; done))) | ((first | refine code_skip ?_ | refine code_label ?_ | refine code_exit ?_); try simp only [then_exit, then_normal, blockC, Nat.reduceEqDiff, reduceIte]) | refine code_block ?_)
  refine code_ret ?_
  refine ⟨rfl, _, ?_, rfl, kp, fin⟩
  simp only [aResults, Tryz.results11, aRes, regAt_set, Nat.reduceEqDiff, reduceIte]
 ·have e3 : ilt (.ofNat used) (.ofNat room) = false := (ilt_nat used room).trans (decide_eq_false hu)
  obtain ⟨v6, μ6, t6, vo, ws', p', b', e', ix', room', places', I', K', V', rfl, R⟩ := grown_ends (X := X) (g := k + 5984) (by omega) W3 ⟨hT.tl, hT.td⟩ hT.gp hb hb2 hT.ck hc hT.rp hT.nf (hT.rom.grow (g13.trans (grow_up μ3 10))) hT.r5 hT.tw.rt
  have hk' : Key ws' 51200 w h := by
   rcases hk with ⟨n, h1, h2, h3⟩ | ⟨q, h1, h2, h3⟩
   ·exact .inl ⟨n, h1, h2, h3⟩
   ·have hx := htx q h1 h2
    exact .inr ⟨q, ⟨by rw [R.hws _ (hx q (Nat.le_refl _) (by omega))]; exact h1.head, by rw [R.hws _ (hx (q + 1) (by omega) (by omega))]; exact h1.many, by rw [R.hws _ (hx (q + 2) (by omega) (by omega))]; exact h1.sign, h1.room⟩, h2, h3⟩
  obtain ⟨v7, μ7, t7, g7, i2, pp2, rfl, hF2⟩ := find_ends (X := X) (g := k + 5985) (by omega) R.vw R.tl hk'
  have hne2 : ∀ j n, j < cnt → K' j = some n → w ≠ sw n := fun j n hj hK e4 => by
   obtain ⟨j0, h1, h2, _⟩ := (R.dic n (V' j)).1 ⟨j, hj, hK, rfl⟩
   exact hne j0 n h1 h2 e4
  have hrb' := R.rp.b
  obtain ⟨rfl, d2, hd2, rfl, hI2, hbf2⟩ : i2 = -1 ∧ ∃ d, d < places' ∧ pp2 = .ofNat ((h % places' + d) % places') ∧ I' ((h % places' + d) % places') = -1 ∧ ∀ d', d' < d → I' ((h % places' + d') % places') ≠ -1 := by
   rcases hF2 with ⟨j, n, rfl, hj, hK, rfl⟩ | ⟨e1, _, e2⟩
   ·exact absurd rfl (hne2 j n hj hK)
   ·exact ⟨e1, e2⟩
  obtain ⟨pl2, hpl3⟩ : ∃ pl, pl = (h % places' + d2) % places' := ⟨_, rfl⟩
  rw [← hpl3] at t7 hI2
  have hpl4 : pl2 < places' := by rw [hpl3]; exact Nat.mod_lt _ (by omega)
  have hhd : ws' tq = headW 3 0 4 := by rw [R.hws tq (hT.nf tq (.inl ⟨Nat.le_refl _, by omega⟩))]; exact hT.tw.ht
  have V7 := R.vw.grow g7
  obtain ⟨v4, μ4, v5, μ5, t4, t5, V5, w5⟩ := add_store (X := X) (ga := k + 5992) (gs := k + 5991) (kw := w) (x := x) (by omega) (by omega) V7 R.lt hpl4 (by omega) hhd hT.tw.rt R.d1 R.d2
  have gw : Grow μ ⟨μ3.obs, μ3.next + 10⟩ := g13.trans (grow_up μ3 10)
  have kp : Keeps μ μ5 ap wb lb := by
   have k1 := (Keeps.grow (ap := ap) (wb := wb) (lb := lb) gw).trans (R.kp.trans (Keeps.grow g7))
   have h1 := gw.1
   have h2 := R.hvo
   exact ⟨Nat.le_trans k1.1 w5.1, fun i hi j1 j2 j3 => (w5.2 i (Nat.lt_of_lt_of_le hi k1.1) j2 (by omega)).trans (k1.2 i hi j1 j2 j3)⟩
  have fin : ∀ n, Sm n → w = sw n → ∃ ws' p' b' used' e' ix' room' places' I' K' V', Sx μ5 sp hp ap wb lb ws' p p' b b' s tq cnt used room used' e' ix' room' places' I' K K' V V' n x := fun n hn e4 => by
   subst e4
   have hh := key_small hk hn
   subst hh
   exact ⟨_, p', b', cnt + 1, e', ix', room', places', _, _, _, ts_of hT.tw V5 R.tl R.td hn R.lt R.rp hhd R.vw.dj R.d1 R.d2 hd2 hpl3 hI2 hbf2 (fun j m hj hK e5 => hne2 j m hj hK (by rw [e5])) R.gp R.nf R.hkc (hT.rom.keeps hT.r5 kp) hT.r5, fun m v => (Dic.add m v).trans (or_congr_right (R.dic m v)), .inr ⟨by omega, R.b1, R.b2, rfl, R.rr⟩, R.fr⟩
  refine fun_enter Tryz.func11 rfl rfl (Nat.le_of_ble_eq_true rfl) ?_
  simp only [T.lay, Nat.zero_add, Tryz.ntmps11, Nat.reduceAdd]
  repeat (first | refine code_seq ?_ | ((first | (refine code_region ?_ ?_; (focus rfl)) | (refine code_guards (gs := ?_) ?_ ?_; rotate_left; (focus rfl))); simp only [run1, run2, wanted, go_sem, Nat.reduceLT, Nat.reduceAdd, Nat.reduceEqDiff, reduceIte, reduceCtorEq, gg29, t1, gg30, t2, gg31, t3, e1, fa81_2, ld3, c2, e2]) | (refine code_cond_true ?_ ?_; (focus (simp only [aev, regAt_set, Nat.reduceEqDiff, reduceIte, gg29, t1, gg30, t2, gg31, t3, e1, fa81_2, ld3, c2, e2]; done))) | (refine code_cond_false ?_ ?_; (focus (simp only [aev, regAt_set, Nat.reduceEqDiff, reduceIte, gg29, t1, gg30, t2, gg31, t3, e1, fa81_2, ld3, c2, e2]; done))) | ((first | refine code_skip ?_ | refine code_label ?_ | refine code_exit ?_); try simp only [then_exit, then_normal, blockC, Nat.reduceEqDiff, reduceIte]) | refine code_block ?_)
  refine code_draw (n := 10) (ms := [0, 1, 3, 7, 0, 16, 48, 112, 255, 511]) (ord := [0, 1, 2, 3, 4, 5, 6, 7, 8, 9]) (ds := ?_) ?_ ?_ ?_ ?_ ?_ ?_
  rotate_left
  ·kernel_rfl
  ·kernel_rfl
  ·kernel_rfl
  ·rfl
  ·rfl
  iterate 10 (refine drun_true (by first | rfl | (simp only [wanted, go_sem, Nat.reduceLT, Nat.reduceAdd, Nat.reduceEqDiff, reduceIte, reduceCtorEq, fa81_3, fa81_6, ld3, c3, c6, e3])) (by simp only [aDrawOne, heavy, aReads, eqVal_self, go_sem, Nat.reduceLT, Nat.reduceAdd, Nat.reduceEqDiff, reduceIte, reduceCtorEq, fa81_3, fa81_6, ld3, c3, c6, e3]; try exact rfl) rfl ?_)
  simp only [dRun, endsD_some, then_normal]
  repeat (first | refine code_seq ?_ | ((first | (refine code_region ?_ ?_; (focus rfl)) | (refine code_guards (gs := ?_) ?_ ?_; rotate_left; (focus rfl))); simp only [run1, run2, wanted, go_sem, Nat.reduceLT, Nat.reduceAdd, Nat.reduceEqDiff, reduceIte, reduceCtorEq, gg34, t6, gg31, t7, gg35, t4, gg36, t5]) | (refine code_cond_true ?_ ?_; (focus (simp only [aev, regAt_set, Nat.reduceEqDiff, reduceIte, gg34, t6, gg31, t7, gg35, t4, gg36, t5]; done))) | (refine code_cond_false ?_ ?_; (focus (simp only [aev, regAt_set, Nat.reduceEqDiff, reduceIte, gg34, t6, gg31, t7, gg35, t4, gg36, t5]; done))) | ((first | refine code_skip ?_ | refine code_label ?_ | refine code_exit ?_); try simp only [then_exit, then_normal, blockC, Nat.reduceEqDiff, reduceIte]) | refine code_block ?_)
  refine code_ret ?_
  refine ⟨rfl, _, ?_, rfl, kp, fin⟩
  simp only [aResults, Tryz.results11, aRes, regAt_set, Nat.reduceEqDiff, reduceIte]
end
noncomputable section
variable {X : FuncId → List Value → Mem → Option (Value × Mem)}
set_option maxRecDepth 20000 in
set_option maxHeartbeats 4000000 in
theorem at_out {g n c i : Nat} {a : Option Addr} {μ : Mem} (hg : 10 ≤ g) (h : n ≤ i) : aFun Tryz.prog (aCode Tryz.prog X S0 g) 87 [.slice a n c, .int .i64 (.ofNat i)] μ = some (.int .u32 0, μ) := by
 obtain ⟨k, rfl⟩ := Nat.exists_eq_add_of_le' hg
 refine ends_eq ?_
 have e1 : ilt (.ofNat i) (.ofNat n) = false := (ilt_nat i n).trans (decide_eq_false (by omega))
 refine fun_enter Tryz.func87 rfl rfl (Nat.le_of_ble_eq_true rfl) ?_
 simp only [T.lay, Nat.zero_add, Tryz.ntmps87, Nat.reduceAdd]
 repeat (first | refine code_seq ?_ | ((first | (refine code_region ?_ ?_; (focus rfl)) | (refine code_guards (gs := ?_) ?_ ?_; rotate_left; (focus rfl))); simp only [run1, run2, wanted, go_sem, Nat.reduceLT, Nat.reduceAdd, Nat.reduceEqDiff, reduceIte, reduceCtorEq, aBuiltin, aLen, Tryz.underlying32, cast_nat, e1]) | (refine code_cond_true ?_ ?_; (focus (simp only [aev, regAt_set, Nat.reduceEqDiff, reduceIte, aBuiltin, aLen, Tryz.underlying32, cast_nat, e1]; done))) | (refine code_cond_false ?_ ?_; (focus (simp only [aev, regAt_set, Nat.reduceEqDiff, reduceIte, aBuiltin, aLen, Tryz.underlying32, cast_nat, e1]; done))) | ((first | refine code_skip ?_ | refine code_label ?_ | refine code_exit ?_); try simp only [then_exit, then_normal, blockC, Nat.reduceEqDiff, reduceIte]) | refine code_block ?_)
 refine code_ret ?_
 refine ⟨rfl, _, ?_, rfl, rfl⟩
 simp only [aResults, Tryz.results87, aRes, regAt_set, Nat.reduceEqDiff, reduceIte]
set_option maxRecDepth 20000 in
set_option maxHeartbeats 4000000 in
theorem at_in {g j c x : Nat} {μ : Mem} (hg : 10 ≤ g) (h : cellsAt μ j 0 = some (.int .u32 (.ofNat x))) : aFun Tryz.prog (aCode Tryz.prog X S0 g) 87 [.slice (some ⟨j, 0, none⟩) 1 c, .int .i64 0] μ = some (.int .u32 (.ofNat x), μ) := by
 obtain ⟨k, rfl⟩ := Nat.exists_eq_add_of_le' hg
 refine ends_eq ?_
 have e1 : ilt 0 (.ofNat 1) = true := rfl
 have hix : ∀ (ρ : Operand → Value) (a b : Operand), ρ a = .slice (some ⟨j, 0, none⟩) 1 c → ρ b = .int .i64 0 → aIndexAddr Tryz.prog ρ 32 a b = some (.pointer (some ⟨j, 0, none⟩)) := fun ρ a b h1 h2 => idx32 (m := 0) h1 h2 (by decide)
 refine fun_enter Tryz.func87 rfl rfl (Nat.le_of_ble_eq_true rfl) ?_
 simp only [T.lay, Nat.zero_add, Tryz.ntmps87, Nat.reduceAdd]
 repeat (first | refine code_seq ?_ | ((first | (refine code_region ?_ ?_; (focus rfl)) | (refine code_guards (gs := ?_) ?_ ?_; rotate_left; (focus rfl))); simp only [run1, run2, wanted, go_sem, Nat.reduceLT, Nat.reduceAdd, Nat.reduceEqDiff, reduceIte, reduceCtorEq, aBuiltin, aLen, Tryz.underlying32, cast_nat, e1, hix, ld95, h]) | (refine code_cond_true ?_ ?_; (focus (simp only [aev, regAt_set, Nat.reduceEqDiff, reduceIte, aBuiltin, aLen, Tryz.underlying32, cast_nat, e1, hix, ld95, h]; done))) | (refine code_cond_false ?_ ?_; (focus (simp only [aev, regAt_set, Nat.reduceEqDiff, reduceIte, aBuiltin, aLen, Tryz.underlying32, cast_nat, e1, hix, ld95, h]; done))) | ((first | refine code_skip ?_ | refine code_label ?_ | refine code_exit ?_); try simp only [then_exit, then_normal, blockC, Nat.reduceEqDiff, reduceIte]) | refine code_block ?_)
 refine code_ret ?_
 refine ⟨rfl, _, ?_, rfl, rfl⟩
 simp only [aResults, Tryz.results87, aRes, regAt_set, Nat.reduceEqDiff, reduceIte]
theorem trim_lim {g x : Nat} {l : Value} {μ : Mem} (hg : 100 ≤ g) (h : Lim μ l x) :
  EndsF (aFun Tryz.prog (aCode Tryz.prog X S0 g) 86 [l] μ) fun v μ' => Grow μ μ' ∧ Lim μ' v x := by
 rcases h.2 with ⟨h0, i, c, rfl, _⟩ | ⟨h0, i, c, rfl, hc, hi, hs⟩
 ·subst h0
  obtain ⟨v, μ', t, g1, j, rfl⟩ := trim0 (X := X) (i := i) (c := c) (μ := μ) hg
  exact ⟨_, μ', t, g1, by decide, .inl ⟨rfl, j, 0, rfl, .inl rfl⟩⟩
 ·exact trim_ends (l := [x]) hg hs hi h.1 hc (.inr (.inl ⟨rfl, rfl⟩))
set_option maxRecDepth 20000 in
set_option maxHeartbeats 4000000 in
theorem lsmall_ends {g x : Nat} {l : Value} {μ : Mem} (hg : 120 ≤ g) (h : Lim μ l x) :
  EndsF (aFun Tryz.prog (aCode Tryz.prog X S0 g) 68 [l] μ) fun v μ' => v = .tuple #[.int .u64 (.ofNat x), .bool true] ∧ Grow μ μ' := by
 obtain ⟨k, rfl⟩ := Nat.exists_eq_add_of_le' hg
 obtain ⟨v1, μ1, t1, g1, l1⟩ := trim_lim (X := X) (g := k + 117) (by omega) h
 have e2 : qwrap .u64 0 = .ofNat 0 := rfl
 have e3 : aShift true .u64 (.ofNat 0) 32 = some (.int .u64 (.ofNat 0)) := rfl
 have e4 : qwrap .u64 (.ofNat x) = .ofNat x := qu64 x (by have := h.1; omega)
 have e5 := lor0 x (by have := h.1; omega)
 rcases l1.2 with ⟨h0, i, c, rfl, _⟩ | ⟨h0, i, c, rfl, hc, hi, hs⟩
 ·subst h0
  have e1 : ilt 2 (.ofNat 0) = false := rfl
  have a1 : ∀ g, 10 ≤ g → aFun Tryz.prog (aCode Tryz.prog X S0 g) 87 [.slice (some ⟨i, 0, none⟩) 0 c, .int .i64 1] μ1 = some (.int .u32 0, μ1) := fun g hg => at_out (i := 1) hg (by decide)
  have a0 : ∀ g, 10 ≤ g → aFun Tryz.prog (aCode Tryz.prog X S0 g) 87 [.slice (some ⟨i, 0, none⟩) 0 c, .int .i64 0] μ1 = some (.int .u32 0, μ1) := fun g hg => at_out (i := 0) hg (by decide)
  have e6 : qwrap .u64 (.ofNat 0) = .ofNat 0 := rfl
  have e7 : aBits Nat.lor .u64 .u64 (.ofNat 0) (.ofNat 0) = some (.int .u64 (.ofNat 0)) := rfl
  refine fun_enter Tryz.func68 rfl rfl (Nat.le_of_ble_eq_true rfl) ?_
  simp only [T.lay, Nat.zero_add, Tryz.ntmps68, Nat.reduceAdd]
  repeat (first | refine code_seq ?_ | ((first | (refine code_region ?_ ?_; (focus rfl)) | (refine code_guards (gs := ?_) ?_ ?_; rotate_left; (focus rfl))); simp only [run1, run2, wanted, go_sem, Nat.reduceLT, Nat.reduceAdd, Nat.reduceEqDiff, reduceIte, reduceCtorEq, gg86, t1, aBuiltin, aLen, Tryz.underlying32, cast_nat, e1, gg87, a1, a0, Nat.reduceLeDiff, cv95_26, e2, e3, e7]) | (refine code_cond_true ?_ ?_; (focus (simp only [aev, regAt_set, Nat.reduceEqDiff, reduceIte, gg86, t1, aBuiltin, aLen, Tryz.underlying32, cast_nat, e1, gg87, a1, a0, Nat.reduceLeDiff, cv95_26, e2, e3, e7]; done))) | (refine code_cond_false ?_ ?_; (focus (simp only [aev, regAt_set, Nat.reduceEqDiff, reduceIte, gg86, t1, aBuiltin, aLen, Tryz.underlying32, cast_nat, e1, gg87, a1, a0, Nat.reduceLeDiff, cv95_26, e2, e3, e7]; done))) | ((first | refine code_skip ?_ | refine code_label ?_ | refine code_exit ?_); try simp only [then_exit, then_normal, blockC, Nat.reduceEqDiff, reduceIte]) | refine code_block ?_)
  refine code_ret ?_
  refine ⟨rfl, _, ?_, rfl, g1⟩
  simp only [aResults, Tryz.results68, aRes, regAt_set, Nat.reduceEqDiff, reduceIte]
 ·have e1 : ilt 2 (.ofNat 1) = false := rfl
  have a1 : ∀ g, 10 ≤ g → aFun Tryz.prog (aCode Tryz.prog X S0 g) 87 [.slice (some ⟨i, 0, none⟩) 1 c, .int .i64 1] μ1 = some (.int .u32 0, μ1) := fun g hg => at_out (i := 1) hg (by decide)
  have a0 : ∀ g, 10 ≤ g → aFun Tryz.prog (aCode Tryz.prog X S0 g) 87 [.slice (some ⟨i, 0, none⟩) 1 c, .int .i64 0] μ1 = some (.int .u32 (.ofNat x), μ1) := fun g hg => at_in hg (hs.cell 0 (by simp))
  refine fun_enter Tryz.func68 rfl rfl (Nat.le_of_ble_eq_true rfl) ?_
  simp only [T.lay, Nat.zero_add, Tryz.ntmps68, Nat.reduceAdd]
  repeat (first | refine code_seq ?_ | ((first | (refine code_region ?_ ?_; (focus rfl)) | (refine code_guards (gs := ?_) ?_ ?_; rotate_left; (focus rfl))); simp only [run1, run2, wanted, go_sem, Nat.reduceLT, Nat.reduceAdd, Nat.reduceEqDiff, reduceIte, reduceCtorEq, gg86, t1, aBuiltin, aLen, Tryz.underlying32, cast_nat, e1, gg87, a1, a0, Nat.reduceLeDiff, cv95_26, e2, e3, e4, e5]) | (refine code_cond_true ?_ ?_; (focus (simp only [aev, regAt_set, Nat.reduceEqDiff, reduceIte, gg86, t1, aBuiltin, aLen, Tryz.underlying32, cast_nat, e1, gg87, a1, a0, Nat.reduceLeDiff, cv95_26, e2, e3, e4, e5]; done))) | (refine code_cond_false ?_ ?_; (focus (simp only [aev, regAt_set, Nat.reduceEqDiff, reduceIte, gg86, t1, aBuiltin, aLen, Tryz.underlying32, cast_nat, e1, gg87, a1, a0, Nat.reduceLeDiff, cv95_26, e2, e3, e4, e5]; done))) | ((first | refine code_skip ?_ | refine code_label ?_ | refine code_exit ?_); try simp only [then_exit, then_normal, blockC, Nat.reduceEqDiff, reduceIte]) | refine code_block ?_)
  refine code_ret ?_
  refine ⟨rfl, _, ?_, rfl, g1⟩
  simp only [aResults, Tryz.results68, aRes, regAt_set, Nat.reduceEqDiff, reduceIte]
set_option maxRecDepth 20000 in
set_option maxHeartbeats 4000000 in
theorem esmall_ends {g : Nat} {n : Int} {l : Value} {μ : Mem} (hg : 160 ≤ g) (hn : Sm n) (h : IntV μ l n) :
  EndsF (aFun Tryz.prog (aCode Tryz.prog X S0 g) 45 [l] μ) fun v μ' => v = .tuple #[.int .i64 n, .bool true] ∧ Grow μ μ' := by
 obtain ⟨k, rfl⟩ := Nat.exists_eq_add_of_le' hg
 obtain ⟨w, rfl, hl⟩ := h
 unfold Sm at hn
 obtain ⟨x, hx⟩ : ∃ x, x = n.natAbs := ⟨_, rfl⟩
 rw [← hx] at hl
 obtain ⟨b, hb⟩ : ∃ b, b = decide (n < 0) := ⟨_, rfl⟩
 rw [← hb]
 obtain ⟨μ1, h1⟩ : ∃ m : Mem, m = ⟨μ.obs.set μ.next (.cells (intL b w).length 34 (intL b w).toArray .e 0 0 false false), μ.next + 1⟩ := ⟨_, rfl⟩
 have g1 : Grow μ μ1 := by rw [h1]; exact grow1 μ _
 have n1 : μ.next < μ1.next := by rw [h1]; exact Nat.lt_succ_self _
 have hh : Has μ1 μ.next 0 (intL b w) := Has.new (t := 34) (fx := false) (sh := false) (by rw [h1]; show T.get _ _ = _; rw [T.get_set, if_pos rfl])
 have c1 : cellsAt μ1 μ.next 1 = some w := hh.cell 1 (by simp [intL])
 obtain ⟨v2, μ2, t2, rfl, g2⟩ := lsmall_ends (X := X) (g := k + 157) (by omega) (hl.grow g1)
 have c0 : cellsAt μ2 μ.next 0 = some (.bool b) := by rw [gcell g2 n1]; exact hh.cell 0 (by simp [intL])
 have e1 : ilt 9223372036854775808 (.ofNat x) = false := (ilt_nat 9223372036854775808 x).trans (decide_eq_false (by omega))
 have e2 : ilt 9223372036854775807 (.ofNat x) = false := (ilt_nat 9223372036854775807 x).trans (decide_eq_false (by omega))
 by_cases h0 : n < 0
 ·have hbt : b = true := by rw [hb]; exact decide_eq_true h0
  subst hbt
  obtain ⟨y, hy⟩ : ∃ y : Int, y = IntKind.wrap .u64 (0 - (x : Int)) := ⟨_, rfl⟩
  have p1 : ∀ (ρ : Operand → Value) (d : Option Tmp) (z : Operand) (ty : TypeId) (ps : String) (af : Array Edge) (gd : Option (Nat × Bool)), ρ z = .int .u64 (.ofNat x) → aPlain Tryz.prog ρ ⟨d, .unOp .neg 26 z, ty, ps, af, gd⟩ = some (.int .u64 y) := fun ρ d z ty ps af gd h => plain_neg h hy.symm
  have p2 : aConvInt Tryz.prog 26 3 (.int .u64 y) = some (.int .i64 n) := by
   simp only [aConvInt, Tryz.underlying3, Tryz.underlying26]
   congr 2
   rw [qwrap_eq, hy]
   show IntKind.wrap .i64 _ = _
   unfold IntKind.wrap
   simp only [IntKind.bits, IntKind.signed]
   simp
   split <;> omega
  refine fun_enter Tryz.func45 rfl rfl (Nat.le_of_ble_eq_true rfl) ?_
  simp only [T.lay, Nat.zero_add, Tryz.ntmps45, Nat.reduceAdd]
  repeat (first | refine code_seq ?_ | ((first | (refine code_region ?_ ?_; (focus rfl)) | (refine code_guards (gs := ?_) ?_ ?_; rotate_left; (focus rfl))); simp only [run1, run2, wanted, go_sem, Nat.reduceLT, Nat.reduceAdd, Nat.reduceEqDiff, reduceIte, reduceCtorEq, bx34, Nat.add_eq, h1.symm, fa34_1, ld32, c1, gg68, t2, fa34_0, ld4, c0, e1, p1, p2]) | (refine code_cond_true ?_ ?_; (focus (simp only [aev, regAt_set, Nat.reduceEqDiff, reduceIte, bx34, Nat.add_eq, h1.symm, fa34_1, ld32, c1, gg68, t2, fa34_0, ld4, c0, e1, p1, p2]; done))) | (refine code_cond_false ?_ ?_; (focus (simp only [aev, regAt_set, Nat.reduceEqDiff, reduceIte, bx34, Nat.add_eq, h1.symm, fa34_1, ld32, c1, gg68, t2, fa34_0, ld4, c0, e1, p1, p2]; done))) | ((first | refine code_skip ?_ | refine code_label ?_ | refine code_exit ?_); try simp only [then_exit, then_normal, blockC, Nat.reduceEqDiff, reduceIte]) | refine code_block ?_)
  refine code_ret ?_
  refine ⟨rfl, _, ?_, rfl, g1.trans g2⟩
  simp only [aResults, Tryz.results45, aRes, regAt_set, Nat.reduceEqDiff, reduceIte]
 ·have hbt : b = false := by rw [hb]; exact decide_eq_false h0
  subst hbt
  have p2 : aConvInt Tryz.prog 26 3 (.int .u64 (.ofNat x)) = some (.int .i64 n) := by
   rw [cv26_3 x (by omega)]
   congr 2
   show (x : Int) = n
   omega
  refine fun_enter Tryz.func45 rfl rfl (Nat.le_of_ble_eq_true rfl) ?_
  simp only [T.lay, Nat.zero_add, Tryz.ntmps45, Nat.reduceAdd]
  repeat (first | refine code_seq ?_ | ((first | (refine code_region ?_ ?_; (focus rfl)) | (refine code_guards (gs := ?_) ?_ ?_; rotate_left; (focus rfl))); simp only [run1, run2, wanted, go_sem, Nat.reduceLT, Nat.reduceAdd, Nat.reduceEqDiff, reduceIte, reduceCtorEq, bx34, Nat.add_eq, h1.symm, fa34_1, ld32, c1, gg68, t2, fa34_0, ld4, c0, e2, p2]) | (refine code_cond_true ?_ ?_; (focus (simp only [aev, regAt_set, Nat.reduceEqDiff, reduceIte, bx34, Nat.add_eq, h1.symm, fa34_1, ld32, c1, gg68, t2, fa34_0, ld4, c0, e2, p2]; done))) | (refine code_cond_false ?_ ?_; (focus (simp only [aev, regAt_set, Nat.reduceEqDiff, reduceIte, bx34, Nat.add_eq, h1.symm, fa34_1, ld32, c1, gg68, t2, fa34_0, ld4, c0, e2, p2]; done))) | ((first | refine code_skip ?_ | refine code_label ?_ | refine code_exit ?_); try simp only [then_exit, then_normal, blockC, Nat.reduceEqDiff, reduceIte]) | refine code_block ?_)
  refine code_ret ?_
  refine ⟨rfl, _, ?_, rfl, g1.trans g2⟩
  simp only [aResults, Tryz.results45, aRes, regAt_set, Nat.reduceEqDiff, reduceIte]
end
noncomputable section
variable {X : FuncId → List Value → Mem → Option (Value × Mem)}
set_option maxRecDepth 20000 in
set_option maxHeartbeats 8000000 in
theorem rtrim_ends {g i n c x : Nat} {l : List Nat} {μ : Mem} (hg : 60 ≤ g) (h : Src μ i (u32L l)) (hin : i < μ.next) (hx : x < 4294967296) (hl : (n = 2 ∧ l = [x, 0]) ∨ (n = 1 ∧ l = [x] ∧ x ≠ 0)) :
  EndsF (aFun Tryz.prog (aCode Tryz.prog X S0 g) 84 [.slice (some ⟨i, 0, none⟩) n c] μ) fun v μ' => Grow μ μ' ∧ Lim μ' v x := by
 obtain ⟨k, rfl⟩ := Nat.exists_eq_add_of_le' hg
 have hn : n ≤ (u32L l).length := by rcases hl with ⟨rfl, rfl⟩ | ⟨rfl, rfl, _⟩ <;> simp [u32L]
 obtain ⟨v1, μ1, hap, g1, hres⟩ := copy_app (st := 32) (e := 95) (c := c) Tryz.underlying32 j95 rfl rfl z95 rfl h hn hin (by rcases hl with ⟨rfl, _⟩ | ⟨rfl, _⟩ <;> decide)
 obtain ⟨j, rfl, hj, hs⟩ : ∃ j, v1 = .slice (some ⟨j, 0, none⟩) n 3 ∧ j < μ1.next ∧ Src μ1 j ((u32L l).take n) := by
  rcases hres with ⟨h0, _⟩ | ⟨_, h⟩
  ·rcases hl with ⟨rfl, _⟩ | ⟨rfl, _⟩ <;> cases h0
  ·exact h
 have q0 : ilt 0 (.ofNat 0) = false := rfl
 have q1 : ilt 0 (.ofNat 1) = true := rfl
 have q2 : ilt 0 (.ofNat 2) = true := rfl
 have s1 : qwrap .i64 (Int.sub (.ofNat 1) 1) = .ofNat 0 := rfl
 have s2 : qwrap .i64 (Int.sub (.ofNat 2) 1) = .ofNat 1 := rfl
 have z0 : ieq (.ofNat 0) 0 = true := rfl
 have hsl : ∀ n' m', m' ≤ n' → ∀ (ρ : Operand → Value) (a b : Operand), ρ a = .slice (some ⟨j, 0, none⟩) n' 3 → ρ b = .int .i64 (.ofNat m') → aSlice Tryz.prog ρ 32 a none (some b) none = some (.slice (some ⟨j, 0, none⟩) m' 3) := fun n' m' h ρ a b h1 h2 => slice32 h1 h2 h (.inr rfl)
 have h21 := hsl 2 1 (by decide)
 have h10 := hsl 1 0 (by decide)
 have hi : ∀ n' m', m' < n' → ∀ (ρ : Operand → Value) (a b : Operand), ρ a = .slice (some ⟨j, 0, none⟩) n' 3 → ρ b = .int .i64 (.ofNat m') → aIndexAddr Tryz.prog ρ 32 a b = some (.pointer (some ⟨j, m', none⟩)) := fun n' m' h ρ a b h1 h2 => idx32 h1 h2 h
 have i21 := hi 2 1 (by decide)
 have i10 := hi 1 0 (by decide)
 have hxe : ieq (.ofNat x) 0 = decide (x = 0) := ieq_nat x 0
 rcases hl with ⟨rfl, rfl⟩ | ⟨rfl, rfl, hx0⟩
 ·have c0 : cellsAt μ1 j 0 = some (.int .u32 (.ofNat x)) := hs.cell 0 (by simp [u32L])
  have c1 : cellsAt μ1 j 1 = some (.int .u32 (.ofNat 0)) := hs.cell 1 (by simp [u32L])
  by_cases e : x = 0
  ·have qx : ieq (.ofNat x) 0 = true := hxe.trans (decide_eq_true e)
   refine fun_enter Tryz.func84 rfl rfl (Nat.le_of_ble_eq_true rfl) ?_
   simp only [T.lay, Nat.zero_add, Tryz.ntmps84, Nat.reduceAdd]
   repeat (first | refine code_seq ?_ | ((first | (refine code_region ?_ ?_; (focus rfl)) | (refine code_guards (gs := ?_) ?_ ?_; rotate_left; (focus rfl))); simp only [run1, run2, wanted, go_sem, Nat.reduceLT, Nat.reduceAdd, Nat.reduceEqDiff, reduceIte, reduceCtorEq, bs32z, Nat.add_eq, aBuiltin, hap, aLen, Tryz.underlying32, cast_nat, q0, q1, q2, s1, s2, i21, i10, ld95, c0, c1, z0, qx, h21, h10]) | (refine code_cond_true ?_ ?_; (focus (simp only [aev, regAt_set, Nat.reduceEqDiff, reduceIte, bs32z, Nat.add_eq, aBuiltin, hap, aLen, Tryz.underlying32, cast_nat, q0, q1, q2, s1, s2, i21, i10, ld95, c0, c1, z0, qx, h21, h10]; done))) | (refine code_cond_false ?_ ?_; (focus (simp only [aev, regAt_set, Nat.reduceEqDiff, reduceIte, bs32z, Nat.add_eq, aBuiltin, hap, aLen, Tryz.underlying32, cast_nat, q0, q1, q2, s1, s2, i21, i10, ld95, c0, c1, z0, qx, h21, h10]; done))) | ((first | refine code_skip ?_ | refine code_label ?_ | refine code_exit ?_); try simp only [then_exit, then_normal, blockC, Nat.reduceEqDiff, reduceIte]) | refine code_block ?_ | refine code_loop ?_)
   refine code_ret ?_
   refine ⟨rfl, .slice (some ⟨j, 0, none⟩) 0 3, ?_, g1, hx, .inl ⟨e, j, 3, rfl, .inr rfl⟩⟩
   simp only [aResults, Tryz.results84, aRes, regAt_set, Nat.reduceEqDiff, reduceIte]
  ·have qx : ieq (.ofNat x) 0 = false := hxe.trans (decide_eq_false e)
   refine fun_enter Tryz.func84 rfl rfl (Nat.le_of_ble_eq_true rfl) ?_
   simp only [T.lay, Nat.zero_add, Tryz.ntmps84, Nat.reduceAdd]
   repeat (first | refine code_seq ?_ | ((first | (refine code_region ?_ ?_; (focus rfl)) | (refine code_guards (gs := ?_) ?_ ?_; rotate_left; (focus rfl))); simp only [run1, run2, wanted, go_sem, Nat.reduceLT, Nat.reduceAdd, Nat.reduceEqDiff, reduceIte, reduceCtorEq, bs32z, Nat.add_eq, aBuiltin, hap, aLen, Tryz.underlying32, cast_nat, q0, q1, q2, s1, s2, i21, i10, ld95, c0, c1, z0, qx, h21, h10]) | (refine code_cond_true ?_ ?_; (focus (simp only [aev, regAt_set, Nat.reduceEqDiff, reduceIte, bs32z, Nat.add_eq, aBuiltin, hap, aLen, Tryz.underlying32, cast_nat, q0, q1, q2, s1, s2, i21, i10, ld95, c0, c1, z0, qx, h21, h10]; done))) | (refine code_cond_false ?_ ?_; (focus (simp only [aev, regAt_set, Nat.reduceEqDiff, reduceIte, bs32z, Nat.add_eq, aBuiltin, hap, aLen, Tryz.underlying32, cast_nat, q0, q1, q2, s1, s2, i21, i10, ld95, c0, c1, z0, qx, h21, h10]; done))) | ((first | refine code_skip ?_ | refine code_label ?_ | refine code_exit ?_); try simp only [then_exit, then_normal, blockC, Nat.reduceEqDiff, reduceIte]) | refine code_block ?_ | refine code_loop ?_)
   refine code_ret ?_
   refine ⟨rfl, .slice (some ⟨j, 0, none⟩) 1 3, ?_, g1, hx, .inr ⟨e, j, 3, rfl, .inr rfl, hj, ?_⟩⟩
   ·simp only [aResults, Tryz.results84, aRes, regAt_set, Nat.reduceEqDiff, reduceIte]
   ·obtain ⟨m, te, z, ov, lo, hi2, fx, sh, o1, o2, o3⟩ := hs
    exact ⟨m, te, z, ov, lo, hi2, fx, sh, o1, Nat.le_trans (by simp [u32L]) o2, fun k hk => by
     obtain rfl : k = 0 := by simp at hk; exact hk
     exact o3 0 (by simp [u32L])⟩
 ·have c0 : cellsAt μ1 j 0 = some (.int .u32 (.ofNat x)) := hs.cell 0 (by simp [u32L])
  have qx : ieq (.ofNat x) 0 = false := hxe.trans (decide_eq_false hx0)
  refine fun_enter Tryz.func84 rfl rfl (Nat.le_of_ble_eq_true rfl) ?_
  simp only [T.lay, Nat.zero_add, Tryz.ntmps84, Nat.reduceAdd]
  repeat (first | refine code_seq ?_ | ((first | (refine code_region ?_ ?_; (focus rfl)) | (refine code_guards (gs := ?_) ?_ ?_; rotate_left; (focus rfl))); simp only [run1, run2, wanted, go_sem, Nat.reduceLT, Nat.reduceAdd, Nat.reduceEqDiff, reduceIte, reduceCtorEq, bs32z, Nat.add_eq, aBuiltin, hap, aLen, Tryz.underlying32, cast_nat, q0, q1, q2, s1, s2, i10, ld95, c0, qx]) | (refine code_cond_true ?_ ?_; (focus (simp only [aev, regAt_set, Nat.reduceEqDiff, reduceIte, bs32z, Nat.add_eq, aBuiltin, hap, aLen, Tryz.underlying32, cast_nat, q0, q1, q2, s1, s2, i10, ld95, c0, qx]; done))) | (refine code_cond_false ?_ ?_; (focus (simp only [aev, regAt_set, Nat.reduceEqDiff, reduceIte, bs32z, Nat.add_eq, aBuiltin, hap, aLen, Tryz.underlying32, cast_nat, q0, q1, q2, s1, s2, i10, ld95, c0, qx]; done))) | ((first | refine code_skip ?_ | refine code_label ?_ | refine code_exit ?_); try simp only [then_exit, then_normal, blockC, Nat.reduceEqDiff, reduceIte]) | refine code_block ?_ | refine code_loop ?_)
  refine code_ret ?_
  refine ⟨rfl, .slice (some ⟨j, 0, none⟩) 1 3, ?_, g1, hx, .inr ⟨hx0, j, 3, rfl, .inr rfl, hj, hs⟩⟩
  simp only [aResults, Tryz.results84, aRes, regAt_set, Nat.reduceEqDiff, reduceIte]
set_option maxRecDepth 20000 in
set_option maxHeartbeats 8000000 in
theorem rof_ends {g x : Nat} {μ : Mem} (hg : 100 ≤ g) (hx : x < 4294967296) :
  EndsF (aFun Tryz.prog (aCode Tryz.prog X S0 g) 65 [.int .u64 (.ofNat x)] μ) fun v μ' => Grow μ μ' ∧ Lim μ' v x := by
 obtain ⟨k, rfl⟩ := Nat.exists_eq_add_of_le' hg
 have e1 : aDiv true .u64 .u64 (.ofNat x) 4294967296 = some (.int .u64 (.ofNat x)) := by
  have := remu x 4294967296 (by decide)
  rw [Nat.mod_eq_of_lt hx] at this
  exact this
 have e2 : aDiv false .u64 .u64 (.ofNat x) 4294967296 = some (.int .u64 (.ofNat 0)) := by
  show some (Value.int .u64 (qwrap .u64 (.ofNat (x / 4294967296)))) = _
  rw [Nat.div_eq_of_lt hx]; rfl
 have e3 : qwrap .u32 (.ofNat x) = .ofNat x := qu32 x hx
 have e4 : qwrap .u32 (.ofNat 0) = .ofNat 0 := rfl
 have hb : ∀ (ρ : Operand → Value) (a b : Operand), ρ a = .int .u32 (.ofNat x) → ρ b = .int .u32 (.ofNat 0) → aBuildSlice Tryz.prog ρ 32 2 #[(0, a), (1, b)] = some (.cells 2 95 #[.int .u32 (.ofNat x), .int .u32 (.ofNat 0)] .e 0 0 false false, fun id => .slice (some ⟨id, 0, none⟩) 2 4) := fun ρ a b h1 h2 => bs32_2 ρ a b _ _ h1 h2
 have hs : Src ⟨μ.obs.set μ.next (.cells 2 95 #[.int .u32 (.ofNat x), .int .u32 (.ofNat 0)] .e 0 0 false false), μ.next + 1⟩ μ.next (u32L [x, 0]) := Src.new (t := 95) (lo := 0) (hi := 0) (fx := false) (sh := false) (l := u32L [x, 0]) (by show T.get _ _ = _; rw [T.get_set, if_pos rfl]; rfl)
 obtain ⟨v1, μ1, t1, g1, l1⟩ := rtrim_ends (X := X) (g := k + 97) (n := 2) (c := 4) (by omega) hs (Nat.lt_succ_self _) hx (.inl ⟨rfl, rfl⟩)
 refine fun_enter Tryz.func65 rfl rfl (Nat.le_of_ble_eq_true rfl) ?_
 simp only [T.lay, Nat.zero_add, Tryz.ntmps65, Nat.reduceAdd]
 repeat (first | refine code_seq ?_ | ((first | (refine code_region ?_ ?_; (focus rfl)) | (refine code_guards (gs := ?_) ?_ ?_; rotate_left; (focus rfl))); simp only [run1, run2, wanted, go_sem, Nat.reduceLT, Nat.reduceAdd, Nat.reduceEqDiff, reduceIte, reduceCtorEq, e1, cv26_95, e3, e2, e4, hb, Nat.add_eq, gg84, t1]) | (refine code_cond_true ?_ ?_; (focus (simp only [aev, regAt_set, Nat.reduceEqDiff, reduceIte, e1, cv26_95, e3, e2, e4, hb, Nat.add_eq, gg84, t1]; done))) | (refine code_cond_false ?_ ?_; (focus (simp only [aev, regAt_set, Nat.reduceEqDiff, reduceIte, e1, cv26_95, e3, e2, e4, hb, Nat.add_eq, gg84, t1]; done))) | ((first | refine code_skip ?_ | refine code_label ?_ | refine code_exit ?_); try simp only [then_exit, then_normal, blockC, Nat.reduceEqDiff, reduceIte]) | refine code_block ?_)
 refine code_ret ?_
 refine ⟨rfl, _, ?_, (grow1 μ _).trans g1, l1⟩
 simp only [aResults, Tryz.results65, aRes, regAt_set, Nat.reduceEqDiff, reduceIte]
set_option maxRecDepth 20000 in
set_option maxHeartbeats 4000000 in
theorem rat_out {g n c i : Nat} {a : Option Addr} {μ : Mem} (hg : 10 ≤ g) (h : n ≤ i) : aFun Tryz.prog (aCode Tryz.prog X S0 g) 85 [.slice a n c, .int .i64 (.ofNat i)] μ = some (.int .u64 0, μ) := by
 obtain ⟨k, rfl⟩ := Nat.exists_eq_add_of_le' hg
 refine ends_eq ?_
 have e1 : ilt (.ofNat i) (.ofNat n) = false := (ilt_nat i n).trans (decide_eq_false (by omega))
 refine fun_enter Tryz.func85 rfl rfl (Nat.le_of_ble_eq_true rfl) ?_
 simp only [T.lay, Nat.zero_add, Tryz.ntmps85, Nat.reduceAdd]
 repeat (first | refine code_seq ?_ | ((first | (refine code_region ?_ ?_; (focus rfl)) | (refine code_guards (gs := ?_) ?_ ?_; rotate_left; (focus rfl))); simp only [run1, run2, wanted, go_sem, Nat.reduceLT, Nat.reduceAdd, Nat.reduceEqDiff, reduceIte, reduceCtorEq, aBuiltin, aLen, Tryz.underlying32, cast_nat, e1]) | (refine code_cond_true ?_ ?_; (focus (simp only [aev, regAt_set, Nat.reduceEqDiff, reduceIte, aBuiltin, aLen, Tryz.underlying32, cast_nat, e1]; done))) | (refine code_cond_false ?_ ?_; (focus (simp only [aev, regAt_set, Nat.reduceEqDiff, reduceIte, aBuiltin, aLen, Tryz.underlying32, cast_nat, e1]; done))) | ((first | refine code_skip ?_ | refine code_label ?_ | refine code_exit ?_); try simp only [then_exit, then_normal, blockC, Nat.reduceEqDiff, reduceIte]) | refine code_block ?_)
 refine code_ret ?_
 refine ⟨rfl, _, ?_, rfl, rfl⟩
 simp only [aResults, Tryz.results85, aRes, regAt_set, Nat.reduceEqDiff, reduceIte]
set_option maxRecDepth 20000 in
set_option maxHeartbeats 4000000 in
theorem rat_in {g j c x : Nat} {μ : Mem} (hg : 10 ≤ g) (hx : x < 4294967296) (h : cellsAt μ j 0 = some (.int .u32 (.ofNat x))) : aFun Tryz.prog (aCode Tryz.prog X S0 g) 85 [.slice (some ⟨j, 0, none⟩) 1 c, .int .i64 0] μ = some (.int .u64 (.ofNat x), μ) := by
 obtain ⟨k, rfl⟩ := Nat.exists_eq_add_of_le' hg
 refine ends_eq ?_
 have e1 : ilt 0 (.ofNat 1) = true := rfl
 have e2 : qwrap .u64 (.ofNat x) = .ofNat x := qu64 x (by omega)
 have hix : ∀ (ρ : Operand → Value) (a b : Operand), ρ a = .slice (some ⟨j, 0, none⟩) 1 c → ρ b = .int .i64 0 → aIndexAddr Tryz.prog ρ 32 a b = some (.pointer (some ⟨j, 0, none⟩)) := fun ρ a b h1 h2 => idx32 (m := 0) h1 h2 (by decide)
 refine fun_enter Tryz.func85 rfl rfl (Nat.le_of_ble_eq_true rfl) ?_
 simp only [T.lay, Nat.zero_add, Tryz.ntmps85, Nat.reduceAdd]
 repeat (first | refine code_seq ?_ | ((first | (refine code_region ?_ ?_; (focus rfl)) | (refine code_guards (gs := ?_) ?_ ?_; rotate_left; (focus rfl))); simp only [run1, run2, wanted, go_sem, Nat.reduceLT, Nat.reduceAdd, Nat.reduceEqDiff, reduceIte, reduceCtorEq, aBuiltin, aLen, Tryz.underlying32, cast_nat, e1, hix, ld95, h, cv95_26, e2]) | (refine code_cond_true ?_ ?_; (focus (simp only [aev, regAt_set, Nat.reduceEqDiff, reduceIte, aBuiltin, aLen, Tryz.underlying32, cast_nat, e1, hix, ld95, h, cv95_26, e2]; done))) | (refine code_cond_false ?_ ?_; (focus (simp only [aev, regAt_set, Nat.reduceEqDiff, reduceIte, aBuiltin, aLen, Tryz.underlying32, cast_nat, e1, hix, ld95, h, cv95_26, e2]; done))) | ((first | refine code_skip ?_ | refine code_label ?_ | refine code_exit ?_); try simp only [then_exit, then_normal, blockC, Nat.reduceEqDiff, reduceIte]) | refine code_block ?_)
 refine code_ret ?_
 refine ⟨rfl, _, ?_, rfl, rfl⟩
 simp only [aResults, Tryz.results85, aRes, regAt_set, Nat.reduceEqDiff, reduceIte]
end
noncomputable section
variable {X : FuncId → List Value → Mem → Option (Value × Mem)}
set_option maxRecDepth 20000 in
set_option maxHeartbeats 16000000 in
theorem rplus_ends {g x q : Nat} {l : Value} {μ : Mem} (hg : 200 ≤ g) (h : Lim μ l x) (hx : x + 1 < 4294967296) (hq : cellsAt μ q 0 = some (.int .u32 (.ofNat 1))) (hqn : q < μ.next) :
  EndsF (aFun Tryz.prog (aCode Tryz.prog X S0 g) 66 [l, .slice (some ⟨q, 0, none⟩) 1 2] μ) fun v μ' => Grow μ μ' ∧ Lim μ' v (x + 1) := by
 obtain ⟨k, rfl⟩ := Nat.exists_eq_add_of_le' hg
 obtain ⟨μ1, h1⟩ : ∃ M : Mem, M = ⟨μ.obs.set μ.next (.cells 0 95 #[] .e 0 0 false false), μ.next + 1⟩ := ⟨_, rfl⟩
 have g1 : Grow μ μ1 := by rw [h1]; exact grow1 μ _
 have n1 : μ1.next = μ.next + 1 := by rw [h1]
 have q1 : cellsAt μ1 q 0 = some (.int .u32 (.ofNat 1)) := by rw [gcell g1 hqn]; exact hq
 obtain ⟨y, hy⟩ : ∃ y, y = x + 1 := ⟨_, rfl⟩
 rw [← hy]
 have ab : ∀ g, 10 ≤ g → aFun Tryz.prog (aCode Tryz.prog X S0 g) 85 [.slice (some ⟨q, 0, none⟩) 1 2, .int .i64 0] μ1 = some (.int .u64 (.ofNat 1), μ1) := fun g hg => rat_in hg (by decide) q1
 obtain ⟨μ2, h2⟩ : ∃ M : Mem, M = ⟨μ1.obs.set μ1.next (.cells 1 95 #[.int .u32 (.ofNat y)] .e 0 0 false false), μ1.next + 1⟩ := ⟨_, rfl⟩
 have g2 : Grow μ1 μ2 := by rw [h2]; exact grow1 μ1 _
 have n2 : μ2.next = μ1.next + 1 := by rw [h2]
 obtain ⟨v3, μ3, a3, o3, n3, w3, k3⟩ := append_one (P := Tryz.prog) (st := 32) (e := 95) (v := .slice (some ⟨μ.next, 0, none⟩) 0 0) (xs := []) (x := .int .u32 (.ofNat y)) (μ := μ2) (q := μ1.next) Tryz.underlying32 j95 rfl rfl z95 rfl
  (.inr ⟨μ.next, 0, #[], .e, false, false, 0, rfl, by rw [h2]; show T.get _ _ = _; rw [T.get_set, if_neg (by omega), h1]; show T.get _ _ = _; rw [T.get_set, if_pos rfl], Nat.le_refl _, fun k hk => absurd hk (Nat.not_lt_zero _), .inl ⟨rfl, rfl⟩⟩)
  (by rw [h2]; show T.get _ _ = _; rw [T.get_set, if_pos rfl]) (by decide) rfl
 obtain ⟨i3, c3, rfl, hi3, hs3⟩ : ∃ i c, v3 = .slice (some ⟨i, 0, none⟩) 1 c ∧ i < μ3.next ∧ Src μ3 i (u32L [y]) := by
  rcases o3 with ⟨_, e⟩ | ⟨i, m, z, ov, fx, sh, c, e1, e2, e3, e4, e5⟩
  ·cases e
  ·obtain ⟨a, b, e6⟩ := w3
   rw [e1] at e6
   cases e6
   exact ⟨_, c, e1, by omega, m, 95, z, ov, 0, 0, fx, sh, e2, e3, e4⟩
 have g3 : Grow μ μ3 := by
  refine ⟨by omega, fun i hi => ?_⟩
  rw [k3 i (by omega) (by rintro ⟨a, b, e⟩; cases e; omega), g2.2 i (by omega), g1.2 i hi]
 obtain ⟨v4, μ4, t4, g4, l4⟩ := rtrim_ends (X := X) (g := k + 194) (n := 1) (c := c3) (l := [y]) (x := y) (by omega) hs3 hi3 (by omega) (.inr ⟨rfl, rfl, by omega⟩)
 have e1 : aDiv true .u64 .u64 (.ofNat y) 4294967296 = some (.int .u64 (.ofNat y)) := by
  have := remu y 4294967296 (by decide)
  rw [Nat.mod_eq_of_lt (by omega)] at this
  exact this
 have e2 : aDiv false .u64 .u64 (.ofNat y) 4294967296 = some (.int .u64 (.ofNat 0)) := by
  show some (Value.int .u64 (qwrap .u64 (.ofNat (y / 4294967296)))) = _
  rw [Nat.div_eq_of_lt (by omega)]; rfl
 have e3 : qwrap .u32 (.ofNat y) = .ofNat y := qu32 y (by omega)
 have e4 : qwrap .i64 (Int.add 0 1) = 1 := rfl
 have e5 : qwrap .u64 (Int.add (.ofNat y) 0) = .ofNat y := by rw [show Int.add (.ofNat y) 0 = .ofNat y from Int.add_zero _]; exact qu64 y (by omega)
 have b1 : ilt 0 (.ofNat 1) = true := rfl
 have b2 : ilt 0 (.ofNat 0) = false := rfl
 have b3 : ilt 1 (.ofNat 1) = false := rfl
 have b4 : ilt 1 (.ofNat 0) = false := rfl
 rcases h.2 with ⟨h0, i, c, rfl, _⟩ | ⟨h0, i, c, rfl, hc, hi, hs⟩
 ·have aa : ∀ g, 10 ≤ g → aFun Tryz.prog (aCode Tryz.prog X S0 g) 85 [.slice (some ⟨i, 0, none⟩) 0 c, .int .i64 0] μ1 = some (.int .u64 0, μ1) := fun g hg => rat_out (i := 0) hg (by decide)
  have e6 : qwrap .u64 (Int.add 0 (.ofNat 1)) = .ofNat y := by rw [hy, h0]; rfl
  refine fun_enter Tryz.func66 rfl rfl (Nat.le_of_ble_eq_true rfl) ?_
  simp only [T.lay, Nat.zero_add, Tryz.ntmps66, Nat.reduceAdd]
  repeat (first | refine code_seq ?_ | ((first | (refine code_region ?_ ?_; (focus rfl)) | (refine code_guards (gs := ?_) ?_ ?_; rotate_left; (focus rfl))); simp only [run1, run2, wanted, go_sem, Nat.reduceLT, Nat.reduceAdd, Nat.reduceEqDiff, reduceIte, reduceCtorEq, bs32z, Nat.add_eq, h1.symm, aBuiltin, aLen, Tryz.underlying32, cast_nat, b1, b2, b3, b4, gg85, aa, ab, Nat.reduceLeDiff, e6, e5, e1, cv26_95, e3, bs32_1, one, h2.symm, a3, e2, e4, gg84, t4]) | (refine code_cond_true ?_ ?_; (focus (simp only [aev, regAt_set, Nat.reduceEqDiff, reduceIte, bs32z, Nat.add_eq, h1.symm, aBuiltin, aLen, Tryz.underlying32, cast_nat, b1, b2, b3, b4, gg85, aa, ab, Nat.reduceLeDiff, e6, e5, e1, cv26_95, e3, bs32_1, one, h2.symm, a3, e2, e4, gg84, t4]; done))) | (refine code_cond_false ?_ ?_; (focus (simp only [aev, regAt_set, Nat.reduceEqDiff, reduceIte, bs32z, Nat.add_eq, h1.symm, aBuiltin, aLen, Tryz.underlying32, cast_nat, b1, b2, b3, b4, gg85, aa, ab, Nat.reduceLeDiff, e6, e5, e1, cv26_95, e3, bs32_1, one, h2.symm, a3, e2, e4, gg84, t4]; done))) | ((first | refine code_skip ?_ | refine code_label ?_ | refine code_exit ?_); try simp only [then_exit, then_normal, blockC, Nat.reduceEqDiff, reduceIte]) | refine code_block ?_ | refine code_loop ?_)
  refine code_ret ?_
  refine ⟨rfl, _, ?_, g3.trans g4, l4⟩
  simp only [aResults, Tryz.results66, aRes, regAt_set, Nat.reduceEqDiff, reduceIte]
 ·have aa : ∀ g, 10 ≤ g → aFun Tryz.prog (aCode Tryz.prog X S0 g) 85 [.slice (some ⟨i, 0, none⟩) 1 c, .int .i64 0] μ1 = some (.int .u64 (.ofNat x), μ1) := fun g hg => rat_in hg h.1 ((hs.keep (g1.2 i hi)).cell 0 (by simp))
  have e6 : qwrap .u64 (Int.add (.ofNat x) (.ofNat 1)) = .ofNat y := by rw [hy]; exact qu64 (x + 1) (by omega)
  refine fun_enter Tryz.func66 rfl rfl (Nat.le_of_ble_eq_true rfl) ?_
  simp only [T.lay, Nat.zero_add, Tryz.ntmps66, Nat.reduceAdd]
  repeat (first | refine code_seq ?_ | ((first | (refine code_region ?_ ?_; (focus rfl)) | (refine code_guards (gs := ?_) ?_ ?_; rotate_left; (focus rfl))); simp only [run1, run2, wanted, go_sem, Nat.reduceLT, Nat.reduceAdd, Nat.reduceEqDiff, reduceIte, reduceCtorEq, bs32z, Nat.add_eq, h1.symm, aBuiltin, aLen, Tryz.underlying32, cast_nat, b1, b2, b3, b4, gg85, aa, ab, Nat.reduceLeDiff, e6, e5, e1, cv26_95, e3, bs32_1, one, h2.symm, a3, e2, e4, gg84, t4]) | (refine code_cond_true ?_ ?_; (focus (simp only [aev, regAt_set, Nat.reduceEqDiff, reduceIte, bs32z, Nat.add_eq, h1.symm, aBuiltin, aLen, Tryz.underlying32, cast_nat, b1, b2, b3, b4, gg85, aa, ab, Nat.reduceLeDiff, e6, e5, e1, cv26_95, e3, bs32_1, one, h2.symm, a3, e2, e4, gg84, t4]; done))) | (refine code_cond_false ?_ ?_; (focus (simp only [aev, regAt_set, Nat.reduceEqDiff, reduceIte, bs32z, Nat.add_eq, h1.symm, aBuiltin, aLen, Tryz.underlying32, cast_nat, b1, b2, b3, b4, gg85, aa, ab, Nat.reduceLeDiff, e6, e5, e1, cv26_95, e3, bs32_1, one, h2.symm, a3, e2, e4, gg84, t4]; done))) | ((first | refine code_skip ?_ | refine code_label ?_ | refine code_exit ?_); try simp only [then_exit, then_normal, blockC, Nat.reduceEqDiff, reduceIte]) | refine code_block ?_ | refine code_loop ?_)
  refine code_ret ?_
  refine ⟨rfl, _, ?_, g3.trans g4, l4⟩
  simp only [aResults, Tryz.results66, aRes, regAt_set, Nat.reduceEqDiff, reduceIte]
def IntW (μ : Mem) (v : Value) (n : Int) : Prop := (n ≠ 0 ∧ IntV μ v n) ∨ (n = 0 ∧ v = .agg (intL false nilS).toArray)
theorem IntW.grow {μ μ' : Mem} {v : Value} {n : Int} (h : IntW μ v n) (g : Grow μ μ') : IntW μ' v n := h.imp (fun ⟨a, b⟩ => ⟨a, b.grow g⟩) id
theorem bd34z (ρ : Operand → Value) : aBuild Tryz.prog ρ 34 #[] = some (.agg (intL false nilS).toArray) := by
 refine build_struct (pl := [(0, 1), (1, 1)]) z34 Tryz.underlying34 (by kernel_rfl) ?_
 rfl
theorem tell34W {μ μ1 : Mem} {v : Value} {n : Int} (hg : Grow ⟨μ.obs.set μ.next ob34, μ.next + 1⟩ μ1) (h : IntW μ1 v n) :
  ∃ μ2, aStore Tryz.prog μ1 34 (.pointer (some ⟨μ.next, 0, none⟩)) v = some (undef, μ2) ∧ aLoad Tryz.prog μ2 34 (.pointer (some ⟨μ.next, 0, none⟩)) = some v ∧ Grow μ μ2 ∧ IntW μ2 v n := by
 rcases h with ⟨h0, h⟩ | ⟨h0, rfl⟩
 ·obtain ⟨μ2, a, b, c, d⟩ := tell34 hg h
  exact ⟨μ2, a, b, c, .inl ⟨h0, d⟩⟩
 ·have hb := blkI hg
  exact ⟨_, store_puts (P := Tryz.prog) (t := 34) (vs := intL false nilS) j34 rfl rfl hb (by decide), lds34 (Has.of_put hb (by decide)) rfl, ((grow1 μ _).trans hg).put_new (Nat.le_refl _), .inr ⟨h0, rfl⟩⟩
set_option maxRecDepth 20000 in
set_option maxHeartbeats 8000000 in
theorem rmadeI_ends {g x : Nat} {b : Bool} {n : Int} {l : Value} {μ : Mem} (hg : 30 ≤ g) (h : Lim μ l x) (hn : n.natAbs = x) (hb : x ≠ 0 → b = decide (n < 0)) :
  EndsF (aFun Tryz.prog (aCode Tryz.prog X S0 g) 64 [.bool b, l] μ) fun v μ' => Grow μ μ' ∧ IntW μ' v n := by
 obtain ⟨k, rfl⟩ := Nat.exists_eq_add_of_le' hg
 obtain ⟨a, c, hl⟩ := lim_len h
 by_cases h0 : x = 0
 ·obtain ⟨μ2, s2, d2, g2, l2⟩ := tell34W (μ := μ) (Grow.refl _) (v := .agg (intL false nilS).toArray) (n := n) (.inr ⟨by omega, rfl⟩)
  rw [if_pos h0] at hl
  subst hl
  have e1 : ieq (.ofNat 0) 0 = true := rfl
  refine fun_enter Tryz.func64 rfl rfl (Nat.le_of_ble_eq_true rfl) ?_
  simp only [T.lay, Nat.zero_add, Tryz.ntmps64, Nat.reduceAdd]
  repeat (first | refine code_seq ?_ | ((first | (refine code_region ?_ ?_; (focus rfl)) | (refine code_guards (gs := ?_) ?_ ?_; rotate_left; (focus rfl))); simp only [run1, run2, wanted, go_sem, Nat.reduceLT, Nat.reduceAdd, Nat.reduceEqDiff, reduceIte, reduceCtorEq, al34, Nat.add_eq, aBuiltin, aLen, Tryz.underlying32, cast_nat, e1, bd34z, s2]) | (refine code_cond_true ?_ ?_; (focus (simp only [aev, regAt_set, Nat.reduceEqDiff, reduceIte, al34, Nat.add_eq, aBuiltin, aLen, Tryz.underlying32, cast_nat, e1, bd34z, s2]; done))) | (refine code_cond_false ?_ ?_; (focus (simp only [aev, regAt_set, Nat.reduceEqDiff, reduceIte, al34, Nat.add_eq, aBuiltin, aLen, Tryz.underlying32, cast_nat, e1, bd34z, s2]; done))) | ((first | refine code_skip ?_ | refine code_label ?_ | refine code_exit ?_); try simp only [then_exit, then_normal, blockC, Nat.reduceEqDiff, reduceIte]) | refine code_block ?_)
  refine code_ret ?_
  refine ⟨rfl, _, ?_, g2, l2⟩
  simp only [aResults, Tryz.results64, aRes, regAt_set, Nat.reduceEqDiff, reduceIte]
  simp only [d2]
 ·have hbb := hb h0
  subst hbb
  obtain ⟨μ2, s2, d2, g2, l2⟩ := tell34W (μ := μ) (Grow.refl _) (v := .agg (intL (decide (n < 0)) l).toArray) (n := n) (.inl ⟨by omega, l, rfl, hn ▸ h.grow (grow1 μ ob34)⟩)
  obtain ⟨b, hb⟩ : ∃ b, b = decide (n < 0) := ⟨_, rfl⟩
  rw [← hb] at s2 d2 l2 ⊢
  have hbd : ∀ (ρ : Operand → Value) (a' c' : Operand), ρ a' = .bool b → ρ c' = l → aBuild Tryz.prog ρ 34 #[(0, a'), (1, c')] = some (.agg (intL b l).toArray) := fun ρ a c h1 h2 => bd34 ρ a c _ _ h1 h2 h.one
  rw [if_neg h0] at hl
  subst hl
  have e1 : ieq (.ofNat 1) 0 = false := rfl
  refine fun_enter Tryz.func64 rfl rfl (Nat.le_of_ble_eq_true rfl) ?_
  simp only [T.lay, Nat.zero_add, Tryz.ntmps64, Nat.reduceAdd]
  repeat (first | refine code_seq ?_ | ((first | (refine code_region ?_ ?_; (focus rfl)) | (refine code_guards (gs := ?_) ?_ ?_; rotate_left; (focus rfl))); simp only [run1, run2, wanted, go_sem, Nat.reduceLT, Nat.reduceAdd, Nat.reduceEqDiff, reduceIte, reduceCtorEq, al34, Nat.add_eq, aBuiltin, aLen, Tryz.underlying32, cast_nat, e1, hbd, s2]) | (refine code_cond_true ?_ ?_; (focus (simp only [aev, regAt_set, Nat.reduceEqDiff, reduceIte, al34, Nat.add_eq, aBuiltin, aLen, Tryz.underlying32, cast_nat, e1, hbd, s2]; done))) | (refine code_cond_false ?_ ?_; (focus (simp only [aev, regAt_set, Nat.reduceEqDiff, reduceIte, al34, Nat.add_eq, aBuiltin, aLen, Tryz.underlying32, cast_nat, e1, hbd, s2]; done))) | ((first | refine code_skip ?_ | refine code_label ?_ | refine code_exit ?_); try simp only [then_exit, then_normal, blockC, Nat.reduceEqDiff, reduceIte]) | refine code_block ?_)
  refine code_ret ?_
  refine ⟨rfl, _, ?_, g2, l2⟩
  simp only [aResults, Tryz.results64, aRes, regAt_set, Nat.reduceEqDiff, reduceIte]
  simp only [d2]
set_option maxRecDepth 20000 in
set_option maxHeartbeats 8000000 in
theorem rofI_ends {g : Nat} {n : Int} {μ : Mem} (hg : 260 ≤ g) (hn : Sm n) :
  EndsF (aFun Tryz.prog (aCode Tryz.prog X S0 g) 43 [.int .i64 n] μ) fun v μ' => Grow μ μ' ∧ IntW μ' v n := by
 obtain ⟨k, rfl⟩ := Nat.exists_eq_add_of_le' hg
 unfold Sm at hn
 by_cases h0 : n < 0
 ·obtain ⟨x, hx⟩ : ∃ x : Nat, (x : Int) = -1 - n := ⟨(-1 - n).toNat, by omega⟩
  obtain ⟨v1, μ1, t1, g1, l1⟩ := rof_ends (X := X) (g := k + 256) (x := x) (μ := ⟨μ.obs.set μ.next ob34, μ.next + 1⟩) (by omega) (by omega)
  obtain ⟨μ2, h2⟩ : ∃ M : Mem, M = ⟨μ1.obs.set μ1.next (.cells 1 95 #[.int .u32 (.ofNat 1)] .e 0 0 false false), μ1.next + 1⟩ := ⟨_, rfl⟩
  have g2 : Grow μ1 μ2 := by rw [h2]; exact grow1 μ1 _
  obtain ⟨v3, μ3, t3, g3, l3⟩ := rplus_ends (X := X) (g := k + 256) (q := μ1.next) (μ := μ2) (by omega) (l1.grow g2) (by omega) (by rw [h2]; exact new_cell) (by rw [h2]; exact Nat.lt_succ_self _)
  obtain ⟨v4, μ4, t4, g4, l4⟩ := rmadeI_ends (X := X) (g := k + 256) (b := true) (n := n) (by omega) l3 (by omega) (fun _ => (decide_eq_true h0).symm)
  obtain ⟨μ5, s5, d5, g5, l5⟩ := tell34W (g1.trans (g2.trans (g3.trans g4))) l4
  have e1 : ilt n 0 = true := by rw [ilt_eq]; exact decide_eq_true h0
  have e2 : qwrap .i64 (Int.sub (-1) n) = .ofNat x := by rw [wrap_i64 _ (by show _ ≤ -1 - n; omega) (by show -1 - n < _; omega)]; exact hx.symm
  have e3 : qwrap .u64 (.ofNat x) = .ofNat x := qu64 x (by omega)
  have e4 : aBuildSlice Tryz.prog = aBuildSlice Tryz.prog := rfl
  have hbs : ∀ r : Rg, aBuildSlice Tryz.prog (aev Tryz.prog r) 32 1 #[(0, .const (.int .u32 1))] = some (.cells 1 95 #[.int .u32 (.ofNat 1)] .e 0 0 false false, fun id => .slice (some ⟨id, 0, none⟩) 1 2) := fun r => bs32_1 (aev Tryz.prog r) (.const (.int .u32 1)) rfl
  refine fun_enter Tryz.func43 rfl rfl (Nat.le_of_ble_eq_true rfl) ?_
  simp only [T.lay, Nat.zero_add, Tryz.ntmps43, Nat.reduceAdd]
  repeat (first | refine code_seq ?_ | ((first | (refine code_region ?_ ?_; (focus rfl)) | (refine code_guards (gs := ?_) ?_ ?_; rotate_left; (focus rfl))); simp only [run1, run2, wanted, go_sem, Nat.reduceLT, Nat.reduceAdd, Nat.reduceEqDiff, reduceIte, reduceCtorEq, al34, Nat.add_eq, e1, e2, cv3_26, e3, gg65, t1, hbs, h2.symm, gg66, t3, gg64, t4, s5]) | (refine code_cond_true ?_ ?_; (focus (simp only [aev, regAt_set, Nat.reduceEqDiff, reduceIte, al34, Nat.add_eq, e1, e2, cv3_26, e3, gg65, t1, hbs, h2.symm, gg66, t3, gg64, t4, s5]; done))) | (refine code_cond_false ?_ ?_; (focus (simp only [aev, regAt_set, Nat.reduceEqDiff, reduceIte, al34, Nat.add_eq, e1, e2, cv3_26, e3, gg65, t1, hbs, h2.symm, gg66, t3, gg64, t4, s5]; done))) | ((first | refine code_skip ?_ | refine code_label ?_ | refine code_exit ?_); try simp only [then_exit, then_normal, blockC, Nat.reduceEqDiff, reduceIte]) | refine code_block ?_)
  refine code_ret ?_
  refine ⟨rfl, _, ?_, g5, l5⟩
  simp only [aResults, Tryz.results43, aRes, regAt_set, Nat.reduceEqDiff, reduceIte]
  simp only [d5]
 ·obtain ⟨x, rfl⟩ : ∃ x : Nat, n = .ofNat x := ⟨n.toNat, by show n = (n.toNat : Int); omega⟩
  have hx : x < 1000000 := by have := hn.2; exact Int.ofNat_lt.1 this
  obtain ⟨v1, μ1, t1, g1, l1⟩ := rof_ends (X := X) (g := k + 254) (x := x) (μ := ⟨μ.obs.set μ.next ob34, μ.next + 1⟩) (by omega) (by omega)
  obtain ⟨v4, μ4, t4, g4, l4⟩ := rmadeI_ends (X := X) (g := k + 254) (b := false) (n := .ofNat x) (by omega) l1 rfl (fun _ => rfl)
  obtain ⟨μ5, s5, d5, g5, l5⟩ := tell34W (g1.trans g4) l4
  have e1 : ilt (.ofNat x) 0 = false := rfl
  have e3 : qwrap .u64 (.ofNat x) = .ofNat x := qu64 x (by omega)
  refine fun_enter Tryz.func43 rfl rfl (Nat.le_of_ble_eq_true rfl) ?_
  simp only [T.lay, Nat.zero_add, Tryz.ntmps43, Nat.reduceAdd]
  repeat (first | refine code_seq ?_ | ((first | (refine code_region ?_ ?_; (focus rfl)) | (refine code_guards (gs := ?_) ?_ ?_; rotate_left; (focus rfl))); simp only [run1, run2, wanted, go_sem, Nat.reduceLT, Nat.reduceAdd, Nat.reduceEqDiff, reduceIte, reduceCtorEq, al34, Nat.add_eq, e1, cv3_26, e3, gg65, t1, gg64, t4, s5]) | (refine code_cond_true ?_ ?_; (focus (simp only [aev, regAt_set, Nat.reduceEqDiff, reduceIte, al34, Nat.add_eq, e1, cv3_26, e3, gg65, t1, gg64, t4, s5]; done))) | (refine code_cond_false ?_ ?_; (focus (simp only [aev, regAt_set, Nat.reduceEqDiff, reduceIte, al34, Nat.add_eq, e1, cv3_26, e3, gg65, t1, gg64, t4, s5]; done))) | ((first | refine code_skip ?_ | refine code_label ?_ | refine code_exit ?_); try simp only [then_exit, then_normal, blockC, Nat.reduceEqDiff, reduceIte]) | refine code_block ?_)
  refine code_ret ?_
  refine ⟨rfl, _, ?_, g5, l5⟩
  simp only [aResults, Tryz.results43, aRes, regAt_set, Nat.reduceEqDiff, reduceIte]
  simp only [d5]
end
noncomputable section
variable {X : FuncId → List Value → Mem → Option (Value × Mem)}
theorem nil32n : aNil Tryz.prog 32 (.slice none 0 0) (.slice none 0 0) = false := rfl
theorem plain_nil {r : Rg} {d : Option Tmp} {ty : TypeId} {x : Operand} {ps : String} {af : Array Edge} {gd : Option (Nat × Bool)} (hx : aev Tryz.prog r x = .slice none 0 0) : aPlain Tryz.prog (aev Tryz.prog r) ⟨d, .binOp .eql 32 x (.const (.slice none 0 0)) 32, ty, ps, af, gd⟩ = some (.bool true) := by
 have hc : aev Tryz.prog r (.const (.slice none 0 0)) = .slice none 0 0 := rfl
 unfold aPlain
 simp only [opsOf, plains, hx, hc, plainV, execOp]
 show (_ : Option Value) = _
 kernel_rfl
set_option maxRecDepth 20000 in
set_option maxHeartbeats 4000000 in
theorem clone_nil {g : Nat} {μ : Mem} (hg : 20 ≤ g) : aFun Tryz.prog (aCode Tryz.prog X S0 g) 104 [.slice none 0 0] μ = some (.slice none 0 0, μ) := by
 obtain ⟨k, rfl⟩ := Nat.exists_eq_add_of_le' hg
 refine ends_eq ?_
 refine fun_enter Tryz.func104 rfl rfl (Nat.le_of_ble_eq_true rfl) ?_
 simp only [T.lay, Nat.zero_add, Tryz.ntmps104, Nat.reduceAdd]
 repeat (first | refine code_seq ?_ | ((first | (refine code_region ?_ ?_; (focus rfl)) | (refine code_guards (gs := ?_) ?_ ?_; rotate_left; (focus rfl))); simp only [run1, run2, wanted, go_sem, Nat.reduceLT, Nat.reduceAdd, Nat.reduceEqDiff, reduceIte, reduceCtorEq, bs32z, nil32n, plain_nil, aBuiltin, Nat.add_eq]) | (refine code_cond_true ?_ ?_; (focus (simp only [aev, regAt_set, Nat.reduceEqDiff, reduceIte, bs32z, nil32n, plain_nil, aBuiltin, Nat.add_eq]; done))) | (refine code_cond_false ?_ ?_; (focus (simp only [aev, regAt_set, Nat.reduceEqDiff, reduceIte, bs32z, nil32n, plain_nil, aBuiltin, Nat.add_eq]; done))) | ((first | refine code_skip ?_ | refine code_label ?_ | refine code_exit ?_); try simp only [then_exit, then_normal, blockC, Nat.reduceEqDiff, reduceIte]) | refine code_block ?_)
 refine code_ret ?_
 refine ⟨rfl, _, ?_, rfl, rfl⟩
 simp only [aResults, Tryz.results104, aRes, regAt_set, Nat.reduceEqDiff, reduceIte]
theorem slice32n {ρ : Operand → Value} {x y : Operand} (hx : ρ x = .slice none 0 0) (hy : ρ y = .int .i64 (.ofNat 0)) : aSlice Tryz.prog ρ 32 x none (some y) none = some (.slice none 0 0) := by
 unfold aSlice
 simp only [hx, Tryz.underlying32, j95, aBounds, aBound, hy]
set_option maxRecDepth 20000 in
set_option maxHeartbeats 4000000 in
theorem trim_nil {g : Nat} {μ : Mem} (hg : 100 ≤ g) : aFun Tryz.prog (aCode Tryz.prog X S0 g) 86 [.slice none 0 0] μ = some (.slice none 0 0, μ) := by
 obtain ⟨k, rfl⟩ := Nat.exists_eq_add_of_le' hg
 refine ends_eq ?_
 have hcl := clone_nil (X := X) (g := k + 95) (μ := μ) (by omega)
 have q00 : ilt 0 (.ofNat 0) = false := rfl
 have hsl : ∀ (ρ : Operand → Value) (a b : Operand), ρ a = .slice none 0 0 → ρ b = .int .i64 (.ofNat 0) → aSlice Tryz.prog ρ 32 a none (some b) none = some (.slice none 0 0) := fun ρ a b h1 h2 => slice32n h1 h2
 refine fun_enter Tryz.func86 rfl rfl (Nat.le_of_ble_eq_true rfl) ?_
 simp only [T.lay, Nat.zero_add, Tryz.ntmps86, Nat.reduceAdd]
 repeat (first | refine code_seq ?_ | ((first | (refine code_region ?_ ?_; (focus rfl)) | (refine code_guards (gs := ?_) ?_ ?_; rotate_left; (focus rfl))); simp only [run1, run2, wanted, go_sem, Nat.reduceLT, Nat.reduceAdd, Nat.reduceEqDiff, reduceIte, reduceCtorEq, aBuiltin, aLen, Tryz.underlying32, cast_nat, q00, hsl, gg104, hcl]) | (refine code_cond_true ?_ ?_; (focus (simp only [aev, regAt_set, Nat.reduceEqDiff, reduceIte, aBuiltin, aLen, Tryz.underlying32, cast_nat, q00, hsl, gg104, hcl]; done))) | (refine code_cond_false ?_ ?_; (focus (simp only [aev, regAt_set, Nat.reduceEqDiff, reduceIte, aBuiltin, aLen, Tryz.underlying32, cast_nat, q00, hsl, gg104, hcl]; done))) | ((first | refine code_skip ?_ | refine code_label ?_ | refine code_exit ?_); try simp only [then_exit, then_normal, blockC, Nat.reduceEqDiff, reduceIte]) | refine code_block ?_ | refine code_loop ?_)
 refine code_ret ?_
 refine ⟨rfl, _, ?_, rfl, rfl⟩
 simp only [aResults, Tryz.results86, aRes, regAt_set, Nat.reduceEqDiff, reduceIte]
set_option maxRecDepth 20000 in
set_option maxHeartbeats 4000000 in
theorem lsmall_nil {g : Nat} {μ : Mem} (hg : 120 ≤ g) : aFun Tryz.prog (aCode Tryz.prog X S0 g) 68 [.slice none 0 0] μ = some (.tuple #[.int .u64 (.ofNat 0), .bool true], μ) := by
 obtain ⟨k, rfl⟩ := Nat.exists_eq_add_of_le' hg
 refine ends_eq ?_
 have t1 := trim_nil (X := X) (g := k + 117) (μ := μ) (by omega)
 have e1 : ilt 2 (.ofNat 0) = false := rfl
 have e2 : qwrap .u64 0 = .ofNat 0 := rfl
 have e3 : aShift true .u64 (.ofNat 0) 32 = some (.int .u64 (.ofNat 0)) := rfl
 have a1 : ∀ g, 10 ≤ g → aFun Tryz.prog (aCode Tryz.prog X S0 g) 87 [.slice none 0 0, .int .i64 1] μ = some (.int .u32 0, μ) := fun g hg => at_out (i := 1) hg (by decide)
 have a0 : ∀ g, 10 ≤ g → aFun Tryz.prog (aCode Tryz.prog X S0 g) 87 [.slice none 0 0, .int .i64 0] μ = some (.int .u32 0, μ) := fun g hg => at_out (i := 0) hg (by decide)
 have e7 : aBits Nat.lor .u64 .u64 (.ofNat 0) (.ofNat 0) = some (.int .u64 (.ofNat 0)) := rfl
 refine fun_enter Tryz.func68 rfl rfl (Nat.le_of_ble_eq_true rfl) ?_
 simp only [T.lay, Nat.zero_add, Tryz.ntmps68, Nat.reduceAdd]
 repeat (first | refine code_seq ?_ | ((first | (refine code_region ?_ ?_; (focus rfl)) | (refine code_guards (gs := ?_) ?_ ?_; rotate_left; (focus rfl))); simp only [run1, run2, wanted, go_sem, Nat.reduceLT, Nat.reduceAdd, Nat.reduceEqDiff, reduceIte, reduceCtorEq, gg86, t1, aBuiltin, aLen, Tryz.underlying32, cast_nat, e1, gg87, a1, a0, Nat.reduceLeDiff, cv95_26, e2, e3, e7]) | (refine code_cond_true ?_ ?_; (focus (simp only [aev, regAt_set, Nat.reduceEqDiff, reduceIte, gg86, t1, aBuiltin, aLen, Tryz.underlying32, cast_nat, e1, gg87, a1, a0, Nat.reduceLeDiff, cv95_26, e2, e3, e7]; done))) | (refine code_cond_false ?_ ?_; (focus (simp only [aev, regAt_set, Nat.reduceEqDiff, reduceIte, gg86, t1, aBuiltin, aLen, Tryz.underlying32, cast_nat, e1, gg87, a1, a0, Nat.reduceLeDiff, cv95_26, e2, e3, e7]; done))) | ((first | refine code_skip ?_ | refine code_label ?_ | refine code_exit ?_); try simp only [then_exit, then_normal, blockC, Nat.reduceEqDiff, reduceIte]) | refine code_block ?_)
 refine code_ret ?_
 refine ⟨rfl, _, ?_, rfl, rfl⟩
 simp only [aResults, Tryz.results68, aRes, regAt_set, Nat.reduceEqDiff, reduceIte]
set_option maxRecDepth 20000 in
set_option maxHeartbeats 4000000 in
theorem esmallW_ends {g : Nat} {n : Int} {l : Value} {μ : Mem} (hg : 160 ≤ g) (hn : Sm n) (h : IntW μ l n) :
  EndsF (aFun Tryz.prog (aCode Tryz.prog X S0 g) 45 [l] μ) fun v μ' => v = .tuple #[.int .i64 n, .bool true] ∧ Grow μ μ' := by
 rcases h with ⟨_, h⟩ | ⟨rfl, rfl⟩
 ·exact esmall_ends hg hn h
 obtain ⟨k, rfl⟩ := Nat.exists_eq_add_of_le' hg
 obtain ⟨μ1, h1⟩ : ∃ m : Mem, m = ⟨μ.obs.set μ.next (.cells (intL false nilS).length 34 (intL false nilS).toArray .e 0 0 false false), μ.next + 1⟩ := ⟨_, rfl⟩
 have g1 : Grow μ μ1 := by rw [h1]; exact grow1 μ _
 have hh : Has μ1 μ.next 0 (intL false nilS) := Has.new (t := 34) (fx := false) (sh := false) (by rw [h1]; show T.get _ _ = _; rw [T.get_set, if_pos rfl])
 have c1 : cellsAt μ1 μ.next 1 = some (.slice none 0 0) := hh.cell 1 (by simp [intL])
 have c0 : cellsAt μ1 μ.next 0 = some (.bool false) := hh.cell 0 (by simp [intL])
 have t2 := lsmall_nil (X := X) (g := k + 157) (μ := μ1) (by omega)
 have e2 : ilt 9223372036854775807 (.ofNat 0) = false := rfl
 have p2 : aConvInt Tryz.prog 26 3 (.int .u64 (.ofNat 0)) = some (.int .i64 0) := by
  rw [cv26_3 0 (by omega)]; rfl
 refine fun_enter Tryz.func45 rfl rfl (Nat.le_of_ble_eq_true rfl) ?_
 simp only [T.lay, Nat.zero_add, Tryz.ntmps45, Nat.reduceAdd]
 repeat (first | refine code_seq ?_ | ((first | (refine code_region ?_ ?_; (focus rfl)) | (refine code_guards (gs := ?_) ?_ ?_; rotate_left; (focus rfl))); simp only [run1, run2, wanted, go_sem, Nat.reduceLT, Nat.reduceAdd, Nat.reduceEqDiff, reduceIte, reduceCtorEq, bx34, Nat.add_eq, h1.symm, fa34_1, ld32, c1, gg68, t2, fa34_0, ld4, c0, e2, p2]) | (refine code_cond_true ?_ ?_; (focus (simp only [aev, regAt_set, Nat.reduceEqDiff, reduceIte, bx34, Nat.add_eq, h1.symm, fa34_1, ld32, c1, gg68, t2, fa34_0, ld4, c0, e2, p2]; done))) | (refine code_cond_false ?_ ?_; (focus (simp only [aev, regAt_set, Nat.reduceEqDiff, reduceIte, bx34, Nat.add_eq, h1.symm, fa34_1, ld32, c1, gg68, t2, fa34_0, ld4, c0, e2, p2]; done))) | ((first | refine code_skip ?_ | refine code_label ?_ | refine code_exit ?_); try simp only [then_exit, then_normal, blockC, Nat.reduceEqDiff, reduceIte]) | refine code_block ?_)
 refine code_ret ?_
 refine ⟨rfl, _, ?_, rfl, g1⟩
 simp only [aResults, Tryz.results45, aRes, regAt_set, Nat.reduceEqDiff, reduceIte]
end
noncomputable section
variable {X : FuncId → List Value → Mem → Option (Value × Mem)}
def NumW (μ : Mem) (v : Value) (n : Int) : Prop := ∃ b l, v = .agg (numL b l).toArray ∧ one l = true ∧ IntW μ (.agg (intL b l).toArray) n
def datL (b : Bool) (l : Value) : List Value := [.int .i64 0, .int .i64 0, .bool false, .float .f64 0, .bool b, l, .string ⟨#[]⟩, nilS]
def DatW (μ : Mem) (v : Value) (n : Int) : Prop := ∃ b l, v = .agg (datL b l).toArray ∧ one l = true ∧ IntW μ (.agg (intL b l).toArray) n
theorem IntW.shape {μ : Mem} {v : Value} {n : Int} (h : IntW μ v n) : ∃ b l, v = .agg (intL b l).toArray ∧ one l = true := by
 rcases h with ⟨_, l, e, hl⟩ | ⟨_, e⟩
 ·exact ⟨_, l, e, hl.one⟩
 ·exact ⟨_, _, e, rfl⟩
theorem NumW.grow {μ μ' : Mem} {v : Value} {n : Int} (h : NumW μ v n) (g : Grow μ μ') : NumW μ' v n := by
 obtain ⟨b, l, e, o, hl⟩ := h; exact ⟨b, l, e, o, hl.grow g⟩
theorem DatW.grow {μ μ' : Mem} {v : Value} {n : Int} (h : DatW μ v n) (g : Grow μ μ') : DatW μ' v n := by
 obtain ⟨b, l, e, o, hl⟩ := h; exact ⟨b, l, e, o, hl.grow g⟩
theorem Lim.put {μ : Mem} {l : Value} {x j o : Nat} {vs : List Value} (h : Lim μ l x) (hj : ∀ y, cellsAt μ j 0 ≠ some (.int .u32 y)) : Lim (putL μ j o vs) l x := by
 refine ⟨h.1, h.2.imp id fun ⟨h0, i, c, e, hc, hi, hs⟩ => ⟨h0, i, c, e, hc, by rw [putL_next]; exact hi, ?_⟩⟩
 by_cases e2 : i = j
 ·subst e2; exact absurd (hs.cell 0 (by simp)) (hj _)
 ·exact hs.keep (putL_get _ _ _ _ e2)
theorem IntW.put {μ : Mem} {v : Value} {n : Int} {j o : Nat} {vs : List Value} (h : IntW μ v n) (hj : ∀ y, cellsAt μ j 0 ≠ some (.int .u32 y)) : IntW (putL μ j o vs) v n :=
 h.imp (fun ⟨a, l, e, hl⟩ => ⟨a, l, e, hl.put hj⟩) id
def ob39 : Ob := .cells 8 39 (datL false nilS).toArray .e 0 0 false false
theorem z39 : aZeroOf Tryz.prog 39 = some (.agg (datL false nilS).toArray) := by unfold aZeroOf; rw [j39]; rfl
theorem al39 : aAlloc Tryz.prog 39 = some (ob39, fun id => .pointer (some ⟨id, 0, none⟩)) := by unfold aAlloc; rw [z39]; rfl
theorem bx39 (l : List Value) : aBox 39 (.agg l.toArray) = some (.cells l.length 39 l.toArray .e 0 0 false false, fun id => .pointer (some ⟨id, 0, none⟩)) := rfl
theorem bd39 (ρ : Operand → Value) (a : Operand) (neg : Bool) (v : Value) (h1 : ρ a = .agg (numL neg v).toArray) : aBuild Tryz.prog ρ 39 #[(2, a)] = some (.agg (datL neg v).toArray) := by
 refine build_struct (pl := [(0, 1), (1, 1), (2, 4), (6, 1), (7, 1)]) z39 Tryz.underlying39 (by kernel_rfl) ?_
 show aFill _ (datL false nilS) [(2, ρ a)] = some (datL neg v)
 rw [h1]
 rfl
theorem blkD {μ μ' : Mem} (h : Grow ⟨μ.obs.set μ.next ob39, μ.next + 1⟩ μ') : Blk μ' μ.next 8 39 := fresh_blk h
theorem tell36W {μ μ1 : Mem} {v : Value} {n : Int} (hg : Grow ⟨μ.obs.set μ.next ob36, μ.next + 1⟩ μ1) (h : NumW μ1 v n) :
  ∃ μ2, aStore Tryz.prog μ1 36 (.pointer (some ⟨μ.next, 0, none⟩)) v = some (undef, μ2) ∧ aLoad Tryz.prog μ2 36 (.pointer (some ⟨μ.next, 0, none⟩)) = some v ∧ Grow μ μ2 ∧ NumW μ2 v n := by
 obtain ⟨b, l, rfl, ho, hl⟩ := h
 have hb := blkN hg
 have c0 : cellsAt μ1 μ.next 0 = some (.bool false) := (fresh_has (l := numL false nilS) (t := 36) hg).cell 0 (by simp [numL])
 exact ⟨_, store_puts (P := Tryz.prog) (t := 36) (vs := numL b l) j36 rfl (by show (true && (true && (true && (one l && true)))) = true; rw [ho]; rfl) hb (by simp [numL] : 0 + (numL b l).length ≤ 4), lds36 (Has.of_put hb (by simp [numL])) rfl, ((grow1 μ _).trans hg).put_new (Nat.le_refl _), b, l, rfl, ho, hl.put (fun y => by rw [c0]; simp)⟩
theorem tell39 {μ μ1 : Mem} {v : Value} {n : Int} (hg : Grow ⟨μ.obs.set μ.next ob39, μ.next + 1⟩ μ1) (h : DatW μ1 v n) :
  ∃ μ2, aStore Tryz.prog μ1 39 (.pointer (some ⟨μ.next, 0, none⟩)) v = some (undef, μ2) ∧ aLoad Tryz.prog μ2 39 (.pointer (some ⟨μ.next, 0, none⟩)) = some v ∧ Grow μ μ2 ∧ DatW μ2 v n := by
 obtain ⟨b, l, rfl, ho, hl⟩ := h
 have hb := blkD hg
 have c0 : cellsAt μ1 μ.next 0 = some (.int .i64 0) := (fresh_has (l := datL false nilS) (t := 39) hg).cell 0 (by simp [datL])
 exact ⟨_, store_puts (P := Tryz.prog) (t := 39) (vs := datL b l) j39 rfl (by show (true && (true && (true && (true && (true && (one l && (true && (true && true)))))))) = true; rw [ho]; rfl) hb (by simp [datL] : 0 + (datL b l).length ≤ 8), lds39 (Has.of_put hb (by simp [datL])) rfl, ((grow1 μ _).trans hg).put_new (Nat.le_refl _), b, l, rfl, ho, hl.put (fun y => by rw [c0]; simp)⟩
set_option maxRecDepth 20000 in
set_option maxHeartbeats 4000000 in
theorem rint_ends {g : Nat} {n : Int} {μ : Mem} (hg : 280 ≤ g) (hn : Sm n) :
  EndsF (aFun Tryz.prog (aCode Tryz.prog X S0 g) 21 [.int .i64 n] μ) fun v μ' => Grow μ μ' ∧ NumW μ' v n := by
 obtain ⟨k, rfl⟩ := Nat.exists_eq_add_of_le' hg
 obtain ⟨v1, μ1, t1, g1, l1⟩ := rofI_ends (X := X) (g := k + 277) (n := n) (μ := ⟨μ.obs.set μ.next ob36, μ.next + 1⟩) (by omega) hn
 obtain ⟨b, l, rfl, ho⟩ := l1.shape
 obtain ⟨μ3, s3, d3, g3, l3⟩ := tell36W (μ := μ) g1 ⟨b, l, rfl, ho, l1⟩
 have hbd : ∀ (ρ : Operand → Value) (a : Operand), ρ a = .agg (intL b l).toArray → aBuild Tryz.prog ρ 36 #[(2, a)] = some (.agg (numL b l).toArray) := fun ρ a h => bd36 ρ a _ _ h
 refine fun_enter Tryz.func21 rfl rfl (Nat.le_of_ble_eq_true rfl) ?_
 simp only [T.lay, Nat.zero_add, Tryz.ntmps21, Nat.reduceAdd]
 repeat (first | refine code_seq ?_ | ((first | (refine code_region ?_ ?_; (focus rfl)) | (refine code_guards (gs := ?_) ?_ ?_; rotate_left; (focus rfl))); simp only [run1, run2, wanted, go_sem, Nat.reduceLT, Nat.reduceAdd, Nat.reduceEqDiff, reduceIte, reduceCtorEq, al36, Nat.add_eq, gg43, t1, hbd, s3]) | (refine code_cond_true ?_ ?_; (focus (simp only [aev, regAt_set, Nat.reduceEqDiff, reduceIte, al36, Nat.add_eq, gg43, t1, hbd, s3]; done))) | (refine code_cond_false ?_ ?_; (focus (simp only [aev, regAt_set, Nat.reduceEqDiff, reduceIte, al36, Nat.add_eq, gg43, t1, hbd, s3]; done))) | ((first | refine code_skip ?_ | refine code_label ?_ | refine code_exit ?_); try simp only [then_exit, then_normal, blockC, Nat.reduceEqDiff, reduceIte]) | refine code_block ?_)
 refine code_ret ?_
 refine ⟨rfl, _, ?_, g3, l3⟩
 simp only [aResults, Tryz.results21, aRes, regAt_set, Nat.reduceEqDiff, reduceIte]
 simp only [d3]
set_option maxRecDepth 20000 in
set_option maxHeartbeats 4000000 in
theorem rnum_ends {g : Nat} {n : Int} {μ : Mem} (hg : 290 ≤ g) (hn : Sm n) :
  EndsF (aFun Tryz.prog (aCode Tryz.prog X S0 g) 8 [.int .i64 n] μ) fun v μ' => Grow μ μ' ∧ DatW μ' v n := by
 obtain ⟨k, rfl⟩ := Nat.exists_eq_add_of_le' hg
 obtain ⟨v1, μ1, t1, g1, b, l, rfl, ho, l1⟩ := rint_ends (X := X) (g := k + 287) (n := n) (μ := ⟨μ.obs.set μ.next ob39, μ.next + 1⟩) (by omega) hn
 obtain ⟨μ3, s3, d3, g3, l3⟩ := tell39 (μ := μ) g1 ⟨b, l, rfl, ho, l1⟩
 have hbd : ∀ (ρ : Operand → Value) (a : Operand), ρ a = .agg (numL b l).toArray → aBuild Tryz.prog ρ 39 #[(2, a)] = some (.agg (datL b l).toArray) := fun ρ a h => bd39 ρ a _ _ h
 refine fun_enter Tryz.func8 rfl rfl (Nat.le_of_ble_eq_true rfl) ?_
 simp only [T.lay, Nat.zero_add, Tryz.ntmps8, Nat.reduceAdd]
 repeat (first | refine code_seq ?_ | ((first | (refine code_region ?_ ?_; (focus rfl)) | (refine code_guards (gs := ?_) ?_ ?_; rotate_left; (focus rfl))); simp only [run1, run2, wanted, go_sem, Nat.reduceLT, Nat.reduceAdd, Nat.reduceEqDiff, reduceIte, reduceCtorEq, al39, Nat.add_eq, gg21, t1, hbd, s3]) | (refine code_cond_true ?_ ?_; (focus (simp only [aev, regAt_set, Nat.reduceEqDiff, reduceIte, al39, Nat.add_eq, gg21, t1, hbd, s3]; done))) | (refine code_cond_false ?_ ?_; (focus (simp only [aev, regAt_set, Nat.reduceEqDiff, reduceIte, al39, Nat.add_eq, gg21, t1, hbd, s3]; done))) | ((first | refine code_skip ?_ | refine code_label ?_ | refine code_exit ?_); try simp only [then_exit, then_normal, blockC, Nat.reduceEqDiff, reduceIte]) | refine code_block ?_)
 refine code_ret ?_
 refine ⟨rfl, _, ?_, g3, l3⟩
 simp only [aResults, Tryz.results8, aRes, regAt_set, Nat.reduceEqDiff, reduceIte]
 simp only [d3]
set_option maxRecDepth 20000 in
set_option maxHeartbeats 4000000 in
theorem vnum_ends {g sp : Nat} {n : Int} {v : Value} {μ : Mem} (hg : 200 ≤ g) (hn : Sm n) (h : NumW μ v n) :
  EndsF (aFun Tryz.prog (aCode Tryz.prog X S0 g) 22 [.pointer (some ⟨sp, 0, none⟩), v] μ) fun w μ' => w = .tuple #[.int .u64 (.ofNat (sw n)), .bool true] ∧ Grow μ μ' := by
 obtain ⟨k, rfl⟩ := Nat.exists_eq_add_of_le' hg
 obtain ⟨b, l, rfl, ho, hl⟩ := h
 obtain ⟨μ1, h1⟩ : ∃ m : Mem, m = ⟨μ.obs.set μ.next (.cells (numL b l).length 36 (numL b l).toArray .e 0 0 false false), μ.next + 1⟩ := ⟨_, rfl⟩
 have g1 : Grow μ μ1 := by rw [h1]; exact grow1 μ _
 have hh : Has μ1 μ.next 0 (numL b l) := Has.new (t := 36) (fx := false) (sh := false) (by rw [h1]; show T.get _ _ = _; rw [T.get_set, if_pos rfl])
 have c0 : cellsAt μ1 μ.next 0 = some (.bool false) := hh.cell 0 (by simp [numL])
 have p2 : aLoad Tryz.prog μ1 34 (.pointer (some ⟨μ.next, 2, none⟩)) = some (.agg (intL b l).toArray) := lds34 (hh.part (a := [.bool false, .float .f64 0]) (b := intL b l) (c := []) rfl) rfl
 obtain ⟨v2, μ2, t2, rfl, g2⟩ := esmallW_ends (X := X) (g := k + 195) (by omega) hn (hl.grow g1)
 have t3 := small_eq (X := X) (g := k + 192) (n := n) (μ := μ2) (by omega) hn
 refine fun_enter Tryz.func22 rfl rfl (Nat.le_of_ble_eq_true rfl) ?_
 simp only [T.lay, Nat.zero_add, Tryz.ntmps22, Nat.reduceAdd]
 repeat (first | refine code_seq ?_ | ((first | (refine code_region ?_ ?_; (focus rfl)) | (refine code_guards (gs := ?_) ?_ ?_; rotate_left; (focus rfl))); simp only [run1, run2, wanted, go_sem, Nat.reduceLT, Nat.reduceAdd, Nat.reduceEqDiff, reduceIte, reduceCtorEq, bx36, Nat.add_eq, h1.symm, fa36_0, ld4, c0, fa36_2, p2, gg45, t2, gg40, t3]) | (refine code_cond_true ?_ ?_; (focus (simp only [aev, regAt_set, Nat.reduceEqDiff, reduceIte, bx36, Nat.add_eq, h1.symm, fa36_0, ld4, c0, fa36_2, p2, gg45, t2, gg40, t3]; done))) | (refine code_cond_false ?_ ?_; (focus (simp only [aev, regAt_set, Nat.reduceEqDiff, reduceIte, bx36, Nat.add_eq, h1.symm, fa36_0, ld4, c0, fa36_2, p2, gg45, t2, gg40, t3]; done))) | ((first | refine code_skip ?_ | refine code_label ?_ | refine code_exit ?_); try simp only [then_exit, then_normal, blockC, Nat.reduceEqDiff, reduceIte]) | refine code_block ?_)
 refine code_ret ?_
 refine ⟨rfl, _, ?_, rfl, g1.trans g2⟩
 simp only [aResults, Tryz.results22, aRes, regAt_set, Nat.reduceEqDiff, reduceIte]
set_option maxRecDepth 20000 in
set_option maxHeartbeats 4000000 in
theorem datum_ends {g sp : Nat} {n : Int} {v : Value} {μ : Mem} (hg : 220 ≤ g) (hn : Sm n) (h : DatW μ v n) :
  EndsF (aFun Tryz.prog (aCode Tryz.prog X S0 g) 9 [.pointer (some ⟨sp, 0, none⟩), v] μ) fun w μ' => w = .tuple #[.int .u64 (.ofNat (sw n)), .bool true] ∧ Grow μ μ' := by
 obtain ⟨k, rfl⟩ := Nat.exists_eq_add_of_le' hg
 obtain ⟨b, l, rfl, ho, hl⟩ := h
 obtain ⟨μ1, h1⟩ : ∃ m : Mem, m = ⟨μ.obs.set μ.next (.cells (datL b l).length 39 (datL b l).toArray .e 0 0 false false), μ.next + 1⟩ := ⟨_, rfl⟩
 have g1 : Grow μ μ1 := by rw [h1]; exact grow1 μ _
 have hh : Has μ1 μ.next 0 (datL b l) := Has.new (t := 39) (fx := false) (sh := false) (by rw [h1]; show T.get _ _ = _; rw [T.get_set, if_pos rfl])
 have c0 : cellsAt μ1 μ.next 0 = some (.int .i64 0) := hh.cell 0 (by simp [datL])
 have p2 : aLoad Tryz.prog μ1 36 (.pointer (some ⟨μ.next, 2, none⟩)) = some (.agg (numL b l).toArray) := lds36 (hh.part (a := [.int .i64 0, .int .i64 0]) (b := numL b l) (c := [.string ⟨#[]⟩, nilS]) rfl) rfl
 obtain ⟨v2, μ2, t2, rfl, g2⟩ := vnum_ends (X := X) (g := k + 212) (sp := sp) (μ := μ1) (by omega) hn ⟨b, l, rfl, ho, hl.grow g1⟩
 have e0 : ieq 0 0 = true := rfl
 refine fun_enter Tryz.func9 rfl rfl (Nat.le_of_ble_eq_true rfl) ?_
 simp only [T.lay, Nat.zero_add, Tryz.ntmps9, Nat.reduceAdd]
 repeat (first | refine code_seq ?_ | ((first | (refine code_region ?_ ?_; (focus rfl)) | (refine code_guards (gs := ?_) ?_ ?_; rotate_left; (focus rfl))); simp only [run1, run2, wanted, go_sem, Nat.reduceLT, Nat.reduceAdd, Nat.reduceEqDiff, reduceIte, reduceCtorEq, bx39, Nat.add_eq, h1.symm, fa39_0, ld3, c0, e0, fa39_2, p2, gg22, t2]) | (refine code_cond_true ?_ ?_; (focus (simp only [aev, regAt_set, Nat.reduceEqDiff, reduceIte, bx39, Nat.add_eq, h1.symm, fa39_0, ld3, c0, e0, fa39_2, p2, gg22, t2]; done))) | (refine code_cond_false ?_ ?_; (focus (simp only [aev, regAt_set, Nat.reduceEqDiff, reduceIte, bx39, Nat.add_eq, h1.symm, fa39_0, ld3, c0, e0, fa39_2, p2, gg22, t2]; done))) | ((first | refine code_skip ?_ | refine code_label ?_ | refine code_exit ?_); try simp only [then_exit, then_normal, blockC, Nat.reduceEqDiff, reduceIte]) | refine code_block ?_)
 refine code_ret ?_
 refine ⟨rfl, _, ?_, rfl, g1.trans g2⟩
 simp only [aResults, Tryz.results9, aRes, regAt_set, Nat.reduceEqDiff, reduceIte]
end
noncomputable section
variable {X : FuncId → List Value → Mem → Option (Value × Mem)}
def tx : ByteArray := ⟨#[120]⟩
def datS (s : ByteArray) : List Value := [.int .i64 3, .int .i64 0, .bool false, .float .f64 0, .bool false, nilS, .string s, nilS]
theorem bd39s (ρ : Operand → Value) (z a : Operand) (s : ByteArray) (h0 : ρ z = .int .i64 3) (h1 : ρ a = .string s) : aBuild Tryz.prog ρ 39 #[(0, z), (3, a)] = some (.agg (datS s).toArray) := by
 refine build_struct (pl := [(0, 1), (1, 1), (2, 4), (6, 1), (7, 1)]) z39 Tryz.underlying39 (by kernel_rfl) ?_
 show aFill _ (datL false nilS) [(0, ρ z), (3, ρ a)] = some (datS s)
 rw [h0, h1]
 rfl
set_option maxRecDepth 20000 in
set_option maxHeartbeats 4000000 in
theorem str_ends {g : Nat} {s : ByteArray} {μ : Mem} (hg : 10 ≤ g) :
  EndsF (aFun Tryz.prog (aCode Tryz.prog X S0 g) 10 [.string s] μ) fun v μ' => v = .agg (datS s).toArray ∧ Grow μ μ' := by
 obtain ⟨k, rfl⟩ := Nat.exists_eq_add_of_le' hg
 have hb := blkD (μ := μ) (Grow.refl _)
 have s3 := store_puts (P := Tryz.prog) (t := 39) (vs := datS s) j39 rfl rfl hb (by simp [datS] : 0 + (datS s).length ≤ 8)
 have d3 := lds39 (Has.of_put (o := 0) (vs := datS s) hb (by simp [datS])) rfl
 have g3 : Grow μ (putL ⟨μ.obs.set μ.next ob39, μ.next + 1⟩ μ.next 0 (datS s)) := (grow1 μ _).put_new (Nat.le_refl _)
 have hbd : ∀ (r : Rg) (a : Operand), aev Tryz.prog r a = .string s → aBuild Tryz.prog (aev Tryz.prog r) 39 #[(0, .const (.int .i64 3)), (3, a)] = some (.agg (datS s).toArray) := fun r a h => bd39s _ _ _ _ rfl h
 refine fun_enter Tryz.func10 rfl rfl (Nat.le_of_ble_eq_true rfl) ?_
 simp only [T.lay, Nat.zero_add, Tryz.ntmps10, Nat.reduceAdd]
 repeat (first | refine code_seq ?_ | ((first | (refine code_region ?_ ?_; (focus rfl)) | (refine code_guards (gs := ?_) ?_ ?_; rotate_left; (focus rfl))); simp only [run1, run2, wanted, go_sem, Nat.reduceLT, Nat.reduceAdd, Nat.reduceEqDiff, reduceIte, reduceCtorEq, al39, Nat.add_eq, hbd, s3]) | (refine code_cond_true ?_ ?_; (focus (simp only [aev, regAt_set, Nat.reduceEqDiff, reduceIte, al39, Nat.add_eq, hbd, s3]; done))) | (refine code_cond_false ?_ ?_; (focus (simp only [aev, regAt_set, Nat.reduceEqDiff, reduceIte, al39, Nat.add_eq, hbd, s3]; done))) | ((first | refine code_skip ?_ | refine code_label ?_ | refine code_exit ?_); try simp only [then_exit, then_normal, blockC, Nat.reduceEqDiff, reduceIte]) | refine code_block ?_)
 refine code_ret ?_
 refine ⟨rfl, _, ?_, rfl, g3⟩
 simp only [aResults, Tryz.results10, aRes, regAt_set, Nat.reduceEqDiff, reduceIte]
 simp only [d3]
theorem bs22_1 (ρ : Operand → Value) (x : Operand) (hv : one (ρ x) = true) : aBuildSlice Tryz.prog ρ 22 1 #[(0, x)] = some (.cells 1 3 #[ρ x] .e 0 0 false false, fun id => .slice (some ⟨id, 0, none⟩) 1 2) := buildSlice_if Tryz.underlying22 i3 rfl z3 rfl ρ x hv
theorem rng9 (s : ByteArray) : aRange Tryz.prog 9 (.string s) = some (.siter s 0, fun id => .pointer (some ⟨id, 0, none⟩)) := by
 unfold aRange
 simp only [Tryz.underlying9]
set_option maxRecDepth 20000 in
set_option maxHeartbeats 4000000 in
theorem texts_ends {g : Nat} {μ : Mem} (hg : 40 ≤ g) :
  EndsF (aFun Tryz.prog (aCode Tryz.prog X S0 g) 26 [.string tx] μ) fun v μ' => (∃ i c, v = .slice (some ⟨i, 0, none⟩) 1 c ∧ i < μ'.next ∧ cellsAt μ' i 0 = some (.int .i64 (.ofNat 120))) ∧ Grow μ μ' := by
 obtain ⟨k, rfl⟩ := Nat.exists_eq_add_of_le' hg
 obtain ⟨μ1, h1⟩ : ∃ m : Mem, m = ⟨μ.obs.set μ.next (.siter tx 0), μ.next + 1⟩ := ⟨_, rfl⟩
 have g1 : Grow μ μ1 := by rw [h1]; exact grow1 μ _
 have n1 : μ1.next = μ.next + 1 := by rw [h1]
 have o1 : μ1.obs.get μ.next = some (.siter tx 0) := by rw [h1]; show T.get _ _ = _; rw [T.get_set, if_pos rfl]
 obtain ⟨μ2, h2⟩ : ∃ m : Mem, m = ⟨μ1.obs.set μ.next (.siter tx 1), μ1.next⟩ := ⟨_, rfl⟩
 have n2 : μ2.next = μ.next + 1 := by rw [h2]; exact n1
 have x1 : aNext μ1 (.pointer (some ⟨μ.next, 0, none⟩)) = some (.tuple #[.bool true, .int .i64 0, .int .i32 120], μ2) := by
  unfold aNext
  simp only [o1]
  rw [h2]
  rfl
 have o2 : μ2.obs.get μ.next = some (.siter tx 1) := by rw [h2]; show T.get _ _ = _; rw [T.get_set, if_pos rfl]
 have k2 : ∀ i, i < μ.next → μ2.obs.get i = μ1.obs.get i := fun i hi => by rw [h2]; show T.get _ i = _; rw [T.get_set, if_neg (by omega)]
 obtain ⟨μ3, h3⟩ : ∃ m : Mem, m = ⟨μ2.obs.set μ2.next (.cells 1 3 #[.int .i64 (.ofNat 120)] .e 0 0 false false), μ2.next + 1⟩ := ⟨_, rfl⟩
 have g3 : Grow μ2 μ3 := by rw [h3]; exact grow1 μ2 _
 have n3 : μ3.next = μ2.next + 1 := by rw [h3]
 obtain ⟨v5, μ5, a5, q5, n5, w5, k5⟩ := append_one (P := Tryz.prog) (st := 22) (e := 3) (v := .slice none 0 0) (xs := []) (x := .int .i64 (.ofNat 120)) (μ := μ3) (q := μ2.next) Tryz.underlying22 i3 rfl rfl z3 rfl (.inl ⟨rfl, rfl⟩) (by rw [h3]; show T.get _ _ = _; rw [T.get_set, if_pos rfl]) (by decide) rfl
 have g5 : Grow μ3 μ5 := ⟨by omega, fun i hi => k5 i (by omega) (by rintro ⟨a, b, e⟩; cases e)⟩
 have o5 : μ5.obs.get μ.next = some (.siter tx 1) := by rw [g5.2 _ (by omega), g3.2 _ (by omega)]; exact o2
 have x5 : aNext μ5 (.pointer (some ⟨μ.next, 0, none⟩)) = some (.tuple #[.bool false], μ5) := by
  unfold aNext
  simp only [o5]
  rfl
 have gf : Grow μ μ5 := ⟨by have := g5.1; have := g3.1; omega, fun i hi => by rw [g5.2 _ (by omega), g3.2 _ (by omega), k2 i hi, g1.2 i hi]⟩
 obtain ⟨i5, c5, rfl, hi5, hx5⟩ : ∃ i c, v5 = .slice (some ⟨i, 0, none⟩) 1 c ∧ i < μ5.next ∧ cellsAt μ5 i 0 = some (.int .i64 (.ofNat 120)) := by
  rcases q5 with ⟨_, e⟩ | ⟨i, m, z, ov, fx, sh, c, e1, e2, e3, e4, e5⟩
  ·cases e
  ·obtain ⟨a, b, e6⟩ := w5
   rw [e1] at e6
   cases e6
   exact ⟨_, c, e1, by omega, by
    rw [cellsAt_of (n := m) (z := z) (ov := ov) (by rw [e2]; rfl) (Nat.lt_of_lt_of_le (Nat.zero_lt_one) e3)]
    exact congrArg some (e4 0 (by simp))⟩
 have e1 : aConvInt Tryz.prog 21 3 (.int .i32 120) = some (.int .i64 (.ofNat 120)) := by
  simp only [aConvInt, Tryz.underlying3, Tryz.underlying21]
  rfl
 have hbs : ∀ (ρ : Operand → Value) (a : Operand), ρ a = .int .i64 (.ofNat 120) → aBuildSlice Tryz.prog ρ 22 1 #[(0, a)] = some (.cells 1 3 #[.int .i64 (.ofNat 120)] .e 0 0 false false, fun id => .slice (some ⟨id, 0, none⟩) 1 2) := fun ρ a h => by rw [bs22_1 ρ a (by rw [h]; rfl), h]
 refine fun_enter Tryz.func26 rfl rfl (Nat.le_of_ble_eq_true rfl) ?_
 simp only [T.lay, Nat.zero_add, Tryz.ntmps26, Nat.reduceAdd]
 repeat (first | refine code_seq ?_ | ((first | (refine code_region ?_ ?_; (focus rfl)) | (refine code_guards (gs := ?_) ?_ ?_; rotate_left; (focus rfl))); simp only [run1, run2, wanted, go_sem, Nat.reduceLT, Nat.reduceAdd, Nat.reduceEqDiff, reduceIte, reduceCtorEq, rng9, Nat.add_eq, h1.symm, x1, e1, hbs, h3.symm, aBuiltin, a5, x5]) | (refine code_cond_true ?_ ?_; (focus (simp only [aev, regAt_set, Nat.reduceEqDiff, reduceIte, rng9, Nat.add_eq, h1.symm, x1, e1, hbs, h3.symm, aBuiltin, a5, x5]; done))) | (refine code_cond_false ?_ ?_; (focus (simp only [aev, regAt_set, Nat.reduceEqDiff, reduceIte, rng9, Nat.add_eq, h1.symm, x1, e1, hbs, h3.symm, aBuiltin, a5, x5]; done))) | ((first | refine code_skip ?_ | refine code_label ?_ | refine code_exit ?_); try simp only [then_exit, then_normal, blockC, Nat.reduceEqDiff, reduceIte]) | refine code_block ?_ | refine code_loop ?_)
 refine code_ret ?_
 refine ⟨rfl, _, ?_, ⟨i5, c5, rfl, hi5, hx5⟩, gf⟩
 simp only [aResults, Tryz.results26, aRes, regAt_set, Nat.reduceEqDiff, reduceIte]
set_option maxRecDepth 20000 in
set_option maxHeartbeats 4000000 in
theorem dstr_ends {g sp hp ap wb lb N L q : Nat} {ws : Nat → Nat} {p p' : Pos} {μ : Mem} (hg : 2100 ≤ g) (h : SP μ sp hp ap wb lb N L ws p) (hq : q + 2 < N) (hal : Al X N L 3 q p p') :
  EndsF (aFun Tryz.prog (aCode Tryz.prog X S0 g) 9 [.pointer (some ⟨sp, 0, none⟩), .agg (datS tx).toArray] μ) fun w μ' => w = .tuple #[.int .u64 (.ofNat (placeW q)), .bool true] ∧ SP μ' sp hp ap wb lb N L (obj ws q 18 2 (pf (fun _ => 120) 2 32 1 1)) p' ∧ Keeps μ μ' ap wb lb := by
 obtain ⟨k, rfl⟩ := Nat.exists_eq_add_of_le' hg
 obtain ⟨μ1, h1⟩ : ∃ m : Mem, m = ⟨μ.obs.set μ.next (.cells (datS tx).length 39 (datS tx).toArray .e 0 0 false false), μ.next + 1⟩ := ⟨_, rfl⟩
 have g1 : Grow μ μ1 := by rw [h1]; exact grow1 μ _
 have hh : Has μ1 μ.next 0 (datS tx) := Has.new (t := 39) (fx := false) (sh := false) (by rw [h1]; show T.get _ _ = _; rw [T.get_set, if_pos rfl])
 have c0 : cellsAt μ1 μ.next 0 = some (.int .i64 3) := hh.cell 0 (by simp [datS])
 have c6 : cellsAt μ1 μ.next 6 = some (.string tx) := hh.cell 6 (by simp [datS])
 obtain ⟨v2, μ2, t2, ⟨i, c, rfl, hi, hc⟩, g2⟩ := texts_ends (X := X) (g := k + 2086) (μ := μ1) (by omega)
 have enw : nw 2 1 = 2 := by decide
 obtain ⟨v3, μ3, t3, rfl, s3, k3⟩ := text_ends (X := X) (g := k + 2086) (n := 1) (li := i) (c := c) (ad := some ⟨i, 0, none⟩) (x := fun _ => 120) (q := q) (μ := μ2) (by omega) (h.grow (g1.trans g2))
  (fun k hk => by obtain rfl : k = 0 := by omega
                  exact ⟨rfl, hc⟩) hi (by decide) (fun _ => by decide) (by rw [enw]; exact hq) (by rw [enw]; exact hal)
 rw [enw] at s3
 have e0 : ieq 3 0 = false := rfl
 have e1 : ieq 3 1 = false := rfl
 have e2 : ieq 3 2 = false := rfl
 have e3 : ieq 3 3 = true := rfl
 refine fun_enter Tryz.func9 rfl rfl (Nat.le_of_ble_eq_true rfl) ?_
 simp only [T.lay, Nat.zero_add, Tryz.ntmps9, Nat.reduceAdd]
 repeat (first | refine code_seq ?_ | ((first | (refine code_region ?_ ?_; (focus rfl)) | (refine code_guards (gs := ?_) ?_ ?_; rotate_left; (focus rfl))); simp only [run1, run2, wanted, go_sem, Nat.reduceLT, Nat.reduceAdd, Nat.reduceEqDiff, reduceIte, reduceCtorEq, bx39, Nat.add_eq, h1.symm, fa39_0, ld3, c0, e0, e1, e2, e3, fa39_3, ld9, c6, gg26, t2, gg25, t3]) | (refine code_cond_true ?_ ?_; (focus (simp only [aev, regAt_set, Nat.reduceEqDiff, reduceIte, bx39, Nat.add_eq, h1.symm, fa39_0, ld3, c0, e0, e1, e2, e3, fa39_3, ld9, c6, gg26, t2, gg25, t3]; done))) | (refine code_cond_false ?_ ?_; (focus (simp only [aev, regAt_set, Nat.reduceEqDiff, reduceIte, bx39, Nat.add_eq, h1.symm, fa39_0, ld3, c0, e0, e1, e2, e3, fa39_3, ld9, c6, gg26, t2, gg25, t3]; done))) | ((first | refine code_skip ?_ | refine code_label ?_ | refine code_exit ?_); try simp only [then_exit, then_normal, blockC, Nat.reduceEqDiff, reduceIte]) | refine code_block ?_)
 refine code_ret ?_
 refine ⟨rfl, _, ?_, rfl, s3, (Keeps.grow (g1.trans g2)).trans k3⟩
 simp only [aResults, Tryz.results9, aRes, regAt_set, Nat.reduceEqDiff, reduceIte]
theorem obj_txt {ws : Nat → Nat} {q N : Nat} (hq : q + 2 < N) : TxtAt (obj ws q 18 2 (pf (fun _ => 120) 2 32 1 1)) q N :=
 ⟨obj_head _ _ _ _ _, (obj_in ws q 18 2 _ 0 (by decide)).trans (pf_x 0 (by decide)), (obj_in ws q 18 2 _ 1 (by decide)).trans (pf_x 1 (by decide)), hq⟩
theorem TW.congr {ws ws' : Nat → Nat} {tq cnt used e ix room places : Nat} (h : TW ws tq cnt used e ix room places) (hq : ∀ q, (tq ≤ q ∧ q ≤ tq + 4) ∨ (e ≤ q ∧ q ≤ e + 2 * room) ∨ (ix ≤ q ∧ q ≤ ix + places) → ws' q = ws q) : TW ws' tq cnt used e ix room places :=
 ⟨(hq _ (by omega)).trans h.ht, (hq _ (by omega)).trans h.f0, (hq _ (by omega)).trans h.f1, (hq _ (by omega)).trans h.f2, (hq _ (by omega)).trans h.f3, (hq _ (by omega)).trans h.he, (hq _ (by omega)).trans h.hi,
   h.rt, h.re, h.ri, h.r1, h.r2, h.r3, h.dj, h.d1, h.d2, h.c1, h.u1⟩
theorem TS.over {μ μ' : Mem} {sp hp ap wb lb b b' s s' tq cnt used e ix room places q n : Nat} {ws ws' : Nat → Nat} {p p' : Pos} {I : Nat → Int} {K : Nat → Option Int} {V : Nat → Nat} (h : TS μ sp hp ap wb lb ws p b s tq cnt used e ix room places I K V)
  (hs : SP μ' sp hp ap wb lb 51200 3200 ws' p') (kp : Keeps μ μ' ap wb lb) (tk : Took p p' q n) (gp : Gp p' b' s') (hw : ∀ k, k < q ∨ q + n ≤ k → ws' k = ws k) : TS μ' sp hp ap wb lb ws' p' b' s' tq cnt used e ix room places I K V := by
 have ho : ∀ k, (tq ≤ k ∧ k ≤ tq + 4) ∨ (e ≤ k ∧ k ≤ e + 2 * room) ∨ (ix ≤ k ∧ k ≤ ix + places) → ws' k = ws k := fun k hk => by
  by_cases hkq : k < q ∨ q + n ≤ k
  ·exact hw k hkq
  ·exact absurd (tk.was k (by omega) (by omega)).1 (h.nf k hk)
 exact ⟨hs, h.rom.keeps h.r5 kp, gp, h.tw.congr ho, h.tl.congr (fun k hk => ho k (.inr hk)), h.td.congr h.tl.le (fun k hk => ho k (.inr (.inl hk))), fun k hk hf => h.nf k hk (tk.sub k hf), h.ck, h.rp, h.r5⟩
set_option maxHeartbeats 4000000 in
theorem text_beside {g sp hp ap wb lb b s tq cnt used e ix room places : Nat} {ws : Nat → Nat} {p : Pos} {I : Nat → Int} {K : Nat → Option Int} {V : Nat → Nat} {μ : Mem} (hg : 2100 ≤ g) (h : TS μ sp hp ap wb lb ws p b s tq cnt used e ix room places I K V) (hb : 182 ≤ b) (hb2 : b ≤ 200) (hs : s + 3 ≤ 256) :
  EndsF (aFun Tryz.prog (aCode Tryz.prog X S0 g) 9 [.pointer (some ⟨sp, 0, none⟩), .agg (datS tx).toArray] μ) fun w μ' => ∃ q ws' p', w = .tuple #[.int .u64 (.ofNat (placeW q)), .bool true] ∧ TxtAt ws' q 51200 ∧ TS μ' sp hp ap wb lb ws' p' b (s + 3) tq cnt used e ix room places I K V ∧ Keeps μ μ' ap wb lb ∧ ∀ k, q ≤ k → k ≤ q + 2 → ¬ Free p' k := by
 obtain ⟨p', hal, gp', tk⟩ := al_small (X := X) (n := 3) h.gp hb hb2 (by decide) (by decide) hs
 have htop := tk.top
 have hq : s + 2 < 51200 := by omega
 obtain ⟨v, μ', t, rfl, s3, k3⟩ := dstr_ends (X := X) (g := g) (q := s) hg h.hs hq hal
 exact ⟨_, μ', t, s, _, p', rfl, obj_txt hq, h.over s3 k3 tk gp' (fun k hk => obj_out _ _ _ _ _ _ (by omega)), k3, fun k h1 h2 => (tk.was k h1 (by omega)).2⟩
end
noncomputable section
variable {X : FuncId → List Value → Mem → Option (Value × Mem)}
set_option maxRecDepth 20000 in
set_option maxHeartbeats 8000000 in
theorem put_core {k sp w y : Nat} {x : Int} {dl : List Value} {μ μ2 μ3 : Mem} (hl : dl.length = 8) (hx : Sm x)
  (hD : aFun Tryz.prog (aCode Tryz.prog X S0 (k + 6997)) 9 [.pointer (some ⟨sp, 0, none⟩), .agg dl.toArray] ⟨μ.obs.set μ.next (.cells dl.length 39 dl.toArray .e 0 0 false false), μ.next + 1⟩ = some (.tuple #[.int .u64 (.ofNat w), .bool true], μ2))
  (hS : aFun Tryz.prog (aCode Tryz.prog X S0 (k + 6995)) 11 [.pointer (some ⟨sp, 0, none⟩), .int .u64 (.ofNat y), .int .u64 (.ofNat w), .int .u64 (.ofNat (sw x))] μ2 = some (.tuple #[.bool true, .int .i64 0], μ3)) :
  aFun Tryz.prog (aCode Tryz.prog X S0 (k + 7000)) 7 [.pointer (some ⟨sp, 0, none⟩), .int .u64 (.ofNat y), .agg dl.toArray, .int .i64 x] μ = some (.bool true, μ3) := by
 refine ends_eq ?_
 obtain ⟨μ1, h1⟩ : ∃ m : Mem, m = ⟨μ.obs.set μ.next (.cells dl.length 39 dl.toArray .e 0 0 false false), μ.next + 1⟩ := ⟨_, rfl⟩
 rw [← h1] at hD
 have hh : Has μ1 μ.next 0 dl := Has.new (t := 39) (fx := false) (sh := false) (by rw [h1]; show T.get _ _ = _; rw [T.get_set, if_pos rfl])
 have hld := lds39 hh hl.symm
 have t3 := rsmall_eq (X := X) (g := k + 6996) (n := x) (μ := μ2) (by omega) hx
 have e0 : ieq 0 0 = true := rfl
 refine fun_enter Tryz.func7 rfl rfl (Nat.le_of_ble_eq_true rfl) ?_
 simp only [T.lay, Nat.zero_add, Tryz.ntmps7, Nat.reduceAdd]
 repeat (first | refine code_seq ?_ | ((first | (refine code_region ?_ ?_; (focus rfl)) | (refine code_guards (gs := ?_) ?_ ?_; rotate_left; (focus rfl))); simp only [run1, run2, wanted, go_sem, Nat.reduceLT, Nat.reduceAdd, Nat.reduceEqDiff, reduceIte, reduceCtorEq, bx39, Nat.add_eq, h1.symm, hld, gg9, hD, gg12, t3, gg11, hS, e0]) | (refine code_cond_true ?_ ?_; (focus (simp only [aev, regAt_set, Nat.reduceEqDiff, reduceIte, bx39, Nat.add_eq, h1.symm, hld, gg9, hD, gg12, t3, gg11, hS, e0]; done))) | (refine code_cond_false ?_ ?_; (focus (simp only [aev, regAt_set, Nat.reduceEqDiff, reduceIte, bx39, Nat.add_eq, h1.symm, hld, gg9, hD, gg12, t3, gg11, hS, e0]; done))) | ((first | refine code_skip ?_ | refine code_label ?_ | refine code_exit ?_); try simp only [then_exit, then_normal, blockC, Nat.reduceEqDiff, reduceIte]) | refine code_block ?_)
 refine code_ret ?_
 refine ⟨rfl, _, ?_, rfl, rfl⟩
 simp only [aResults, Tryz.results7, aRes, regAt_set, Nat.reduceEqDiff, reduceIte]
theorem putn_ends {g sp hp ap wb lb b s tq cnt used e ix room places : Nat} {n x : Int} {d : Value} {ws : Nat → Nat} {p : Pos} {I : Nat → Int} {K : Nat → Option Int} {V : Nat → Nat} {μ : Mem} (hg : 7000 ≤ g) (hT : TS μ sp hp ap wb lb ws p b s tq cnt used e ix room places I K V) (hd : DatW μ d n) (hn : Sm n) (hx : Sm x)
  (hne : ∀ j m, j < used → K j = some m → n ≠ m) (hc : cnt < 100) (hb : 184 ≤ b) (hb2 : b ≤ 200) :
  EndsF (aFun Tryz.prog (aCode Tryz.prog X S0 g) 7 [.pointer (some ⟨sp, 0, none⟩), .int .u64 (.ofNat (placeW tq)), d, .int .i64 x] μ) fun v μ' => v = .bool true ∧ Keeps μ μ' ap wb lb ∧
   ∃ ws' p' b' used' e' ix' room' places' I' K' V', Sx μ' sp hp ap wb lb ws' p p' b b' s tq cnt used room used' e' ix' room' places' I' K K' V V' n (sw x) := by
 obtain ⟨k, rfl⟩ := Nat.exists_eq_add_of_le' hg
 obtain ⟨b0, l0, rfl, ho, hl⟩ := hd
 obtain ⟨v2, μ2, t2, rfl, g2⟩ := datum_ends (X := X) (g := k + 6997) (sp := sp) (v := .agg (datL b0 l0).toArray) (μ := ⟨μ.obs.set μ.next (.cells (datL b0 l0).length 39 (datL b0 l0).toArray .e 0 0 false false), μ.next + 1⟩) (by omega) hn ⟨b0, l0, rfl, ho, hl.grow (grow1 μ _)⟩
 have g12 := (grow1 μ _).trans g2
 obtain ⟨v3, μ3, t3, rfl, k3, hs⟩ := set_ends (X := X) (g := k + 6995) (w := sw n) (x := sw x) (by omega) (hT.grow g12) (.inl ⟨n, hn, rfl, rfl⟩) (fun j m hj hK e => hne j m hj hK (sw_inj hn (hT.tl.ksm j m hj hK) e)) hc hb hb2 (fun q hq e => absurd e (by have := sw_mod n; unfold placeW; omega))
 exact ⟨_, μ3, put_core (dl := datL b0 l0) rfl hx t2 t3, rfl, (Keeps.grow g12).trans k3, hs n hn rfl⟩
end
noncomputable section
variable {X : FuncId → List Value → Mem → Option (Value × Mem)}
theorem z27n : aZeroOf Tryz.prog 27 = some (.int .u64 0) := by unfold aZeroOf; rw [j27]; rfl
theorem bs68_4 (ρ : Operand → Value) (a b c d : Operand) (x y z w : Int) (ha : ρ a = .int .u64 x) (hb : ρ b = .int .u64 y) (hc : ρ c = .int .u64 z) (hd : ρ d = .int .u64 w) :
  aBuildSlice Tryz.prog ρ 68 4 #[(0, a), (1, b), (2, c), (3, d)] = some (.cells 4 27 #[.int .u64 x, .int .u64 y, .int .u64 z, .int .u64 w] .e 0 0 false false, fun id => .slice (some ⟨id, 0, none⟩) 4 8) := by
 unfold aBuildSlice
 simp only [Tryz.underlying68, j27, z27n]
 show (match aFill _ [.int .u64 0, .int .u64 0, .int .u64 0, .int .u64 0] [(0, ρ a), (1, ρ b), (2, ρ c), (3, ρ d)] with | some cs => _ | none => none) = _
 rw [ha, hb, hc, hd]
 rfl
def tf4 (q1 q2 : Nat) : Nat → Nat := fun k => if k = 0 then sw 0 else if k = 1 then sw 0 else if k = 2 then placeW q1 else placeW q2
set_option maxRecDepth 20000 in
set_option maxHeartbeats 8000000 in
theorem new_ends {g sp hp ap wb lb b s : Nat} {ws : Nat → Nat} {p : Pos} {μ : Mem} (hg : 2000 ≤ g) (h : SP μ sp hp ap wb lb 51200 3200 ws p) (hr : Rom μ) (r5 : 5 ≠ ap ∧ 5 ≠ wb ∧ 5 ≠ lb) (gp : Gp p b s) (hb : 190 ≤ b) (hb2 : b ≤ 200) (hs : s + 5 ≤ 256) :
  EndsF (aFun Tryz.prog (aCode Tryz.prog X S0 g) 6 [.pointer (some ⟨sp, 0, none⟩)] μ) fun v μ' => v = .tuple #[.int .u64 (.ofNat (placeW s)), .bool true] ∧ Keeps μ μ' ap wb lb ∧
   ∃ ws' p' b' e ix, b ≤ b' + 2 ∧ b' ≤ b ∧ TS μ' sp hp ap wb lb ws' p' b' (s + 5) s 0 0 e ix 8 16 (fun _ => -1) (fun _ => none) (fun _ => 0) := by
 obtain ⟨k, rfl⟩ := Nat.exists_eq_add_of_le' hg
 obtain ⟨q1, p1, b1, al1, gp1, x1, x2, tk1⟩ := al_big (X := X) (n := 17) gp (by omega) hb2 (by omega) (by omega)
 obtain ⟨q2, p2, b2, al2, gp2, y1, y2, tk2⟩ := al_big (X := X) (n := 17) gp1 (by omega) (by omega) (by omega) (by omega)
 obtain ⟨p3, al3, gp3, tk3⟩ := al_small (X := X) (n := 5) gp2 (by omega) (by omega) (by decide) (by decide) hs
 have top1 := tk1.top
 have top2 := tk2.top
 have top3 := tk3.top
 have d12 : q1 + 16 < q2 ∨ q2 + 16 < q1 := disj fun k h1 h2 h3 h4 => (tk1.was k h1 (by omega)).2 (tk2.was k h3 (by omega)).1
 have d13 : q1 + 16 < s ∨ s + 4 < q1 := disj fun k h1 h2 h3 h4 => (tk1.was k h1 (by omega)).2 (tk2.sub k (tk3.was k h3 (by omega)).1)
 have d23 : q2 + 16 < s ∨ s + 4 < q2 := disj fun k h1 h2 h3 h4 => (tk2.was k h1 (by omega)).2 (tk3.was k h3 (by omega)).1
 obtain ⟨v1, μ1, t1, rfl, S1, K1⟩ := filled_ends (X := X) (g := k + 1997) (n := 16) (w := 45) (q := q1) (by omega) h (by omega) (by omega) al1
 obtain ⟨v2, μ2, t2, rfl, S2, K2⟩ := filled_ends (X := X) (g := k + 1995) (n := 16) (w := sw (-1)) (q := q2) (by omega) S1 (by omega) (by omega) al2
 obtain ⟨μ3, h3⟩ : ∃ M : Mem, M = ⟨μ2.obs.set μ2.next (.cells 4 27 #[.int .u64 (.ofNat (sw 0)), .int .u64 (.ofNat (sw 0)), .int .u64 (.ofNat (placeW q1)), .int .u64 (.ofNat (placeW q2))] .e 0 0 false false), μ2.next + 1⟩ := ⟨_, rfl⟩
 have g3 : Grow μ2 μ3 := by rw [h3]; exact grow1 μ2 _
 have n3 : μ3.next = μ2.next + 1 := by rw [h3]
 have hh : Has μ3 μ2.next 0 [.int .u64 (.ofNat (sw 0)), .int .u64 (.ofNat (sw 0)), .int .u64 (.ofNat (placeW q1)), .int .u64 (.ofNat (placeW q2))] := Has.new (t := 27) (fx := false) (sh := false) (by rw [h3]; show T.get _ _ = _; rw [T.get_set, if_pos rfl]; rfl)
 have n2a := S2.hs.ab.n1
 have n2b := S2.hs.ab.n2
 have n2c := S2.hs.ab.n3
 obtain ⟨v4, μ4, t4, rfl, S4, K4⟩ := object_ends (X := X) (g := k + 1993) (n := 4) (kd := 3) (li := μ2.next) (c := 8) (f := tf4 q1 q2) (q := s) (by omega) (S2.grow g3) (fun k hk => by
  rcases (by omega : k = 0 ∨ k = 1 ∨ k = 2 ∨ k = 3) with rfl | rfl | rfl | rfl
  ·exact hh.cell 0 (by simp)
  ·exact hh.cell 1 (by simp)
  ·exact hh.cell 2 (by simp)
  ·exact hh.cell 3 (by simp)) (by omega) (by omega) (by omega) (by omega) (by omega) (by omega) (by omega) al3
 have KK : Keeps μ μ4 ap wb lb := K1.trans (K2.trans ((Keeps.grow g3).trans K4))
 have w1 : obj (obj (obj ws q1 1 16 fun _ => 45) q2 1 16 fun _ => sw (-1)) s 3 4 (tf4 q1 q2) q1 = headW 1 0 16 := by
  rw [obj_out _ _ _ _ _ _ (by omega), obj_out _ _ _ _ _ _ (by omega), obj_head]
 have w2 : obj (obj (obj ws q1 1 16 fun _ => 45) q2 1 16 fun _ => sw (-1)) s 3 4 (tf4 q1 q2) q2 = headW 1 0 16 := by
  rw [obj_out _ _ _ _ _ _ (by omega), obj_head]
 have w3 : ∀ q, q < 16 → obj (obj (obj ws q1 1 16 fun _ => 45) q2 1 16 fun _ => sw (-1)) s 3 4 (tf4 q1 q2) (q2 + 1 + q) = sw (-1) := fun q hq => by
  rw [obj_out _ _ _ _ _ _ (by omega), obj_in _ _ _ _ _ _ hq]
 have tw : TW (obj (obj (obj ws q1 1 16 fun _ => 45) q2 1 16 fun _ => sw (-1)) s 3 4 (tf4 q1 q2)) s 0 0 q1 q2 8 16 :=
  ⟨obj_head _ _ _ _ _, obj_in _ _ _ _ _ 0 (by decide), obj_in _ _ _ _ _ 1 (by decide), obj_in _ _ _ _ _ 2 (by decide), obj_in _ _ _ _ _ 3 (by decide), w1, w2, by omega, by omega, by omega, by decide, by decide, by decide, by omega, by omega, by omega, by decide, by decide⟩
 have ts : TS μ4 sp hp ap wb lb (obj (obj (obj ws q1 1 16 fun _ => 45) q2 1 16 fun _ => sw (-1)) s 3 4 (tf4 q1 q2)) p3 b2 (s + 5) s 0 0 q1 q2 8 16 (fun _ => -1) (fun _ => none) (fun _ => 0) :=
  ⟨S4, hr.keeps r5 KK, gp3, tw, TL.empty (by decide) w3, ⟨fun i hi => absurd hi (Nat.not_lt_zero _), fun i j n hi => absurd hi (Nat.not_lt_zero _)⟩,
   fun k hk hf => by
    rcases hk with hk | hk | hk
    ·exact (tk3.was k (by omega) (by omega)).2 hf
    ·exact (tk1.was k (by omega) (by omega)).2 (tk2.sub k (tk3.sub k hf))
    ·exact (tk2.was k (by omega) (by omega)).2 (tk3.sub k hf), rfl, .inl ⟨rfl, rfl⟩, r5⟩
 have t1' : aFun Tryz.prog (aCode Tryz.prog X S0 (k + 1997)) 17 [.pointer (some ⟨sp, 0, none⟩), .int .i64 16, .int .u64 (.ofNat 45)] μ = some (.tuple #[.int .u64 (.ofNat (placeW q1)), .bool true], μ1) := t1
 have hs5 : ∀ g, 40 ≤ g → aFun Tryz.prog (aCode Tryz.prog X S0 g) 18 [.int .i64 5] μ = some (.int .u64 (.ofNat 45), μ) := fun g hg => single_eq hg
 have hm1 : ∀ g, 60 ≤ g → aFun Tryz.prog (aCode Tryz.prog X S0 g) 19 [.int .i64 (-1)] μ1 = some (.int .u64 (.ofNat (sw (-1))), μ1) := fun g hg => tsmall_eq hg (by unfold Sm; omega)
 have hm0 : ∀ g, 60 ≤ g → aFun Tryz.prog (aCode Tryz.prog X S0 g) 19 [.int .i64 0] μ2 = some (.int .u64 (.ofNat (sw 0)), μ2) := fun g hg => tsmall_eq hg (by unfold Sm; omega)
 obtain ⟨m1, e1⟩ : ∃ m, m = sw (-1) := ⟨_, rfl⟩
 obtain ⟨m0, e0⟩ : ∃ m, m = sw 0 := ⟨_, rfl⟩
 rw [← e1] at hm1
 rw [← e0] at hm0 h3
 have t2' : aFun Tryz.prog (aCode Tryz.prog X S0 (k + 1995)) 17 [.pointer (some ⟨sp, 0, none⟩), .int .i64 16, .int .u64 (.ofNat m1)] μ1 = some (.tuple #[.int .u64 (.ofNat (placeW q2)), .bool true], μ2) := by rw [e1]; exact t2
 have t4' : aFun Tryz.prog (aCode Tryz.prog X S0 (k + 1993)) 20 [.pointer (some ⟨sp, 0, none⟩), .int .i64 3, .slice (some ⟨μ2.next, 0, none⟩) 4 8] μ3 = some (.tuple #[.int .u64 (.ofNat (placeW s)), .bool true], μ4) := t4
 have hbs : ∀ (ρ : Operand → Value) (a b c d : Operand), ρ a = .int .u64 (.ofNat m0) → ρ b = .int .u64 (.ofNat m0) → ρ c = .int .u64 (.ofNat (placeW q1)) → ρ d = .int .u64 (.ofNat (placeW q2)) → aBuildSlice Tryz.prog ρ 68 4 #[(0, a), (1, b), (2, c), (3, d)] = some (.cells 4 27 #[.int .u64 (.ofNat m0), .int .u64 (.ofNat m0), .int .u64 (.ofNat (placeW q1)), .int .u64 (.ofNat (placeW q2))] .e 0 0 false false, fun id => .slice (some ⟨id, 0, none⟩) 4 8) := fun ρ a b c d h1 h2 h3 h4 => bs68_4 ρ a b c d _ _ _ _ h1 h2 h3 h4
 refine fun_enter Tryz.func6 rfl rfl (Nat.le_of_ble_eq_true rfl) ?_
 simp only [T.lay, Nat.zero_add, Tryz.ntmps6, Nat.reduceAdd]
 repeat (first | refine code_seq ?_ | ((first | (refine code_region ?_ ?_; (focus rfl)) | (refine code_guards (gs := ?_) ?_ ?_; rotate_left; (focus rfl))); simp only [run1, run2, wanted, go_sem, Nat.reduceLT, Nat.reduceAdd, Nat.reduceEqDiff, reduceIte, reduceCtorEq, Nat.add_eq, Nat.reduceLeDiff, gg18, hs5, gg17, t1', gg19, hm1, t2', hm0, hbs, h3.symm, gg20, t4']) | (refine code_cond_true ?_ ?_; (focus (simp only [aev, regAt_set, Nat.reduceEqDiff, reduceIte, Nat.add_eq, Nat.reduceLeDiff, gg18, hs5, gg17, t1', gg19, hm1, t2', hm0, hbs, h3.symm, gg20, t4']; done))) | (refine code_cond_false ?_ ?_; (focus (simp only [aev, regAt_set, Nat.reduceEqDiff, reduceIte, Nat.add_eq, Nat.reduceLeDiff, gg18, hs5, gg17, t1', gg19, hm1, t2', hm0, hbs, h3.symm, gg20, t4']; done))) | ((first | refine code_skip ?_ | refine code_label ?_ | refine code_exit ?_); try simp only [then_exit, then_normal, blockC, Nat.reduceEqDiff, reduceIte]) | refine code_block ?_)
 refine code_ret ?_
 refine ⟨rfl, _, ?_, rfl, KK, _, p3, b2, q1, q2, by omega, by omega, ts⟩
 simp only [aResults, Tryz.results6, aRes, regAt_set, Nat.reduceEqDiff, reduceIte]
end
noncomputable section
def newRun (X : FuncId → List Value → Mem → Option (Value × Mem)) (g : Nat) (t0 : T Ob) : Option (Value × Mem) := aFun Tryz.prog (aCode Tryz.prog X S0 g) 5 [.int .i64 200] ⟨t0, 900⟩
def newMem (X : FuncId → List Value → Mem → Option (Value × Mem)) (g : Nat) (t0 : T Ob) : Mem := match newRun X g t0 with
 | some (_, m) => m
 | none => ⟨.e, 0⟩
structure NewOk (X : FuncId → List Value → Mem → Option (Value × Mem)) (g : Nat) (t0 : T Ob) (o0 : Option Ob) (r5 r6 : Ob) : Prop where
 val : (newRun X g t0).map (·.1) = some (.pointer (some ⟨911, 0, none⟩))
 next : (newMem X g t0).next = 912
 sp : ∃ ov, (newMem X g t0).obs.get 911 = some (.cells 3 59 #[.pointer (some ⟨909, 0, none⟩), .slice none 0 0, .map (some 910)] ov 0 0 false false) ∧ ov = .e
 hp : (newMem X g t0).obs.get 909 = some (.cells 1 87 #[.pointer (some ⟨907, 0, none⟩)] .e 0 0 false false)
 ap : (newMem X g t0).obs.get 907 = some (.cells 9 119 #[.slice (some ⟨902, 0, none⟩) 51200 102400, .slice (some ⟨905, 0, none⟩) 3200 6400, .int .i64 0, .int .i64 0, .int .i64 0, .int .i64 0, .int .i64 0, .int .i64 0, .int .i64 0] .e 0 0 false false)
 wb : (newMem X g t0).obs.get 902 = some (.cells 51200 27 #[.int .u64 0] .e 0 0 false false)
 lb : (newMem X g t0).obs.get 905 = some (.cells 6400 181 #[.bool false, .bool false] .e 0 0 false false)
 zero : (newMem X g t0).obs.get 0 = none
 held0 : (newMem X g t0).obs.get 880 = o0
 ro5 : (newMem X g t0).obs.get 5 = some r5
 ro6 : (newMem X g t0).obs.get 6 = some r6
theorem new_ran {X : FuncId → List Value → Mem → Option (Value × Mem)} {g : Nat} {t0 : T Ob} {o0 : Option Ob} {r5 r6 : Ob} (h : NewOk X g t0 o0 r5 r6) : newRun X g t0 = some (.pointer (some ⟨911, 0, none⟩), newMem X g t0) := by
 have h := h.val
 unfold newMem
 cases hr : newRun X g t0 with
 | none => rw [hr] at h; cases h
 | some x =>
   obtain ⟨v, m⟩ := x
   rw [hr] at h
   simp only [Option.map_some, Option.some.injEq] at h
   rw [h]
variable {X : FuncId → List Value → Mem → Option (Value × Mem)}
def t00 (r5 r6 : Ob) : T Ob := (T.e.set 5 r5).set 6 r6
theorem newE (r5 r6 : Ob) : NewOk X 11995 (t00 r5 r6) none r5 r6 := ⟨by kernel_rfl, by kernel_rfl, ⟨_, by kernel_rfl, rfl⟩, by kernel_rfl, by kernel_rfl, by kernel_rfl, by kernel_rfl, by kernel_rfl, by kernel_rfl, by kernel_rfl, by kernel_rfl⟩
theorem new1 (r5 r6 o : Ob) : NewOk X 11995 ((t00 r5 r6).set 880 o) (some o) r5 r6 := ⟨by kernel_rfl, by kernel_rfl, ⟨_, by kernel_rfl, rfl⟩, by kernel_rfl, by kernel_rfl, by kernel_rfl, by kernel_rfl, by kernel_rfl, by kernel_rfl, by kernel_rfl, by kernel_rfl⟩
theorem cellAt_e1 (v : Value) (k : Nat) : cellAt #[v] .e k = v := by
 unfold cellAt
 simp only [T.get_e]
 have : Nat.mod k (#[v] : Array Value).size = 0 := Nat.mod_one k
 rw [this]; rfl
theorem cellAt_e2 (v : Value) (k : Nat) : cellAt #[v, v] .e k = v := by
 unfold cellAt
 simp only [T.get_e]
 have h2 : Nat.mod k (#[v, v] : Array Value).size < 2 := Nat.mod_lt k (show 0 < 2 by decide)
 obtain ⟨m, hm⟩ : ∃ m, Nat.mod k (#[v, v] : Array Value).size = m := ⟨_, rfl⟩
 rw [hm] at h2 ⊢
 match m with
 | 0 => rfl
 | 1 => rfl
 | m + 2 => omega
theorem cells_get {μ : Mem} {i n t o : Nat} {z : Array Value} {ov : T Value} {fx sh : Bool} (h : μ.obs.get i = some (.cells n t z ov 0 0 fx sh)) (ho : o < n) : cellsAt μ i o = some (cellAt z ov o) := by
 unfold cellsAt
 rw [h]
 show (if o < n then _ else _) = _
 rw [if_pos ho]
theorem NewOk.space {g : Nat} {t0 : T Ob} {o0 : Option Ob} {r5 r6 : Ob} (h : NewOk X g t0 o0 r5 r6) : SP (newMem X g t0) 911 909 907 902 905 51200 3200 (fun _ => 0) P0 := by
 obtain ⟨ov, hs, rfl⟩ := h.sp
 have hh := h.hp
 have hn := h.next
 have ha := h.ap
 refine ⟨by rw [cells_get hs (by decide)]; rfl, by rw [hn]; decide, by decide, by decide, by decide, ⟨by rw [cells_get hh (by decide)]; rfl, ⟨⟨⟨102400, by rw [cells_get ha (by decide)]; rfl⟩, ⟨_, _, _, _, h.wb, fun k hk => cellAt_e1 _ k⟩, by decide⟩, ⟨⟨3200, by rw [cells_get ha (by decide)]; rfl, Nat.le_refl _⟩, ⟨_, _, _, _, h.lb⟩, fun k hk => ?_, fun k hk => ⟨false, ?_⟩⟩, ⟨_, _, _, _, ha⟩, by rw [hn]; decide, by rw [hn]; decide, by rw [hn]; decide, by decide, by decide, by decide, by decide⟩, by rw [hn]; decide, by decide, by decide, by decide⟩, ⟨?_, ?_, ?_, ?_, ?_⟩⟩
 ·rw [cells_get h.lb (by omega), cellAt_e2]; rfl
 ·rw [cells_get h.lb (by omega), cellAt_e2]
 all_goals (rw [cells_get ha (by decide)]; rfl)
end
end Go.Proofs.YtcbdcaionmpekaaGreatDoor.tf
