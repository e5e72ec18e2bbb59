/-
  distafflaw19.TableRoom, part S: its walk and its law. No conditions.
-/
import Derived.Test.YthpcpheejblbhaaGreatDoorTrR
set_option linter.unusedSimpArgs false
set_option linter.unusedVariables false
set_option linter.unusedSectionVars false
namespace Go.Proofs.YthpcpheejblbhaaGreatDoor.tr
open Go Go.Proofs Go.Proofs.YthpcpheejblbhaaGreatDoor.Ev
noncomputable section
def newRun (X : FuncId → List Value → Mem → Option (Value × Mem)) (g bl : Nat) (t0 : T Ob) : Option (Value × Mem) := aFun Tryz.prog (aCode Tryz.prog X S0 g) 5 [.int .i64 (.ofNat bl)] ⟨t0, 900⟩
def newMem (X : FuncId → List Value → Mem → Option (Value × Mem)) (g bl : Nat) (t0 : T Ob) : Mem := match newRun X g bl t0 with
 | some (_, m) => m
 | none => ⟨.e, 0⟩
structure NewOk (X : FuncId → List Value → Mem → Option (Value × Mem)) (g bl N L : Nat) (t0 : T Ob) (o0 : Option Ob) (r5 r6 : Ob) : Prop where
 val : (newRun X g bl t0).map (·.1) = some (.pointer (some ⟨911, 0, none⟩))
 next : (newMem X g bl t0).next = 912
 sp : ∃ ov, (newMem X g bl t0).obs.get 911 = some (.cells 3 58 #[.pointer (some ⟨909, 0, none⟩), .slice none 0 0, .map (some 910)] ov 0 0 false false) ∧ ov = .e
 hp : (newMem X g bl t0).obs.get 909 = some (.cells 1 86 #[.pointer (some ⟨907, 0, none⟩)] .e 0 0 false false)
 ap : (newMem X g bl t0).obs.get 907 = some (.cells 9 118 #[.slice (some ⟨902, 0, none⟩) N (2 * N), .slice (some ⟨905, 0, none⟩) L (2 * L), .int .i64 0, .int .i64 0, .int .i64 0, .int .i64 0, .int .i64 0, .int .i64 0, .int .i64 0] .e 0 0 false false)
 wb : (newMem X g bl t0).obs.get 902 = some (.cells N 27 #[.int .u64 0] .e 0 0 false false)
 lb : (newMem X g bl t0).obs.get 905 = some (.cells (2 * L) 180 #[.bool false, .bool false] .e 0 0 false false)
 zero : (newMem X g bl t0).obs.get 0 = none
 held0 : (newMem X g bl t0).obs.get 880 = o0
 ro5 : (newMem X g bl t0).obs.get 5 = some r5
 ro6 : (newMem X g bl t0).obs.get 6 = some r6
theorem new_ran {X : FuncId → List Value → Mem → Option (Value × Mem)} {g bl N L : Nat} {t0 : T Ob} {o0 : Option Ob} {r5 r6 : Ob} (h : NewOk X g bl N L t0 o0 r5 r6) : newRun X g bl t0 = some (.pointer (some ⟨911, 0, none⟩), newMem X g bl t0) := by
 have h := h.val
 unfold newMem
 cases hr : newRun X g bl t0 with
 | none => rw [hr] at h; cases h
 | some x =>
   obtain ⟨v, m⟩ := x
   rw [hr] at h
   simp only [Option.map_some, Option.some.injEq] at h
   rw [h]
variable {X : FuncId → List Value → Mem → Option (Value × Mem)}
def t00 (r5 r6 : Ob) : T Ob := (T.e.set 5 r5).set 6 r6
theorem newE2 (r5 r6 : Ob) : NewOk X 11995 2 512 32 (t00 r5 r6) none r5 r6 := ⟨by kernel_rfl, by kernel_rfl, ⟨_, by kernel_rfl, rfl⟩, by kernel_rfl, by kernel_rfl, by kernel_rfl, by kernel_rfl, by kernel_rfl, by kernel_rfl, by kernel_rfl, by kernel_rfl⟩
theorem newH2 (r5 r6 o : Ob) : NewOk X 11995 2 512 32 ((t00 r5 r6).set 880 o) (some o) r5 r6 := ⟨by kernel_rfl, by kernel_rfl, ⟨_, by kernel_rfl, rfl⟩, by kernel_rfl, by kernel_rfl, by kernel_rfl, by kernel_rfl, by kernel_rfl, by kernel_rfl, by kernel_rfl, by kernel_rfl⟩
theorem newE3 (r5 r6 : Ob) : NewOk X 11995 3 768 48 (t00 r5 r6) none r5 r6 := ⟨by kernel_rfl, by kernel_rfl, ⟨_, by kernel_rfl, rfl⟩, by kernel_rfl, by kernel_rfl, by kernel_rfl, by kernel_rfl, by kernel_rfl, by kernel_rfl, by kernel_rfl, by kernel_rfl⟩
theorem newH3 (r5 r6 o : Ob) : NewOk X 11995 3 768 48 ((t00 r5 r6).set 880 o) (some o) r5 r6 := ⟨by kernel_rfl, by kernel_rfl, ⟨_, by kernel_rfl, rfl⟩, by kernel_rfl, by kernel_rfl, by kernel_rfl, by kernel_rfl, by kernel_rfl, by kernel_rfl, by kernel_rfl, by kernel_rfl⟩
theorem newE4 (r5 r6 : Ob) : NewOk X 11995 4 1024 64 (t00 r5 r6) none r5 r6 := ⟨by kernel_rfl, by kernel_rfl, ⟨_, by kernel_rfl, rfl⟩, by kernel_rfl, by kernel_rfl, by kernel_rfl, by kernel_rfl, by kernel_rfl, by kernel_rfl, by kernel_rfl, by kernel_rfl⟩
theorem newH4 (r5 r6 o : Ob) : NewOk X 11995 4 1024 64 ((t00 r5 r6).set 880 o) (some o) r5 r6 := ⟨by kernel_rfl, by kernel_rfl, ⟨_, by kernel_rfl, rfl⟩, by kernel_rfl, by kernel_rfl, by kernel_rfl, by kernel_rfl, by kernel_rfl, by kernel_rfl, by kernel_rfl, by kernel_rfl⟩
theorem newE5 (r5 r6 : Ob) : NewOk X 11995 5 1280 80 (t00 r5 r6) none r5 r6 := ⟨by kernel_rfl, by kernel_rfl, ⟨_, by kernel_rfl, rfl⟩, by kernel_rfl, by kernel_rfl, by kernel_rfl, by kernel_rfl, by kernel_rfl, by kernel_rfl, by kernel_rfl, by kernel_rfl⟩
theorem newH5 (r5 r6 o : Ob) : NewOk X 11995 5 1280 80 ((t00 r5 r6).set 880 o) (some o) r5 r6 := ⟨by kernel_rfl, by kernel_rfl, ⟨_, by kernel_rfl, rfl⟩, by kernel_rfl, by kernel_rfl, by kernel_rfl, by kernel_rfl, by kernel_rfl, by kernel_rfl, by kernel_rfl, by kernel_rfl⟩
theorem newE6 (r5 r6 : Ob) : NewOk X 11995 6 1536 96 (t00 r5 r6) none r5 r6 := ⟨by kernel_rfl, by kernel_rfl, ⟨_, by kernel_rfl, rfl⟩, by kernel_rfl, by kernel_rfl, by kernel_rfl, by kernel_rfl, by kernel_rfl, by kernel_rfl, by kernel_rfl, by kernel_rfl⟩
theorem newH6 (r5 r6 o : Ob) : NewOk X 11995 6 1536 96 ((t00 r5 r6).set 880 o) (some o) r5 r6 := ⟨by kernel_rfl, by kernel_rfl, ⟨_, by kernel_rfl, rfl⟩, by kernel_rfl, by kernel_rfl, by kernel_rfl, by kernel_rfl, by kernel_rfl, by kernel_rfl, by kernel_rfl, by kernel_rfl⟩
def oneRun (X : FuncId → List Value → Mem → Option (Value × Mem)) (t0 : T Ob) : Option (Value × Mem) := aFun Tryz.prog (aCode Tryz.prog X S0 11994) 6 [.pointer (some ⟨911, 0, none⟩)] (newMem X 11995 1 t0)
structure OneOk (X : FuncId → List Value → Mem → Option (Value × Mem)) (t0 : T Ob) (o0 : Option Ob) (r5 r6 : Ob) : Prop where
 val : (newRun X 11995 1 t0).map (·.1) = some (.pointer (some ⟨911, 0, none⟩))
 one : (oneRun X t0).map (·.1) = some (.tuple #[.int .u64 0, .bool false])
 k0 : (oneRun X t0).map (fun x => x.2.obs.get 880) = some o0
 k5 : (oneRun X t0).map (fun x => x.2.obs.get 5) = some (some r5)
 k6 : (oneRun X t0).map (fun x => x.2.obs.get 6) = some (some r6)
theorem oneE (r5 r6 : Ob) : OneOk X (t00 r5 r6) none r5 r6 := ⟨by kernel_rfl, by kernel_rfl, by kernel_rfl, by kernel_rfl, by kernel_rfl⟩
theorem oneH (r5 r6 o : Ob) : OneOk X ((t00 r5 r6).set 880 o) (some o) r5 r6 := ⟨by kernel_rfl, by kernel_rfl, by kernel_rfl, by kernel_rfl, by kernel_rfl⟩
theorem OneOk.ran {t0 : T Ob} {o0 : Option Ob} {r5 r6 : Ob} (h : OneOk X t0 o0 r5 r6) : ∃ μ1 μ2, newRun X 11995 1 t0 = some (.pointer (some ⟨911, 0, none⟩), μ1) ∧ aFun Tryz.prog (aCode Tryz.prog X S0 11994) 6 [.pointer (some ⟨911, 0, none⟩)] μ1 = some (.tuple #[.int .u64 0, .bool false], μ2) ∧
  μ2.obs.get 880 = o0 ∧ μ2.obs.get 5 = some r5 ∧ μ2.obs.get 6 = some r6 := by
 obtain ⟨h1, h2, h3, h4, h5⟩ := h
 cases hr : newRun X 11995 1 t0 with
 | none => rw [hr] at h1; cases h1
 | some x =>
   obtain ⟨v, m⟩ := x
   rw [hr] at h1
   simp only [Option.map_some, Option.some.injEq] at h1
   have hm : newMem X 11995 1 t0 = m := by unfold newMem; rw [hr]
   cases ho : oneRun X t0 with
   | none => rw [ho] at h2; cases h2
   | some y =>
     obtain ⟨v2, m2⟩ := y
     rw [ho] at h2 h3 h4 h5
     simp only [Option.map_some, Option.some.injEq] at h2 h3 h4 h5
     refine ⟨m, m2, by rw [h1], ?_, h3, h4, h5⟩
     unfold oneRun at ho
     rw [hm] at ho
     rw [ho, h2]
theorem cellAt_e1 (v : Value) (k : Nat) : cellAt #[v] .e k = v := by
 unfold cellAt
 simp only [T.get_e]
 have : Nat.mod k (#[v] : Array Value).size = 0 := Nat.mod_one k
 rw [this]; rfl
theorem cellAt_e2 (v : Value) (k : Nat) : cellAt #[v, v] .e k = v := by
 unfold cellAt
 simp only [T.get_e]
 have h2 : Nat.mod k (#[v, v] : Array Value).size < 2 := Nat.mod_lt k (show 0 < 2 by decide)
 obtain ⟨m, hm⟩ : ∃ m, Nat.mod k (#[v, v] : Array Value).size = m := ⟨_, rfl⟩
 rw [hm] at h2 ⊢
 match m with
 | 0 => rfl
 | 1 => rfl
 | m + 2 => omega
theorem cells_get {μ : Mem} {i n t o : Nat} {z : Array Value} {ov : T Value} {fx sh : Bool} (h : μ.obs.get i = some (.cells n t z ov 0 0 fx sh)) (ho : o < n) : cellsAt μ i o = some (cellAt z ov o) := by
 unfold cellsAt
 rw [h]
 show (if o < n then _ else _) = _
 rw [if_pos ho]
variable [Z : Sz]
theorem NewOk.space {g : Nat} {t0 : T Ob} {o0 : Option Ob} {r5 r6 : Ob} (h : NewOk X g Sz.nb Sz.N Sz.L t0 o0 r5 r6) : SP (newMem X g Sz.nb t0) 911 909 907 902 905 Sz.N Sz.L (fun _ => 0) P0 := by
 obtain ⟨ov, hs, rfl⟩ := h.sp
 have hh := h.hp
 have hn := h.next
 have ha := h.ap
 refine ⟨by rw [cells_get hs (by decide)]; rfl, by rw [hn]; decide, by decide, by decide, by decide, ⟨by rw [cells_get hh (by decide)]; rfl, ⟨⟨⟨2 * Sz.N, by rw [cells_get ha (by decide)]; rfl⟩, ⟨_, _, _, _, h.wb, fun k hk => cellAt_e1 _ k⟩, by decide⟩, ⟨⟨Sz.L, by rw [cells_get ha (by decide)]; rfl, Nat.le_refl _⟩, ⟨_, _, _, _, h.lb⟩, fun k hk => ?_, fun k hk => ⟨false, ?_⟩⟩, ⟨_, _, _, _, ha⟩, by rw [hn]; decide, by rw [hn]; decide, by rw [hn]; decide, by decide, by decide, Sz.N1, Sz.L1⟩, by rw [hn]; decide, by decide, by decide, by decide⟩, ⟨?_, ?_, ?_, ?_, ?_⟩⟩
 ·rw [cells_get h.lb (by omega), cellAt_e2]; rfl
 ·rw [cells_get h.lb (by omega), cellAt_e2]
 all_goals (rw [cells_get ha (by decide)]; rfl)
end
noncomputable section
variable {X : FuncId → List Value → Mem → Option (Value × Mem)}
def LawQ (o0 : Option Ob) (r5 r6 : Ob) (v : Value) (μ' : Mem) : Prop := v = .bool true ∧ μ'.obs.get 880 = o0 ∧ μ'.obs.get 5 = some r5 ∧ μ'.obs.get 6 = some r6
set_option maxRecDepth 20000 in
set_option maxHeartbeats 16000000 in
theorem law_out (hN : Named Tryz.prog) (hX : XOk Tryz.prog X) (hm : Tryz.prog.follows .mixedOrders = true) (hS : SumsOk Tryz.prog S0) {n ca : Nat} {ad : Option Addr} {bl : Int} {t0 : T Ob} {o0 : Option Ob} {r5 r6 : Ob} (g0 : t0.get 880 = o0) (g5 : t0.get 5 = some r5) (g6 : t0.get 6 = some r6)
  (hal : ∀ k, aCallS Tryz.prog (aCode Tryz.prog X S0 k) S0 4 [] ⟨t0, 900⟩ = some (.bool true, ⟨t0, 900⟩)) (h : 100 < n ∨ bl < 1 ∨ 6 < bl) :
  Snd Tryz.prog lawBody ⟨154, T.e.lay 0 [.slice ad n ca, .int .i64 bl], [], none⟩ ⟨t0, 900⟩ (retQ Tryz.prog Tryz.f3 (LawQ o0 r5 r6)) := by
 refine snd_cut hN hX hm hS 8 12000 lawBody _ _ ?_
 simp only [T.lay, Nat.zero_add, Nat.reduceAdd]
 by_cases q1 : 100 < n
 ·have q1 : ilt 100 (.ofNat n) = true := (ilt_nat 100 n).trans (decide_eq_true q1)
  repeat (first | refine code_seq ?_ | ((first | (refine code_region ?_ ?_; (focus rfl)) | (refine code_guards (gs := ?_) ?_ ?_; rotate_left; (focus rfl))); simp only [run1, run2, wanted, go_sem, Nat.reduceLT, Nat.reduceAdd, Nat.reduceEqDiff, reduceIte, reduceCtorEq, go_body (P := Tryz.prog) Tryz.func4 rfl, hal, aBuiltin, aLen, Tryz.underlying22, cast_nat, q1]) | (refine code_cond_true ?_ ?_; (focus (simp only [aev, regAt_set, Nat.reduceEqDiff, reduceIte, go_body (P := Tryz.prog) Tryz.func4 rfl, hal, aBuiltin, aLen, Tryz.underlying22, cast_nat, q1]; done))) | (refine code_cond_false ?_ ?_; (focus (simp only [aev, regAt_set, Nat.reduceEqDiff, reduceIte, go_body (P := Tryz.prog) Tryz.func4 rfl, hal, aBuiltin, aLen, Tryz.underlying22, cast_nat, q1]; done))) | ((first | refine code_skip ?_ | refine code_label ?_ | refine code_exit ?_); try simp only [then_exit, then_normal, blockC, Nat.reduceEqDiff, reduceIte]) | refine code_block ?_)
  refine code_ret ?_
  refine ⟨rfl, _, ?_, rfl, g0, g5, g6⟩
  simp only [aResults, Tryz.results3, aRes, regAt_set, Nat.reduceEqDiff, reduceIte]
 ·have p1 := (ilt_nat 100 n).trans (decide_eq_false q1)
  have p1 : ilt 100 (.ofNat n) = false := p1
  by_cases q2 : bl < 1
  ·have p2 : ilt bl 1 = true := by rw [ilt_eq]; exact decide_eq_true q2
   repeat (first | refine code_seq ?_ | ((first | (refine code_region ?_ ?_; (focus rfl)) | (refine code_guards (gs := ?_) ?_ ?_; rotate_left; (focus rfl))); simp only [run1, run2, wanted, go_sem, Nat.reduceLT, Nat.reduceAdd, Nat.reduceEqDiff, reduceIte, reduceCtorEq, go_body (P := Tryz.prog) Tryz.func4 rfl, hal, aBuiltin, aLen, Tryz.underlying22, cast_nat, p1, p2]) | (refine code_cond_true ?_ ?_; (focus (simp only [aev, regAt_set, Nat.reduceEqDiff, reduceIte, go_body (P := Tryz.prog) Tryz.func4 rfl, hal, aBuiltin, aLen, Tryz.underlying22, cast_nat, p1, p2]; done))) | (refine code_cond_false ?_ ?_; (focus (simp only [aev, regAt_set, Nat.reduceEqDiff, reduceIte, go_body (P := Tryz.prog) Tryz.func4 rfl, hal, aBuiltin, aLen, Tryz.underlying22, cast_nat, p1, p2]; done))) | ((first | refine code_skip ?_ | refine code_label ?_ | refine code_exit ?_); try simp only [then_exit, then_normal, blockC, Nat.reduceEqDiff, reduceIte]) | refine code_block ?_)
   refine code_ret ?_
   refine ⟨rfl, _, ?_, rfl, g0, g5, g6⟩
   simp only [aResults, Tryz.results3, aRes, regAt_set, Nat.reduceEqDiff, reduceIte]
  ·have p2 : ilt bl 1 = false := by rw [ilt_eq]; exact decide_eq_false q2
   have p3 : ilt 6 bl = true := by rw [ilt_eq]; exact decide_eq_true (by omega)
   repeat (first | refine code_seq ?_ | ((first | (refine code_region ?_ ?_; (focus rfl)) | (refine code_guards (gs := ?_) ?_ ?_; rotate_left; (focus rfl))); simp only [run1, run2, wanted, go_sem, Nat.reduceLT, Nat.reduceAdd, Nat.reduceEqDiff, reduceIte, reduceCtorEq, go_body (P := Tryz.prog) Tryz.func4 rfl, hal, aBuiltin, aLen, Tryz.underlying22, cast_nat, p1, p2, p3]) | (refine code_cond_true ?_ ?_; (focus (simp only [aev, regAt_set, Nat.reduceEqDiff, reduceIte, go_body (P := Tryz.prog) Tryz.func4 rfl, hal, aBuiltin, aLen, Tryz.underlying22, cast_nat, p1, p2, p3]; done))) | (refine code_cond_false ?_ ?_; (focus (simp only [aev, regAt_set, Nat.reduceEqDiff, reduceIte, go_body (P := Tryz.prog) Tryz.func4 rfl, hal, aBuiltin, aLen, Tryz.underlying22, cast_nat, p1, p2, p3]; done))) | ((first | refine code_skip ?_ | refine code_label ?_ | refine code_exit ?_); try simp only [then_exit, then_normal, blockC, Nat.reduceEqDiff, reduceIte]) | refine code_block ?_)
   refine code_ret ?_
   refine ⟨rfl, _, ?_, rfl, g0, g5, g6⟩
   simp only [aResults, Tryz.results3, aRes, regAt_set, Nat.reduceEqDiff, reduceIte]
set_option maxRecDepth 20000 in
set_option maxHeartbeats 16000000 in
theorem law_one (hN : Named Tryz.prog) (hX : XOk Tryz.prog X) (hm : Tryz.prog.follows .mixedOrders = true) (hS : SumsOk Tryz.prog S0) {n ca : Nat} {ad : Option Addr} {t0 : T Ob} {o0 : Option Ob} {r5 r6 : Ob} (hO : OneOk X t0 o0 r5 r6)
  (hal : ∀ k, aCallS Tryz.prog (aCode Tryz.prog X S0 k) S0 4 [] ⟨t0, 900⟩ = some (.bool true, ⟨t0, 900⟩)) (hn : n ≤ 100) :
  Snd Tryz.prog lawBody ⟨154, T.e.lay 0 [.slice ad n ca, .int .i64 1], [], none⟩ ⟨t0, 900⟩ (retQ Tryz.prog Tryz.f3 (LawQ o0 r5 r6)) := by
 obtain ⟨μ1, μ2, t1, t2, k0, k5, k6⟩ := hO.ran
 unfold newRun at t1
 have t1 : aFun Tryz.prog (aCode Tryz.prog X S0 11995) 5 [.int .i64 1] ⟨t0, 900⟩ = some (.pointer (some ⟨911, 0, none⟩), μ1) := t1
 have q1 : ilt 100 (.ofNat n) = false := (ilt_nat 100 n).trans (decide_eq_false (by omega))
 have q2 : ilt 1 1 = false := rfl
 have q3 : ilt 6 1 = false := rfl
 have e0 : ieq 0 0 = true := rfl
 refine snd_cut hN hX hm hS 8 12000 lawBody _ _ ?_
 simp only [T.lay, Nat.zero_add, Nat.reduceAdd]
 repeat (first | refine code_seq ?_ | ((first | (refine code_region ?_ ?_; (focus rfl)) | (refine code_guards (gs := ?_) ?_ ?_; rotate_left; (focus rfl))); simp only [run1, run2, wanted, go_sem, Nat.reduceLT, Nat.reduceAdd, Nat.reduceEqDiff, reduceIte, reduceCtorEq, go_body (P := Tryz.prog) Tryz.func4 rfl, hal, aBuiltin, aLen, Tryz.underlying22, cast_nat, q1, q2, q3, gg5, t1, gg6, t2, e0]) | (refine code_cond_true ?_ ?_; (focus (simp only [aev, regAt_set, Nat.reduceEqDiff, reduceIte, go_body (P := Tryz.prog) Tryz.func4 rfl, hal, aBuiltin, aLen, Tryz.underlying22, cast_nat, q1, q2, q3, gg5, t1, gg6, t2, e0]; done))) | (refine code_cond_false ?_ ?_; (focus (simp only [aev, regAt_set, Nat.reduceEqDiff, reduceIte, go_body (P := Tryz.prog) Tryz.func4 rfl, hal, aBuiltin, aLen, Tryz.underlying22, cast_nat, q1, q2, q3, gg5, t1, gg6, t2, e0]; done))) | ((first | refine code_skip ?_ | refine code_label ?_ | refine code_exit ?_); try simp only [then_exit, then_normal, blockC, Nat.reduceEqDiff, reduceIte]) | refine code_block ?_)
 refine code_ret ?_
 refine ⟨rfl, _, ?_, rfl, k0, k5, k6⟩
 simp only [aResults, Tryz.results3, aRes, regAt_set, Nat.reduceEqDiff, reduceIte]
variable [Z : Sz]
set_option maxRecDepth 20000 in
set_option maxHeartbeats 16000000 in
theorem law_more (hN : Named Tryz.prog) (hX : XOk Tryz.prog X) (hm : Tryz.prog.follows .mixedOrders = true) (hS : SumsOk Tryz.prog S0) {n ca go : Nat} {ad : Option Addr} {gv : Nat → Int} {t0 : T Ob} {o0 : Option Ob} {r5 r6 : Ob} (hO : NewOk X 11995 Sz.nb Sz.N Sz.L t0 o0 r5 r6) (g0 : t0.get 880 = o0) (g5 : t0.get 5 = some r5)
  (hal : ∀ k, aCallS Tryz.prog (aCode Tryz.prog X S0 k) S0 4 [] ⟨t0, 900⟩ = some (.bool true, ⟨t0, 900⟩)) (hrom : Rom ⟨t0, 900⟩) (hn : n ≤ 100) (hgo : ∀ i, i < n → ad = some ⟨880, go, none⟩ ∧ cellsAt ⟨t0, 900⟩ 880 (go + i) = some (.int .i64 (gv i))) :
  Snd Tryz.prog lawBody ⟨154, T.e.lay 0 [.slice ad n ca, .int .i64 (.ofNat Sz.nb)], [], none⟩ ⟨t0, 900⟩ (retQ Tryz.prog Tryz.f3 (LawQ o0 r5 r6)) := by
 have z3 := Sz.lo
 have z4 := Sz.hi
 have hnew := new_ran hO
 have hnx := hO.next
 have S0' := hO.space
 have h0 := hO.held0
 have h5 := hO.ro5
 have h6 := hO.ro6
 obtain ⟨μ0, hμ0⟩ : ∃ M, M = newMem X 11995 Sz.nb t0 := ⟨_, rfl⟩
 unfold newRun at hnew
 rw [← hμ0] at hnew hnx S0' h0 h5 h6
 have hrom0 : Rom μ0 := by
  have e5 : μ0.obs.get 5 = (Mem.obs ⟨t0, 900⟩).get 5 := h5.trans g5.symm
  exact ⟨by rw [hnx]; decide, fun k hk => by rw [← hrom.at_ k hk]; unfold cellsAt; rw [e5]⟩
 have hgo0 : ∀ i, i < n → ad = some ⟨880, go, none⟩ ∧ cellsAt μ0 880 (go + i) = some (.int .i64 (gv i)) := fun i hi => ⟨(hgo i hi).1, by
  have e8 : μ0.obs.get 880 = (Mem.obs ⟨t0, 900⟩).get 880 := h0.trans g0.symm
  rw [← (hgo i hi).2]; unfold cellsAt; rw [e8]⟩
 obtain ⟨v1, μ1, t1, rfl, k1, ws1, p1, b1, e1, ix1, x1, x2, T1⟩ := new_ends (X := X) (g := 11994) (by decide) S0' hrom0 (by decide)
 obtain ⟨μ2, hμ2⟩ : ∃ M : Mem, M = ⟨μ1.obs.set μ1.next (.map [] 0), Nat.add μ1.next 1⟩ := ⟨_, rfl⟩
 have g2 : Grow μ1 μ2 := by rw [hμ2]; exact grow1 μ1 _
 have hk1 := k1.1
 obtain ⟨mi, hmi⟩ : ∃ mi, mi = μ1.next := ⟨_, rfl⟩
 have hmi2 : 912 ≤ mi := by omega
 rw [← hmi] at hμ2
 have P2 : St μ2 911 909 907 902 905 0 mi [] := ⟨⟨ws1, p1, b1, 0, 0, e1, ix1, 8, 16, _, _, _, T1.grow g2, ⟨x1, x2⟩, Sn.nil _⟩, by rw [hμ2]; show T.get _ _ = _; rw [T.get_set, if_pos rfl]; rfl, ⟨by omega, by omega, by omega, by omega, by omega, by omega⟩, by rw [hμ2]; exact Nat.lt_succ_self _⟩
 have KP02 : Kp μ0 μ2 907 902 905 mi := (Kp.keeps k1).trans (Kp.grow g2)
 have q1 : ilt 100 (.ofNat n) = false := (ilt_nat 100 n).trans (decide_eq_false (by omega))
 have q2 : ilt (.ofNat Sz.nb) 1 = false := (ilt_nat _ 1).trans (decide_eq_false (by omega))
 have q3 : ilt 6 (.ofNat Sz.nb) = false := (ilt_nat 6 _).trans (decide_eq_false (by omega))
 refine snd_cut hN hX hm hS 8 12000 lawBody _ _ ?_
 simp only [T.lay, Nat.zero_add, Nat.reduceAdd]
 repeat (first | refine code_seq ?_ | ((first | (refine code_region ?_ ?_; (focus rfl)) | (refine code_guards (gs := ?_) ?_ ?_; rotate_left; (focus rfl))); simp only [run1, run2, wanted, go_sem, Nat.reduceLT, Nat.reduceAdd, Nat.reduceEqDiff, reduceIte, reduceCtorEq, go_body (P := Tryz.prog) Tryz.func4 rfl, hal, aBuiltin, aLen, Tryz.underlying22, cast_nat, q1, q2, q3, gg5, hnew, gg6, t1, hmi.symm, hμ2.symm]) | (refine code_cond_true ?_ ?_; (focus (simp only [aev, regAt_set, Nat.reduceEqDiff, reduceIte, go_body (P := Tryz.prog) Tryz.func4 rfl, hal, aBuiltin, aLen, Tryz.underlying22, cast_nat, q1, q2, q3, gg5, hnew, gg6, t1, hmi.symm, hμ2.symm]; done))) | (refine code_cond_false ?_ ?_; (focus (simp only [aev, regAt_set, Nat.reduceEqDiff, reduceIte, go_body (P := Tryz.prog) Tryz.func4 rfl, hal, aBuiltin, aLen, Tryz.underlying22, cast_nat, q1, q2, q3, gg5, hnew, gg6, t1, hmi.symm, hμ2.symm]; done))) | ((first | refine code_skip ?_ | refine code_label ?_ | refine code_exit ?_); try simp only [then_exit, then_normal, blockC, Nat.reduceEqDiff, reduceIte]) | refine code_block ?_)
 have hgo2 : ∀ i, i < n → ad = some ⟨880, go, none⟩ ∧ cellsAt μ2 880 (go + i) = some (.int .i64 (gv i)) := fun i hi => ⟨(hgo0 i hi).1, by
  rw [← (hgo0 i hi).2]; unfold cellsAt; rw [KP02.2 880 (by omega) (by decide) (by decide) (by decide) (by omega)]⟩
 have hL := fun tm => key_loop (X := X) (ca := ca) (mi := mi) (tq := 0) (sp := 911) (hp := 909) (ap := 907) (wb := 902) (lb := 905) hn hgo2 (by have := g2.1; omega) ⟨by decide, by decide, by decide, by omega⟩ n (3990 - n) 0 tm μ2 [] (by omega) P2 (Nat.le_refl _) (Kp.refl _ _ _ _ _)
 rw [show 3990 - n + n + 8000 = 11990 from by omega] at hL
 refine (hL _ ?_ ?_ ?_ ?_ ?_ ?_).mono ?_
 ·simp only [regAt_set, Nat.reduceEqDiff, reduceIte]
 ·simp only [regAt_set, Nat.reduceEqDiff, reduceIte]
 ·simp only [regAt_set, Nat.reduceEqDiff, reduceIte]
 ·simp only [regAt_set, Nat.reduceEqDiff, reduceIte]
 ·simp only [regAt_set, Nat.reduceEqDiff, reduceIte]
 ·simp only [regAt_set, Nat.reduceEqDiff, reduceIte]; rfl
 rintro a r μ3 ⟨rfl, l, P3, kp3, tm3, rfl, u5, u6, u8⟩
 simp only [blockC, reduceIte, then_normal]
 refine code_skip ?_
 have hb : ∀ n v, (n, v) ∈ l → 1 ≤ v ∧ v ≤ 101 ∧ -1000 ≤ n ∧ n ≤ 1000 := fun n v hm => by
  obtain ⟨ws, p, b, cnt, used, e, ix, room, places, I, K, V, _, _, h3⟩ := P3.ex
  exact (h3.fwd n v hm).2
 have hkk : ∀ {μ' : Mem}, Kp μ3 μ' 907 902 905 mi → ∀ i, i < 900 → μ'.obs.get i = μ0.obs.get i := fun {μ'} h i hi => by
  have a1 := KP02.1
  have a2 := kp3.1
  rw [h.2 i (by omega) (by omega) (by omega) (by omega) (by omega), kp3.2 i (by omega) (by omega) (by omega) (by omega) (by omega), KP02.2 i (by omega) (by omega) (by omega) (by omega) (by omega)]
 exact (tail_snd hN hX hm hS hb P3 u5 u6 u8).mono (retQ_mono fun v μ' ⟨e, h⟩ => ⟨e, (hkk h 880 (by decide)).trans h0, (hkk h _ (by decide)).trans h5, (hkk h _ (by decide)).trans h6⟩)
end
noncomputable section
structure HandsR (P : Program) (W : World) (nx : Nat) (J : Nat → Ev.Loc) (t : T Ob) : Prop where
 loc : ∀ i, J i = noneKnown nx i ∨ ∃ b, J i = .at b 0 ∧ i ≠ P.globals.size ∧ i < nx ∧ (i < P.globals.size → b = i) ∧
  ((∃ c ty fz, t.get i = some (.held c ty fz) ∧ W.heap[b]? = some (.cells c ty fz)) ∨ (∃ l ty, t.get i = some (.rom l ty) ∧ W.heap[b]? = some (.cells l.toArray ty (0, 0)) ∧ ∀ v ∈ l, plainV 5 v = true))
 inj : ∀ i j b, J i = .at b 0 → J j = .at b 0 → i = j
 only : ∀ i o, t.get i = some o → ∃ b, J i = .at b 0
theorem none_not (nx i b s : Nat) : noneKnown nx i ≠ .at b s := fun e => by unfold noneKnown at e; split at e <;> cases e
theorem handsR_snd {P : Program} {g : FuncId} {fn : Func} {c : Code} {nx : Nat} (hfn : P.funcs[g]? = some fn) (hc : fn.body = some c) (hnx : P.globals.size < nx) {W : World} {J : Nat → Ev.Loc} {t : T Ob} (h : HandsR P W nx J t)
  {args : List Value} {args' : Array Value} (hle : args.length ≤ fn.ntmps) (ha : ARel J args.toArray args') {QF : Value → Mem → Prop} (hs : Snd P c ⟨fn.ntmps, T.e.lay 0 args, [], none⟩ ⟨t, nx⟩ (retQ P fn QF)) (hQ : ∀ v μ', QF v μ' → v = .bool true ∧ ∀ i b, J i = .at b 0 → μ'.obs.get i = t.get i) :
  Calls P g args' W fun e W' => e = .returned (.bool true) ∧ Same W W' := by
 have at0 : ∀ {i b s}, J i = .at b s → s = 0 ∧ i ≠ P.globals.size ∧ i < nx ∧ (i < P.globals.size → b = i) ∧
   ((∃ c ty fz, t.get i = some (.held c ty fz) ∧ W.heap[b]? = some (.cells c ty fz)) ∨ (∃ l ty, t.get i = some (.rom l ty) ∧ W.heap[b]? = some (.cells l.toArray ty (0, 0)) ∧ ∀ v ∈ l, plainV 5 v = true)) := fun {i b s} e => by
  rcases h.loc i with e1 | ⟨b1, e1, h1, h2, h3, h4⟩
  ·rw [e1] at e; exact absurd e (none_not _ _ _ _)
  ·rw [e1] at e; cases e; exact ⟨rfl, h1, h2, h3, h4⟩
 have nk : ∀ i, (i = P.globals.size ∨ nx ≤ i) → J i = noneKnown nx i := fun i hi => by
  rcases h.loc i with e1 | ⟨b1, e1, h1, h2, _⟩
  ·exact e1
  ·omega
 have hr : Rel J ⟨t, nx⟩ W := by
  refine ⟨fun i j b s t2 e1 e2 => ?_, fun i b s e => ?_, fun i hi => ?_, fun i o ho _ => ?_⟩
  ·obtain ⟨rfl, _⟩ := at0 e1
   obtain ⟨rfl, _⟩ := at0 e2
   exact h.inj i j b e1 e2
  ·obtain ⟨_, _, _, _, ⟨c, ty, fz, _, h4⟩ | ⟨l, ty, _, h4, _⟩⟩ := at0 e
   ·exact (Array.getElem?_eq_some_iff.1 h4).1
   ·exact (Array.getElem?_eq_some_iff.1 h4).1
  ·rw [nk i (.inr hi)]; exact if_neg (Nat.not_lt.2 hi)
  ·obtain ⟨b, e⟩ := h.only i o ho
   have ho' : t.get i = some o := ho
   obtain ⟨_, _, _, _, ⟨c, ty, fz, h3, h4⟩ | ⟨l, ty, h3, h4, h5⟩⟩ := at0 e
   ·rw [h3] at ho'
    cases ho'
    exact ⟨b, 0, e, h4⟩
   ·rw [h3] at ho'
    cases ho'
    exact ⟨b, 0, e, h4, fun v hv => plain_refl 5 (h5 v hv)⟩
 have hB : Base P J := by
  refine ⟨fun g hg => ?_, ?_⟩
  ·rcases h.loc g with e1 | ⟨b1, e1, h1, h2, h3, _⟩
   ·exact .inr (by rw [e1]; exact if_pos (Nat.lt_trans hg hnx))
   ·obtain rfl := h3 hg
    exact .inl ⟨0, e1⟩
  ·rw [nk _ (.inl rfl)]; exact if_pos hnx
 refine callsIn_wide.1 (fun_snd hfn hc hle hs hr hB ha 0 _ fun v μ' J' v' w' hq h1 h2 h3 => ?_)
 obtain ⟨rfl, hk⟩ := hQ v μ' hq
 refine ⟨by rw [plain_eq 5 rfl h1], h3.os, h3.output, h3.size, fun b2 hb2 => ?_, h3.tape⟩
 by_cases hex : ∃ i, J i = .at b2 0
 ·obtain ⟨i, e⟩ := hex
  have hJ1 : ∀ {o : Ob}, t.get i = some o → o ≠ .dead → ObRel J' w' b2 0 o := fun {o} ho hd => by
   obtain ⟨b3, s3, hJ, hob⟩ := h2.obj i _ ((hk i b2 e).trans ho) hd
   rcases h3.at_ _ _ _ e with e3 | ⟨e3, _⟩
   ·rw [e3] at hJ; cases hJ; exact hob
   ·rw [e3] at hJ; cases hJ
  obtain ⟨_, _, _, _, ⟨c, ty, fz, h5, h6⟩ | ⟨l, ty, h5, h6, _⟩⟩ := at0 e
  ·have hob' : w'.heap[b2]? = _ := hJ1 h5 (by simp)
   rw [hob', h6]
  ·obtain ⟨hc, _⟩ := hJ1 h5 (by simp)
   rw [hc, h6]
 ·refine h3.frame b2 hb2 fun i s e => ?_
  obtain ⟨rfl, _⟩ := at0 e
  exact absurd ⟨i, e⟩ hex
end
noncomputable section
def J0R : Nat → Ev.Loc := fun i => if i = 5 then .at 5 0 else if i = 6 then .at 6 0 else noneKnown 900 i
theorem t00_5 (r5 r6 : Ob) : (t00 r5 r6).get 5 = some r5 := by unfold t00; rw [T.get_set, if_neg (by decide), T.get_set, if_pos rfl]
theorem t00_6 (r5 r6 : Ob) : (t00 r5 r6).get 6 = some r6 := by unfold t00; rw [T.get_set, if_pos rfl]
theorem t00_off (r5 r6 : Ob) (i : Nat) (h5 : i ≠ 5) (h6 : i ≠ 6) : (t00 r5 r6).get i = none := by unfold t00; rw [T.get_set, if_neg h6, T.get_set, if_neg h5, T.get_e]
theorem J0R_at {i b : Nat} (h : J0R i = .at b 0) : (i = 5 ∨ i = 6) ∧ b = i := by
 unfold J0R at h
 by_cases h5 : i = 5
 ·rw [if_pos h5] at h; cases h; exact ⟨.inl h5, h5.symm⟩
 ·rw [if_neg h5] at h
  by_cases h6 : i = 6
  ·rw [if_pos h6] at h; cases h; exact ⟨.inr h6, h6.symm⟩
  ·rw [if_neg h6] at h; exact absurd h (none_not _ _ _ _)
theorem hands0R {W : World} {l5 l6 : List Value} {t5 t6 : TypeId} (h5 : W.heap[(5 : Nat)]? = some (.cells l5.toArray t5 (0, 0))) (h6 : W.heap[(6 : Nat)]? = some (.cells l6.toArray t6 (0, 0))) (p5 : ∀ v ∈ l5, plainV 5 v = true) (p6 : ∀ v ∈ l6, plainV 5 v = true) :
  HandsR Tryz.prog W 900 J0R (t00 (.rom l5 t5) (.rom l6 t6)) := by
 refine ⟨fun i => ?_, fun i j b e1 e2 => (J0R_at e1).2.symm.trans (J0R_at e2).2, fun i o ho => ?_⟩
 ·by_cases h : i = 5
  ·subst h
   exact .inr ⟨_, if_pos rfl, by decide +kernel, by decide, fun _ => rfl, .inr ⟨l5, t5, t00_5 _ _, h5, p5⟩⟩
  ·by_cases g : i = 6
   ·subst g
    exact .inr ⟨_, (if_neg (by decide)).trans (if_pos rfl), by decide +kernel, by decide, fun _ => rfl, .inr ⟨l6, t6, t00_6 _ _, h6, p6⟩⟩
   ·exact .inl ((if_neg h).trans (if_neg g))
 ·by_cases h : i = 5
  ·subst h; exact ⟨_, if_pos rfl⟩
  ·by_cases g : i = 6
   ·subst g; exact ⟨_, (if_neg (by decide)).trans (if_pos rfl)⟩
   ·rw [t00_off _ _ _ h g] at ho; cases ho
def J1R (b : Nat) : Nat → Ev.Loc := fun i => if i = 880 then .at b 0 else J0R i
theorem hands1R {W : World} {b : Nat} {c : Array Value} {ty : TypeId} {fz : Nat × Nat} {l5 l6 : List Value} {t5 t6 : TypeId} (hb : W.heap[b]? = some (.cells c ty fz)) (n5 : b ≠ 5) (n6 : b ≠ 6) (h : HandsR Tryz.prog W 900 J0R (t00 (.rom l5 t5) (.rom l6 t6))) :
  HandsR Tryz.prog W 900 (J1R b) ((t00 (.rom l5 t5) (.rom l6 t6)).set 880 (.held c ty fz)) := by
 refine ⟨fun i => ?_, fun i j b' e1 e2 => ?_, fun i o ho => ?_⟩
 ·by_cases g : i = 880
  ·subst g
   exact .inr ⟨b, if_pos rfl, by decide +kernel, by decide, fun hh => absurd hh (by decide +kernel), .inl ⟨c, ty, fz, by rw [T.get_set, if_pos rfl], hb⟩⟩
  ·have e : J1R b i = J0R i := if_neg g
   rw [e]
   rcases h.loc i with h1 | ⟨b1, h1, h2, h3, h4, h5⟩
   ·exact .inl h1
   ·refine .inr ⟨b1, h1, h2, h3, h4, ?_⟩
    rw [T.get_set, if_neg g]
    exact h5
 ·unfold J1R at e1 e2
  by_cases g1 : i = 880
  ·by_cases g2 : j = 880
   ·rw [g1, g2]
   ·rw [if_pos g1] at e1; rw [if_neg g2] at e2; cases e1
    have := J0R_at e2
    rcases this.1 with h1 | h1
    ·exact absurd (this.2.trans h1) n5
    ·exact absurd (this.2.trans h1) n6
  ·rw [if_neg g1] at e1
   by_cases g2 : j = 880
   ·rw [if_pos g2] at e2; cases e2
    have := J0R_at e1
    rcases this.1 with h1 | h1
    ·exact absurd (this.2.trans h1) n5
    ·exact absurd (this.2.trans h1) n6
   ·rw [if_neg g2] at e2; exact h.inj i j b' e1 e2
 ·by_cases g : i = 880
  ·exact ⟨b, if_pos g⟩
  ·rw [T.get_set, if_neg g] at ho
   obtain ⟨b1, h1⟩ := h.only i o ho
   exact ⟨b1, (if_neg g).trans h1⟩
end
noncomputable section
theorem arel_pair {J : Nat → Ev.Loc} {v v' u u' : Value} (h : VRel J v v') (g : VRel J u u') : ARel J [v, u].toArray #[v', u'] := ⟨rfl, fun i a b ha hb => by
 match i with
 | 0 => simp at ha hb; subst ha hb; exact h
 | 1 => simp at ha hb; subst ha hb; exact g
 | i + 2 => simp at ha⟩
def Emp (v : Value) (ad : Option Addr) (c : Nat) : Prop := (ad = none ∧ c = 0 ∧ v = .slice none 0 0) ∨ ∃ a cap, ad = some ⟨0, 0, none⟩ ∧ c = 2 * cap ∧ v = .slice (some a) 0 cap
structure Full (W : World) (v : Value) (kd : IntKind) (b o n cap : Nat) (c : Array Value) (t : TypeId) (fz : Nat × Nat) (z : Nat → Int) : Prop where
 val : v = .slice (some ⟨b, o, none⟩) n cap
 pos : 0 < n
 le : n ≤ cap
 blk : W.heap[b]? = some (.cells c t fz)
 cell : ∀ k, k < n → c[o + k]? = some (.int kd (z k))
theorem Emp.rel {v : Value} {ad : Option Addr} {c : Nat} (h : Emp v ad c) {J : Nat → Ev.Loc} (hJ : J 0 = .dead) : VRel J (.slice ad 0 c) v := by
 rcases h with ⟨rfl, rfl, rfl⟩ | ⟨a, cap, rfl, rfl, rfl⟩
 ·exact .sliceNil 0 0
 ·exact .sliceDead a cap hJ (.inl ⟨by omega, by omega⟩)
theorem Full.cells {W : World} {v : Value} {kd : IntKind} {b o n cap : Nat} {c : Array Value} {t : TypeId} {fz : Nat × Nat} {z : Nat → Int} (h : Full W v kd b o n cap c t fz z) {μ : Mem} {hid : Nat} (hh : μ.obs.get hid = some (.held c t fz)) (k : Nat) (hk : k < n) : cellsAt μ hid (o + k) = some (.int kd (z k)) := by
 obtain ⟨hsz, hcj⟩ := Array.getElem?_eq_some_iff.1 (h.cell k hk)
 have hm : Nat.mod (o + k) (c.map strip).size = o + k := by show (o + k) % _ = _; rw [Nat.mod_eq_of_lt]; simpa using hsz
 unfold cellsAt
 rw [hh]
 show (if o + k < c.size then _ else _) = _
 rw [if_pos hsz]
 simp only [cellAt, T.get_e, hm]
 simp [Array.getD, hsz, hcj]
 rfl
theorem Full.rel {W : World} {v : Value} {kd : IntKind} {b o n cap : Nat} {c : Array Value} {t : TypeId} {fz : Nat × Nat} {z : Nat → Int} (h : Full W v kd b o n cap c t fz z) {J : Nat → Ev.Loc} {hid : Nat} (hJ : J hid = .at b 0) : VRel J (.slice (some ⟨hid, o, none⟩) n (2 * cap)) v := by
 rw [h.val]
 exact .slice hJ (.inl ⟨by omega, by omega⟩)
end
noncomputable section
theorem named : Named Tryz.prog := named_of (by kernel_rfl)
theorem mixed : Tryz.prog.follows .mixedOrders = true := by kernel_rfl
def xs : List (FuncId × XK) := [(68, .f64from), (77, .f64bits), (142, .f64bits), (200, .same), (201, .noZero 5), (195, .indexByte)]
theorem rows : ∀ x ∈ xs, ∃ fn, XRow Tryz.prog x.1 x.2 fn := by
 intro x hx
 simp only [xs, List.mem_cons, List.not_mem_nil, or_false] at hx
 rcases hx with rfl | rfl | rfl | rfl | rfl | rfl
 ·exact ⟨_, Tryz.func68, by kernel_rfl, by kernel_rfl, by kernel_rfl, by kernel_rfl, fun e h => by cases h⟩
 ·exact ⟨_, Tryz.func77, by kernel_rfl, by kernel_rfl, by kernel_rfl, by kernel_rfl, fun e h => by cases h⟩
 ·exact ⟨_, Tryz.func142, by kernel_rfl, by kernel_rfl, by kernel_rfl, by kernel_rfl, fun e h => by cases h⟩
 ·exact ⟨_, Tryz.func200, by kernel_rfl, by kernel_rfl, by kernel_rfl, by kernel_rfl, fun e h => by cases h⟩
 ·exact ⟨_, Tryz.func201, by kernel_rfl, by kernel_rfl, by kernel_rfl, by kernel_rfl, fun e h => by cases h; exact ⟨Tryz.f201.resultTypes.getD 0 0, by kernel_rfl, by kernel_rfl⟩⟩
 ·exact ⟨_, Tryz.func195, by kernel_rfl, by kernel_rfl, by kernel_rfl, by kernel_rfl, fun e h => by cases h⟩
theorem dead900 : noneKnown 900 0 = .dead := if_pos (by decide)
theorem romKept_congr {μ μ' : Mem} : ∀ (rs : List (Nat × List Value × TypeId)), (∀ x ∈ rs, μ.obs.get x.1 = μ'.obs.get x.1) → romKept μ rs = romKept μ' rs
 | [], _ => rfl
 | x :: rs, h => by
   have h1 := h x (List.mem_cons_self ..)
   have h2 := romKept_congr rs fun y hy => h y (List.mem_cons_of_mem _ hy)
   unfold romKept at h2 ⊢
   simp only [List.all_cons, h1, h2]
theorem alive_call {X : FuncId → List Value → Mem → Option (Value × Mem)} {μ : Mem} (h : romKept μ roms = true) (k : Nat) : aCallS Tryz.prog (aCode Tryz.prog X S0 k) S0 4 [] μ = some (.bool true, μ) := by
 show (match romKept μ roms with | true => some (Value.bool true, μ) | false => none) = _
 rw [h]
def ni64 : Value → Bool
 | .int .i64 _ => false
 | _ => true
theorem Full.off {W : World} {v : Value} {b o n cap : Nat} {c : Array Value} {t : TypeId} {fz : Nat × Nat} {z : Nat → Int} (h : Full W v .i64 b o n cap c t fz z) {g : Nat} {l : List Value} {t5 : TypeId} (hg : W.heap[g]? = some (.cells l.toArray t5 (0, 0))) (hn : l.all ni64 = true) : b ≠ g := by
 rintro rfl
 have e := h.blk
 rw [hg] at e
 injection e with e
 injection e with e1 e2 e3
 have hc := h.cell 0 h.pos
 rw [← e1] at hc
 have hc : l[o + 0]? = some (.int .i64 (z 0)) := by simpa using hc
 have := List.all_eq_true.1 hn _ (List.mem_of_getElem? hc)
 simp [ni64] at this
structure Laid (W : World) (l5 l6 : List Value) (t5 t6 : TypeId) : Prop where
 h5 : W.heap[(5 : Nat)]? = some (.cells l5.toArray t5 (0, 0))
 h6 : W.heap[(6 : Nat)]? = some (.cells l6.toArray t6 (0, 0))
 p5 : l5.all (plainV 5) = true
 p6 : l6.all (plainV 5) = true
 n5 : l5.all ni64 = true
 n6 : l6.all ni64 = true
 kept : romKept ⟨t00 (.rom l5 t5) (.rom l6 t6), 900⟩ roms = true
 off : roms.all (fun x => Nat.blt x.1 880) = true
 rom : Rom ⟨t00 (.rom l5 t5) (.rom l6 t6), 900⟩
structure Spaces (X : FuncId → List Value → Mem → Option (Value × Mem)) (t0 : T Ob) (o0 : Option Ob) (r5 r6 : Ob) : Prop where
 one : OneOk X t0 o0 r5 r6
 m2 : NewOk X 11995 2 512 32 t0 o0 r5 r6
 m3 : NewOk X 11995 3 768 48 t0 o0 r5 r6
 m4 : NewOk X 11995 4 1024 64 t0 o0 r5 r6
 m5 : NewOk X 11995 5 1280 80 t0 o0 r5 r6
 m6 : NewOk X 11995 6 1536 96 t0 o0 r5 r6
theorem spacesE {X : FuncId → List Value → Mem → Option (Value × Mem)} (r5 r6 : Ob) : Spaces X (t00 r5 r6) none r5 r6 := ⟨oneE _ _, newE2 _ _, newE3 _ _, newE4 _ _, newE5 _ _, newE6 _ _⟩
theorem spacesH {X : FuncId → List Value → Mem → Option (Value × Mem)} (r5 r6 o : Ob) : Spaces X ((t00 r5 r6).set 880 o) (some o) r5 r6 := ⟨oneH _ _ _, newH2 _ _ _, newH3 _ _ _, newH4 _ _ _, newH5 _ _ _, newH6 _ _ _⟩
theorem law_any (sums : SumsOk Tryz.prog S0) {n ca go : Nat} {ad : Option Addr} {gv : Nat → Int} {bl : Int} {t0 : T Ob} {o0 : Option Ob} {r5 r6 : Ob} (hSp : Spaces (aExt xs) t0 o0 r5 r6) (g0 : t0.get 880 = o0) (g5 : t0.get 5 = some r5) (g6 : t0.get 6 = some r6)
  (hal : ∀ k, aCallS Tryz.prog (aCode Tryz.prog (aExt xs) S0 k) S0 4 [] ⟨t0, 900⟩ = some (.bool true, ⟨t0, 900⟩)) (hrom : Rom ⟨t0, 900⟩) (hgo : ∀ i, i < n → ad = some ⟨880, go, none⟩ ∧ cellsAt ⟨t0, 900⟩ 880 (go + i) = some (.int .i64 (gv i))) :
  Snd Tryz.prog lawBody ⟨154, T.e.lay 0 [.slice ad n ca, .int .i64 bl], [], none⟩ ⟨t0, 900⟩ (retQ Tryz.prog Tryz.f3 (LawQ o0 r5 r6)) := by
 have hX := aExt_ok (P := Tryz.prog) rows
 by_cases h : 100 < n ∨ bl < 1 ∨ 6 < bl
 ·exact law_out named hX mixed sums g0 g5 g6 hal h
 ·have hn : n ≤ 100 := by omega
  rcases (by omega : bl = 1 ∨ bl = 2 ∨ bl = 3 ∨ bl = 4 ∨ bl = 5 ∨ bl = 6) with rfl | rfl | rfl | rfl | rfl | rfl
  ·exact law_one named hX mixed sums hSp.one hal hn
  ·exact law_more (Z := ⟨2, 512, 32, rfl, rfl, by decide, by decide⟩) named hX mixed sums hSp.m2 g0 g5 hal hrom hn hgo
  ·exact law_more (Z := ⟨3, 768, 48, rfl, rfl, by decide, by decide⟩) named hX mixed sums hSp.m3 g0 g5 hal hrom hn hgo
  ·exact law_more (Z := ⟨4, 1024, 64, rfl, rfl, by decide, by decide⟩) named hX mixed sums hSp.m4 g0 g5 hal hrom hn hgo
  ·exact law_more (Z := ⟨5, 1280, 80, rfl, rfl, by decide, by decide⟩) named hX mixed sums hSp.m5 g0 g5 hal hrom hn hgo
  ·exact law_more (Z := ⟨6, 1536, 96, rfl, rfl, by decide, by decide⟩) named hX mixed sums hSp.m6 g0 g5 hal hrom hn hgo
theorem body3 : Tryz.f3.body = some lawBody := rfl
theorem snd_ran {W : World} {J : Nat → Ev.Loc} {t : T Ob} {o0 : Option Ob} {r5 r6 : Ob} {args : List Value} {args' : Array Value} (hH : HandsR Tryz.prog W 900 J t) (hl : args.length = 2) (ha : ARel J args.toArray args')
  (hs : Snd Tryz.prog lawBody ⟨154, T.e.lay 0 args, [], none⟩ ⟨t, 900⟩ (retQ Tryz.prog Tryz.f3 (LawQ o0 r5 r6))) (hk : ∀ μ', LawQ o0 r5 r6 (.bool true) μ' → ∀ i b, J i = .at b 0 → μ'.obs.get i = t.get i) :
  Calls Tryz.prog 3 args' W fun e W' => e = .returned (.bool true) ∧ Same W W' :=
 handsR_snd (QF := LawQ o0 r5 r6) Tryz.func3 body3 (by decide +kernel) hH (by rw [hl]; exact Nat.le_of_ble_eq_true rfl) ha hs fun v μ' hq => by
  obtain rfl : v = .bool true := hq.1
  exact ⟨rfl, hk μ' hq⟩
theorem ran_e {W : World} {v : Value} {ad : Option Addr} {c : Nat} {fr : Int} {l5 l6 : List Value} {t5 t6 : TypeId} (sums : SumsOk Tryz.prog S0) (hL : Laid W l5 l6 t5 t6) (h : Emp v ad c) : Calls Tryz.prog 3 #[v, .int .i64 fr] W fun e W' => e = .returned (.bool true) ∧ Same W W' := by
 have hH := hands0R hL.h5 hL.h6 (List.all_eq_true.1 hL.p5) (List.all_eq_true.1 hL.p6)
 refine snd_ran (args := [.slice ad 0 c, .int .i64 fr]) hH rfl (arel_pair (h.rel ((if_neg (by decide)).trans ((if_neg (by decide)).trans dead900))) (.int _ _)) (law_any (go := 0) (gv := fun _ => 0) sums (spacesE _ _) (t00_off _ _ _ (by decide) (by decide)) (t00_5 _ _) (t00_6 _ _) (fun k => alive_call hL.kept k) hL.rom (fun i hi => absurd hi (Nat.not_lt_zero _))) fun μ' hq i b e => ?_
 rcases (J0R_at e).1 with rfl | rfl
 ·rw [hq.2.2.1, t00_5]
 ·rw [hq.2.2.2, t00_6]
theorem ran_f {W : World} {v : Value} {fr : Int} {b o n cap : Nat} {c : Array Value} {t : TypeId} {fz : Nat × Nat} {z : Nat → Int} {l5 l6 : List Value} {t5 t6 : TypeId} (sums : SumsOk Tryz.prog S0) (hL : Laid W l5 l6 t5 t6) (h : Full W v .i64 b o n cap c t fz z) :
  Calls Tryz.prog 3 #[v, .int .i64 fr] W fun e W' => e = .returned (.bool true) ∧ Same W W' := by
 have hH := hands1R h.blk (h.off hL.h5 hL.n5) (h.off hL.h6 hL.n6) (hands0R hL.h5 hL.h6 (List.all_eq_true.1 hL.p5) (List.all_eq_true.1 hL.p6))
 have e8 : ((t00 (.rom l5 t5) (.rom l6 t6)).set 880 (Ob.held c t fz)).get 880 = some (Ob.held c t fz) := by rw [T.get_set, if_pos rfl]
 have eo : ∀ i, i ≠ 880 → ((t00 (.rom l5 t5) (.rom l6 t6)).set 880 (Ob.held c t fz)).get i = (t00 (.rom l5 t5) (.rom l6 t6)).get i := fun i hi => by rw [T.get_set, if_neg hi]
 have e5 := (eo 5 (by decide)).trans (t00_5 (.rom l5 t5) (.rom l6 t6))
 have e6 := (eo 6 (by decide)).trans (t00_6 (.rom l5 t5) (.rom l6 t6))
 have hk : romKept ⟨(t00 (.rom l5 t5) (.rom l6 t6)).set 880 (Ob.held c t fz), 900⟩ roms = true := by
  rw [← hL.kept]
  refine romKept_congr _ fun x hx => eo _ ?_
  have hx' : Nat.ble (x.1 + 1) 880 = true := List.all_eq_true.1 hL.off x hx
  exact Nat.ne_of_lt (Nat.le_of_ble_eq_true hx')
 have hrom : Rom ⟨(t00 (.rom l5 t5) (.rom l6 t6)).set 880 (Ob.held c t fz), 900⟩ := ⟨(by decide : 5 < 900), fun k hk => by
  rw [← hL.rom.at_ k hk]
  have e : (Mem.obs ⟨(t00 (.rom l5 t5) (.rom l6 t6)).set 880 (Ob.held c t fz), 900⟩).get 5 = (Mem.obs ⟨t00 (.rom l5 t5) (.rom l6 t6), 900⟩).get 5 := eo _ (by decide)
  unfold cellsAt
  rw [e]⟩
 refine snd_ran (args := [.slice (some ⟨880, o, none⟩) n (2 * cap), .int .i64 fr]) hH rfl (arel_pair (h.rel (if_pos rfl)) (.int _ _)) (law_any (go := o) (gv := z) sums (spacesH _ _ _) e8 e5 e6 (fun k => alive_call hk k) hrom (fun i hi => ⟨rfl, h.cells (μ := ⟨_, 900⟩) e8 i hi⟩)) fun μ' hq i b' e => ?_
 by_cases g : i = 880
 ·subst g; exact hq.2.1.trans e8.symm
 ·have e : J0R i = .at b' 0 := (if_neg g).symm.trans e
  rcases (J0R_at e).1 with rfl | rfl
  ·exact hq.2.2.1.trans e5.symm
  ·exact hq.2.2.2.trans e6.symm
def Reads (W : World) (v : Value) (kd : IntKind) : Prop := (∃ ad c, Emp v ad c) ∨ ∃ b o n cap c t fz z, Full W v kd b o n cap c t fz z
theorem reads_nil (W : World) (kd : IntKind) : Reads W (.slice none 0 0) kd := .inl ⟨none, 0, .inl ⟨rfl, rfl, rfl⟩⟩
theorem reads_some {W : World} {a : Addr} {len cap : Nat} {kd : IntKind} {zs : List Int} (hlc : len ≤ cap) (hl : len ≤ zs.length) (hcell : ∀ i, i < zs.length → W.cell? (a.add i) = some (.int kd (zs.getD i 0))) : Reads W (.slice (some a) len cap) kd := by
 by_cases hn : len = 0
 ·subst hn
  exact .inl ⟨some ⟨0, 0, none⟩, 2 * cap, .inr ⟨a, cap, rfl, rfl, rfl⟩⟩
 have h0 := hcell 0 (by omega)
 have ha0 : a.add 0 = a := rfl
 rw [ha0] at h0
 obtain ⟨b, o, sp⟩ := a
 obtain ⟨c, t, fz, hb, hsp⟩ : ∃ c t fz, W.heap[b]? = some (.cells c t fz) ∧ sp = none := by
  unfold World.cell? at h0
  simp only at h0
  split at h0
  ·rename_i c t fz hb
   refine ⟨c, t, fz, hb, ?_⟩
   cases sp with
   | none => rfl
   | some x => simp at h0
  ·cases h0
 subst hsp
 have hc : ∀ j, j < zs.length → c[o + j]? = some (.int kd (zs.getD j 0)) := fun j hj => by
  have h1 := hcell j hj
  unfold World.cell? Addr.add at h1
  by_cases hj0 : j = 0
  ·subst hj0; simp only [if_true, hb] at h1; simpa using h1
  ·rw [if_neg hj0] at h1; simp only [hb] at h1; simpa using h1
 exact .inr ⟨b, o, len, cap, c, t, fz, fun k => zs.getD k 0, ⟨rfl, by omega, hlc, hb, fun k hk => hc k (by omega)⟩⟩
theorem ran_any {W : World} {v : Value} {fr : Int} {l5 l6 : List Value} {t5 t6 : TypeId} (sums : SumsOk Tryz.prog S0) (hL : Laid W l5 l6 t5 t6) (h : Reads W v .i64) :
  Calls Tryz.prog 3 #[v, .int .i64 fr] W fun e W' => e = .returned (.bool true) ∧ Same W W' := by
 rcases h with ⟨ad, c, h⟩ | ⟨b, o, n, cap, c, t, fz, z, h⟩
 ·exact ran_e sums hL h
 ·exact ran_f sums hL h
end
end Go.Proofs.YthpcpheejblbhaaGreatDoor.tr
