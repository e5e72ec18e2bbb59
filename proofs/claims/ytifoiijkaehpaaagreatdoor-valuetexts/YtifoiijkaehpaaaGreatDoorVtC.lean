/-
  distafflaw18.ValueTexts, part C: text and octets there and back. No conditions.
-/
import Derived.Test.YtifoiijkaehpaaaGreatDoorVtB
set_option linter.unusedSimpArgs false
set_option linter.unusedVariables false
namespace Go.Proofs.YtifoiijkaehpaaaGreatDoor.vt
open Go Go.Proofs Go.Proofs.YtifoiijkaehpaaaGreatDoor.Ev

noncomputable section
variable {X : FuncId → List Value → Mem → Option (Value × Mem)}

theorem ldE22 : True := trivial
theorem z3 : aZeroOf Tryz.prog 3 = some (.int .i64 0) := by unfold aZeroOf; rw [i3]; rfl

set_option maxHeartbeats 4000000 in
theorem text_loop {n li c : Nat} {ad : Option Addr} {x : Nat → Nat} {v0 : Value} {μ0 : Mem} (hli : ∀ k, k < n → ad = some ⟨li, 0, none⟩ ∧ cellsAt μ0 li k = some (.int .i64 (.ofNat (x k)))) (hln : li < μ0.next) (hn : n < 100000) (hx : ∀ t, x t < 2 ^ 32) :
    ∀ (e m j : Nat) (tm : T Value) (v : Value) (μ : Mem), j + m = n → Own 29 μ0 μ v (wl .u64 x j) → regAt tm 0 = v0 → regAt tm 6 = v → regAt tm 12 = .slice ad n c → regAt tm 13 = .int .i64 (.ofNat n) → regAt tm 14 = .int .i64 (.ofNat j) →
      EndsC (aCode Tryz.prog X S0 (e + m + 60) (.loop (loopBody Tryz.f7 0)) ⟨31, tm, [], none⟩ μ) fun a r μ' => a = .exit 0 ∧ ∃ tm' v', r = ⟨31, tm', [], none⟩ ∧ Own 29 μ0 μ' v' (wl .u64 x n) ∧ regAt tm' 6 = v' ∧ regAt tm' 0 = v0 := by
  intro e m
  induction m with
  | zero =>
    intro j tm v μ hj hO r0 r6 r12 r13 r14
    obtain rfl : j = n := hj
    refine code_loop ?_
    refine code_seq ?_
    refine code_region ?_ ?_
    · rfl
    simp only [run1, aOne, aP, aR, aA, aT, aCall, aCallVal, aev, regAt_set, aput_mk, aput_none, plainV, aNilCheck, aExtract, aBin, aInt, Addr.add, Nat.zero_add, ends_some, Nat.reduceLT, Nat.reduceAdd, if_true, then_normal, Nat.reduceEqDiff, if_false, reduceIte, reduceCtorEq, decide_true, decide_false, Bool.not_true, Bool.not_false, beq_self_eq_true, beq_tf, beq_ft, aPick, List.map_cons, List.map_nil, List.nil_append, List.append_nil, List.getElem?_cons_zero, List.getElem?_cons_succ, r13, r14, ilt_nat, Nat.lt_irrefl]
    refine code_seq ?_
    refine code_cond_false ?_ ?_
    · simp only [aev, regAt_set, Nat.reduceEqDiff, reduceIte]
    refine code_exit ?_
    simp only [then_exit]
    exact ⟨trivial, _, v, rfl, hO, by simp only [regAt_set, Nat.reduceEqDiff, reduceIte, r6], by simp only [regAt_set, Nat.reduceEqDiff, reduceIte, r0]⟩
  | succ m ih =>
    intro j tm v μ hj hO r0 r6 r12 r13 r14
    have hlt : j < n := by omega
    obtain ⟨had, hc⟩ := hli j hlt
    subst had
    have hc' : cellsAt μ li j = some (.int .i64 (.ofNat (x j))) := by rw [← hc]; unfold cellsAt; rw [hO.grow.2 li hln]
    have hia : ∀ ρ : Operand → Value, ∀ a b', ρ a = .slice (some ⟨li, 0, none⟩) n c → ρ b' = .int .i64 (.ofNat j) → aIndexAddr Tryz.prog ρ 22 a b' = some (.pointer (some ⟨li, j, none⟩)) := fun ρ a b' g1 g2 => by
      rw [indexAddr_slice (P := Tryz.prog) Tryz.underlying22 i3 rfl g1 g2 hlt, Nat.zero_add]
    have a3 : qwrap .i64 (Int.add (.ofNat j) 1) = .ofNat (j + 1) := add_nat j 1 (by omega)
    have qu : qwrap .u64 (.ofNat (x j)) = .ofNat (x j) := qu64 (x j) (by have := hx j; omega)
    have land : aBits Nat.land .u64 .u64 (.ofNat (x j)) 4294967295 = some (.int .u64 (.ofNat (x j))) := by
      have := land_u (x j) 32 (by decide) (by have := hx j; omega)
      rw [Nat.mod_eq_of_lt (hx j)] at this
      exact this
    obtain ⟨v7, μ7, hap, hO7⟩ := hO.push (st := 66) (x := .int .u64 (.ofNat (x j))) Tryz.underlying66 iW rfl rfl zW rfl (by rw [wl_length]; omega) rfl
    have hap : aAppend Tryz.prog ⟨μ.obs.set μ.next (.cells 1 29 #[.int .u64 (.ofNat (x j))] .e 0 0 false false), Nat.add μ.next 1⟩ 66 66 v (.slice (some ⟨μ.next, 0, none⟩) 1 2) = some (v7, μ7) := hap
    rw [← wl_succ] at hO7
    refine code_loop ?_
    refine code_seq ?_
    refine code_region ?_ ?_
    · rfl
    simp only [run1, aOne, aP, aR, aA, aT, aCall, aCallVal, aev, regAt_set, aput_mk, aput_none, plainV, aNilCheck, aExtract, aBin, aInt, Addr.add, Nat.zero_add, ends_some, Nat.reduceLT, Nat.reduceAdd, if_true, then_normal, Nat.reduceEqDiff, if_false, reduceIte, reduceCtorEq, decide_true, decide_false, Bool.not_true, Bool.not_false, beq_self_eq_true, beq_tf, beq_ft, aPick, List.map_cons, List.map_nil, List.nil_append, List.append_nil, List.getElem?_cons_zero, List.getElem?_cons_succ, r13, r14, ilt_nat, hlt]
    refine code_seq ?_
    refine code_cond_true ?_ ?_
    · simp only [aev, regAt_set, Nat.reduceEqDiff, reduceIte]
    refine code_skip ?_
    simp only [then_normal]
    refine code_seq ?_
    refine code_block ?_
    refine code_seq ?_
    refine code_region ?_ ?_
    · rfl
    simp only [run1, aOne, aP, aR, aA, aT, aCall, aCallVal, aev, regAt_set, aput_mk, aput_none, plainV, aNilCheck, aExtract, aBin, aInt, Addr.add, Nat.zero_add, ends_some, Nat.reduceLT, Nat.reduceAdd, if_true, then_normal, Nat.reduceEqDiff, if_false, reduceIte, reduceCtorEq, decide_true, decide_false, Bool.not_true, Bool.not_false, beq_self_eq_true, beq_tf, beq_ft, aPick, List.map_cons, List.map_nil, List.nil_append, List.append_nil, List.getElem?_cons_zero, List.getElem?_cons_succ, r12, r14, hia, ld3, hc']
    refine code_region ?_ ?_
    · rfl
    simp only [run1, aOne, aP, aR, aA, aT, aCall, aCallVal, aev, regAt_set, aput_mk, aput_none, plainV, aNilCheck, aExtract, aBin, aInt, Addr.add, Nat.zero_add, ends_some, Nat.reduceLT, Nat.reduceAdd, if_true, then_normal, Nat.reduceEqDiff, if_false, reduceIte, reduceCtorEq, decide_true, decide_false, Bool.not_true, Bool.not_false, beq_self_eq_true, beq_tf, beq_ft, aPick, List.map_cons, List.map_nil, List.nil_append, List.append_nil, List.getElem?_cons_zero, List.getElem?_cons_succ, r6, cviW, qu, land, bsW, one, aBuiltin, hap]
    simp only [blockC, then_normal]
    refine code_region ?_ ?_
    · rfl
    simp only [run1, aOne, aP, aR, aA, aT, aCall, aCallVal, aev, regAt_set, aput_mk, aput_none, plainV, aNilCheck, aExtract, aBin, aInt, Addr.add, Nat.zero_add, ends_some, Nat.reduceLT, Nat.reduceAdd, if_true, then_normal, Nat.reduceEqDiff, if_false, reduceIte, reduceCtorEq, decide_true, decide_false, Bool.not_true, Bool.not_false, beq_self_eq_true, beq_tf, beq_ft, aPick, List.map_cons, List.map_nil, List.nil_append, List.append_nil, List.getElem?_cons_zero, List.getElem?_cons_succ, r14, a3]
    rw [show e + (m + 1) + 59 = e + m + 60 from by omega]
    refine ih (j + 1) _ _ _ (by omega) hO7 ?_ ?_ ?_ ?_ ?_ <;> simp only [regAt_set, Nat.reduceEqDiff, reduceIte, r0, r12, r13]
end

noncomputable section
variable {X : FuncId → List Value → Mem → Option (Value × Mem)}

theorem i5 : Tryz.prog.info? 5 = some Tryz.t5 := by kernel_rfl
theorem z5 : aZeroOf Tryz.prog 5 = some (.int .u8 0) := by unfold aZeroOf; rw [i5]; rfl
theorem ld5 (μ : Mem) (i o : Nat) : aLoad Tryz.prog μ 5 (.pointer (some ⟨i, o, none⟩)) = cellsAt μ i o := load_at Tryz.underlying5 rfl μ i o
theorem cvbW (n : Int) : aConvInt Tryz.prog 5 29 (.int .u8 n) = some (.int .u64 (qwrap .u64 n)) := by
  simp only [aConvInt, Tryz.underlying5, Tryz.underlying29]
theorem cvWb (n : Int) : aConvInt Tryz.prog 29 5 (.int .u64 n) = some (.int .u8 (qwrap .u8 n)) := by
  simp only [aConvInt, Tryz.underlying5, Tryz.underlying29]
theorem qu8 (m : Nat) (h : m < 2 ^ 8) : qwrap .u8 (.ofNat m) = .ofNat m := by
  have h' : m < 256 := h
  show Int.emod (Int.ofNat m) 256 = _
  show Int.ofNat (m % 256) = _
  rw [Nat.mod_eq_of_lt h']

set_option maxHeartbeats 4000000 in
theorem octets_loop {n li c : Nat} {ad : Option Addr} {x : Nat → Nat} {v0 : Value} {μ0 : Mem} (hli : ∀ k, k < n → ad = some ⟨li, 0, none⟩ ∧ cellsAt μ0 li k = some (.int .u8 (.ofNat (x k)))) (hln : li < μ0.next) (hn : n < 100000) (hx : ∀ t, x t < 2 ^ 8) :
    ∀ (e m j : Nat) (tm : T Value) (v : Value) (μ : Mem), j + m = n → Own 29 μ0 μ v (wl .u64 x j) → regAt tm 0 = v0 → regAt tm 6 = v → regAt tm 12 = .slice ad n c → regAt tm 13 = .int .i64 (.ofNat n) → regAt tm 14 = .int .i64 (.ofNat j) →
      EndsC (aCode Tryz.prog X S0 (e + m + 60) (.loop (loopBody Tryz.f8 0)) ⟨30, tm, [], none⟩ μ) fun a r μ' => a = .exit 0 ∧ ∃ tm' v', r = ⟨30, tm', [], none⟩ ∧ Own 29 μ0 μ' v' (wl .u64 x n) ∧ regAt tm' 6 = v' ∧ regAt tm' 0 = v0 := by
  intro e m
  induction m with
  | zero =>
    intro j tm v μ hj hO r0 r6 r12 r13 r14
    obtain rfl : j = n := hj
    refine code_loop ?_
    refine code_seq ?_
    refine code_region ?_ ?_
    · rfl
    simp only [run1, aOne, aP, aR, aA, aT, aCall, aCallVal, aev, regAt_set, aput_mk, aput_none, plainV, aNilCheck, aExtract, aBin, aInt, Addr.add, Nat.zero_add, ends_some, Nat.reduceLT, Nat.reduceAdd, if_true, then_normal, Nat.reduceEqDiff, if_false, reduceIte, reduceCtorEq, decide_true, decide_false, Bool.not_true, Bool.not_false, beq_self_eq_true, beq_tf, beq_ft, aPick, List.map_cons, List.map_nil, List.nil_append, List.append_nil, List.getElem?_cons_zero, List.getElem?_cons_succ, r13, r14, ilt_nat, Nat.lt_irrefl]
    refine code_seq ?_
    refine code_cond_false ?_ ?_
    · simp only [aev, regAt_set, Nat.reduceEqDiff, reduceIte]
    refine code_exit ?_
    simp only [then_exit]
    exact ⟨trivial, _, v, rfl, hO, by simp only [regAt_set, Nat.reduceEqDiff, reduceIte, r6], by simp only [regAt_set, Nat.reduceEqDiff, reduceIte, r0]⟩
  | succ m ih =>
    intro j tm v μ hj hO r0 r6 r12 r13 r14
    have hlt : j < n := by omega
    obtain ⟨had, hc⟩ := hli j hlt
    subst had
    have hc' : cellsAt μ li j = some (.int .u8 (.ofNat (x j))) := by rw [← hc]; unfold cellsAt; rw [hO.grow.2 li hln]
    have hia : ∀ ρ : Operand → Value, ∀ a b', ρ a = .slice (some ⟨li, 0, none⟩) n c → ρ b' = .int .i64 (.ofNat j) → aIndexAddr Tryz.prog ρ 23 a b' = some (.pointer (some ⟨li, j, none⟩)) := fun ρ a b' g1 g2 => by
      rw [indexAddr_slice (P := Tryz.prog) Tryz.underlying23 i5 rfl g1 g2 hlt, Nat.zero_add]
    have a3 : qwrap .i64 (Int.add (.ofNat j) 1) = .ofNat (j + 1) := add_nat j 1 (by omega)
    have qu : qwrap .u64 (.ofNat (x j)) = .ofNat (x j) := qu64 (x j) (by have := hx j; omega)
    obtain ⟨v7, μ7, hap, hO7⟩ := hO.push (st := 66) (x := .int .u64 (.ofNat (x j))) Tryz.underlying66 iW rfl rfl zW rfl (by rw [wl_length]; omega) rfl
    have hap : aAppend Tryz.prog ⟨μ.obs.set μ.next (.cells 1 29 #[.int .u64 (.ofNat (x j))] .e 0 0 false false), Nat.add μ.next 1⟩ 66 66 v (.slice (some ⟨μ.next, 0, none⟩) 1 2) = some (v7, μ7) := hap
    rw [← wl_succ] at hO7
    refine code_loop ?_
    refine code_seq ?_
    refine code_region ?_ ?_
    · rfl
    simp only [run1, aOne, aP, aR, aA, aT, aCall, aCallVal, aev, regAt_set, aput_mk, aput_none, plainV, aNilCheck, aExtract, aBin, aInt, Addr.add, Nat.zero_add, ends_some, Nat.reduceLT, Nat.reduceAdd, if_true, then_normal, Nat.reduceEqDiff, if_false, reduceIte, reduceCtorEq, decide_true, decide_false, Bool.not_true, Bool.not_false, beq_self_eq_true, beq_tf, beq_ft, aPick, List.map_cons, List.map_nil, List.nil_append, List.append_nil, List.getElem?_cons_zero, List.getElem?_cons_succ, r13, r14, ilt_nat, hlt]
    refine code_seq ?_
    refine code_cond_true ?_ ?_
    · simp only [aev, regAt_set, Nat.reduceEqDiff, reduceIte]
    refine code_skip ?_
    simp only [then_normal]
    refine code_seq ?_
    refine code_block ?_
    refine code_seq ?_
    refine code_region ?_ ?_
    · rfl
    simp only [run1, aOne, aP, aR, aA, aT, aCall, aCallVal, aev, regAt_set, aput_mk, aput_none, plainV, aNilCheck, aExtract, aBin, aInt, Addr.add, Nat.zero_add, ends_some, Nat.reduceLT, Nat.reduceAdd, if_true, then_normal, Nat.reduceEqDiff, if_false, reduceIte, reduceCtorEq, decide_true, decide_false, Bool.not_true, Bool.not_false, beq_self_eq_true, beq_tf, beq_ft, aPick, List.map_cons, List.map_nil, List.nil_append, List.append_nil, List.getElem?_cons_zero, List.getElem?_cons_succ, r12, r14, hia, ld5, hc']
    refine code_region ?_ ?_
    · rfl
    simp only [run1, aOne, aP, aR, aA, aT, aCall, aCallVal, aev, regAt_set, aput_mk, aput_none, plainV, aNilCheck, aExtract, aBin, aInt, Addr.add, Nat.zero_add, ends_some, Nat.reduceLT, Nat.reduceAdd, if_true, then_normal, Nat.reduceEqDiff, if_false, reduceIte, reduceCtorEq, decide_true, decide_false, Bool.not_true, Bool.not_false, beq_self_eq_true, beq_tf, beq_ft, aPick, List.map_cons, List.map_nil, List.nil_append, List.append_nil, List.getElem?_cons_zero, List.getElem?_cons_succ, r6, cvbW, qu, bsW, one, aBuiltin, hap]
    simp only [blockC, then_normal]
    refine code_region ?_ ?_
    · rfl
    simp only [run1, aOne, aP, aR, aA, aT, aCall, aCallVal, aev, regAt_set, aput_mk, aput_none, plainV, aNilCheck, aExtract, aBin, aInt, Addr.add, Nat.zero_add, ends_some, Nat.reduceLT, Nat.reduceAdd, if_true, then_normal, Nat.reduceEqDiff, if_false, reduceIte, reduceCtorEq, decide_true, decide_false, Bool.not_true, Bool.not_false, beq_self_eq_true, beq_tf, beq_ft, aPick, List.map_cons, List.map_nil, List.nil_append, List.append_nil, List.getElem?_cons_zero, List.getElem?_cons_succ, r14, a3]
    rw [show e + (m + 1) + 59 = e + m + 60 from by omega]
    refine ih (j + 1) _ _ _ (by omega) hO7 ?_ ?_ ?_ ?_ ?_ <;> simp only [regAt_set, Nat.reduceEqDiff, reduceIte, r0, r12, r13]
end

noncomputable section
variable {X : FuncId → List Value → Mem → Option (Value × Mem)}

/-- where an arena's runs stand -/
structure Pos where
  ln : Nat → Bool
  sf : Nat
  st : Nat
  gf : Nat
  gt : Nat
  nx : Nat

/-- a space -/
structure SP (μ : Mem) (sp hp ap wb lb N L : Nat) (ws : Nat → Nat) (p : Pos) : Prop where
  sp0 : cellsAt μ sp 0 = some (.pointer (some ⟨hp, 0, none⟩))
  spn : sp < μ.next
  s1 : sp ≠ ap
  s2 : sp ≠ wb
  s3 : sp ≠ lb
  hs : HS μ hp ap wb lb N L ws p.ln
  ac : AC μ ap p.sf p.st p.gf p.gt p.nx
theorem SP.grow {μ μ' : Mem} {sp hp ap wb lb N L : Nat} {ws : Nat → Nat} {p : Pos} (h : SP μ sp hp ap wb lb N L ws p) (g : Grow μ μ') : SP μ' sp hp ap wb lb N L ws p :=
  ⟨by rw [← h.sp0]; unfold cellsAt; rw [g.2 sp h.spn], Nat.lt_of_lt_of_le h.spn g.1, h.s1, h.s2, h.s3, h.hs.grow g, h.ac.grow g h.hs.ab.n1⟩

/-- n words are given, from q on -/
def Al (X : FuncId → List Value → Mem → Option (Value × Mem)) (N L n q : Nat) (p p' : Pos) : Prop :=
  ∀ (g ap wb lb : Nat) (ws : Nat → Nat) (μ : Mem), 400 ≤ g → AB μ ap wb lb N L ws p.ln → AC μ ap p.sf p.st p.gf p.gt p.nx →
    EndsF (aFun Tryz.prog (aCode Tryz.prog X S0 g) 81 [.pointer (some ⟨ap, 0, none⟩), .int .i64 (.ofNat n)] μ) fun v μ' => v = .tuple #[.int .i64 (.ofNat q), .bool true] ∧ AB μ' ap wb lb N L ws p'.ln ∧ AC μ' ap p'.sf p'.st p'.gf p'.gt p'.nx ∧ Kept μ μ' ap lb

/-- an object's words -/
def obj (ws : Nat → Nat) (q kd m : Nat) (f : Nat → Nat) : Nat → Nat := wr (zeros (put ws q (headW kd 0 m)) q m) q f m
theorem obj_head (ws : Nat → Nat) (q kd m : Nat) (f : Nat → Nat) : obj ws q kd m f q = headW kd 0 m := by
  unfold obj wr zeros put
  rw [if_neg (by omega), if_neg (by omega), if_pos rfl]
theorem obj_in (ws : Nat → Nat) (q kd m : Nat) (f : Nat → Nat) (k : Nat) (hk : k < m) : obj ws q kd m f (q + 1 + k) = f k := by
  unfold obj wr
  rw [if_pos (by omega), show q + 1 + k - q - 1 = k from by omega]
theorem obj_out (ws : Nat → Nat) (q kd m : Nat) (f : Nat → Nat) (k : Nat) (hk : k < q ∨ q + m < k) : obj ws q kd m f k = ws k := by
  unfold obj wr zeros put
  rw [if_neg (by omega), if_neg (by omega), if_neg (by omega)]

set_option maxHeartbeats 4000000 in
theorem raw_al {g sp hp ap wb lb N L q kd n li c : Nat} {f : Nat → Nat} {ws : Nat → Nat} {p p' : Pos} {μ : Mem} (hg : 500 ≤ g) (h : SP μ sp hp ap wb lb N L ws p)
    (hli : ∀ k, k < n → cellsAt μ li k = some (.int .u64 (.ofNat (f k)))) (hln : li < μ.next) (l1 : li ≠ ap) (l2 : li ≠ wb) (l3 : li ≠ lb) (h1 : 16 ≤ kd) (h2 : kd < 32) (hn : n ≤ 240) (hq : q + n < N) (hal : Al X N L (n + 1) q p p') :
    EndsF (aFun Tryz.prog (aCode Tryz.prog X S0 g) 18 [.pointer (some ⟨sp, 0, none⟩), .int .i64 (.ofNat kd), .slice (some ⟨li, 0, none⟩) n c] μ) fun v μ' => v = .tuple #[.int .u64 (.ofNat (placeW q)), .bool true] ∧ SP μ' sp hp ap wb lb N L (obj ws q kd n f) p' ∧ Keeps μ μ' ap wb lb := by
  obtain ⟨v1, μ1, ha, hv, hB1, hC1, hK1⟩ := hal (g - 7) ap wb lb ws μ (by omega) h.hs.ab h.ac
  subst hv
  obtain ⟨v2, μ2, hr, hv2, hH2, hC2, hK2⟩ := raw_ends (X := X) (c := c) hg h.sp0 h.spn h.s1 h.s2 h.s3 hli hln l1 l2 l3 h.hs h1 h2 hn hq ha hB1 hC1 hK1
  exact ⟨v2, μ2, hr, hv2, ⟨by rw [← h.sp0]; exact hK2.cell h.spn h.s1 h.s2 h.s3, Nat.lt_of_lt_of_le h.spn hK2.1, h.s1, h.s2, h.s3, hH2, hC2⟩, hK2⟩

/-! ### the runs of a law's two objects -/
def P0 : Pos := ⟨fun _ => false, 0, 0, 0, 0, 0⟩
def PS (n : Nat) : Pos := ⟨fill (fun _ => false) 0 16, n, 256, 0, 0, 16⟩
def PG (n : Nat) : Pos := ⟨fill (fun _ => false) 304 320, 0, 0, 4864 + n, 5120, 0⟩
def P1 (n : Nat) : Pos := if n ≤ 16 then PS n else PG n
def Q1 (n : Nat) : Nat := if n ≤ 16 then 0 else 4864

theorem cnt_false {ln : Nat → Bool} {a n : Nat} (h : ∀ k, a ≤ k → k < a + n → ln k = false) : cnt ln a n = n := by
  induction n with
  | zero => rfl
  | succ n ih => unfold cnt; rw [ih fun k h1 h2 => h k h1 (by omega), h (a + n) (by omega) (by omega)]; rfl
theorem fill_off {ln : Nat → Bool} {a p k : Nat} (h : k < a ∨ p ≤ k) : fill ln a p k = ln k := by unfold fill; rw [if_neg (by omega)]
theorem fill_on {ln : Nat → Bool} {a p k : Nat} (h : a ≤ k ∧ k < p) : fill ln a p k = true := by unfold fill; rw [if_pos h]
theorem cnt_true {ln : Nat → Bool} {a n : Nat} (h : ln a = true) (hn : 0 < n) : cnt ln a n ≠ n := by
  have e : ∀ m, cnt ln a (m + 1) ≤ m := by
    intro m
    induction m with
    | zero => unfold cnt; rw [Nat.add_zero, h]; exact Nat.le_refl _
    | succ m ih => unfold cnt; split <;> omega
  obtain ⟨m, rfl⟩ : ∃ m, n = m + 1 := ⟨n - 1, by omega⟩
  have := e m
  omega
theorem al_first {n : Nat} (h1 : 1 ≤ n) (h2 : n ≤ 240) : Al X 5120 320 n (Q1 n) P0 (P1 n) := by
  intro g ap wb lb ws μ hg hB hC
  unfold P1 Q1
  by_cases h : n ≤ 16
  · rw [if_pos h, if_pos h]
    have := small_new (X := X) (g := g) (n := n) (t := 16) (fa := 0) (ta := 256) (by omega) hB hC (Nat.le_refl _) (Nat.le_of_ble_eq_true rfl) (by show 0 - 0 < n; omega) h1 h rfl rfl (by decide) (fun _ _ _ => rfl) rfl rfl
    rw [Nat.zero_add] at this
    exact this
  · rw [if_neg h, if_neg h]
    obtain ⟨v1, μ1, ha, hv, hR⟩ := great_new (X := X) (g := g - 9) (n := n) (nb := 20) (d := 19) (a := 304) (t := 320) (fa := 4864) (ta := 5120) (by omega) hB hC (Nat.le_refl _) (Nat.le_of_ble_eq_true rfl) (by show 0 - 0 < n; omega) (by omega) rfl (by decide) rfl rfl (cnt_false fun _ _ _ => rfl) (by decide) (by decide) (fun x h1 h2 => by omega) rfl rfl
    subst hv
    have := alloc_great (X := X) (by omega) (by omega) ha
    rw [Nat.sub_add_cancel (by omega)] at this
    exact ⟨_, μ1, this, rfl, hR⟩
/-- great ones -/
theorem al_great {n q N L : Nat} {p p' : Pos} (h1 : 16 < n) (h2 : n ≤ 256) (h : ∀ (g ap wb lb : Nat) (ws : Nat → Nat) (μ : Mem), 300 ≤ g → AB μ ap wb lb N L ws p.ln → AC μ ap p.sf p.st p.gf p.gt p.nx →
    EndsF (aFun Tryz.prog (aCode Tryz.prog X S0 g) 118 [.pointer (some ⟨ap, 0, none⟩), .int .i64 (.ofNat n)] μ) fun v μ' => v = .tuple #[.int .i64 (.ofNat q), .bool true] ∧ AB μ' ap wb lb N L ws p'.ln ∧ AC μ' ap p'.sf p'.st p'.gf p'.gt p'.nx ∧ Kept μ μ' ap lb) : Al X N L n q p p' := by
  intro g ap wb lb ws μ hg hB hC
  obtain ⟨v1, μ1, ha, hv, hR⟩ := h (g - 9) ap wb lb ws μ (by omega) hB hC
  subst hv
  have := alloc_great (X := X) h1 h2 ha
  rw [Nat.sub_add_cancel (by omega)] at this
  exact ⟨_, μ1, this, rfl, hR⟩
theorem al_second {n m : Nat} (h1 : 1 ≤ n) (h2 : n ≤ 240) (m1 : 1 ≤ m) (m2 : m ≤ 240) : ∃ q p, Al X 5120 320 m q (P1 n) p ∧ q + m ≤ 5120 ∧ (q + m ≤ Q1 n ∨ Q1 n + n ≤ q) := by
  by_cases h : n ≤ 16
  · have e1 : P1 n = PS n := if_pos h
    have e2 : Q1 n = 0 := if_pos h
    rw [e1, e2]
    by_cases g : m ≤ 16
    · refine ⟨n, ⟨fill (fun _ => false) 0 16, n + m, 256, 0, 0, 16⟩, fun k ap wb lb ws μ hk hB hC => ?_, by omega, .inr (by omega)⟩
      exact small_old (X := X) (by omega) hB hC (by show n ≤ 256; omega) (Nat.le_of_ble_eq_true rfl) (by show n + m ≤ 256; omega) m1 g
    · refine ⟨4864, ⟨fill (fill (fun _ => false) 0 16) 304 320, n, 256, 4864 + m, 5120, 16⟩, al_great (by omega) (by omega) fun k ap wb lb ws μ hk hB hC => ?_, by omega, .inr (by omega)⟩
      exact great_new (X := X) (nb := 20) (d := 19) (a := 304) (t := 320) (fa := 4864) (ta := 5120) (by omega) hB hC (Nat.le_refl _) (Nat.le_of_ble_eq_true rfl) (by show 0 - 0 < m; omega) (by omega) rfl (by decide) rfl rfl (cnt_false fun k h1 h2 => fill_off (.inr (by omega))) (by decide) (by decide) (fun x h1 h2 => by omega) rfl rfl
  · have e1 : P1 n = PG n := if_neg h
    have e2 : Q1 n = 4864 := if_neg h
    rw [e1, e2]
    by_cases g : m ≤ 16
    · refine ⟨0, ⟨fill (fill (fun _ => false) 304 320) 0 16, 0 + m, 256, 4864 + n, 5120, 16⟩, fun k ap wb lb ws μ hk hB hC => ?_, by omega, .inl (by omega)⟩
      exact small_new (X := X) (t := 16) (fa := 0) (ta := 256) (by omega) hB hC (Nat.le_refl _) (Nat.le_of_ble_eq_true rfl) (by show 0 - 0 < m; omega) m1 g rfl rfl (by decide) (fun k _ h2 => fill_off (.inl (by omega))) rfl rfl
    · by_cases f : 4864 + n + m ≤ 5120
      · refine ⟨4864 + n, ⟨fill (fun _ => false) 304 320, 0, 0, 4864 + n + m, 5120, 0⟩, al_great (by omega) (by omega) fun k ap wb lb ws μ hk hB hC => ?_, by omega, .inr (by omega)⟩
        exact great_old (X := X) (by omega) hB hC (by show 4864 + n ≤ 5120; omega) (Nat.le_of_ble_eq_true rfl) f
      · refine ⟨4608, ⟨fill (fill (fun _ => false) 304 320) 288 304, 0, 0, 4608 + m, 4864, 0⟩, al_great (by omega) (by omega) fun k ap wb lb ws μ hk hB hC => ?_, by omega, .inl (by omega)⟩
        exact great_new (X := X) (nb := 20) (d := 18) (a := 288) (t := 304) (fa := 4608) (ta := 4864) (by omega) hB hC (by show 4864 + n ≤ 5120; omega) (Nat.le_of_ble_eq_true rfl) (by show 5120 - (4864 + n) < m; omega) (by omega) rfl (by decide) rfl rfl (cnt_false fun k h1 h2 => fill_off (.inl (by omega))) (by decide) (by decide) (fun x h1 h2 => cnt_true (fill_on (by omega)) (by decide)) rfl rfl
end

noncomputable section
variable {X : FuncId → List Value → Mem → Option (Value × Mem)}

set_option maxHeartbeats 4000000 in
theorem text_long {g n c : Nat} {v0 : Value} {ad : Option Addr} {μ : Mem} (hg : 20 ≤ g) (hv0 : one v0 = true) (hn : 400 < n) :
    EndsF (aFun Tryz.prog (aCode Tryz.prog X S0 g) 7 [v0, .slice ad n c] μ) fun v μ' => v = .tuple #[.int .u64 0, .bool false] ∧ Grow μ μ' := by
  obtain ⟨k, rfl⟩ := Nat.exists_eq_add_of_le' hg
  have hl : ilt 400 (.ofNat n) = true := (ilt_nat 400 n).trans (decide_eq_true hn)
  refine fun_enter Tryz.func7 rfl rfl (Nat.le_of_ble_eq_true rfl) ?_
  simp only [T.lay, Nat.zero_add, Tryz.ntmps7, Nat.reduceAdd]
  refine code_seq ?_
  refine code_region ?_ ?_
  · rfl
  simp only [run1, aOne, aP, aR, aA, aT, aCall, aCallVal, aev, regAt_set, aput_mk, aput_none, plainV, aNilCheck, aExtract, aBin, aInt, Addr.add, Nat.zero_add, ends_some, Nat.reduceLT, Nat.reduceAdd, if_true, then_normal, Nat.reduceEqDiff, if_false, reduceIte, reduceCtorEq, decide_true, decide_false, Bool.not_true, Bool.not_false, beq_self_eq_true, beq_tf, beq_ft, aPick, List.map_cons, List.map_nil, List.nil_append, List.append_nil, List.getElem?_cons_zero, List.getElem?_cons_succ]
  refine code_seq ?_
  refine code_seq ?_
  refine code_region ?_ ?_
  · rfl
  simp only [run1, aOne, aP, aR, aA, aT, aCall, aCallVal, aev, regAt_set, aput_mk, aput_none, plainV, aNilCheck, aExtract, aBin, aInt, Addr.add, Nat.zero_add, ends_some, Nat.reduceLT, Nat.reduceAdd, if_true, then_normal, Nat.reduceEqDiff, if_false, reduceIte, reduceCtorEq, decide_true, decide_false, Bool.not_true, Bool.not_false, beq_self_eq_true, beq_tf, beq_ft, aPick, List.map_cons, List.map_nil, List.nil_append, List.append_nil, List.getElem?_cons_zero, List.getElem?_cons_succ, aBuiltin, aLen, Tryz.underlying22, cast_nat, hl]
  refine code_cond_true ?_ ?_
  · simp only [aev, regAt_set, Nat.reduceEqDiff, reduceIte]
  refine code_seq ?_
  refine code_region ?_ ?_
  · rfl
  simp only [run1, aOne, aP, aR, aA, aT, aCall, aCallVal, aev, regAt_set, aput_mk, aput_none, plainV, aNilCheck, aExtract, aBin, aInt, Addr.add, Nat.zero_add, ends_some, Nat.reduceLT, Nat.reduceAdd, if_true, then_normal, Nat.reduceEqDiff, if_false, reduceIte, reduceCtorEq, decide_true, decide_false, Bool.not_true, Bool.not_false, beq_self_eq_true, beq_tf, beq_ft, aPick, List.map_cons, List.map_nil, List.nil_append, List.append_nil, List.getElem?_cons_zero, List.getElem?_cons_succ]
  refine code_ret ?_
  refine ⟨rfl, _, ?_, rfl, Grow.refl _⟩
  simp only [aResults, Tryz.results7, aRes, regAt_set, Nat.reduceEqDiff, reduceIte]

set_option maxHeartbeats 4000000 in
theorem text_ends {g sp hp ap wb lb N L q n li c : Nat} {ad : Option Addr} {x : Nat → Nat} {ws : Nat → Nat} {p p' : Pos} {μ : Mem} (hg : 2000 ≤ g) (h : SP μ sp hp ap wb lb N L ws p)
    (hli : ∀ k, k < n → ad = some ⟨li, 0, none⟩ ∧ cellsAt μ li k = some (.int .i64 (.ofNat (x k)))) (hln : li < μ.next) (hn : n ≤ 400) (hx : ∀ t, x t < 2 ^ 32) (hq : q + nw 2 n < N) (hal : Al X N L (nw 2 n + 1) q p p') :
    EndsF (aFun Tryz.prog (aCode Tryz.prog X S0 g) 7 [.pointer (some ⟨sp, 0, none⟩), .slice ad n c] μ) fun v μ' => v = .tuple #[.int .u64 (.ofNat (placeW q)), .bool true] ∧ SP μ' sp hp ap wb lb N L (obj ws q 18 (nw 2 n) (pf x 2 32 n n)) p' ∧ Keeps μ μ' ap wb lb := by
  obtain ⟨k, rfl⟩ := Nat.exists_eq_add_of_le' hg
  have hl : ilt 400 (.ofNat n) = false := (ilt_nat 400 n).trans (decide_eq_false (by omega))
  have hnw : nw 2 n ≤ 240 := by
    cases n with
    | zero => exact Nat.le_of_ble_eq_true rfl
    | succ n => rw [nw_succ 2 (by decide)]; omega
  refine fun_enter Tryz.func7 rfl rfl (Nat.le_of_ble_eq_true rfl) ?_
  simp only [T.lay, Nat.zero_add, Tryz.ntmps7, Nat.reduceAdd]
  refine code_seq ?_
  refine code_region ?_ ?_
  · rfl
  simp only [run1, aOne, aP, aR, aA, aT, aCall, aCallVal, aev, regAt_set, aput_mk, aput_none, plainV, aNilCheck, aExtract, aBin, aInt, Addr.add, Nat.zero_add, ends_some, Nat.reduceLT, Nat.reduceAdd, if_true, then_normal, Nat.reduceEqDiff, if_false, reduceIte, reduceCtorEq, decide_true, decide_false, Bool.not_true, Bool.not_false, beq_self_eq_true, beq_tf, beq_ft, aPick, List.map_cons, List.map_nil, List.nil_append, List.append_nil, List.getElem?_cons_zero, List.getElem?_cons_succ]
  refine code_seq ?_
  refine code_seq ?_
  refine code_region ?_ ?_
  · rfl
  simp only [run1, aOne, aP, aR, aA, aT, aCall, aCallVal, aev, regAt_set, aput_mk, aput_none, plainV, aNilCheck, aExtract, aBin, aInt, Addr.add, Nat.zero_add, ends_some, Nat.reduceLT, Nat.reduceAdd, if_true, then_normal, Nat.reduceEqDiff, if_false, reduceIte, reduceCtorEq, decide_true, decide_false, Bool.not_true, Bool.not_false, beq_self_eq_true, beq_tf, beq_ft, aPick, List.map_cons, List.map_nil, List.nil_append, List.append_nil, List.getElem?_cons_zero, List.getElem?_cons_succ, aBuiltin, aLen, Tryz.underlying22, cast_nat, hl]
  refine code_cond_false ?_ ?_
  · simp only [aev, regAt_set, Nat.reduceEqDiff, reduceIte]
  refine code_skip ?_
  simp only [then_normal]
  refine code_seq ?_
  refine code_region ?_ ?_
  · rfl
  simp only [run1, aOne, aP, aR, aA, aT, aCall, aCallVal, aev, regAt_set, aput_mk, aput_none, plainV, aNilCheck, aExtract, aBin, aInt, Addr.add, Nat.zero_add, ends_some, Nat.reduceLT, Nat.reduceAdd, if_true, then_normal, Nat.reduceEqDiff, if_false, reduceIte, reduceCtorEq, decide_true, decide_false, Bool.not_true, Bool.not_false, beq_self_eq_true, beq_tf, beq_ft, aPick, List.map_cons, List.map_nil, List.nil_append, List.append_nil, List.getElem?_cons_zero, List.getElem?_cons_succ]
  refine code_seq ?_
  refine code_seq ?_
  refine code_region ?_ ?_
  · rfl
  simp only [run1, aOne, aP, aR, aA, aT, aCall, aCallVal, aev, regAt_set, aput_mk, aput_none, plainV, aNilCheck, aExtract, aBin, aInt, Addr.add, Nat.zero_add, ends_some, Nat.reduceLT, Nat.reduceAdd, if_true, then_normal, Nat.reduceEqDiff, if_false, reduceIte, reduceCtorEq, decide_true, decide_false, Bool.not_true, Bool.not_false, beq_self_eq_true, beq_tf, beq_ft, aPick, List.map_cons, List.map_nil, List.nil_append, List.append_nil, List.getElem?_cons_zero, List.getElem?_cons_succ, aBuiltin, aLen, Tryz.underlying22, cast_nat]
  refine code_block ?_
  rw [show k + 1994 = (k + 1934 - n) + n + 60 from by omega]
  refine EndsC.mono (text_loop (v0 := .pointer (some ⟨sp, 0, none⟩)) (c := c) (x := x) hli hln (by omega) hx (k + 1934 - n) n 0 _ _ μ (by omega) (Own.nil _ _) ?_ ?_ ?_ ?_ ?_) ?_
  · simp only [regAt_set, Nat.reduceEqDiff, reduceIte]
  · simp only [regAt_set, Nat.reduceEqDiff, reduceIte]
  · simp only [regAt_set, Nat.reduceEqDiff, reduceIte]
  · simp only [regAt_set, Nat.reduceEqDiff, reduceIte]
  · simp only [regAt_set, Nat.reduceEqDiff, reduceIte]; rfl
  rintro x' r' μ1 ⟨rfl, tm', v1, rfl, hO, g6, g0⟩
  simp only [blockC, reduceIte, then_normal]
  have h1 := h.grow hO.grow
  obtain ⟨a1, c1, li1, hv1, hln1, hli1⟩ : ∃ a1 c1 li1, v1 = .slice a1 n c1 ∧ li1 < μ1.next ∧ ∀ k, k < n → a1 = some ⟨li1, 0, none⟩ ∧ cellsAt μ1 li1 k = some (.int .u64 (.ofNat (x k))) := by
    obtain ⟨a, c7, h7, ha7⟩ := good_len hO.good
    rw [wl_length] at h7 ha7
    by_cases hn0 : 0 < n
    · obtain ⟨b7, rfl⟩ := ha7 hn0
      exact ⟨_, c7, b7, h7, (hO.above b7 ⟨_, _, h7⟩).2, fun k hk => ⟨rfl, GoodSl.cell hO.good h7 hk⟩⟩
    · exact ⟨a, c7, sp, h7, h1.spn, fun k hk => absurd hk (by omega)⟩
  subst hv1
  obtain ⟨v2, μ2, hpk, b2, c2, hv2, hO2⟩ := packed_ends (X := X) (g := k + 1994) (c := c1) (each := 2) (wide := 32) (x := x) (by omega) hli1 hln1 (by omega) (by decide) (by decide) hx
  subst hv2
  have hb2 := hO2.above b2 ⟨_, _, rfl⟩
  have h2 := h1.grow hO2.grow
  obtain ⟨v3, μ3, hrw, hv3, h3, hK3⟩ := raw_al (X := X) (g := k + 1994) (c := c2) (kd := 18) (f := pf x 2 32 n n) (by omega) h2 (fun k hk => GoodSl.cell hO2.good rfl hk) hb2.2 (by have := h1.hs.ab.n1; omega) (by have := h1.hs.ab.n2; omega) (by have := h1.hs.ab.n3; omega) (by decide) (by decide) hnw hq hal
  subst hv3
  have hpk : aFun Tryz.prog (aCode Tryz.prog X S0 (k + 1994)) 19 [.slice a1 n c1, .int .i64 2, .int .i64 32] μ1 = some (.slice (some ⟨b2, 0, none⟩) (nw 2 n) c2, μ2) := hpk
  have hrw : aFun Tryz.prog (aCode Tryz.prog X S0 (k + 1994)) 18 [.pointer (some ⟨sp, 0, none⟩), .int .i64 18, .slice (some ⟨b2, 0, none⟩) (nw 2 n) c2] μ2 = some (.tuple #[.int .u64 (.ofNat (placeW q)), .bool true], μ3) := hrw
  refine code_seq ?_
  refine code_region ?_ ?_
  · rfl
  simp only [run1, aOne, aP, aR, aA, aT, aCall, aCallVal, aev, regAt_set, aput_mk, aput_none, plainV, aNilCheck, aExtract, aBin, aInt, Addr.add, Nat.zero_add, ends_some, Nat.reduceLT, Nat.reduceAdd, if_true, then_normal, Nat.reduceEqDiff, if_false, reduceIte, reduceCtorEq, decide_true, decide_false, Bool.not_true, Bool.not_false, beq_self_eq_true, beq_tf, beq_ft, aPick, List.map_cons, List.map_nil, List.nil_append, List.append_nil, List.getElem?_cons_zero, List.getElem?_cons_succ, g0, g6, go_call (P := Tryz.prog) (X := X) (S := S0) Tryz.func19 rfl rfl, hpk, go_call (P := Tryz.prog) (X := X) (S := S0) Tryz.func18 rfl rfl, hrw]
  refine code_ret ?_
  refine ⟨rfl, _, ?_, rfl, h3, (Keeps.grow (hO.grow.trans hO2.grow)).trans hK3⟩
  simp only [aResults, Tryz.results7, aRes, regAt_set, Nat.reduceEqDiff, reduceIte]
end

noncomputable section
variable {X : FuncId → List Value → Mem → Option (Value × Mem)}

set_option maxHeartbeats 4000000 in
theorem octets_long {g n c : Nat} {v0 : Value} {ad : Option Addr} {μ : Mem} (hg : 20 ≤ g) (hv0 : one v0 = true) (hn : 800 < n) :
    EndsF (aFun Tryz.prog (aCode Tryz.prog X S0 g) 8 [v0, .slice ad n c] μ) fun v μ' => v = .tuple #[.int .u64 0, .bool false] ∧ Grow μ μ' := by
  obtain ⟨k, rfl⟩ := Nat.exists_eq_add_of_le' hg
  have hl : ilt 800 (.ofNat n) = true := (ilt_nat 800 n).trans (decide_eq_true hn)
  refine fun_enter Tryz.func8 rfl rfl (Nat.le_of_ble_eq_true rfl) ?_
  simp only [T.lay, Nat.zero_add, Tryz.ntmps8, Nat.reduceAdd]
  refine code_seq ?_
  refine code_region ?_ ?_
  · rfl
  simp only [run1, aOne, aP, aR, aA, aT, aCall, aCallVal, aev, regAt_set, aput_mk, aput_none, plainV, aNilCheck, aExtract, aBin, aInt, Addr.add, Nat.zero_add, ends_some, Nat.reduceLT, Nat.reduceAdd, if_true, then_normal, Nat.reduceEqDiff, if_false, reduceIte, reduceCtorEq, decide_true, decide_false, Bool.not_true, Bool.not_false, beq_self_eq_true, beq_tf, beq_ft, aPick, List.map_cons, List.map_nil, List.nil_append, List.append_nil, List.getElem?_cons_zero, List.getElem?_cons_succ]
  refine code_seq ?_
  refine code_seq ?_
  refine code_region ?_ ?_
  · rfl
  simp only [run1, aOne, aP, aR, aA, aT, aCall, aCallVal, aev, regAt_set, aput_mk, aput_none, plainV, aNilCheck, aExtract, aBin, aInt, Addr.add, Nat.zero_add, ends_some, Nat.reduceLT, Nat.reduceAdd, if_true, then_normal, Nat.reduceEqDiff, if_false, reduceIte, reduceCtorEq, decide_true, decide_false, Bool.not_true, Bool.not_false, beq_self_eq_true, beq_tf, beq_ft, aPick, List.map_cons, List.map_nil, List.nil_append, List.append_nil, List.getElem?_cons_zero, List.getElem?_cons_succ, aBuiltin, aLen, Tryz.underlying23, cast_nat, hl]
  refine code_cond_true ?_ ?_
  · simp only [aev, regAt_set, Nat.reduceEqDiff, reduceIte]
  refine code_seq ?_
  refine code_region ?_ ?_
  · rfl
  simp only [run1, aOne, aP, aR, aA, aT, aCall, aCallVal, aev, regAt_set, aput_mk, aput_none, plainV, aNilCheck, aExtract, aBin, aInt, Addr.add, Nat.zero_add, ends_some, Nat.reduceLT, Nat.reduceAdd, if_true, then_normal, Nat.reduceEqDiff, if_false, reduceIte, reduceCtorEq, decide_true, decide_false, Bool.not_true, Bool.not_false, beq_self_eq_true, beq_tf, beq_ft, aPick, List.map_cons, List.map_nil, List.nil_append, List.append_nil, List.getElem?_cons_zero, List.getElem?_cons_succ]
  refine code_ret ?_
  refine ⟨rfl, _, ?_, rfl, Grow.refl _⟩
  simp only [aResults, Tryz.results8, aRes, regAt_set, Nat.reduceEqDiff, reduceIte]

set_option maxHeartbeats 4000000 in
theorem octets_ends {g sp hp ap wb lb N L q n li c : Nat} {ad : Option Addr} {x : Nat → Nat} {ws : Nat → Nat} {p p' : Pos} {μ : Mem} (hg : 2000 ≤ g) (h : SP μ sp hp ap wb lb N L ws p)
    (hli : ∀ k, k < n → ad = some ⟨li, 0, none⟩ ∧ cellsAt μ li k = some (.int .u8 (.ofNat (x k)))) (hln : li < μ.next) (hn : n ≤ 800) (hx : ∀ t, x t < 2 ^ 8) (hq : q + nw 8 n < N) (hal : Al X N L (nw 8 n + 1) q p p') :
    EndsF (aFun Tryz.prog (aCode Tryz.prog X S0 g) 8 [.pointer (some ⟨sp, 0, none⟩), .slice ad n c] μ) fun v μ' => v = .tuple #[.int .u64 (.ofNat (placeW q)), .bool true] ∧ SP μ' sp hp ap wb lb N L (obj ws q 19 (nw 8 n) (pf x 8 8 n n)) p' ∧ Keeps μ μ' ap wb lb := by
  obtain ⟨k, rfl⟩ := Nat.exists_eq_add_of_le' hg
  have hl : ilt 800 (.ofNat n) = false := (ilt_nat 800 n).trans (decide_eq_false (by omega))
  have hnw : nw 8 n ≤ 240 := by
    cases n with
    | zero => exact Nat.le_of_ble_eq_true rfl
    | succ n => rw [nw_succ 8 (by decide)]; omega
  refine fun_enter Tryz.func8 rfl rfl (Nat.le_of_ble_eq_true rfl) ?_
  simp only [T.lay, Nat.zero_add, Tryz.ntmps8, Nat.reduceAdd]
  refine code_seq ?_
  refine code_region ?_ ?_
  · rfl
  simp only [run1, aOne, aP, aR, aA, aT, aCall, aCallVal, aev, regAt_set, aput_mk, aput_none, plainV, aNilCheck, aExtract, aBin, aInt, Addr.add, Nat.zero_add, ends_some, Nat.reduceLT, Nat.reduceAdd, if_true, then_normal, Nat.reduceEqDiff, if_false, reduceIte, reduceCtorEq, decide_true, decide_false, Bool.not_true, Bool.not_false, beq_self_eq_true, beq_tf, beq_ft, aPick, List.map_cons, List.map_nil, List.nil_append, List.append_nil, List.getElem?_cons_zero, List.getElem?_cons_succ]
  refine code_seq ?_
  refine code_seq ?_
  refine code_region ?_ ?_
  · rfl
  simp only [run1, aOne, aP, aR, aA, aT, aCall, aCallVal, aev, regAt_set, aput_mk, aput_none, plainV, aNilCheck, aExtract, aBin, aInt, Addr.add, Nat.zero_add, ends_some, Nat.reduceLT, Nat.reduceAdd, if_true, then_normal, Nat.reduceEqDiff, if_false, reduceIte, reduceCtorEq, decide_true, decide_false, Bool.not_true, Bool.not_false, beq_self_eq_true, beq_tf, beq_ft, aPick, List.map_cons, List.map_nil, List.nil_append, List.append_nil, List.getElem?_cons_zero, List.getElem?_cons_succ, aBuiltin, aLen, Tryz.underlying23, cast_nat, hl]
  refine code_cond_false ?_ ?_
  · simp only [aev, regAt_set, Nat.reduceEqDiff, reduceIte]
  refine code_skip ?_
  simp only [then_normal]
  refine code_seq ?_
  refine code_region ?_ ?_
  · rfl
  simp only [run1, aOne, aP, aR, aA, aT, aCall, aCallVal, aev, regAt_set, aput_mk, aput_none, plainV, aNilCheck, aExtract, aBin, aInt, Addr.add, Nat.zero_add, ends_some, Nat.reduceLT, Nat.reduceAdd, if_true, then_normal, Nat.reduceEqDiff, if_false, reduceIte, reduceCtorEq, decide_true, decide_false, Bool.not_true, Bool.not_false, beq_self_eq_true, beq_tf, beq_ft, aPick, List.map_cons, List.map_nil, List.nil_append, List.append_nil, List.getElem?_cons_zero, List.getElem?_cons_succ]
  refine code_seq ?_
  refine code_seq ?_
  refine code_region ?_ ?_
  · rfl
  simp only [run1, aOne, aP, aR, aA, aT, aCall, aCallVal, aev, regAt_set, aput_mk, aput_none, plainV, aNilCheck, aExtract, aBin, aInt, Addr.add, Nat.zero_add, ends_some, Nat.reduceLT, Nat.reduceAdd, if_true, then_normal, Nat.reduceEqDiff, if_false, reduceIte, reduceCtorEq, decide_true, decide_false, Bool.not_true, Bool.not_false, beq_self_eq_true, beq_tf, beq_ft, aPick, List.map_cons, List.map_nil, List.nil_append, List.append_nil, List.getElem?_cons_zero, List.getElem?_cons_succ, aBuiltin, aLen, Tryz.underlying23, cast_nat]
  refine code_block ?_
  rw [show k + 1994 = (k + 1934 - n) + n + 60 from by omega]
  refine EndsC.mono (octets_loop (v0 := .pointer (some ⟨sp, 0, none⟩)) (c := c) (x := x) hli hln (by omega) hx (k + 1934 - n) n 0 _ _ μ (by omega) (Own.nil _ _) ?_ ?_ ?_ ?_ ?_) ?_
  · simp only [regAt_set, Nat.reduceEqDiff, reduceIte]
  · simp only [regAt_set, Nat.reduceEqDiff, reduceIte]
  · simp only [regAt_set, Nat.reduceEqDiff, reduceIte]
  · simp only [regAt_set, Nat.reduceEqDiff, reduceIte]
  · simp only [regAt_set, Nat.reduceEqDiff, reduceIte]; rfl
  rintro x' r' μ1 ⟨rfl, tm', v1, rfl, hO, g6, g0⟩
  simp only [blockC, reduceIte, then_normal]
  have h1 := h.grow hO.grow
  obtain ⟨a1, c1, li1, hv1, hln1, hli1⟩ : ∃ a1 c1 li1, v1 = .slice a1 n c1 ∧ li1 < μ1.next ∧ ∀ k, k < n → a1 = some ⟨li1, 0, none⟩ ∧ cellsAt μ1 li1 k = some (.int .u64 (.ofNat (x k))) := by
    obtain ⟨a, c7, h7, ha7⟩ := good_len hO.good
    rw [wl_length] at h7 ha7
    by_cases hn0 : 0 < n
    · obtain ⟨b7, rfl⟩ := ha7 hn0
      exact ⟨_, c7, b7, h7, (hO.above b7 ⟨_, _, h7⟩).2, fun k hk => ⟨rfl, GoodSl.cell hO.good h7 hk⟩⟩
    · exact ⟨a, c7, sp, h7, h1.spn, fun k hk => absurd hk (by omega)⟩
  subst hv1
  obtain ⟨v2, μ2, hpk, b2, c2, hv2, hO2⟩ := packed_ends (X := X) (g := k + 1994) (c := c1) (each := 8) (wide := 8) (x := x) (by omega) hli1 hln1 (by omega) (by decide) (by decide) hx
  subst hv2
  have hb2 := hO2.above b2 ⟨_, _, rfl⟩
  have h2 := h1.grow hO2.grow
  obtain ⟨v3, μ3, hrw, hv3, h3, hK3⟩ := raw_al (X := X) (g := k + 1994) (c := c2) (kd := 19) (f := pf x 8 8 n n) (by omega) h2 (fun k hk => GoodSl.cell hO2.good rfl hk) hb2.2 (by have := h1.hs.ab.n1; omega) (by have := h1.hs.ab.n2; omega) (by have := h1.hs.ab.n3; omega) (by decide) (by decide) hnw hq hal
  subst hv3
  have hpk : aFun Tryz.prog (aCode Tryz.prog X S0 (k + 1994)) 19 [.slice a1 n c1, .int .i64 8, .int .i64 8] μ1 = some (.slice (some ⟨b2, 0, none⟩) (nw 8 n) c2, μ2) := hpk
  have hrw : aFun Tryz.prog (aCode Tryz.prog X S0 (k + 1994)) 18 [.pointer (some ⟨sp, 0, none⟩), .int .i64 19, .slice (some ⟨b2, 0, none⟩) (nw 8 n) c2] μ2 = some (.tuple #[.int .u64 (.ofNat (placeW q)), .bool true], μ3) := hrw
  refine code_seq ?_
  refine code_region ?_ ?_
  · rfl
  simp only [run1, aOne, aP, aR, aA, aT, aCall, aCallVal, aev, regAt_set, aput_mk, aput_none, plainV, aNilCheck, aExtract, aBin, aInt, Addr.add, Nat.zero_add, ends_some, Nat.reduceLT, Nat.reduceAdd, if_true, then_normal, Nat.reduceEqDiff, if_false, reduceIte, reduceCtorEq, decide_true, decide_false, Bool.not_true, Bool.not_false, beq_self_eq_true, beq_tf, beq_ft, aPick, List.map_cons, List.map_nil, List.nil_append, List.append_nil, List.getElem?_cons_zero, List.getElem?_cons_succ, g0, g6, go_call (P := Tryz.prog) (X := X) (S := S0) Tryz.func19 rfl rfl, hpk, go_call (P := Tryz.prog) (X := X) (S := S0) Tryz.func18 rfl rfl, hrw]
  refine code_ret ?_
  refine ⟨rfl, _, ?_, rfl, h3, (Keeps.grow (hO.grow.trans hO2.grow)).trans hK3⟩
  simp only [aResults, Tryz.results8, aRes, regAt_set, Nat.reduceEqDiff, reduceIte]
end

noncomputable section
variable {X : FuncId → List Value → Mem → Option (Value × Mem)}

theorem bs22 (ρ : Operand → Value) (x : Operand) (hv : one (ρ x) = true) : aBuildSlice Tryz.prog ρ 22 1 #[(0, x)] = some (.cells 1 3 #[ρ x] .e 0 0 false false, fun id => .slice (some ⟨id, 0, none⟩) 1 2) := buildSlice_if Tryz.underlying22 i3 rfl z3 rfl ρ x hv

set_option maxHeartbeats 4000000 in
theorem astext_loop {n b c : Nat} {x : Nat → Nat} {μ0 : Mem} (hcell : ∀ k, k < n → cellsAt μ0 b k = some (.int .u64 (.ofNat (x k)))) (hbn : b < μ0.next) (hn : n < 100000) (hx : ∀ t, x t < 2 ^ 32) :
    ∀ (e m j : Nat) (tm : T Value) (v : Value) (μ : Mem), j + m = n → Own 3 μ0 μ v (wl .i64 x j) → regAt tm 8 = v → regAt tm 20 = .slice (some ⟨b, 0, none⟩) n c → regAt tm 21 = .int .i64 (.ofNat n) → regAt tm 22 = .int .i64 (.ofNat j) →
      EndsC (aCode Tryz.prog X S0 (e + m + 60) (.loop (loopBody Tryz.f9 0)) ⟨33, tm, [], none⟩ μ) fun a r μ' => a = .exit 0 ∧ ∃ tm' v', r = ⟨33, tm', [], none⟩ ∧ Own 3 μ0 μ' v' (wl .i64 x n) ∧ regAt tm' 8 = v' := by
  intro e m
  induction m with
  | zero =>
    intro j tm v μ hj hO r8 r20 r21 r22
    obtain rfl : j = n := hj
    refine code_loop ?_
    refine code_seq ?_
    refine code_region ?_ ?_
    · rfl
    simp only [run1, aOne, aP, aR, aA, aT, aCall, aCallVal, aev, regAt_set, aput_mk, aput_none, plainV, aNilCheck, aExtract, aBin, aInt, Addr.add, Nat.zero_add, ends_some, Nat.reduceLT, Nat.reduceAdd, if_true, then_normal, Nat.reduceEqDiff, if_false, reduceIte, reduceCtorEq, decide_true, decide_false, Bool.not_true, Bool.not_false, beq_self_eq_true, beq_tf, beq_ft, aPick, List.map_cons, List.map_nil, List.nil_append, List.append_nil, List.getElem?_cons_zero, List.getElem?_cons_succ, r21, r22, ilt_nat, Nat.lt_irrefl]
    refine code_seq ?_
    refine code_cond_false ?_ ?_
    · simp only [aev, regAt_set, Nat.reduceEqDiff, reduceIte]
    refine code_exit ?_
    simp only [then_exit]
    exact ⟨trivial, _, v, rfl, hO, by simp only [regAt_set, Nat.reduceEqDiff, reduceIte, r8]⟩
  | succ m ih =>
    intro j tm v μ hj hO r8 r20 r21 r22
    have hlt : j < n := by omega
    have hc' : cellsAt μ b j = some (.int .u64 (.ofNat (x j))) := by rw [← hcell j hlt]; unfold cellsAt; rw [hO.grow.2 b hbn]
    have hia : ∀ ρ : Operand → Value, ∀ a b', ρ a = .slice (some ⟨b, 0, none⟩) n c → ρ b' = .int .i64 (.ofNat j) → aIndexAddr Tryz.prog ρ 66 a b' = some (.pointer (some ⟨b, j, none⟩)) := fun ρ a b' g1 g2 => by
      rw [indexAddr_slice (P := Tryz.prog) Tryz.underlying66 iW rfl g1 g2 hlt, Nat.zero_add]
    have a3 : qwrap .i64 (Int.add (.ofNat j) 1) = .ofNat (j + 1) := add_nat j 1 (by omega)
    have qA : qwrap .i64 (.ofNat (x j)) = .ofNat (x j) := q64 (x j) (by have := hx j; omega)
    obtain ⟨v7, μ7, hap, hO7⟩ := hO.push (st := 22) (x := .int .i64 (.ofNat (x j))) Tryz.underlying22 i3 rfl rfl z3 rfl (by rw [wl_length]; omega) rfl
    have hap : aAppend Tryz.prog ⟨μ.obs.set μ.next (.cells 1 3 #[.int .i64 (.ofNat (x j))] .e 0 0 false false), Nat.add μ.next 1⟩ 22 22 v (.slice (some ⟨μ.next, 0, none⟩) 1 2) = some (v7, μ7) := hap
    rw [← wl_succ] at hO7
    refine code_loop ?_
    refine code_seq ?_
    refine code_region ?_ ?_
    · rfl
    simp only [run1, aOne, aP, aR, aA, aT, aCall, aCallVal, aev, regAt_set, aput_mk, aput_none, plainV, aNilCheck, aExtract, aBin, aInt, Addr.add, Nat.zero_add, ends_some, Nat.reduceLT, Nat.reduceAdd, if_true, then_normal, Nat.reduceEqDiff, if_false, reduceIte, reduceCtorEq, decide_true, decide_false, Bool.not_true, Bool.not_false, beq_self_eq_true, beq_tf, beq_ft, aPick, List.map_cons, List.map_nil, List.nil_append, List.append_nil, List.getElem?_cons_zero, List.getElem?_cons_succ, r21, r22, ilt_nat, hlt]
    refine code_seq ?_
    refine code_cond_true ?_ ?_
    · simp only [aev, regAt_set, Nat.reduceEqDiff, reduceIte]
    refine code_skip ?_
    simp only [then_normal]
    refine code_seq ?_
    refine code_block ?_
    refine code_seq ?_
    refine code_region ?_ ?_
    · rfl
    simp only [run1, aOne, aP, aR, aA, aT, aCall, aCallVal, aev, regAt_set, aput_mk, aput_none, plainV, aNilCheck, aExtract, aBin, aInt, Addr.add, Nat.zero_add, ends_some, Nat.reduceLT, Nat.reduceAdd, if_true, then_normal, Nat.reduceEqDiff, if_false, reduceIte, reduceCtorEq, decide_true, decide_false, Bool.not_true, Bool.not_false, beq_self_eq_true, beq_tf, beq_ft, aPick, List.map_cons, List.map_nil, List.nil_append, List.append_nil, List.getElem?_cons_zero, List.getElem?_cons_succ, r20, r22, hia, ldW, hc']
    refine code_region ?_ ?_
    · rfl
    simp only [run1, aOne, aP, aR, aA, aT, aCall, aCallVal, aev, regAt_set, aput_mk, aput_none, plainV, aNilCheck, aExtract, aBin, aInt, Addr.add, Nat.zero_add, ends_some, Nat.reduceLT, Nat.reduceAdd, if_true, then_normal, Nat.reduceEqDiff, if_false, reduceIte, reduceCtorEq, decide_true, decide_false, Bool.not_true, Bool.not_false, beq_self_eq_true, beq_tf, beq_ft, aPick, List.map_cons, List.map_nil, List.nil_append, List.append_nil, List.getElem?_cons_zero, List.getElem?_cons_succ, r8, cvWi, qA, bs22, one, aBuiltin, hap]
    simp only [blockC, then_normal]
    refine code_region ?_ ?_
    · rfl
    simp only [run1, aOne, aP, aR, aA, aT, aCall, aCallVal, aev, regAt_set, aput_mk, aput_none, plainV, aNilCheck, aExtract, aBin, aInt, Addr.add, Nat.zero_add, ends_some, Nat.reduceLT, Nat.reduceAdd, if_true, then_normal, Nat.reduceEqDiff, if_false, reduceIte, reduceCtorEq, decide_true, decide_false, Bool.not_true, Bool.not_false, beq_self_eq_true, beq_tf, beq_ft, aPick, List.map_cons, List.map_nil, List.nil_append, List.append_nil, List.getElem?_cons_zero, List.getElem?_cons_succ, r22, a3]
    rw [show e + (m + 1) + 59 = e + m + 60 from by omega]
    refine ih (j + 1) _ _ _ (by omega) hO7 ?_ ?_ ?_ ?_ <;> simp only [regAt_set, Nat.reduceEqDiff, reduceIte, r20, r21]

set_option maxHeartbeats 4000000 in
theorem astext_no {g sp hp ap wb lb N L q kd pn n : Nat} {ws : Nat → Nat} {p : Pos} {μ : Mem} (hg : 200 ≤ g) (h : SP μ sp hp ap wb lb N L ws p) (hq : q < N) (hw : ws q = headW kd pn n) (h1 : kd < 32) (h2 : pn < 8) (h3 : n < 1000000) (hne : kd ≠ 18) :
    EndsF (aFun Tryz.prog (aCode Tryz.prog X S0 g) 9 [.pointer (some ⟨sp, 0, none⟩), .int .u64 (.ofNat (placeW q))] μ) fun v μ' => v = .tuple #[.slice none 0 0, .bool false] ∧ Grow μ μ' := by
  obtain ⟨k, rfl⟩ := Nat.exists_eq_add_of_le' hg
  obtain ⟨v1, μ1, hf, hv1, hg1⟩ := fields_no (X := X) (g := k + 197) (kd' := 18) (by omega) h.sp0 h.hs.at hq h.hs.ab.N1 hw h1 h2 h3 hne
  subst hv1
  have hf : aFun Tryz.prog (aCode Tryz.prog X S0 (k + 197)) 20 [.pointer (some ⟨sp, 0, none⟩), .int .i64 18, .int .u64 (.ofNat (placeW q))] μ = some (.tuple #[.slice none 0 0, .bool false], μ1) := hf
  refine fun_enter Tryz.func9 rfl rfl (Nat.le_of_ble_eq_true rfl) ?_
  simp only [T.lay, Nat.zero_add, Tryz.ntmps9, Nat.reduceAdd]
  refine code_seq ?_
  refine code_region ?_ ?_
  · rfl
  simp only [run1, aOne, aP, aR, aA, aT, aCall, aCallVal, aev, regAt_set, aput_mk, aput_none, plainV, aNilCheck, aExtract, aBin, aInt, Addr.add, Nat.zero_add, ends_some, Nat.reduceLT, Nat.reduceAdd, if_true, then_normal, Nat.reduceEqDiff, if_false, reduceIte, reduceCtorEq, decide_true, decide_false, Bool.not_true, Bool.not_false, beq_self_eq_true, beq_tf, beq_ft, aPick, List.map_cons, List.map_nil, List.nil_append, List.append_nil, List.getElem?_cons_zero, List.getElem?_cons_succ]
  refine code_seq ?_
  refine code_region ?_ ?_
  · rfl
  simp only [run1, aOne, aP, aR, aA, aT, aCall, aCallVal, aev, regAt_set, aput_mk, aput_none, plainV, aNilCheck, aExtract, aBin, aInt, Addr.add, Nat.zero_add, ends_some, Nat.reduceLT, Nat.reduceAdd, if_true, then_normal, Nat.reduceEqDiff, if_false, reduceIte, reduceCtorEq, decide_true, decide_false, Bool.not_true, Bool.not_false, beq_self_eq_true, beq_tf, beq_ft, aPick, List.map_cons, List.map_nil, List.nil_append, List.append_nil, List.getElem?_cons_zero, List.getElem?_cons_succ, go_call (P := Tryz.prog) (X := X) (S := S0) Tryz.func20 rfl rfl, hf]
  refine code_seq ?_
  refine code_seq ?_
  refine code_region ?_ ?_
  · rfl
  simp only [run1, aOne, aP, aR, aA, aT, aCall, aCallVal, aev, regAt_set, aput_mk, aput_none, plainV, aNilCheck, aExtract, aBin, aInt, Addr.add, Nat.zero_add, ends_some, Nat.reduceLT, Nat.reduceAdd, if_true, then_normal, Nat.reduceEqDiff, if_false, reduceIte, reduceCtorEq, decide_true, decide_false, Bool.not_true, Bool.not_false, beq_self_eq_true, beq_tf, beq_ft, aPick, List.map_cons, List.map_nil, List.nil_append, List.append_nil, List.getElem?_cons_zero, List.getElem?_cons_succ]
  refine code_cond_true ?_ ?_
  · simp only [aev, regAt_set, Nat.reduceEqDiff, reduceIte]
  refine code_seq ?_
  refine code_region ?_ ?_
  · rfl
  simp only [run1, aOne, aP, aR, aA, aT, aCall, aCallVal, aev, regAt_set, aput_mk, aput_none, plainV, aNilCheck, aExtract, aBin, aInt, Addr.add, Nat.zero_add, ends_some, Nat.reduceLT, Nat.reduceAdd, if_true, then_normal, Nat.reduceEqDiff, if_false, reduceIte, reduceCtorEq, decide_true, decide_false, Bool.not_true, Bool.not_false, beq_self_eq_true, beq_tf, beq_ft, aPick, List.map_cons, List.map_nil, List.nil_append, List.append_nil, List.getElem?_cons_zero, List.getElem?_cons_succ]
  refine code_ret ?_
  refine ⟨rfl, _, ?_, rfl, hg1⟩
  simp only [aResults, Tryz.results9, aRes, regAt_set, Nat.reduceEqDiff, reduceIte]

set_option maxHeartbeats 4000000 in
theorem astext_ends {g sp hp ap wb lb N L q m n : Nat} {x ws : Nat → Nat} {p : Pos} {μ : Mem} (hg : 2000 ≤ g) (h : SP μ sp hp ap wb lb N L ws p) (hm : m = nw 2 n) (hq : q + m < N) (hw : ws q = headW 18 0 m) (hws : ∀ k, k < m → ws (q + 1 + k) = pf x 2 32 n n k) (hn : n ≤ 400) (hx : ∀ t, x t < 2 ^ 32) :
    EndsF (aFun Tryz.prog (aCode Tryz.prog X S0 g) 9 [.pointer (some ⟨sp, 0, none⟩), .int .u64 (.ofNat (placeW q))] μ) fun v μ' => ∃ v', v = .tuple #[v', .bool true] ∧ Own 3 μ μ' v' (wl .i64 x n) := by
  obtain ⟨k, rfl⟩ := Nat.exists_eq_add_of_le' hg
  have hnw : m ≤ 240 := by
    rw [hm]
    cases n with
    | zero => exact Nat.le_of_ble_eq_true rfl
    | succ n => rw [nw_succ 2 (by decide)]; omega
  obtain ⟨v1, μ1, hf, oi, hv1, hg1, ho1, ho2, hc1⟩ := fields_yes (X := X) (g := k + 1997) (kd := 18) (by omega) h.sp0 h.spn h.hs.at hq h.hs.ab.N1 hw (by decide) hnw
  subst hv1
  have hf : aFun Tryz.prog (aCode Tryz.prog X S0 (k + 1997)) 20 [.pointer (some ⟨sp, 0, none⟩), .int .i64 18, .int .u64 (.ofNat (placeW q))] μ = some (.tuple #[.slice (some ⟨oi, 0, none⟩) m (2 * m), .bool true], μ1) := hf
  obtain ⟨v2, μ2, hu, b, hv2, hg2, hb1, hb2, hB2, hc2⟩ := unpacked_ends (X := X) (g := k + 1993) (co := 2 * m) (each := 2) (wide := 32) (x := x) (n := n) (by omega) (fun k hk => by rw [hc1 k hk, hws k hk]) hm ho2 (by omega) (by decide) (by decide) (by decide) hx
  subst hv2
  have hu : aFun Tryz.prog (aCode Tryz.prog X S0 (k + 1993)) 21 [.slice (some ⟨oi, 0, none⟩) m (2 * m), .int .i64 2, .int .i64 32] μ1 = some (.slice (some ⟨b, 0, none⟩) n (2 * n), μ2) := hu
  have hg12 := hg1.trans hg2
  refine fun_enter Tryz.func9 rfl rfl (Nat.le_of_ble_eq_true rfl) ?_
  simp only [T.lay, Nat.zero_add, Tryz.ntmps9, Nat.reduceAdd]
  refine code_seq ?_
  refine code_region ?_ ?_
  · rfl
  simp only [run1, aOne, aP, aR, aA, aT, aCall, aCallVal, aev, regAt_set, aput_mk, aput_none, plainV, aNilCheck, aExtract, aBin, aInt, Addr.add, Nat.zero_add, ends_some, Nat.reduceLT, Nat.reduceAdd, if_true, then_normal, Nat.reduceEqDiff, if_false, reduceIte, reduceCtorEq, decide_true, decide_false, Bool.not_true, Bool.not_false, beq_self_eq_true, beq_tf, beq_ft, aPick, List.map_cons, List.map_nil, List.nil_append, List.append_nil, List.getElem?_cons_zero, List.getElem?_cons_succ]
  refine code_seq ?_
  refine code_region ?_ ?_
  · rfl
  simp only [run1, aOne, aP, aR, aA, aT, aCall, aCallVal, aev, regAt_set, aput_mk, aput_none, plainV, aNilCheck, aExtract, aBin, aInt, Addr.add, Nat.zero_add, ends_some, Nat.reduceLT, Nat.reduceAdd, if_true, then_normal, Nat.reduceEqDiff, if_false, reduceIte, reduceCtorEq, decide_true, decide_false, Bool.not_true, Bool.not_false, beq_self_eq_true, beq_tf, beq_ft, aPick, List.map_cons, List.map_nil, List.nil_append, List.append_nil, List.getElem?_cons_zero, List.getElem?_cons_succ, go_call (P := Tryz.prog) (X := X) (S := S0) Tryz.func20 rfl rfl, hf]
  refine code_seq ?_
  refine code_seq ?_
  refine code_region ?_ ?_
  · rfl
  simp only [run1, aOne, aP, aR, aA, aT, aCall, aCallVal, aev, regAt_set, aput_mk, aput_none, plainV, aNilCheck, aExtract, aBin, aInt, Addr.add, Nat.zero_add, ends_some, Nat.reduceLT, Nat.reduceAdd, if_true, then_normal, Nat.reduceEqDiff, if_false, reduceIte, reduceCtorEq, decide_true, decide_false, Bool.not_true, Bool.not_false, beq_self_eq_true, beq_tf, beq_ft, aPick, List.map_cons, List.map_nil, List.nil_append, List.append_nil, List.getElem?_cons_zero, List.getElem?_cons_succ]
  refine code_cond_false ?_ ?_
  · simp only [aev, regAt_set, Nat.reduceEqDiff, reduceIte]
  refine code_skip ?_
  simp only [then_normal]
  refine code_seq ?_
  refine code_region ?_ ?_
  · rfl
  simp only [run1, aOne, aP, aR, aA, aT, aCall, aCallVal, aev, regAt_set, aput_mk, aput_none, plainV, aNilCheck, aExtract, aBin, aInt, Addr.add, Nat.zero_add, ends_some, Nat.reduceLT, Nat.reduceAdd, if_true, then_normal, Nat.reduceEqDiff, if_false, reduceIte, reduceCtorEq, decide_true, decide_false, Bool.not_true, Bool.not_false, beq_self_eq_true, beq_tf, beq_ft, aPick, List.map_cons, List.map_nil, List.nil_append, List.append_nil, List.getElem?_cons_zero, List.getElem?_cons_succ]
  refine code_seq ?_
  refine code_seq ?_
  refine code_region ?_ ?_
  · rfl
  simp only [run1, aOne, aP, aR, aA, aT, aCall, aCallVal, aev, regAt_set, aput_mk, aput_none, plainV, aNilCheck, aExtract, aBin, aInt, Addr.add, Nat.zero_add, ends_some, Nat.reduceLT, Nat.reduceAdd, if_true, then_normal, Nat.reduceEqDiff, if_false, reduceIte, reduceCtorEq, decide_true, decide_false, Bool.not_true, Bool.not_false, beq_self_eq_true, beq_tf, beq_ft, aPick, List.map_cons, List.map_nil, List.nil_append, List.append_nil, List.getElem?_cons_zero, List.getElem?_cons_succ, go_call (P := Tryz.prog) (X := X) (S := S0) Tryz.func21 rfl rfl, hu, aBuiltin, aLen, Tryz.underlying66, cast_nat]
  refine code_block ?_
  rw [show k + 1993 = (k + 1933 - n) + n + 60 from by omega]
  refine EndsC.mono (astext_loop (c := 2 * n) (x := x) hc2 hb2 (by omega) hx (k + 1933 - n) n 0 _ _ μ2 (by omega) (Own.nil _ _) ?_ ?_ ?_ ?_) ?_
  · simp only [regAt_set, Nat.reduceEqDiff, reduceIte]
  · simp only [regAt_set, Nat.reduceEqDiff, reduceIte]
  · simp only [regAt_set, Nat.reduceEqDiff, reduceIte]
  · simp only [regAt_set, Nat.reduceEqDiff, reduceIte]; rfl
  rintro x' r' μ' ⟨rfl, tm', v', rfl, hO, g8⟩
  simp only [blockC, reduceIte, then_normal]
  refine code_seq ?_
  refine code_region ?_ ?_
  · rfl
  simp only [run1, aOne, aP, aR, aA, aT, aCall, aCallVal, aev, regAt_set, aput_mk, aput_none, plainV, aNilCheck, aExtract, aBin, aInt, Addr.add, Nat.zero_add, ends_some, Nat.reduceLT, Nat.reduceAdd, if_true, then_normal, Nat.reduceEqDiff, if_false, reduceIte, reduceCtorEq, decide_true, decide_false, Bool.not_true, Bool.not_false, beq_self_eq_true, beq_tf, beq_ft, aPick, List.map_cons, List.map_nil, List.nil_append, List.append_nil, List.getElem?_cons_zero, List.getElem?_cons_succ, g8]
  refine code_ret ?_
  refine ⟨rfl, _, ?_, v', rfl, ⟨hO.good, hg12.trans hO.grow, fun i hi => ⟨Nat.le_trans hg12.1 (hO.above i hi).1, (hO.above i hi).2⟩⟩⟩
  simp only [aResults, Tryz.results9, aRes, regAt_set, Nat.reduceEqDiff, reduceIte]
end

noncomputable section
variable {X : FuncId → List Value → Mem → Option (Value × Mem)}

theorem bs23 (ρ : Operand → Value) (x : Operand) (hv : one (ρ x) = true) : aBuildSlice Tryz.prog ρ 23 1 #[(0, x)] = some (.cells 1 5 #[ρ x] .e 0 0 false false, fun id => .slice (some ⟨id, 0, none⟩) 1 2) := buildSlice_if Tryz.underlying23 i5 rfl z5 rfl ρ x hv

set_option maxHeartbeats 4000000 in
theorem asoctets_loop {n b c : Nat} {x : Nat → Nat} {μ0 : Mem} (hcell : ∀ k, k < n → cellsAt μ0 b k = some (.int .u64 (.ofNat (x k)))) (hbn : b < μ0.next) (hn : n < 100000) (hx : ∀ t, x t < 2 ^ 8) :
    ∀ (e m j : Nat) (tm : T Value) (v : Value) (μ : Mem), j + m = n → Own 5 μ0 μ v (wl .u8 x j) → regAt tm 8 = v → regAt tm 20 = .slice (some ⟨b, 0, none⟩) n c → regAt tm 21 = .int .i64 (.ofNat n) → regAt tm 22 = .int .i64 (.ofNat j) →
      EndsC (aCode Tryz.prog X S0 (e + m + 60) (.loop (loopBody Tryz.f10 0)) ⟨33, tm, [], none⟩ μ) fun a r μ' => a = .exit 0 ∧ ∃ tm' v', r = ⟨33, tm', [], none⟩ ∧ Own 5 μ0 μ' v' (wl .u8 x n) ∧ regAt tm' 8 = v' := by
  intro e m
  induction m with
  | zero =>
    intro j tm v μ hj hO r8 r20 r21 r22
    obtain rfl : j = n := hj
    refine code_loop ?_
    refine code_seq ?_
    refine code_region ?_ ?_
    · rfl
    simp only [run1, aOne, aP, aR, aA, aT, aCall, aCallVal, aev, regAt_set, aput_mk, aput_none, plainV, aNilCheck, aExtract, aBin, aInt, Addr.add, Nat.zero_add, ends_some, Nat.reduceLT, Nat.reduceAdd, if_true, then_normal, Nat.reduceEqDiff, if_false, reduceIte, reduceCtorEq, decide_true, decide_false, Bool.not_true, Bool.not_false, beq_self_eq_true, beq_tf, beq_ft, aPick, List.map_cons, List.map_nil, List.nil_append, List.append_nil, List.getElem?_cons_zero, List.getElem?_cons_succ, r21, r22, ilt_nat, Nat.lt_irrefl]
    refine code_seq ?_
    refine code_cond_false ?_ ?_
    · simp only [aev, regAt_set, Nat.reduceEqDiff, reduceIte]
    refine code_exit ?_
    simp only [then_exit]
    exact ⟨trivial, _, v, rfl, hO, by simp only [regAt_set, Nat.reduceEqDiff, reduceIte, r8]⟩
  | succ m ih =>
    intro j tm v μ hj hO r8 r20 r21 r22
    have hlt : j < n := by omega
    have hc' : cellsAt μ b j = some (.int .u64 (.ofNat (x j))) := by rw [← hcell j hlt]; unfold cellsAt; rw [hO.grow.2 b hbn]
    have hia : ∀ ρ : Operand → Value, ∀ a b', ρ a = .slice (some ⟨b, 0, none⟩) n c → ρ b' = .int .i64 (.ofNat j) → aIndexAddr Tryz.prog ρ 66 a b' = some (.pointer (some ⟨b, j, none⟩)) := fun ρ a b' g1 g2 => by
      rw [indexAddr_slice (P := Tryz.prog) Tryz.underlying66 iW rfl g1 g2 hlt, Nat.zero_add]
    have a3 : qwrap .i64 (Int.add (.ofNat j) 1) = .ofNat (j + 1) := add_nat j 1 (by omega)
    have qA : qwrap .u8 (.ofNat (x j)) = .ofNat (x j) := qu8 (x j) (hx j)
    obtain ⟨v7, μ7, hap, hO7⟩ := hO.push (st := 23) (x := .int .u8 (.ofNat (x j))) Tryz.underlying23 i5 rfl rfl z5 rfl (by rw [wl_length]; omega) rfl
    have hap : aAppend Tryz.prog ⟨μ.obs.set μ.next (.cells 1 5 #[.int .u8 (.ofNat (x j))] .e 0 0 false false), Nat.add μ.next 1⟩ 23 23 v (.slice (some ⟨μ.next, 0, none⟩) 1 2) = some (v7, μ7) := hap
    rw [← wl_succ] at hO7
    refine code_loop ?_
    refine code_seq ?_
    refine code_region ?_ ?_
    · rfl
    simp only [run1, aOne, aP, aR, aA, aT, aCall, aCallVal, aev, regAt_set, aput_mk, aput_none, plainV, aNilCheck, aExtract, aBin, aInt, Addr.add, Nat.zero_add, ends_some, Nat.reduceLT, Nat.reduceAdd, if_true, then_normal, Nat.reduceEqDiff, if_false, reduceIte, reduceCtorEq, decide_true, decide_false, Bool.not_true, Bool.not_false, beq_self_eq_true, beq_tf, beq_ft, aPick, List.map_cons, List.map_nil, List.nil_append, List.append_nil, List.getElem?_cons_zero, List.getElem?_cons_succ, r21, r22, ilt_nat, hlt]
    refine code_seq ?_
    refine code_cond_true ?_ ?_
    · simp only [aev, regAt_set, Nat.reduceEqDiff, reduceIte]
    refine code_skip ?_
    simp only [then_normal]
    refine code_seq ?_
    refine code_block ?_
    refine code_seq ?_
    refine code_region ?_ ?_
    · rfl
    simp only [run1, aOne, aP, aR, aA, aT, aCall, aCallVal, aev, regAt_set, aput_mk, aput_none, plainV, aNilCheck, aExtract, aBin, aInt, Addr.add, Nat.zero_add, ends_some, Nat.reduceLT, Nat.reduceAdd, if_true, then_normal, Nat.reduceEqDiff, if_false, reduceIte, reduceCtorEq, decide_true, decide_false, Bool.not_true, Bool.not_false, beq_self_eq_true, beq_tf, beq_ft, aPick, List.map_cons, List.map_nil, List.nil_append, List.append_nil, List.getElem?_cons_zero, List.getElem?_cons_succ, r20, r22, hia, ldW, hc']
    refine code_region ?_ ?_
    · rfl
    simp only [run1, aOne, aP, aR, aA, aT, aCall, aCallVal, aev, regAt_set, aput_mk, aput_none, plainV, aNilCheck, aExtract, aBin, aInt, Addr.add, Nat.zero_add, ends_some, Nat.reduceLT, Nat.reduceAdd, if_true, then_normal, Nat.reduceEqDiff, if_false, reduceIte, reduceCtorEq, decide_true, decide_false, Bool.not_true, Bool.not_false, beq_self_eq_true, beq_tf, beq_ft, aPick, List.map_cons, List.map_nil, List.nil_append, List.append_nil, List.getElem?_cons_zero, List.getElem?_cons_succ, r8, cvWb, qA, bs23, one, aBuiltin, hap]
    simp only [blockC, then_normal]
    refine code_region ?_ ?_
    · rfl
    simp only [run1, aOne, aP, aR, aA, aT, aCall, aCallVal, aev, regAt_set, aput_mk, aput_none, plainV, aNilCheck, aExtract, aBin, aInt, Addr.add, Nat.zero_add, ends_some, Nat.reduceLT, Nat.reduceAdd, if_true, then_normal, Nat.reduceEqDiff, if_false, reduceIte, reduceCtorEq, decide_true, decide_false, Bool.not_true, Bool.not_false, beq_self_eq_true, beq_tf, beq_ft, aPick, List.map_cons, List.map_nil, List.nil_append, List.append_nil, List.getElem?_cons_zero, List.getElem?_cons_succ, r22, a3]
    rw [show e + (m + 1) + 59 = e + m + 60 from by omega]
    refine ih (j + 1) _ _ _ (by omega) hO7 ?_ ?_ ?_ ?_ <;> simp only [regAt_set, Nat.reduceEqDiff, reduceIte, r20, r21]

set_option maxHeartbeats 4000000 in
theorem asoctets_no {g sp hp ap wb lb N L q kd pn n : Nat} {ws : Nat → Nat} {p : Pos} {μ : Mem} (hg : 200 ≤ g) (h : SP μ sp hp ap wb lb N L ws p) (hq : q < N) (hw : ws q = headW kd pn n) (h1 : kd < 32) (h2 : pn < 8) (h3 : n < 1000000) (hne : kd ≠ 19) :
    EndsF (aFun Tryz.prog (aCode Tryz.prog X S0 g) 10 [.pointer (some ⟨sp, 0, none⟩), .int .u64 (.ofNat (placeW q))] μ) fun v μ' => v = .tuple #[.slice none 0 0, .bool false] ∧ Grow μ μ' := by
  obtain ⟨k, rfl⟩ := Nat.exists_eq_add_of_le' hg
  obtain ⟨v1, μ1, hf, hv1, hg1⟩ := fields_no (X := X) (g := k + 197) (kd' := 19) (by omega) h.sp0 h.hs.at hq h.hs.ab.N1 hw h1 h2 h3 hne
  subst hv1
  have hf : aFun Tryz.prog (aCode Tryz.prog X S0 (k + 197)) 20 [.pointer (some ⟨sp, 0, none⟩), .int .i64 19, .int .u64 (.ofNat (placeW q))] μ = some (.tuple #[.slice none 0 0, .bool false], μ1) := hf
  refine fun_enter Tryz.func10 rfl rfl (Nat.le_of_ble_eq_true rfl) ?_
  simp only [T.lay, Nat.zero_add, Tryz.ntmps10, Nat.reduceAdd]
  refine code_seq ?_
  refine code_region ?_ ?_
  · rfl
  simp only [run1, aOne, aP, aR, aA, aT, aCall, aCallVal, aev, regAt_set, aput_mk, aput_none, plainV, aNilCheck, aExtract, aBin, aInt, Addr.add, Nat.zero_add, ends_some, Nat.reduceLT, Nat.reduceAdd, if_true, then_normal, Nat.reduceEqDiff, if_false, reduceIte, reduceCtorEq, decide_true, decide_false, Bool.not_true, Bool.not_false, beq_self_eq_true, beq_tf, beq_ft, aPick, List.map_cons, List.map_nil, List.nil_append, List.append_nil, List.getElem?_cons_zero, List.getElem?_cons_succ]
  refine code_seq ?_
  refine code_region ?_ ?_
  · rfl
  simp only [run1, aOne, aP, aR, aA, aT, aCall, aCallVal, aev, regAt_set, aput_mk, aput_none, plainV, aNilCheck, aExtract, aBin, aInt, Addr.add, Nat.zero_add, ends_some, Nat.reduceLT, Nat.reduceAdd, if_true, then_normal, Nat.reduceEqDiff, if_false, reduceIte, reduceCtorEq, decide_true, decide_false, Bool.not_true, Bool.not_false, beq_self_eq_true, beq_tf, beq_ft, aPick, List.map_cons, List.map_nil, List.nil_append, List.append_nil, List.getElem?_cons_zero, List.getElem?_cons_succ, go_call (P := Tryz.prog) (X := X) (S := S0) Tryz.func20 rfl rfl, hf]
  refine code_seq ?_
  refine code_seq ?_
  refine code_region ?_ ?_
  · rfl
  simp only [run1, aOne, aP, aR, aA, aT, aCall, aCallVal, aev, regAt_set, aput_mk, aput_none, plainV, aNilCheck, aExtract, aBin, aInt, Addr.add, Nat.zero_add, ends_some, Nat.reduceLT, Nat.reduceAdd, if_true, then_normal, Nat.reduceEqDiff, if_false, reduceIte, reduceCtorEq, decide_true, decide_false, Bool.not_true, Bool.not_false, beq_self_eq_true, beq_tf, beq_ft, aPick, List.map_cons, List.map_nil, List.nil_append, List.append_nil, List.getElem?_cons_zero, List.getElem?_cons_succ]
  refine code_cond_true ?_ ?_
  · simp only [aev, regAt_set, Nat.reduceEqDiff, reduceIte]
  refine code_seq ?_
  refine code_region ?_ ?_
  · rfl
  simp only [run1, aOne, aP, aR, aA, aT, aCall, aCallVal, aev, regAt_set, aput_mk, aput_none, plainV, aNilCheck, aExtract, aBin, aInt, Addr.add, Nat.zero_add, ends_some, Nat.reduceLT, Nat.reduceAdd, if_true, then_normal, Nat.reduceEqDiff, if_false, reduceIte, reduceCtorEq, decide_true, decide_false, Bool.not_true, Bool.not_false, beq_self_eq_true, beq_tf, beq_ft, aPick, List.map_cons, List.map_nil, List.nil_append, List.append_nil, List.getElem?_cons_zero, List.getElem?_cons_succ]
  refine code_ret ?_
  refine ⟨rfl, _, ?_, rfl, hg1⟩
  simp only [aResults, Tryz.results10, aRes, regAt_set, Nat.reduceEqDiff, reduceIte]

set_option maxHeartbeats 4000000 in
theorem asoctets_ends {g sp hp ap wb lb N L q m n : Nat} {x ws : Nat → Nat} {p : Pos} {μ : Mem} (hg : 2000 ≤ g) (h : SP μ sp hp ap wb lb N L ws p) (hm : m = nw 8 n) (hq : q + m < N) (hw : ws q = headW 19 0 m) (hws : ∀ k, k < m → ws (q + 1 + k) = pf x 8 8 n n k) (hn : n ≤ 800) (hx : ∀ t, x t < 2 ^ 8) :
    EndsF (aFun Tryz.prog (aCode Tryz.prog X S0 g) 10 [.pointer (some ⟨sp, 0, none⟩), .int .u64 (.ofNat (placeW q))] μ) fun v μ' => ∃ v', v = .tuple #[v', .bool true] ∧ Own 5 μ μ' v' (wl .u8 x n) := by
  obtain ⟨k, rfl⟩ := Nat.exists_eq_add_of_le' hg
  have hnw : m ≤ 240 := by
    rw [hm]
    cases n with
    | zero => exact Nat.le_of_ble_eq_true rfl
    | succ n => rw [nw_succ 8 (by decide)]; omega
  obtain ⟨v1, μ1, hf, oi, hv1, hg1, ho1, ho2, hc1⟩ := fields_yes (X := X) (g := k + 1997) (kd := 19) (by omega) h.sp0 h.spn h.hs.at hq h.hs.ab.N1 hw (by decide) hnw
  subst hv1
  have hf : aFun Tryz.prog (aCode Tryz.prog X S0 (k + 1997)) 20 [.pointer (some ⟨sp, 0, none⟩), .int .i64 19, .int .u64 (.ofNat (placeW q))] μ = some (.tuple #[.slice (some ⟨oi, 0, none⟩) m (2 * m), .bool true], μ1) := hf
  obtain ⟨v2, μ2, hu, b, hv2, hg2, hb1, hb2, hB2, hc2⟩ := unpacked_ends (X := X) (g := k + 1993) (co := 2 * m) (each := 8) (wide := 8) (x := x) (n := n) (by omega) (fun k hk => by rw [hc1 k hk, hws k hk]) hm ho2 (by omega) (by decide) (by decide) (by decide) hx
  subst hv2
  have hu : aFun Tryz.prog (aCode Tryz.prog X S0 (k + 1993)) 21 [.slice (some ⟨oi, 0, none⟩) m (2 * m), .int .i64 8, .int .i64 8] μ1 = some (.slice (some ⟨b, 0, none⟩) n (2 * n), μ2) := hu
  have hg12 := hg1.trans hg2
  refine fun_enter Tryz.func10 rfl rfl (Nat.le_of_ble_eq_true rfl) ?_
  simp only [T.lay, Nat.zero_add, Tryz.ntmps10, Nat.reduceAdd]
  refine code_seq ?_
  refine code_region ?_ ?_
  · rfl
  simp only [run1, aOne, aP, aR, aA, aT, aCall, aCallVal, aev, regAt_set, aput_mk, aput_none, plainV, aNilCheck, aExtract, aBin, aInt, Addr.add, Nat.zero_add, ends_some, Nat.reduceLT, Nat.reduceAdd, if_true, then_normal, Nat.reduceEqDiff, if_false, reduceIte, reduceCtorEq, decide_true, decide_false, Bool.not_true, Bool.not_false, beq_self_eq_true, beq_tf, beq_ft, aPick, List.map_cons, List.map_nil, List.nil_append, List.append_nil, List.getElem?_cons_zero, List.getElem?_cons_succ]
  refine code_seq ?_
  refine code_region ?_ ?_
  · rfl
  simp only [run1, aOne, aP, aR, aA, aT, aCall, aCallVal, aev, regAt_set, aput_mk, aput_none, plainV, aNilCheck, aExtract, aBin, aInt, Addr.add, Nat.zero_add, ends_some, Nat.reduceLT, Nat.reduceAdd, if_true, then_normal, Nat.reduceEqDiff, if_false, reduceIte, reduceCtorEq, decide_true, decide_false, Bool.not_true, Bool.not_false, beq_self_eq_true, beq_tf, beq_ft, aPick, List.map_cons, List.map_nil, List.nil_append, List.append_nil, List.getElem?_cons_zero, List.getElem?_cons_succ, go_call (P := Tryz.prog) (X := X) (S := S0) Tryz.func20 rfl rfl, hf]
  refine code_seq ?_
  refine code_seq ?_
  refine code_region ?_ ?_
  · rfl
  simp only [run1, aOne, aP, aR, aA, aT, aCall, aCallVal, aev, regAt_set, aput_mk, aput_none, plainV, aNilCheck, aExtract, aBin, aInt, Addr.add, Nat.zero_add, ends_some, Nat.reduceLT, Nat.reduceAdd, if_true, then_normal, Nat.reduceEqDiff, if_false, reduceIte, reduceCtorEq, decide_true, decide_false, Bool.not_true, Bool.not_false, beq_self_eq_true, beq_tf, beq_ft, aPick, List.map_cons, List.map_nil, List.nil_append, List.append_nil, List.getElem?_cons_zero, List.getElem?_cons_succ]
  refine code_cond_false ?_ ?_
  · simp only [aev, regAt_set, Nat.reduceEqDiff, reduceIte]
  refine code_skip ?_
  simp only [then_normal]
  refine code_seq ?_
  refine code_region ?_ ?_
  · rfl
  simp only [run1, aOne, aP, aR, aA, aT, aCall, aCallVal, aev, regAt_set, aput_mk, aput_none, plainV, aNilCheck, aExtract, aBin, aInt, Addr.add, Nat.zero_add, ends_some, Nat.reduceLT, Nat.reduceAdd, if_true, then_normal, Nat.reduceEqDiff, if_false, reduceIte, reduceCtorEq, decide_true, decide_false, Bool.not_true, Bool.not_false, beq_self_eq_true, beq_tf, beq_ft, aPick, List.map_cons, List.map_nil, List.nil_append, List.append_nil, List.getElem?_cons_zero, List.getElem?_cons_succ]
  refine code_seq ?_
  refine code_seq ?_
  refine code_region ?_ ?_
  · rfl
  simp only [run1, aOne, aP, aR, aA, aT, aCall, aCallVal, aev, regAt_set, aput_mk, aput_none, plainV, aNilCheck, aExtract, aBin, aInt, Addr.add, Nat.zero_add, ends_some, Nat.reduceLT, Nat.reduceAdd, if_true, then_normal, Nat.reduceEqDiff, if_false, reduceIte, reduceCtorEq, decide_true, decide_false, Bool.not_true, Bool.not_false, beq_self_eq_true, beq_tf, beq_ft, aPick, List.map_cons, List.map_nil, List.nil_append, List.append_nil, List.getElem?_cons_zero, List.getElem?_cons_succ, go_call (P := Tryz.prog) (X := X) (S := S0) Tryz.func21 rfl rfl, hu, aBuiltin, aLen, Tryz.underlying66, cast_nat]
  refine code_block ?_
  rw [show k + 1993 = (k + 1933 - n) + n + 60 from by omega]
  refine EndsC.mono (asoctets_loop (c := 2 * n) (x := x) hc2 hb2 (by omega) hx (k + 1933 - n) n 0 _ _ μ2 (by omega) (Own.nil _ _) ?_ ?_ ?_ ?_) ?_
  · simp only [regAt_set, Nat.reduceEqDiff, reduceIte]
  · simp only [regAt_set, Nat.reduceEqDiff, reduceIte]
  · simp only [regAt_set, Nat.reduceEqDiff, reduceIte]
  · simp only [regAt_set, Nat.reduceEqDiff, reduceIte]; rfl
  rintro x' r' μ' ⟨rfl, tm', v', rfl, hO, g8⟩
  simp only [blockC, reduceIte, then_normal]
  refine code_seq ?_
  refine code_region ?_ ?_
  · rfl
  simp only [run1, aOne, aP, aR, aA, aT, aCall, aCallVal, aev, regAt_set, aput_mk, aput_none, plainV, aNilCheck, aExtract, aBin, aInt, Addr.add, Nat.zero_add, ends_some, Nat.reduceLT, Nat.reduceAdd, if_true, then_normal, Nat.reduceEqDiff, if_false, reduceIte, reduceCtorEq, decide_true, decide_false, Bool.not_true, Bool.not_false, beq_self_eq_true, beq_tf, beq_ft, aPick, List.map_cons, List.map_nil, List.nil_append, List.append_nil, List.getElem?_cons_zero, List.getElem?_cons_succ, g8]
  refine code_ret ?_
  refine ⟨rfl, _, ?_, v', rfl, ⟨hO.good, hg12.trans hO.grow, fun i hi => ⟨Nat.le_trans hg12.1 (hO.above i hi).1, (hO.above i hi).2⟩⟩⟩
  simp only [aResults, Tryz.results10, aRes, regAt_set, Nat.reduceEqDiff, reduceIte]
end
end Go.Proofs.YtifoiijkaehpaaaGreatDoor.vt
