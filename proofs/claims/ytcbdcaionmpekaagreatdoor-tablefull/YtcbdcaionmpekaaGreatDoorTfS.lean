/-
  distafflaw19.TableFull, part S: its walk and its law. No conditions.
-/
import Derived.Test.YtcbdcaionmpekaaGreatDoorTfR
set_option linter.unusedSimpArgs false
set_option linter.unusedVariables false
namespace Go.Proofs.YtcbdcaionmpekaaGreatDoor.tf
open Go Go.Proofs Go.Proofs.YtcbdcaionmpekaaGreatDoor.Ev
noncomputable section
variable {X : FuncId → List Value → Mem → Option (Value × Mem)}
def lev (room : Nat) : Nat := if room = 8 then 0 else if room = 16 then 1 else if room = 32 then 2 else if room = 64 then 3 else 4
theorem lev_le (room : Nat) : lev room ≤ 4 := by unfold lev; repeat' split
                                                 all_goals decide
theorem RP.lev {room places : Nat} (h : RP room places) (hr : room < 100) : lev (nR room) = lev room + 1 := by
 rcases h with ⟨rfl, rfl⟩ | ⟨rfl, rfl⟩ | ⟨rfl, rfl⟩ | ⟨rfl, rfl⟩ | ⟨rfl, rfl⟩
 ·rfl
 ·rfl
 ·rfl
 ·rfl
 ·omega
structure Pt (μ : Mem) (sp hp ap wb lb s tq : Nat) (fr : Int) (i : Nat) (ws : Nat → Nat) (p : Pos) (b e ix room places : Nat) (I : Nat → Int) (K : Nat → Option Int) (V : Nat → Nat) : Prop where
 ts : TS μ sp hp ap wb lb ws p b s tq i i e ix room places I K V
 dic : ∀ m v, Dic i K V m v ↔ ∃ j : Nat, j < i ∧ m = fr + (j : Int) ∧ v = sw (j : Int)
 lv : 198 ≤ b + 2 * lev room
 b2 : b ≤ 200
set_option maxHeartbeats 4000000 in
theorem Pt.put {μ μ1 : Mem} {sp hp ap wb lb s tq g i b e ix room places : Nat} {fr : Int} {d : Value} {ws : Nat → Nat} {p : Pos} {I : Nat → Int} {K : Nat → Option Int} {V : Nat → Nat} (hg : 7000 ≤ g) (h : Pt μ sp hp ap wb lb s tq fr i ws p b e ix room places I K V) (hfr : -100000 ≤ fr ∧ fr ≤ 100000) (hi : i < 100) (g1 : Grow μ μ1) (hd : DatW μ1 d (fr + (i : Int))) :
  ∃ μ2, aFun Tryz.prog (aCode Tryz.prog X S0 g) 7 [.pointer (some ⟨sp, 0, none⟩), .int .u64 (.ofNat (placeW tq)), d, .int .i64 (.ofNat i)] μ1 = some (.bool true, μ2) ∧ Keeps μ μ2 ap wb lb ∧
   ∃ ws' p' b' e' ix' room' places' I' K' V', Pt μ2 sp hp ap wb lb s tq fr (i + 1) ws' p' b' e' ix' room' places' I' K' V' := by
 have hle := lev_le room
 have hlv := h.lv
 obtain ⟨v2, μ2, t2, rfl, k2, ws', p', b', used', e', ix', room', places', I', K', V', hx⟩ := putn_ends (X := X) (g := g) (n := fr + (i : Int)) (x := .ofNat i) hg (h.ts.grow g1) hd (by unfold Sm; omega) (by unfold Sm; show _ ≤ (i : Int) ∧ (i : Int) < _; omega) (fun j m hj hK e => by
  obtain ⟨j', h1, h2, _⟩ := (h.dic m (V j)).1 ⟨j, hj, hK, rfl⟩
  omega) hi (by omega) h.b2
 have hrb := h.ts.rp.b
 have hu : used' = i + 1 := by
  rcases hx.gr with ⟨_, _, _, hu⟩ | ⟨_, _, _, hu, _⟩
  ·exact hu
  ·exact hu
 subst hu
 refine ⟨μ2, t2, (Keeps.grow g1).trans k2, ws', p', b', e', ix', room', places', I', K', V', hx.ts, fun m v => (hx.dic m v).trans ?_, ?_, ?_⟩
 ·rw [h.dic m v]
  constructor
  ·rintro (⟨rfl, rfl⟩ | ⟨j, h1, h2, h3⟩)
   ·exact ⟨i, Nat.lt_succ_self _, rfl, rfl⟩
   ·exact ⟨j, by omega, h2, h3⟩
  ·rintro ⟨j, h1, h2, h3⟩
   by_cases e : j = i
   ·subst e; exact .inl ⟨h2, h3⟩
   ·exact .inr ⟨j, by omega, h2, h3⟩
 ·rcases hx.gr with ⟨_, h1, h2, _⟩ | ⟨h1, h2, _, _, h4⟩
  ·rw [h1, h2]; exact hlv
  ·rw [h4 (by omega), h.ts.rp.lev (by omega)]; omega
 ·have := h.b2
  rcases hx.gr with ⟨_, _, h2, _⟩ | ⟨_, _, h2, _, _⟩ <;> omega
set_option maxRecDepth 20000 in
set_option maxHeartbeats 16000000 in
theorem put_loop {sp hp ap wb lb s tq : Nat} {fr : Int} {v0 : Value} {μ0 : Mem} (hfr : -100000 ≤ fr ∧ fr ≤ 100000) :
  ∀ (m x i : Nat) (tm : T Value) (μ : Mem) (ws : Nat → Nat) (p : Pos) (b e ix room places : Nat) (I : Nat → Int) (K : Nat → Option Int) (V : Nat → Nat), i + m = 100 → Pt μ sp hp ap wb lb s tq fr i ws p b e ix room places I K V → Keeps μ0 μ ap wb lb →
   regAt tm 0 = v0 → regAt tm 1 = .int .i64 fr → regAt tm 5 = .pointer (some ⟨sp, 0, none⟩) → regAt tm 6 = .int .u64 (.ofNat (placeW tq)) → regAt tm 8 = .int .i64 (.ofNat i) →
   EndsC (aCode Tryz.prog X S0 (x + m + 8000) (.loop (loopBody Tryz.f3 0)) ⟨177, tm, [], none⟩ μ) fun a r μ' => a = .exit 0 ∧ (∃ tm', r = ⟨177, tm', [], none⟩ ∧ regAt tm' 0 = v0 ∧ regAt tm' 1 = .int .i64 fr ∧ regAt tm' 5 = .pointer (some ⟨sp, 0, none⟩) ∧ regAt tm' 6 = .int .u64 (.ofNat (placeW tq))) ∧ Keeps μ0 μ' ap wb lb ∧
    ∃ ws' p' b' e' ix' room' places' I' K' V', Pt μ' sp hp ap wb lb s tq fr 100 ws' p' b' e' ix' room' places' I' K' V' := by
 intro m
 induction m with
 | zero =>
   intro x i tm μ ws p b e ix room places I K V hi P KP r0 r1 r5 r6 r8
   obtain rfl : i = 100 := hi
   have e1 : ilt (.ofNat 100) 100 = false := rfl
   refine code_loop ?_
   repeat (first | refine code_seq ?_ | ((first | (refine code_region ?_ ?_; (focus rfl)) | (refine code_guards (gs := ?_) ?_ ?_; rotate_left; (focus rfl))); simp only [run1, run2, wanted, go_sem, Nat.reduceLT, Nat.reduceAdd, Nat.reduceEqDiff, reduceIte, reduceCtorEq, r8, e1]) | (refine code_cond_true ?_ ?_; (focus (simp only [aev, regAt_set, Nat.reduceEqDiff, reduceIte, r8, e1]; done))) | (refine code_cond_false ?_ ?_; (focus (simp only [aev, regAt_set, Nat.reduceEqDiff, reduceIte, r8, e1]; done))) | ((first | refine code_skip ?_ | refine code_label ?_ | refine code_exit ?_); try simp only [then_exit, then_normal, blockC, Nat.reduceEqDiff, reduceIte]) | refine code_block ?_)
   refine ⟨trivial, ⟨_, rfl, ?_, ?_, ?_, ?_⟩, KP, ws, p, b, e, ix, room, places, I, K, V, P⟩ <;> simp only [regAt_set, Nat.reduceEqDiff, reduceIte, r0, r1, r5, r6]
 | succ m ih =>
   intro x i tm μ ws p b e ix room places I K V hi P KP r0 r1 r5 r6 r8
   have e1 : ilt (.ofNat i) 100 = true := (ilt_nat i 100).trans (decide_eq_true (by omega))
   have e2 : qwrap .i64 (Int.add fr (.ofNat i)) = fr + (i : Int) := wrap_i64 _ (by show _ ≤ fr + (i : Int); omega) (by show fr + (i : Int) < _; omega)
   have e5 : qwrap .i64 (Int.add (.ofNat i) 1) = .ofNat (i + 1) := add_nat i 1 (by omega)
   obtain ⟨d, μ1, t1, g1, hd⟩ := rnum_ends (X := X) (g := x + m + 7995) (n := fr + (i : Int)) (μ := μ) (by omega) (by unfold Sm; omega)
   obtain ⟨μ2, t2, k2, ws', p', b', e', ix', room', places', I', K', V', P'⟩ := P.put (X := X) (g := x + m + 7995) (d := d) (by omega) hfr (by omega) g1 hd
   obtain ⟨n, hn⟩ : ∃ n, n = fr + (i : Int) := ⟨_, rfl⟩
   rw [← hn] at e2 t1
   refine code_loop ?_
   rw [show x + (m + 1) + 7999 = x + m + 8000 from by omega]
   repeat (first | refine code_seq ?_ | ((first | (refine code_region ?_ ?_; (focus rfl)) | (refine code_guards (gs := ?_) ?_ ?_; rotate_left; (focus rfl))); simp only [run1, run2, wanted, go_sem, Nat.reduceLT, Nat.reduceAdd, Nat.reduceEqDiff, reduceIte, reduceCtorEq, r8, e1, r5, r6, r1, e2, gg8, t1, gg7, t2, e5]) | (refine code_cond_true ?_ ?_; (focus (simp only [aev, regAt_set, Nat.reduceEqDiff, reduceIte, r8, e1, r5, r6, r1, e2, gg8, t1, gg7, t2, e5]; done))) | (refine code_cond_false ?_ ?_; (focus (simp only [aev, regAt_set, Nat.reduceEqDiff, reduceIte, r8, e1, r5, r6, r1, e2, gg8, t1, gg7, t2, e5]; done))) | ((first | refine code_skip ?_ | refine code_label ?_ | refine code_exit ?_); try simp only [then_exit, then_normal, blockC, Nat.reduceEqDiff, reduceIte]) | refine code_block ?_)
   refine ih x (i + 1) _ μ2 ws' p' b' e' ix' room' places' I' K' V' (by omega) P' (KP.trans k2) ?_ ?_ ?_ ?_ ?_ <;> simp only [regAt_set, Nat.reduceEqDiff, reduceIte, r0, r1, r5, r6]
end
noncomputable section
variable {X : FuncId → List Value → Mem → Option (Value × Mem)}
theorem TS.putL {μ : Mem} {sp hp ap wb lb b s tq cnt used e ix room places lf o : Nat} {vs : List Value} {ws : Nat → Nat} {p : Pos} {I : Nat → Int} {K : Nat → Option Int} {V : Nat → Nat} (h : TS μ sp hp ap wb lb ws p b s tq cnt used e ix room places I K V)
  (hne : sp ≠ lf ∧ hp ≠ lf ∧ ap ≠ lf ∧ wb ≠ lf ∧ lb ≠ lf ∧ 5 ≠ lf) : TS (putL μ lf o vs) sp hp ap wb lb ws p b s tq cnt used e ix room places I K V :=
 ⟨h.hs.at_ (by rw [putL_next]; exact Nat.le_refl _) (putL_get _ _ _ _ hne.1) (putL_get _ _ _ _ hne.2.1) (putL_get _ _ _ _ hne.2.2.1) (putL_get _ _ _ _ hne.2.2.2.1) (putL_get _ _ _ _ hne.2.2.2.2.1),
  ⟨by rw [putL_next]; exact h.rom.lt, fun k hk => by rw [← h.rom.at_ k hk]; unfold cellsAt; rw [putL_get _ _ _ _ hne.2.2.2.2.2]⟩, h.gp, h.tw, h.tl, h.td, h.nf, h.ck, h.rp, h.r5⟩
structure Dt (μ : Mem) (sp hp ap wb lb s tq lf : Nat) (fr : Int) (D : Nat → Bool) (c : Nat) (ws : Nat → Nat) (p : Pos) (b e ix room places : Nat) (I : Nat → Int) (K : Nat → Option Int) (V : Nat → Nat) : Prop where
 ts : TS μ sp hp ap wb lb ws p b s tq (100 - c) 100 e ix room places I K V
 dic : ∀ m v, Dic 100 K V m v ↔ ∃ j : Nat, j < 100 ∧ D j = false ∧ m = fr + (j : Int) ∧ v = sw (j : Int)
 c1 : c ≤ 100
 blk : Blk μ lf 100 46
 lc : ∀ j, j < 100 → cellsAt μ lf j = some (.bool (D j))
 ne : sp ≠ lf ∧ hp ≠ lf ∧ ap ≠ lf ∧ wb ≠ lf ∧ lb ≠ lf ∧ 5 ≠ lf
 ln : lf < μ.next
theorem upd_same {α : Type} (f : Nat → α) (q : Nat) : upd f q (f q) = f := by
 funext k
 unfold upd
 by_cases h : k = q
 ·rw [if_pos h, h]
 ·rw [if_neg h]
theorem Dt.grow {μ μ' : Mem} {sp hp ap wb lb s tq lf c b e ix room places : Nat} {fr : Int} {D : Nat → Bool} {ws : Nat → Nat} {p : Pos} {I : Nat → Int} {K : Nat → Option Int} {V : Nat → Nat} (h : Dt μ sp hp ap wb lb s tq lf fr D c ws p b e ix room places I K V) (g : Grow μ μ') : Dt μ' sp hp ap wb lb s tq lf fr D c ws p b e ix room places I K V :=
 ⟨h.ts.grow g, h.dic, h.c1, h.blk.of_get (g.2 _ h.ln), fun j hj => by rw [gcell g h.ln]; exact h.lc j hj, h.ne, Nat.lt_of_lt_of_le h.ln g.1⟩
set_option maxHeartbeats 4000000 in
theorem Dt.del {μ : Mem} {sp hp ap wb lb s tq lf c g j b e ix room places : Nat} {fr : Int} {D : Nat → Bool} {ws : Nat → Nat} {p : Pos} {I : Nat → Int} {K : Nat → Option Int} {V : Nat → Nat} (hg : 3000 ≤ g) (h : Dt μ sp hp ap wb lb s tq lf fr D c ws p b e ix room places I K V) (hfr : -100000 ≤ fr ∧ fr ≤ 100000) (hj : j < 100) :
  ∃ μ2, aFun Tryz.prog (aCode Tryz.prog X S0 g) 13 [.pointer (some ⟨sp, 0, none⟩), .int .u64 (.ofNat (placeW tq)), .int .u64 (.ofNat (sw (fr + (j : Int))))] μ = some (.tuple #[.bool (!(D j)), .int .i64 0], μ2) ∧ Keeps μ μ2 ap wb lb ∧
   cellsAt μ2 lf j = some (.bool (D j)) ∧ Blk μ2 lf 100 46 ∧ (D j = false → c < 100) ∧ ∃ ws' K', Dt (putL μ2 lf j [.bool true]) sp hp ap wb lb s tq lf fr (upd D j true) (if D j then c else c + 1) ws' p b e ix room places I K' V := by
 have hsm : Sm (fr + (j : Int)) := by unfold Sm; omega
 have fin : ∀ μ2 ws' K', Keeps μ μ2 ap wb lb → TS μ2 sp hp ap wb lb ws' p b s tq (100 - (if D j then c else c + 1)) 100 e ix room places I K' V → (∀ m v, Dic 100 K' V m v ↔ ∃ i : Nat, i < 100 ∧ upd D j true i = false ∧ m = fr + (i : Int) ∧ v = sw (i : Int)) → (if D j then c else c + 1) ≤ 100 →
   cellsAt μ2 lf j = some (.bool (D j)) ∧ Blk μ2 lf 100 46 ∧ Dt (putL μ2 lf j [.bool true]) sp hp ap wb lb s tq lf fr (upd D j true) (if D j then c else c + 1) ws' p b e ix room places I K' V := by
  intro μ2 ws' K' kp ts dic hc
  have hget := kp.2 lf h.ln (Ne.symm h.ne.2.2.1) (Ne.symm h.ne.2.2.2.1) (Ne.symm h.ne.2.2.2.2.1)
  have hblk := h.blk.of_get hget
  have hlc : ∀ i, i < 100 → cellsAt μ2 lf i = some (.bool (D i)) := fun i hi => by rw [← h.lc i hi]; unfold cellsAt; rw [hget]
  refine ⟨hlc j hj, hblk, ts.putL h.ne, dic, hc, Blk.put (i := lf) _ _ hblk, fun i hi => ?_, h.ne, by rw [putL_next]; exact Nat.lt_of_lt_of_le h.ln kp.1⟩
  rw [cells_put hblk (by simp; omega)]
  unfold upd
  by_cases hij : i = j
  ·subst hij
   rw [dif_pos ⟨rfl, Nat.le_refl _, by simp⟩, if_pos rfl]
   simp
  ·rw [dif_neg (by simp; omega), if_neg hij]
   exact hlc i hi
 obtain ⟨v, μ2, t, hv⟩ := del_ends (X := X) (g := g) hg h.ts (.inl ⟨fr + (j : Int), hsm, rfl, rfl⟩)
 have hmem : D j = false → ∃ i, i < 100 ∧ K i = some (fr + (j : Int)) := fun hD => by
  obtain ⟨i, h1, h2, _⟩ := (h.dic (fr + (j : Int)) (sw (j : Int))).2 ⟨j, hj, hD, rfl, rfl⟩
  exact ⟨i, h1, h2⟩
 rcases hv with ⟨j', n, ws', hj', hK, hw, rfl, kp, hc0, ts⟩ | ⟨hno, rfl, g2⟩
 ·have hn : fr + (j : Int) = n := sw_inj hsm (h.ts.tl.ksm j' n hj' hK) hw
  subst hn
  have hD : D j = false := by
   obtain ⟨i, h1, h2, h3, h4⟩ := (h.dic _ (V j')).1 ⟨j', hj', hK, rfl⟩
   obtain rfl : j = i := by omega
   exact h2
  have hc' : (if D j then c else c + 1) = c + 1 := by rw [hD]; rfl
  obtain ⟨f1, f2, f3⟩ := fin μ2 ws' (upd K j' none) kp (by rw [hc', show 100 - (c + 1) = 100 - c - 1 from by omega]; exact ts) (fun m v => by
   constructor
   ·rintro ⟨i, h1, h2, h3⟩
    have hij : i ≠ j' := fun e => by rw [e, upd_at] at h2; cases h2
    rw [upd_off _ _ hij] at h2
    obtain ⟨i', a1, a2, a3, a4⟩ := (h.dic m v).1 ⟨i, h1, h2, h3⟩
    refine ⟨i', a1, ?_, a3, a4⟩
    have : i' ≠ j := fun e => by
     subst e
     rw [a3] at h2
     exact hij (h.ts.td.uniq i j' _ h1 hj' h2 hK)
    rw [upd_off _ _ this]; exact a2
   ·rintro ⟨i', a1, a2, a3, a4⟩
    have hne : i' ≠ j := fun e => by rw [e, upd_at] at a2; cases a2
    rw [upd_off _ _ hne] at a2
    obtain ⟨i, h1, h2, h3⟩ := (h.dic m v).2 ⟨i', a1, a2, a3, a4⟩
    refine ⟨i, h1, ?_, h3⟩
    have : i ≠ j' := fun e => by
     rw [e, hK] at h2
     cases h2
     omega
    rw [upd_off _ _ this]; exact h2) (by rw [hc']; omega)
  exact ⟨μ2, by rw [hD]; exact t, kp, f1, f2, fun _ => by omega, ws', _, f3⟩
 ·have hD : D j = true := by
   cases hD : D j with
   | true => rfl
   | false =>
     obtain ⟨i, h1, h2⟩ := hmem hD
     exact absurd rfl (hno i _ h1 h2)
  have hc' : (if D j then c else c + 1) = c := by rw [hD]; rfl
  obtain ⟨f1, f2, f3⟩ := fin μ2 ws K (Keeps.grow g2) (by rw [hc']; exact h.ts.grow g2) (fun m v => by rw [show upd D j true = D from by rw [← hD]; exact upd_same D j]; exact h.dic m v) (by rw [hc']; exact h.c1)
  exact ⟨μ2, by rw [hD]; exact t, Keeps.grow g2, f1, f2, (fun e => by rw [hD] at e; cases e), ws, K, f3⟩
end
noncomputable section
variable {X : FuncId → List Value → Mem → Option (Value × Mem)}
theorem idx46 {ρ : Operand → Value} {x y : Operand} {lf j : Nat} (hx : ρ x = .pointer (some ⟨lf, 0, none⟩)) (hy : ρ y = .int .i64 (.ofNat j)) (hj : j < 100) : aIndexAddr Tryz.prog ρ 46 x y = some (.pointer (some ⟨lf, j, none⟩)) := by
 unfold aIndexAddr
 simp only [hx, hy, Tryz.underlying46, aIdx, j4]
 rw [show Nat.blt j 100 = true from by simpa using hj]
 show some (Value.pointer (some (Addr.add ⟨lf, 0, none⟩ (Nat.mul j 1)))) = _
 simp only [Addr.add, Nat.mul_eq, Nat.mul_one, Nat.zero_add]
 by_cases h0 : j = 0
 ·subst h0; rfl
 ·rw [if_neg h0]
theorem plain_eqb {r : Rg} {d : Option Tmp} {ty : TypeId} {x y : Operand} {ps : String} {af : Array Edge} {gd : Option (Nat × Bool)} {a b : Bool} (hx : aev Tryz.prog r x = .bool a) (hy : aev Tryz.prog r y = .bool b) : aPlain Tryz.prog (aev Tryz.prog r) ⟨d, .binOp .eql 4 x y 4, ty, ps, af, gd⟩ = some (.bool (a == b)) := by
 unfold aPlain
 simp only [opsOf, plains, hx, hy, plainV, execOp]
 show (_ : Option Value) = _
 kernel_rfl
def Kp (μ μ' : Mem) (ap wb lb lf : Nat) : Prop := μ.next ≤ μ'.next ∧ ∀ i, i < μ.next → i ≠ ap → i ≠ wb → i ≠ lb → i ≠ lf → μ'.obs.get i = μ.obs.get i
theorem Kp.trans {a b c : Mem} {ap wb lb lf : Nat} (h : Kp a b ap wb lb lf) (g : Kp b c ap wb lb lf) : Kp a c ap wb lb lf := ⟨Nat.le_trans h.1 g.1, fun i hi h1 h2 h3 h4 => (g.2 i (Nat.lt_of_lt_of_le hi h.1) h1 h2 h3 h4).trans (h.2 i hi h1 h2 h3 h4)⟩
theorem Kp.keeps {a b : Mem} {ap wb lb lf : Nat} (h : Keeps a b ap wb lb) : Kp a b ap wb lb lf := ⟨h.1, fun i hi h1 h2 h3 _ => h.2 i hi h1 h2 h3⟩
theorem Kp.put (a : Mem) (ap wb lb lf o : Nat) (vs : List Value) : Kp a (putL a lf o vs) ap wb lb lf := ⟨by rw [putL_next]; exact Nat.le_refl _, fun i _ _ _ _ h => putL_get _ _ _ _ h⟩
set_option maxRecDepth 20000 in
set_option maxHeartbeats 16000000 in
theorem gone_loop {sp hp ap wb lb s tq lf n ca gi go b e ix room places : Nat} {ad : Option Addr} {gv : Nat → Int} {fr : Int} {p : Pos} {I : Nat → Int} {V : Nat → Nat} {μ0 : Mem} (hfr : -100000 ≤ fr ∧ fr ≤ 100000) (hn : n ≤ 60)
  (hgo : ∀ k, k < n → ad = some ⟨gi, go, none⟩ ∧ cellsAt μ0 gi (go + k) = some (.int .i64 (gv k))) (hgi : gi < μ0.next) (hg1 : gi ≠ ap ∧ gi ≠ wb ∧ gi ≠ lb ∧ gi ≠ lf) :
  ∀ (m x i : Nat) (tm : T Value) (μ : Mem) (D : Nat → Bool) (c : Nat) (ws : Nat → Nat) (K : Nat → Option Int), i + m = n → Dt μ sp hp ap wb lb s tq lf fr D c ws p b e ix room places I K V → Kp μ0 μ ap wb lb lf →
   regAt tm 1 = .int .i64 fr → regAt tm 5 = .pointer (some ⟨sp, 0, none⟩) → regAt tm 6 = .int .u64 (.ofNat (placeW tq)) → regAt tm 13 = .pointer (some ⟨lf, 0, none⟩) → regAt tm 14 = .int .i64 (.ofNat c) → regAt tm 81 = .slice ad n ca → regAt tm 82 = .int .i64 (.ofNat n) → regAt tm 83 = .int .i64 (.ofNat i) →
   EndsC (aCode Tryz.prog X S0 (x + m + 8000) (.loop (loopBody Tryz.f3 1)) ⟨177, tm, [], none⟩ μ) fun a r μ' => a = .exit 2 ∧ Kp μ0 μ' ap wb lb lf ∧ ∃ tm' D' c' ws' K', r = ⟨177, tm', [], none⟩ ∧ Dt μ' sp hp ap wb lb s tq lf fr D' c' ws' p b e ix room places I K' V ∧
    regAt tm' 1 = .int .i64 fr ∧ regAt tm' 5 = .pointer (some ⟨sp, 0, none⟩) ∧ regAt tm' 6 = .int .u64 (.ofNat (placeW tq)) ∧ regAt tm' 13 = .pointer (some ⟨lf, 0, none⟩) ∧ regAt tm' 14 = .int .i64 (.ofNat c') := by
 intro m
 induction m with
 | zero =>
   intro x i tm μ D c ws K hi P KP r1 r5 r6 r13 r14 r81 r82 r83
   obtain rfl : i = n := hi
   have e1 : ilt (.ofNat i) (.ofNat i) = false := (ilt_nat i i).trans (decide_eq_false (by omega))
   refine code_loop ?_
   repeat (first | refine code_seq ?_ | ((first | (refine code_region ?_ ?_; (focus rfl)) | (refine code_guards (gs := ?_) ?_ ?_; rotate_left; (focus rfl))); simp only [run1, run2, wanted, go_sem, Nat.reduceLT, Nat.reduceAdd, Nat.reduceEqDiff, reduceIte, reduceCtorEq, r82, r83, e1]) | (refine code_cond_true ?_ ?_; (focus (simp only [aev, regAt_set, Nat.reduceEqDiff, reduceIte, r82, r83, e1]; done))) | (refine code_cond_false ?_ ?_; (focus (simp only [aev, regAt_set, Nat.reduceEqDiff, reduceIte, r82, r83, e1]; done))) | ((first | refine code_skip ?_ | refine code_label ?_ | refine code_exit ?_); try simp only [then_exit, then_normal, blockC, Nat.reduceEqDiff, reduceIte]) | refine code_block ?_)
   refine ⟨trivial, KP, _, D, c, ws, K, rfl, P, ?_, ?_, ?_, ?_, ?_⟩ <;> simp only [regAt_set, Nat.reduceEqDiff, reduceIte, r1, r5, r6, r13, r14]
 | succ m ih =>
   intro x i tm μ D c ws K hi P KP r1 r5 r6 r13 r14 r81 r82 r83
   have e1 : ilt (.ofNat i) (.ofNat n) = true := (ilt_nat i n).trans (decide_eq_true (by omega))
   have e9 : qwrap .i64 (Int.add (.ofNat i) 1) = .ofNat (i + 1) := add_nat i 1 (by omega)
   obtain ⟨rfl, hgc⟩ := hgo i (by omega)
   have hgc : cellsAt μ gi (go + i) = some (.int .i64 (gv i)) := by rw [← hgc]; unfold cellsAt; rw [KP.2 gi hgi hg1.1 hg1.2.1 hg1.2.2.1 hg1.2.2.2]
   have hix : ∀ (ρ : Operand → Value) (a b : Operand), ρ a = .slice (some ⟨gi, go, none⟩) n ca → ρ b = .int .i64 (.ofNat i) → aIndexAddr Tryz.prog ρ 22 a b = some (.pointer (some ⟨gi, go + i, none⟩)) := fun ρ a b h1 h2 => indexAddr_slice (m := i) Tryz.underlying22 i3 rfl h1 h2 (by omega)
   obtain ⟨y, hy⟩ : ∃ y, y = gv i := ⟨_, rfl⟩
   rw [← hy] at hgc
   refine code_loop ?_
   rw [show x + (m + 1) + 7999 = x + m + 8000 from by omega]
   by_cases h0 : y < 0
   ·have e2 : ilt y 0 = true := by rw [ilt_eq]; exact decide_eq_true h0
    repeat (first | refine code_seq ?_ | ((first | (refine code_region ?_ ?_; (focus rfl)) | (refine code_guards (gs := ?_) ?_ ?_; rotate_left; (focus rfl))); simp only [run1, run2, wanted, go_sem, Nat.reduceLT, Nat.reduceAdd, Nat.reduceEqDiff, reduceIte, reduceCtorEq, r81, r82, r83, e1, hix, ld3, hgc, e2, e9]) | (refine code_cond_true ?_ ?_; (focus (simp only [aev, regAt_set, Nat.reduceEqDiff, reduceIte, r81, r82, r83, e1, hix, ld3, hgc, e2, e9]; done))) | (refine code_cond_false ?_ ?_; (focus (simp only [aev, regAt_set, Nat.reduceEqDiff, reduceIte, r81, r82, r83, e1, hix, ld3, hgc, e2, e9]; done))) | ((first | refine code_skip ?_ | refine code_label ?_ | refine code_exit ?_); try simp only [then_exit, then_normal, blockC, Nat.reduceEqDiff, reduceIte]) | refine code_block ?_)
    refine ih x (i + 1) _ μ D c ws K (by omega) P KP ?_ ?_ ?_ ?_ ?_ ?_ ?_ ?_ <;> simp only [regAt_set, Nat.reduceEqDiff, reduceIte, r1, r5, r6, r13, r14, r81, r82]
   ·have e2 : ilt y 0 = false := by rw [ilt_eq]; exact decide_eq_false h0
    by_cases h1 : 99 < y
    ·have e3 : ilt 99 y = true := by rw [ilt_eq]; exact decide_eq_true h1
     repeat (first | refine code_seq ?_ | ((first | (refine code_region ?_ ?_; (focus rfl)) | (refine code_guards (gs := ?_) ?_ ?_; rotate_left; (focus rfl))); simp only [run1, run2, wanted, go_sem, Nat.reduceLT, Nat.reduceAdd, Nat.reduceEqDiff, reduceIte, reduceCtorEq, r81, r82, r83, e1, hix, ld3, hgc, e2, e3, e9]) | (refine code_cond_true ?_ ?_; (focus (simp only [aev, regAt_set, Nat.reduceEqDiff, reduceIte, r81, r82, r83, e1, hix, ld3, hgc, e2, e3, e9]; done))) | (refine code_cond_false ?_ ?_; (focus (simp only [aev, regAt_set, Nat.reduceEqDiff, reduceIte, r81, r82, r83, e1, hix, ld3, hgc, e2, e3, e9]; done))) | ((first | refine code_skip ?_ | refine code_label ?_ | refine code_exit ?_); try simp only [then_exit, then_normal, blockC, Nat.reduceEqDiff, reduceIte]) | refine code_block ?_)
     refine ih x (i + 1) _ μ D c ws K (by omega) P KP ?_ ?_ ?_ ?_ ?_ ?_ ?_ ?_ <;> simp only [regAt_set, Nat.reduceEqDiff, reduceIte, r1, r5, r6, r13, r14, r81, r82]
    ·obtain ⟨j, rfl⟩ : ∃ j : Nat, y = .ofNat j := ⟨y.toNat, by show y = (y.toNat : Int); omega⟩
     have hj : j < 100 := by
      have : ¬ (99 : Int) < (j : Int) := h1
      omega
     have e3 : ilt 99 (.ofNat j) = false := by rw [ilt_eq]; exact decide_eq_false h1
     have e4 : qwrap .i64 (Int.add fr (.ofNat j)) = fr + (j : Int) := wrap_i64 _ (by show _ ≤ fr + (j : Int); omega) (by show fr + (j : Int) < _; omega)
     have t1 := rsmall_eq (X := X) (g := x + m + 7992) (n := fr + (j : Int)) (μ := μ) (by omega) (by unfold Sm; omega)
     obtain ⟨μ2, t2, k2, c2, b2, hcc, ws', K', P'⟩ := P.del (X := X) (g := x + m + 7991) (by omega) hfr hj
     have s2 := store_put (P := Tryz.prog) (t := 4) (v := .bool true) j4 rfl rfl b2 hj
     have i2 : ∀ (ρ : Operand → Value) (a b : Operand), ρ a = .pointer (some ⟨lf, 0, none⟩) → ρ b = .int .i64 (.ofNat j) → aIndexAddr Tryz.prog ρ 46 a b = some (.pointer (some ⟨lf, j, none⟩)) := fun ρ a b h1 h2 => idx46 h1 h2 hj
     have KP2 : Kp μ0 (putL μ2 lf j [.bool true]) ap wb lb lf := KP.trans ((Kp.keeps k2).trans (Kp.put _ _ _ _ _ _ _))
     obtain ⟨z, hz⟩ : ∃ z, z = fr + (j : Int) := ⟨_, rfl⟩
     rw [← hz] at e4 t1 t2
     obtain ⟨zw, hzw⟩ : ∃ zw, zw = sw z := ⟨_, rfl⟩
     rw [← hzw] at t1 t2
     obtain ⟨μ3, h3⟩ : ∃ M, M = putL μ2 lf j [.bool true] := ⟨_, rfl⟩
     rw [← h3] at s2 P' KP2
     have e0 : ieq 0 0 = true := rfl
     cases hD : D j with
     | true =>
       rw [hD] at t2 c2 P'
       have t2 : aFun Tryz.prog (aCode Tryz.prog X S0 (x + m + 7991)) 13 [.pointer (some ⟨sp, 0, none⟩), .int .u64 (.ofNat (placeW tq)), .int .u64 (.ofNat zw)] μ = some (.tuple #[.bool false, .int .i64 0], μ2) := t2
       have P' : Dt μ3 sp hp ap wb lb s tq lf fr (upd D j true) c ws' p b e ix room places I K' V := P'
       have pe : ∀ (r : Rg) (d : Option Tmp) (ty : TypeId) (x y : Operand) (ps : String) (af : Array Edge) (gd : Option (Nat × Bool)), aev Tryz.prog r x = .bool false → aev Tryz.prog r y = .bool true → aPlain Tryz.prog (aev Tryz.prog r) ⟨d, .binOp .eql 4 x y 4, ty, ps, af, gd⟩ = some (.bool false) := fun r d ty x y ps af gd h1 h2 => plain_eqb h1 h2
       have nb : aNil Tryz.prog 4 (.bool false) (.bool true) = false := rfl
       repeat (first | refine code_seq ?_ | ((first | (refine code_region ?_ ?_; (focus rfl)) | (refine code_guards (gs := ?_) ?_ ?_; rotate_left; (focus rfl))); simp only [run1, run2, wanted, go_sem, Nat.reduceLT, Nat.reduceAdd, Nat.reduceEqDiff, reduceIte, reduceCtorEq, r81, r82, r83, e1, hix, ld3, hgc, e2, e3, r1, e4, gg12, t1, r5, r6, gg13, t2, e0, r13, i2, ld4, c2, nb, pe, s2, e9]) | (refine code_cond_true ?_ ?_; (focus (simp only [aev, regAt_set, Nat.reduceEqDiff, reduceIte, r81, r82, r83, e1, hix, ld3, hgc, e2, e3, r1, e4, gg12, t1, r5, r6, gg13, t2, e0, r13, i2, ld4, c2, nb, pe, s2, e9]; done))) | (refine code_cond_false ?_ ?_; (focus (simp only [aev, regAt_set, Nat.reduceEqDiff, reduceIte, r81, r82, r83, e1, hix, ld3, hgc, e2, e3, r1, e4, gg12, t1, r5, r6, gg13, t2, e0, r13, i2, ld4, c2, nb, pe, s2, e9]; done))) | ((first | refine code_skip ?_ | refine code_label ?_ | refine code_exit ?_); try simp only [then_exit, then_normal, blockC, Nat.reduceEqDiff, reduceIte]) | refine code_block ?_)
       refine ih x (i + 1) _ μ3 _ c ws' K' (by omega) P' KP2 ?_ ?_ ?_ ?_ ?_ ?_ ?_ ?_ <;> simp only [regAt_set, Nat.reduceEqDiff, reduceIte, r1, r5, r6, r13, r14, r81, r82]
     | false =>
       have hc := hcc hD
       rw [hD] at t2 c2 P'
       have t2 : aFun Tryz.prog (aCode Tryz.prog X S0 (x + m + 7991)) 13 [.pointer (some ⟨sp, 0, none⟩), .int .u64 (.ofNat (placeW tq)), .int .u64 (.ofNat zw)] μ = some (.tuple #[.bool true, .int .i64 0], μ2) := t2
       have P' : Dt μ3 sp hp ap wb lb s tq lf fr (upd D j true) (c + 1) ws' p b e ix room places I K' V := P'
       have pe : ∀ (r : Rg) (d : Option Tmp) (ty : TypeId) (x y : Operand) (ps : String) (af : Array Edge) (gd : Option (Nat × Bool)), aev Tryz.prog r x = .bool true → aev Tryz.prog r y = .bool false → aPlain Tryz.prog (aev Tryz.prog r) ⟨d, .binOp .eql 4 x y 4, ty, ps, af, gd⟩ = some (.bool false) := fun r d ty x y ps af gd h1 h2 => plain_eqb h1 h2
       have nb : aNil Tryz.prog 4 (.bool true) (.bool false) = false := rfl
       have e8 : qwrap .i64 (Int.add (.ofNat c) 1) = .ofNat (c + 1) := add_nat c 1 (by omega)
       repeat (first | refine code_seq ?_ | ((first | (refine code_region ?_ ?_; (focus rfl)) | (refine code_guards (gs := ?_) ?_ ?_; rotate_left; (focus rfl))); simp only [run1, run2, wanted, go_sem, Nat.reduceLT, Nat.reduceAdd, Nat.reduceEqDiff, reduceIte, reduceCtorEq, r81, r82, r83, e1, hix, ld3, hgc, e2, e3, r1, e4, gg12, t1, r5, r6, gg13, t2, e0, r13, i2, ld4, c2, nb, pe, r14, e8, s2, e9]) | (refine code_cond_true ?_ ?_; (focus (simp only [aev, regAt_set, Nat.reduceEqDiff, reduceIte, r81, r82, r83, e1, hix, ld3, hgc, e2, e3, r1, e4, gg12, t1, r5, r6, gg13, t2, e0, r13, i2, ld4, c2, nb, pe, r14, e8, s2, e9]; done))) | (refine code_cond_false ?_ ?_; (focus (simp only [aev, regAt_set, Nat.reduceEqDiff, reduceIte, r81, r82, r83, e1, hix, ld3, hgc, e2, e3, r1, e4, gg12, t1, r5, r6, gg13, t2, e0, r13, i2, ld4, c2, nb, pe, r14, e8, s2, e9]; done))) | ((first | refine code_skip ?_ | refine code_label ?_ | refine code_exit ?_); try simp only [then_exit, then_normal, blockC, Nat.reduceEqDiff, reduceIte]) | refine code_block ?_)
       refine ih x (i + 1) _ μ3 _ (c + 1) ws' K' (by omega) P' KP2 ?_ ?_ ?_ ?_ ?_ ?_ ?_ ?_ <;> simp only [regAt_set, Nat.reduceEqDiff, reduceIte, r1, r5, r6, r13, r14, r81, r82]
end
noncomputable section
variable {X : FuncId → List Value → Mem → Option (Value × Mem)}
theorem Dt.ref {μ : Mem} {sp hp ap wb lb s tq lf c g i b e ix room places : Nat} {fr : Int} {D : Nat → Bool} {ws : Nat → Nat} {p : Pos} {I : Nat → Int} {K : Nat → Option Int} {V : Nat → Nat} (hg : 3000 ≤ g) (h : Dt μ sp hp ap wb lb s tq lf fr D c ws p b e ix room places I K V) (hfr : -100000 ≤ fr ∧ fr ≤ 100000) (hi : i < 100) :
  ∃ μ2, aFun Tryz.prog (aCode Tryz.prog X S0 g) 15 [.pointer (some ⟨sp, 0, none⟩), .int .u64 (.ofNat (placeW tq)), .int .u64 (.ofNat (sw (fr + (i : Int))))] μ = some (if D i then .tuple #[.int .u64 0, .bool false, .int .i64 0] else .tuple #[.int .u64 (.ofNat (sw (i : Int))), .bool true, .int .i64 0], μ2) ∧ Grow μ μ2 := by
 have hsm : Sm (fr + (i : Int)) := by unfold Sm; omega
 obtain ⟨v, μ2, t, g2, hv⟩ := ref_ends (X := X) (g := g) hg h.ts (.inl ⟨fr + (i : Int), hsm, rfl, rfl⟩)
 refine ⟨μ2, ?_, g2⟩
 rcases hv with ⟨j, n, hj, hK, hw, rfl⟩ | ⟨hno, rfl⟩
 ·obtain rfl : fr + (i : Int) = n := sw_inj hsm (h.ts.tl.ksm j n hj hK) hw
  obtain ⟨i', h1, h2, h3, h4⟩ := (h.dic _ (V j)).1 ⟨j, hj, hK, rfl⟩
  obtain rfl : i = i' := by omega
  rw [h2, ← h4]
  exact t
 ·have hD : D i = true := by
   cases hD : D i with
   | true => rfl
   | false =>
     obtain ⟨j, h1, h2, _⟩ := (h.dic (fr + (i : Int)) (sw (i : Int))).2 ⟨i, hi, hD, rfl, rfl⟩
     exact absurd rfl (hno j _ h1 h2)
  rw [hD]
  exact t
set_option maxRecDepth 20000 in
set_option maxHeartbeats 16000000 in
theorem ref_loop {sp hp ap wb lb s tq lf b e ix room places c : Nat} {fr : Int} {p : Pos} {I : Nat → Int} {V : Nat → Nat} {ws : Nat → Nat} {K : Nat → Option Int} {D : Nat → Bool} (hfr : -100000 ≤ fr ∧ fr ≤ 100000) :
  ∀ (m x i : Nat) (tm : T Value) (μ : Mem), i + m = 100 → Dt μ sp hp ap wb lb s tq lf fr D c ws p b e ix room places I K V →
   regAt tm 1 = .int .i64 fr → regAt tm 5 = .pointer (some ⟨sp, 0, none⟩) → regAt tm 6 = .int .u64 (.ofNat (placeW tq)) → regAt tm 13 = .pointer (some ⟨lf, 0, none⟩) → regAt tm 14 = .int .i64 (.ofNat c) → regAt tm 23 = .int .i64 (.ofNat i) →
   EndsC (aCode Tryz.prog X S0 (x + m + 8000) (.loop (loopBody Tryz.f3 2)) ⟨177, tm, [], none⟩ μ) fun a r μ' => a = .exit 4 ∧ Grow μ μ' ∧ ∃ tm', r = ⟨177, tm', [], none⟩ ∧
    regAt tm' 5 = .pointer (some ⟨sp, 0, none⟩) ∧ regAt tm' 6 = .int .u64 (.ofNat (placeW tq)) ∧ regAt tm' 14 = .int .i64 (.ofNat c) := by
 intro m
 induction m with
 | zero =>
   intro x i tm μ hi P r1 r5 r6 r13 r14 r23
   obtain rfl : i = 100 := hi
   have e1 : ilt (.ofNat 100) 100 = false := rfl
   refine code_loop ?_
   repeat (first | refine code_seq ?_ | ((first | (refine code_region ?_ ?_; (focus rfl)) | (refine code_guards (gs := ?_) ?_ ?_; rotate_left; (focus rfl))); simp only [run1, run2, wanted, go_sem, Nat.reduceLT, Nat.reduceAdd, Nat.reduceEqDiff, reduceIte, reduceCtorEq, r23, e1]) | (refine code_cond_true ?_ ?_; (focus (simp only [aev, regAt_set, Nat.reduceEqDiff, reduceIte, r23, e1]; done))) | (refine code_cond_false ?_ ?_; (focus (simp only [aev, regAt_set, Nat.reduceEqDiff, reduceIte, r23, e1]; done))) | ((first | refine code_skip ?_ | refine code_label ?_ | refine code_exit ?_); try simp only [then_exit, then_normal, blockC, Nat.reduceEqDiff, reduceIte]) | refine code_block ?_)
   refine ⟨trivial, Grow.refl _, _, rfl, ?_, ?_, ?_⟩ <;> simp only [regAt_set, Nat.reduceEqDiff, reduceIte, r5, r6, r14]
 | succ m ih =>
   intro x i tm μ hi P r1 r5 r6 r13 r14 r23
   have e1 : ilt (.ofNat i) 100 = true := (ilt_nat i 100).trans (decide_eq_true (by omega))
   have e2 : qwrap .i64 (Int.add fr (.ofNat i)) = fr + (i : Int) := wrap_i64 _ (by show _ ≤ fr + (i : Int); omega) (by show fr + (i : Int) < _; omega)
   have e9 : qwrap .i64 (Int.add (.ofNat i) 1) = .ofNat (i + 1) := add_nat i 1 (by omega)
   have t1 := rsmall_eq (X := X) (g := x + m + 7995) (n := fr + (i : Int)) (μ := μ) (by omega) (by unfold Sm; omega)
   have t2 := rsmall_eq (X := X) (g := x + m + 7994) (n := .ofNat i) (μ := μ) (by omega) (by unfold Sm; show _ ≤ (i : Int) ∧ (i : Int) < _; omega)
   obtain ⟨μ3, t3, g3⟩ := P.ref (X := X) (g := x + m + 7993) (by omega) hfr (by omega : i < 100)
   have P3 := P.grow g3
   have c3 := P3.lc i (by omega)
   have i2 : ∀ (ρ : Operand → Value) (a b : Operand), ρ a = .pointer (some ⟨lf, 0, none⟩) → ρ b = .int .i64 (.ofNat i) → aIndexAddr Tryz.prog ρ 46 a b = some (.pointer (some ⟨lf, i, none⟩)) := fun ρ a b h1 h2 => idx46 h1 h2 (by omega)
   have t3 : aFun Tryz.prog (aCode Tryz.prog X S0 (x + m + 7993)) 15 [.pointer (some ⟨sp, 0, none⟩), .int .u64 (.ofNat (placeW tq)), .int .u64 (.ofNat (sw (fr + (i : Int))))] μ = some (if D i then .tuple #[.int .u64 0, .bool false, .int .i64 0] else .tuple #[.int .u64 (.ofNat (sw (.ofNat i))), .bool true, .int .i64 0], μ3) := t3
   obtain ⟨z, hz⟩ : ∃ z, z = fr + (i : Int) := ⟨_, rfl⟩
   rw [← hz] at e2 t1 t3
   obtain ⟨zw, hzw⟩ : ∃ zw, zw = sw z := ⟨_, rfl⟩
   rw [← hzw] at t1 t3
   obtain ⟨iw, hiw⟩ : ∃ iw, iw = sw (.ofNat i) := ⟨_, rfl⟩
   rw [← hiw] at t2 t3
   have e3 : ieq (.ofNat iw) (.ofNat iw) = true := (ieq_nat _ _).trans (decide_eq_true rfl)
   refine code_loop ?_
   rw [show x + (m + 1) + 7999 = x + m + 8000 from by omega]
   cases hD : D i with
   | true =>
     rw [hD] at t3 c3
     have t3 : aFun Tryz.prog (aCode Tryz.prog X S0 (x + m + 7993)) 15 [.pointer (some ⟨sp, 0, none⟩), .int .u64 (.ofNat (placeW tq)), .int .u64 (.ofNat zw)] μ = some (.tuple #[.int .u64 0, .bool false, .int .i64 0], μ3) := t3
     have pe : ∀ (r : Rg) (d : Option Tmp) (ty : TypeId) (x y : Operand) (ps : String) (af : Array Edge) (gd : Option (Nat × Bool)), aev Tryz.prog r x = .bool false → aev Tryz.prog r y = .bool true → aPlain Tryz.prog (aev Tryz.prog r) ⟨d, .binOp .eql 4 x y 4, ty, ps, af, gd⟩ = some (.bool false) := fun r d ty x y ps af gd h1 h2 => plain_eqb h1 h2
     have nb : aNil Tryz.prog 4 (.bool false) (.bool true) = false := rfl
     repeat (first | refine code_seq ?_ | ((first | (refine code_region ?_ ?_; (focus rfl)) | (refine code_guards (gs := ?_) ?_ ?_; rotate_left; (focus rfl))); simp only [run1, run2, wanted, go_sem, Nat.reduceLT, Nat.reduceAdd, Nat.reduceEqDiff, reduceIte, reduceCtorEq, r23, e1, r1, e2, gg12, t1, t2, r5, r6, gg15, t3, r13, i2, ld4, c3, nb, pe, e9]) | (refine code_cond_true ?_ ?_; (focus (simp only [aev, regAt_set, Nat.reduceEqDiff, reduceIte, r23, e1, r1, e2, gg12, t1, t2, r5, r6, gg15, t3, r13, i2, ld4, c3, nb, pe, e9]; done))) | (refine code_cond_false ?_ ?_; (focus (simp only [aev, regAt_set, Nat.reduceEqDiff, reduceIte, r23, e1, r1, e2, gg12, t1, t2, r5, r6, gg15, t3, r13, i2, ld4, c3, nb, pe, e9]; done))) | ((first | refine code_skip ?_ | refine code_label ?_ | refine code_exit ?_); try simp only [then_exit, then_normal, blockC, Nat.reduceEqDiff, reduceIte]) | refine code_block ?_)
     refine EndsC.mono (ih x (i + 1) _ μ3 (by omega) P3 ?_ ?_ ?_ ?_ ?_ ?_) fun a r μ' ⟨h1, h2, h3⟩ => ⟨h1, g3.trans h2, h3⟩ <;> simp only [regAt_set, Nat.reduceEqDiff, reduceIte, r1, r5, r6, r13, r14]
   | false =>
     rw [hD] at t3 c3
     have t3 : aFun Tryz.prog (aCode Tryz.prog X S0 (x + m + 7993)) 15 [.pointer (some ⟨sp, 0, none⟩), .int .u64 (.ofNat (placeW tq)), .int .u64 (.ofNat zw)] μ = some (.tuple #[.int .u64 (.ofNat iw), .bool true, .int .i64 0], μ3) := t3
     have pe : ∀ (r : Rg) (d : Option Tmp) (ty : TypeId) (x y : Operand) (ps : String) (af : Array Edge) (gd : Option (Nat × Bool)), aev Tryz.prog r x = .bool true → aev Tryz.prog r y = .bool false → aPlain Tryz.prog (aev Tryz.prog r) ⟨d, .binOp .eql 4 x y 4, ty, ps, af, gd⟩ = some (.bool false) := fun r d ty x y ps af gd h1 h2 => plain_eqb h1 h2
     have nb : aNil Tryz.prog 4 (.bool true) (.bool false) = false := rfl
     repeat (first | refine code_seq ?_ | ((first | (refine code_region ?_ ?_; (focus rfl)) | (refine code_guards (gs := ?_) ?_ ?_; rotate_left; (focus rfl))); simp only [run1, run2, wanted, go_sem, Nat.reduceLT, Nat.reduceAdd, Nat.reduceEqDiff, reduceIte, reduceCtorEq, r23, e1, r1, e2, gg12, t1, t2, r5, r6, gg15, t3, r13, i2, ld4, c3, nb, pe, e3, e9]) | (refine code_cond_true ?_ ?_; (focus (simp only [aev, regAt_set, Nat.reduceEqDiff, reduceIte, r23, e1, r1, e2, gg12, t1, t2, r5, r6, gg15, t3, r13, i2, ld4, c3, nb, pe, e3, e9]; done))) | (refine code_cond_false ?_ ?_; (focus (simp only [aev, regAt_set, Nat.reduceEqDiff, reduceIte, r23, e1, r1, e2, gg12, t1, t2, r5, r6, gg15, t3, r13, i2, ld4, c3, nb, pe, e3, e9]; done))) | ((first | refine code_skip ?_ | refine code_label ?_ | refine code_exit ?_); try simp only [then_exit, then_normal, blockC, Nat.reduceEqDiff, reduceIte]) | refine code_block ?_)
     refine EndsC.mono (ih x (i + 1) _ μ3 (by omega) P3 ?_ ?_ ?_ ?_ ?_ ?_) fun a r μ' ⟨h1, h2, h3⟩ => ⟨h1, g3.trans h2, h3⟩ <;> simp only [regAt_set, Nat.reduceEqDiff, reduceIte, r1, r5, r6, r13, r14]
end
noncomputable section
variable {X : FuncId → List Value → Mem → Option (Value × Mem)}
theorem j46 : Tryz.prog.info? 46 = some Tryz.t46 := by kernel_rfl
def no100 : List Value := List.replicate 100 (.bool false)
def ob46 : Ob := .cells 100 46 no100.toArray .e 0 0 false false
theorem al46 : aAlloc Tryz.prog 46 = some (ob46, fun id => .pointer (some ⟨id, 0, none⟩)) := by kernel_rfl
theorem bd46 (ρ : Operand → Value) : aBuild Tryz.prog ρ 46 #[] = some (.agg no100.toArray) := by kernel_rfl
theorem no100_at (k : Nat) (hk : k < no100.length) : no100[k] = .bool false := List.eq_of_mem_replicate (n := 100) (List.getElem_mem hk)
theorem gone_new (μ : Mem) : ∃ μ2, aStore Tryz.prog ⟨μ.obs.set μ.next ob46, μ.next + 1⟩ 46 (.pointer (some ⟨μ.next, 0, none⟩)) (.agg no100.toArray) = some (undef, μ2) ∧ Grow μ μ2 ∧ μ.next < μ2.next ∧ Blk μ2 μ.next 100 46 ∧ ∀ j, j < 100 → cellsAt μ2 μ.next j = some (.bool false) := by
 have hb : Blk ⟨μ.obs.set μ.next ob46, μ.next + 1⟩ μ.next 100 46 := fresh_blk (Grow.refl _)
 refine ⟨_, store_puts (P := Tryz.prog) (t := 46) (vs := no100) j46 rfl (by kernel_rfl) hb (by simp [no100] : 0 + no100.length ≤ 100), (grow1 μ _).put_new (Nat.le_refl _), by rw [putL_next]; exact Nat.lt_succ_self _, Blk.put (i := μ.next) _ _ hb, fun j hj => ?_⟩
 have hc := (Has.of_put (o := 0) (vs := no100) hb (by simp [no100])).cell j (by simp [no100]; exact hj)
 rw [Nat.zero_add] at hc
 rw [hc, no100_at j]
theorem Pt.dt {μ μ2 : Mem} {sp hp ap wb lb s tq b b' e ix room places lf : Nat} {fr : Int} {ws : Nat → Nat} {p : Pos} {I : Nat → Int} {K : Nat → Option Int} {V : Nat → Nat} (h : TS μ sp hp ap wb lb ws p b s tq 100 100 e ix room places I K V) (hd : ∀ m v, Dic 100 K V m v ↔ ∃ j : Nat, j < 100 ∧ m = fr + (j : Int) ∧ v = sw (j : Int))
  (g : Grow μ μ2) (hlf : μ.next ≤ lf) (hl2 : lf < μ2.next) (hb : Blk μ2 lf 100 46) (hc : ∀ j, j < 100 → cellsAt μ2 lf j = some (.bool false)) : Dt μ2 sp hp ap wb lb s tq lf fr (fun _ => false) 0 ws p b e ix room places I K V := by
 have n1 := h.hs.hs.ab.n1
 have n2 := h.hs.hs.ab.n2
 have n3 := h.hs.hs.ab.n3
 have n4 := h.hs.spn
 have n5 := h.hs.hs.hn
 have n6 := h.rom.lt
 exact ⟨h.grow g, fun m v => (hd m v).trans ⟨fun ⟨j, a, b, c⟩ => ⟨j, a, rfl, b, c⟩, fun ⟨j, a, _, b, c⟩ => ⟨j, a, b, c⟩⟩, by omega, hb, hc, ⟨by omega, by omega, by omega, by omega, by omega, by omega⟩, hl2⟩
end
noncomputable section
variable {X : FuncId → List Value → Mem → Option (Value × Mem)}
def txC : ByteArray := ⟨List.toArray [120]⟩
set_option maxRecDepth 20000 in
set_option maxHeartbeats 16000000 in
theorem law_main {k n ca gi go : Nat} {ad : Option Addr} {gv : Nat → Int} {fr : Int} {t0 : T Ob} {o0 : Option Ob} {r5 r6 : Ob} (hN : NewOk X (k + 11995) t0 o0 r5 r6) (hal : ∀ k, aCallS Tryz.prog (aCode Tryz.prog X S0 k) S0 4 [] ⟨t0, 900⟩ = some (.bool true, ⟨t0, 900⟩))
  (hrom : Rom (newMem X (k + 11995) t0)) (hfr : -100000 ≤ fr ∧ fr ≤ 100000) (hn : n ≤ 60) (hgo : ∀ i, i < n → ad = some ⟨gi, go, none⟩ ∧ cellsAt (newMem X (k + 11995) t0) gi (go + i) = some (.int .i64 (gv i))) (hgi : gi < 900) :
  EndsF (aFun Tryz.prog (aCode Tryz.prog X S0 (k + 12000)) 3 [.slice ad n ca, .int .i64 fr] ⟨t0, 900⟩) fun v μ' => v = .bool true ∧ ∃ lf, 912 ≤ lf ∧ Kp (newMem X (k + 11995) t0) μ' 907 902 905 lf := by
 have hnew := new_ran hN
 have hnx := hN.next
 have S0' := hN.space
 obtain ⟨μ0, hμ0⟩ : ∃ M, M = newMem X (k + 11995) t0 := ⟨_, rfl⟩
 unfold newRun at hnew
 rw [← hμ0] at hnew hnx S0' hrom hgo ⊢
 obtain ⟨v1, μ1, t1, rfl, k1, ws1, p1, b1, e1, ix1, x1, x2, T1⟩ := new_ends (X := X) (g := k + 11994) (by omega) S0' hrom (by decide) gp0 (by omega) (by omega) (by decide)
 have P1 : Pt μ1 911 909 907 902 905 (0 + 5) 0 fr 0 ws1 p1 b1 e1 ix1 8 16 _ _ _ := ⟨T1, fun m v => ⟨fun ⟨i, h, _⟩ => absurd h (Nat.not_lt_zero _), fun ⟨j, h, _⟩ => absurd h (Nat.not_lt_zero _)⟩, by show 198 ≤ b1 + 0; omega, by omega⟩
 have q1 : ilt 60 (.ofNat n) = false := (ilt_nat 60 n).trans (decide_eq_false (by omega))
 have q2 : ilt fr (-100000) = false := by rw [ilt_eq]; exact decide_eq_false (by omega)
 have q3 : ilt 100000 fr = false := by rw [ilt_eq]; exact decide_eq_false (by omega)
 refine fun_enter Tryz.func3 rfl rfl (Nat.le_of_ble_eq_true rfl) ?_
 simp only [T.lay, Nat.zero_add, Tryz.ntmps3, Nat.reduceAdd]
 repeat (first | refine code_seq ?_ | ((first | (refine code_region ?_ ?_; (focus rfl)) | (refine code_guards (gs := ?_) ?_ ?_; rotate_left; (focus rfl))); simp only [run1, run2, wanted, go_sem, Nat.reduceLT, Nat.reduceAdd, Nat.reduceEqDiff, reduceIte, reduceCtorEq, go_body (P := Tryz.prog) Tryz.func4 rfl, hal, aBuiltin, aLen, Tryz.underlying22, cast_nat, q1, q2, q3, gg5, hnew, gg6, t1]) | (refine code_cond_true ?_ ?_; (focus (simp only [aev, regAt_set, Nat.reduceEqDiff, reduceIte, go_body (P := Tryz.prog) Tryz.func4 rfl, hal, aBuiltin, aLen, Tryz.underlying22, cast_nat, q1, q2, q3, gg5, hnew, gg6, t1]; done))) | (refine code_cond_false ?_ ?_; (focus (simp only [aev, regAt_set, Nat.reduceEqDiff, reduceIte, go_body (P := Tryz.prog) Tryz.func4 rfl, hal, aBuiltin, aLen, Tryz.underlying22, cast_nat, q1, q2, q3, gg5, hnew, gg6, t1]; done))) | ((first | refine code_skip ?_ | refine code_label ?_ | refine code_exit ?_); try simp only [then_exit, then_normal, blockC, Nat.reduceEqDiff, reduceIte]) | refine code_block ?_)
 rw [show k + 11991 = k + 3891 + 100 + 8000 from by omega]
 refine (put_loop (X := X) (v0 := .slice ad n ca) (μ0 := μ1) hfr 100 (k + 3891) 0 _ μ1 ws1 p1 b1 e1 ix1 8 16 _ _ _ (by omega) P1 (Keeps.grow (Grow.refl _)) ?_ ?_ ?_ ?_ ?_).mono ?_
 ·simp only [regAt_set, Nat.reduceEqDiff, reduceIte]; try rfl
 ·simp only [regAt_set, Nat.reduceEqDiff, reduceIte]; try rfl
 ·simp only [regAt_set, Nat.reduceEqDiff, reduceIte]
 ·simp only [regAt_set, Nat.reduceEqDiff, reduceIte]
 ·simp only [regAt_set, Nat.reduceEqDiff, reduceIte]; rfl
 rintro a r μ2 ⟨rfl, ⟨tm2, rfl, u0, u1, u5, u6⟩, k2, ws2, p2, b2, e2, ix2, room2, places2, I2, K2, V2, P2⟩
 simp only [blockC, reduceIte, then_normal]
 have hlv := lev_le room2
 have hlw := P2.lv
 have hb2 := P2.b2
 obtain ⟨v3, μ3, t3, rfl, g3⟩ := str_ends (X := X) (g := k + 11991) (s := txC) (μ := μ2) (by omega)
 have t3 : aFun Tryz.prog (aCode Tryz.prog X S0 (k + 11991)) 10 [.string ⟨List.toArray [120]⟩] μ2 = some (.agg (datS txC).toArray, μ3) := t3
 obtain ⟨v4, μ4, t4, tq4, ws4, p4, rfl, tx4, T4, k4, nf4⟩ := text_beside (X := X) (g := k + 11991) (by omega) (P2.ts.grow g3) (by omega) hb2 (by decide)
 have t4 : aFun Tryz.prog (aCode Tryz.prog X S0 (k + 11991)) 9 [.pointer (some ⟨911, 0, none⟩), .agg (datS txC).toArray] μ3 = some (.tuple #[.int .u64 (.ofNat (placeW tq4)), .bool true], μ4) := t4
 obtain ⟨v5, μ5, t5, rfl, g5⟩ := set_full (X := X) (g := k + 11990) (w := placeW tq4) (x := 0) (by omega) T4 (.inr ⟨tq4, tx4, rfl, rfl⟩) (fun j m hj hK e => by have := sw_mod m; unfold placeW at e; omega) (Nat.le_refl _)
 have t5 : aFun Tryz.prog (aCode Tryz.prog X S0 (k + 11990)) 11 [.pointer (some ⟨911, 0, none⟩), .int .u64 (.ofNat (placeW 0)), .int .u64 (.ofNat (placeW tq4)), .int .u64 0] μ4 = some (.tuple #[.bool false, .int .i64 191], μ5) := t5
 have f1 : ieq 191 191 = true := rfl
 obtain ⟨μ6, s6, g6, n6, b6, c6⟩ := gone_new μ5
 have D6 : Dt μ6 911 909 907 902 905 (0 + 5 + 3) 0 μ5.next fr (fun _ => false) 0 ws4 p4 b2 e2 ix2 room2 places2 I2 K2 V2 := Pt.dt (b' := 0) (T4.grow g5) P2.dic g6 (Nat.le_refl _) n6 b6 c6
 have hb46 : ∀ r : Rg, aBuild Tryz.prog (aev Tryz.prog r) 46 #[] = some (.agg no100.toArray) := fun r => bd46 _
 obtain ⟨pw, hpw⟩ : ∃ pw, pw = placeW tq4 := ⟨_, rfl⟩
 rw [← hpw] at t4 t5
 obtain ⟨lf, hlf⟩ : ∃ lf, lf = μ5.next := ⟨_, rfl⟩
 obtain ⟨nl, hnl⟩ : ∃ l, l = no100 := ⟨_, rfl⟩
 rw [← hnl] at hb46 s6
 repeat (first | refine code_seq ?_ | ((first | (refine code_region ?_ ?_; (focus rfl)) | (refine code_guards (gs := ?_) ?_ ?_; rotate_left; (focus rfl))); simp only [run1, run2, wanted, go_sem, Nat.reduceLT, Nat.reduceAdd, Nat.reduceEqDiff, reduceIte, reduceCtorEq, u5, u6, u0, u1, gg10, t3, gg9, t4, gg11, t5, f1, hb46, al46, Nat.add_eq, s6, aBuiltin, aLen, Tryz.underlying22, cast_nat]) | (refine code_cond_true ?_ ?_; (focus (simp only [aev, regAt_set, Nat.reduceEqDiff, reduceIte, u5, u6, u0, u1, gg10, t3, gg9, t4, gg11, t5, f1, hb46, al46, Nat.add_eq, s6, aBuiltin, aLen, Tryz.underlying22, cast_nat]; done))) | (refine code_cond_false ?_ ?_; (focus (simp only [aev, regAt_set, Nat.reduceEqDiff, reduceIte, u5, u6, u0, u1, gg10, t3, gg9, t4, gg11, t5, f1, hb46, al46, Nat.add_eq, s6, aBuiltin, aLen, Tryz.underlying22, cast_nat]; done))) | ((first | refine code_skip ?_ | refine code_label ?_ | refine code_exit ?_); try simp only [then_exit, then_normal, blockC, Nat.reduceEqDiff, reduceIte]) | refine code_block ?_)
 have K06 : Keeps μ0 μ6 907 902 905 := k1.trans (k2.trans ((Keeps.grow g3).trans (k4.trans (Keeps.grow (g5.trans g6)))))
 have hgo6 : ∀ i, i < n → ad = some ⟨gi, go, none⟩ ∧ cellsAt μ6 gi (go + i) = some (.int .i64 (gv i)) := fun i hi => ⟨(hgo i hi).1, by rw [K06.cell (by omega) (by omega) (by omega) (by omega)]; exact (hgo i hi).2⟩
 have hlf2 : 912 ≤ μ5.next := by
  have h1 := k1.1
  have h2 := k2.1
  have h3 := g3.1
  have h4 := k4.1
  have h5 := g5.1
  omega
 have h06 := K06.1
 rw [show k + 11985 = (k + 3985 - n) + n + 8000 from by omega]
 refine (gone_loop (X := X) (gi := gi) (go := go) (gv := gv) (ad := ad) (ca := ca) (μ0 := μ6) hfr hn hgo6 (by omega) ⟨by omega, by omega, by omega, by omega⟩ n (k + 3985 - n) 0 _ μ6 _ 0 ws4 K2 (by omega) D6 ⟨Nat.le_refl _, fun _ _ _ _ _ _ => rfl⟩ ?_ ?_ ?_ ?_ ?_ ?_ ?_ ?_).mono ?_
 iterate 8 (· simp only [regAt_set, Nat.reduceEqDiff, reduceIte, u0, u1, u5, u6]; try rfl)
 rintro a r μ7 ⟨rfl, kp7, tm7, D7, c7, ws7, K7, rfl, P7, w1, w5, w6, w13, w14⟩
 simp only [blockC, reduceIte, then_normal]
 have hc7 := P7.c1
 obtain ⟨v8, μ8, t8, rfl, g8⟩ := tcount_ends (X := X) (g := k + 11985) (by omega) P7.ts
 have P8 := P7.grow g8
 obtain ⟨cc, hcc⟩ : ∃ cc, cc = 100 - c7 := ⟨_, rfl⟩
 rw [← hcc] at t8
 have f2 : qwrap .i64 (Int.sub 100 (.ofNat c7)) = .ofNat cc := by rw [wrap_i64 _ (by show _ ≤ (100 : Int) - (c7 : Int); omega) (by show (100 : Int) - (c7 : Int) < _; omega)]; show (100 : Int) - (c7 : Int) = (cc : Int); omega
 have f3 : ieq (.ofNat cc) (.ofNat cc) = true := (ieq_nat _ _).trans (decide_eq_true rfl)
 repeat (first | refine code_seq ?_ | ((first | (refine code_region ?_ ?_; (focus rfl)) | (refine code_guards (gs := ?_) ?_ ?_; rotate_left; (focus rfl))); simp only [run1, run2, wanted, go_sem, Nat.reduceLT, Nat.reduceAdd, Nat.reduceEqDiff, reduceIte, reduceCtorEq, w1, w5, w6, w13, w14, gg14, t8, f2, f3]) | (refine code_cond_true ?_ ?_; (focus (simp only [aev, regAt_set, Nat.reduceEqDiff, reduceIte, w1, w5, w6, w13, w14, gg14, t8, f2, f3]; done))) | (refine code_cond_false ?_ ?_; (focus (simp only [aev, regAt_set, Nat.reduceEqDiff, reduceIte, w1, w5, w6, w13, w14, gg14, t8, f2, f3]; done))) | ((first | refine code_skip ?_ | refine code_label ?_ | refine code_exit ?_); try simp only [then_exit, then_normal, blockC, Nat.reduceEqDiff, reduceIte]) | refine code_block ?_)
 rw [show k + 11982 = k + 3882 + 100 + 8000 from by omega]
 refine (ref_loop (X := X) hfr 100 (k + 3882) 0 _ μ8 (by omega) P8 ?_ ?_ ?_ ?_ ?_ ?_).mono ?_
 iterate 6 (· simp only [regAt_set, Nat.reduceEqDiff, reduceIte, w1, w5, w6, w13, w14]; try rfl)
 rintro a r μ9 ⟨rfl, g9, tm9, rfl, y5, y6, y14⟩
 simp only [blockC, reduceIte, then_normal]
 have P9 := P8.grow g9
 have kp9 : Kp μ0 μ9 907 902 905 μ5.next := (Kp.keeps K06).trans (kp7.trans (Kp.keeps (Keeps.grow (g8.trans g9))))
 by_cases h0 : c7 = 0
 ·have f4 : ieq (.ofNat c7) 0 = true := (ieq_nat c7 0).trans (decide_eq_true h0)
  repeat (first | refine code_seq ?_ | ((first | (refine code_region ?_ ?_; (focus rfl)) | (refine code_guards (gs := ?_) ?_ ?_; rotate_left; (focus rfl))); simp only [run1, run2, wanted, go_sem, Nat.reduceLT, Nat.reduceAdd, Nat.reduceEqDiff, reduceIte, reduceCtorEq, y14, f4]) | (refine code_cond_true ?_ ?_; (focus (simp only [aev, regAt_set, Nat.reduceEqDiff, reduceIte, y14, f4]; done))) | (refine code_cond_false ?_ ?_; (focus (simp only [aev, regAt_set, Nat.reduceEqDiff, reduceIte, y14, f4]; done))) | ((first | refine code_skip ?_ | refine code_label ?_ | refine code_exit ?_); try simp only [then_exit, then_normal, blockC, Nat.reduceEqDiff, reduceIte]) | refine code_block ?_)
  refine code_ret ?_
  refine ⟨rfl, _, ?_, rfl, μ5.next, hlf2, kp9⟩
  simp only [aResults, Tryz.results3, aRes, regAt_set, Nat.reduceEqDiff, reduceIte]
 ·have f4 : ieq (.ofNat c7) 0 = false := (ieq_nat c7 0).trans (decide_eq_false h0)
  obtain ⟨v10, μ10, t10, rfl, g10⟩ := str_ends (X := X) (g := k + 11982) (s := txC) (μ := μ9) (by omega)
  have t10 : aFun Tryz.prog (aCode Tryz.prog X S0 (k + 11982)) 10 [.string ⟨List.toArray [120]⟩] μ9 = some (.agg (datS txC).toArray, μ10) := t10
  obtain ⟨v11, μ11, t11, tq11, ws11, p11, rfl, tx11, T11, k11, nf11⟩ := text_beside (X := X) (g := k + 4982 + 6997) (μ := ⟨μ10.obs.set μ10.next (.cells (datS txC).length 39 (datS txC).toArray .e 0 0 false false), μ10.next + 1⟩) (by omega) ((P9.ts.grow g10).grow (grow1 μ10 _)) (by omega) hb2 (by decide)
  obtain ⟨v12, μ12, t12, rfl, k12, _⟩ := set_ends (X := X) (g := k + 4982 + 6995) (w := placeW tq11) (x := sw 1) (by omega) T11 (.inr ⟨tq11, tx11, rfl, rfl⟩) (fun j m hj hK e => by have := sw_mod m; unfold placeW at e; omega) (by omega) (by omega) hb2 (fun q _ e => by
   obtain rfl : q = tq11 := by unfold placeW at e; omega
   exact nf11)
  have t13 := put_core (X := X) (k := k + 4982) (y := placeW 0) (x := 1) (dl := datS txC) (μ := μ10) rfl (by unfold Sm; omega) t11 t12
  have t13 : aFun Tryz.prog (aCode Tryz.prog X S0 (k + 11982)) 7 [.pointer (some ⟨911, 0, none⟩), .int .u64 (.ofNat (placeW 0)), .agg (datS txC).toArray, .int .i64 1] μ10 = some (.bool true, μ12) := t13
  have kp12 : Kp μ0 μ12 907 902 905 μ5.next := kp9.trans ((Kp.keeps (Keeps.grow (g10.trans (grow1 μ10 _)))).trans (Kp.keeps (k11.trans k12)))
  repeat (first | refine code_seq ?_ | ((first | (refine code_region ?_ ?_; (focus rfl)) | (refine code_guards (gs := ?_) ?_ ?_; rotate_left; (focus rfl))); simp only [run1, run2, wanted, go_sem, Nat.reduceLT, Nat.reduceAdd, Nat.reduceEqDiff, reduceIte, reduceCtorEq, y5, y6, y14, f4, gg10, t10, gg7, t13]) | (refine code_cond_true ?_ ?_; (focus (simp only [aev, regAt_set, Nat.reduceEqDiff, reduceIte, y5, y6, y14, f4, gg10, t10, gg7, t13]; done))) | (refine code_cond_false ?_ ?_; (focus (simp only [aev, regAt_set, Nat.reduceEqDiff, reduceIte, y5, y6, y14, f4, gg10, t10, gg7, t13]; done))) | ((first | refine code_skip ?_ | refine code_label ?_ | refine code_exit ?_); try simp only [then_exit, then_normal, blockC, Nat.reduceEqDiff, reduceIte]) | refine code_block ?_)
  refine code_ret ?_
  refine ⟨rfl, _, ?_, rfl, μ5.next, hlf2, kp12⟩
  simp only [aResults, Tryz.results3, aRes, regAt_set, Nat.reduceEqDiff, reduceIte]
end
noncomputable section
variable {X : FuncId → List Value → Mem → Option (Value × Mem)}
set_option maxRecDepth 20000 in
set_option maxHeartbeats 16000000 in
theorem law_out {k n ca : Nat} {ad : Option Addr} {fr : Int} {t0 : T Ob} (hal : ∀ k, aCallS Tryz.prog (aCode Tryz.prog X S0 k) S0 4 [] ⟨t0, 900⟩ = some (.bool true, ⟨t0, 900⟩))
  (h : ¬ ((-100000 ≤ fr ∧ fr ≤ 100000) ∧ n ≤ 60)) :
  aFun Tryz.prog (aCode Tryz.prog X S0 (k + 12000)) 3 [.slice ad n ca, .int .i64 fr] ⟨t0, 900⟩ = some (.bool true, ⟨t0, 900⟩) := by
 refine ends_eq ?_
 by_cases h1 : 60 < n
 ·have q1 : ilt 60 (.ofNat n) = true := (ilt_nat 60 n).trans (decide_eq_true h1)
  refine fun_enter Tryz.func3 rfl rfl (Nat.le_of_ble_eq_true rfl) ?_
  simp only [T.lay, Nat.zero_add, Tryz.ntmps3, Nat.reduceAdd]
  repeat (first | refine code_seq ?_ | ((first | (refine code_region ?_ ?_; (focus rfl)) | (refine code_guards (gs := ?_) ?_ ?_; rotate_left; (focus rfl))); simp only [run1, run2, wanted, go_sem, Nat.reduceLT, Nat.reduceAdd, Nat.reduceEqDiff, reduceIte, reduceCtorEq, go_body (P := Tryz.prog) Tryz.func4 rfl, hal, aBuiltin, aLen, Tryz.underlying22, cast_nat, q1]) | (refine code_cond_true ?_ ?_; (focus (simp only [aev, regAt_set, Nat.reduceEqDiff, reduceIte, go_body (P := Tryz.prog) Tryz.func4 rfl, hal, aBuiltin, aLen, Tryz.underlying22, cast_nat, q1]; done))) | (refine code_cond_false ?_ ?_; (focus (simp only [aev, regAt_set, Nat.reduceEqDiff, reduceIte, go_body (P := Tryz.prog) Tryz.func4 rfl, hal, aBuiltin, aLen, Tryz.underlying22, cast_nat, q1]; done))) | ((first | refine code_skip ?_ | refine code_label ?_ | refine code_exit ?_); try simp only [then_exit, then_normal, blockC, Nat.reduceEqDiff, reduceIte]) | refine code_block ?_)
  refine code_ret ?_
  refine ⟨rfl, _, ?_, rfl, rfl⟩
  simp only [aResults, Tryz.results3, aRes, regAt_set, Nat.reduceEqDiff, reduceIte]
 ·have q1 : ilt 60 (.ofNat n) = false := (ilt_nat 60 n).trans (decide_eq_false h1)
  by_cases h2 : fr < -100000
  ·have q2 : ilt fr (-100000) = true := by rw [ilt_eq]; exact decide_eq_true h2
   refine fun_enter Tryz.func3 rfl rfl (Nat.le_of_ble_eq_true rfl) ?_
   simp only [T.lay, Nat.zero_add, Tryz.ntmps3, Nat.reduceAdd]
   repeat (first | refine code_seq ?_ | ((first | (refine code_region ?_ ?_; (focus rfl)) | (refine code_guards (gs := ?_) ?_ ?_; rotate_left; (focus rfl))); simp only [run1, run2, wanted, go_sem, Nat.reduceLT, Nat.reduceAdd, Nat.reduceEqDiff, reduceIte, reduceCtorEq, go_body (P := Tryz.prog) Tryz.func4 rfl, hal, aBuiltin, aLen, Tryz.underlying22, cast_nat, q1, q2]) | (refine code_cond_true ?_ ?_; (focus (simp only [aev, regAt_set, Nat.reduceEqDiff, reduceIte, go_body (P := Tryz.prog) Tryz.func4 rfl, hal, aBuiltin, aLen, Tryz.underlying22, cast_nat, q1, q2]; done))) | (refine code_cond_false ?_ ?_; (focus (simp only [aev, regAt_set, Nat.reduceEqDiff, reduceIte, go_body (P := Tryz.prog) Tryz.func4 rfl, hal, aBuiltin, aLen, Tryz.underlying22, cast_nat, q1, q2]; done))) | ((first | refine code_skip ?_ | refine code_label ?_ | refine code_exit ?_); try simp only [then_exit, then_normal, blockC, Nat.reduceEqDiff, reduceIte]) | refine code_block ?_)
   refine code_ret ?_
   refine ⟨rfl, _, ?_, rfl, rfl⟩
   simp only [aResults, Tryz.results3, aRes, regAt_set, Nat.reduceEqDiff, reduceIte]
  ·have q2 : ilt fr (-100000) = false := by rw [ilt_eq]; exact decide_eq_false h2
   have q3 : ilt 100000 fr = true := by rw [ilt_eq]; exact decide_eq_true (by omega)
   refine fun_enter Tryz.func3 rfl rfl (Nat.le_of_ble_eq_true rfl) ?_
   simp only [T.lay, Nat.zero_add, Tryz.ntmps3, Nat.reduceAdd]
   repeat (first | refine code_seq ?_ | ((first | (refine code_region ?_ ?_; (focus rfl)) | (refine code_guards (gs := ?_) ?_ ?_; rotate_left; (focus rfl))); simp only [run1, run2, wanted, go_sem, Nat.reduceLT, Nat.reduceAdd, Nat.reduceEqDiff, reduceIte, reduceCtorEq, go_body (P := Tryz.prog) Tryz.func4 rfl, hal, aBuiltin, aLen, Tryz.underlying22, cast_nat, q1, q2, q3]) | (refine code_cond_true ?_ ?_; (focus (simp only [aev, regAt_set, Nat.reduceEqDiff, reduceIte, go_body (P := Tryz.prog) Tryz.func4 rfl, hal, aBuiltin, aLen, Tryz.underlying22, cast_nat, q1, q2, q3]; done))) | (refine code_cond_false ?_ ?_; (focus (simp only [aev, regAt_set, Nat.reduceEqDiff, reduceIte, go_body (P := Tryz.prog) Tryz.func4 rfl, hal, aBuiltin, aLen, Tryz.underlying22, cast_nat, q1, q2, q3]; done))) | ((first | refine code_skip ?_ | refine code_label ?_ | refine code_exit ?_); try simp only [then_exit, then_normal, blockC, Nat.reduceEqDiff, reduceIte]) | refine code_block ?_)
   refine code_ret ?_
   refine ⟨rfl, _, ?_, rfl, rfl⟩
   simp only [aResults, Tryz.results3, aRes, regAt_set, Nat.reduceEqDiff, reduceIte]
end
noncomputable section
structure HandsR (P : Program) (W : World) (nx : Nat) (J : Nat → Ev.Loc) (t : T Ob) : Prop where
 loc : ∀ i, J i = noneKnown nx i ∨ ∃ b, J i = .at b 0 ∧ i ≠ P.globals.size ∧ i < nx ∧ (i < P.globals.size → b = i) ∧
  ((∃ c ty fz, t.get i = some (.held c ty fz) ∧ W.heap[b]? = some (.cells c ty fz)) ∨ (∃ l ty, t.get i = some (.rom l ty) ∧ W.heap[b]? = some (.cells l.toArray ty (0, 0)) ∧ ∀ v ∈ l, plainV 5 v = true))
 inj : ∀ i j b, J i = .at b 0 → J j = .at b 0 → i = j
 only : ∀ i o, t.get i = some o → ∃ b, J i = .at b 0
theorem none_not (nx i b s : Nat) : noneKnown nx i ≠ .at b s := fun e => by unfold noneKnown at e; split at e <;> cases e
theorem handsR_calls {P : Program} {X : FuncId → List Value → Mem → Option (Value × Mem)} (hN : Named P) (hX : XOk P X) (hm : P.follows .mixedOrders = true) {S : List (FuncId × LK)} (hS : SumsOk P S) {k : Nat} {g : FuncId} {nx : Nat} (hnx : P.globals.size < nx) {W : World} {J : Nat → Ev.Loc} {t : T Ob} (h : HandsR P W nx J t)
  {args : List Value} {args' : Array Value} (ha : ARel J args.toArray args') {v : Value} {μ' : Mem} (hrun : aFun P (aCode P X S k) g args ⟨t, nx⟩ = some (v, μ')) (hk : ∀ i b, J i = .at b 0 → μ'.obs.get i = t.get i) (hpv : plainV 5 v = true) :
  Calls P g args' W fun e W' => e = .returned v ∧ Same W W' := by
 have at0 : ∀ {i b s}, J i = .at b s → s = 0 ∧ i ≠ P.globals.size ∧ i < nx ∧ (i < P.globals.size → b = i) ∧
   ((∃ c ty fz, t.get i = some (.held c ty fz) ∧ W.heap[b]? = some (.cells c ty fz)) ∨ (∃ l ty, t.get i = some (.rom l ty) ∧ W.heap[b]? = some (.cells l.toArray ty (0, 0)) ∧ ∀ v ∈ l, plainV 5 v = true)) := fun {i b s} e => by
  rcases h.loc i with e1 | ⟨b1, e1, h1, h2, h3, h4⟩
  ·rw [e1] at e; exact absurd e (none_not _ _ _ _)
  ·rw [e1] at e; cases e; exact ⟨rfl, h1, h2, h3, h4⟩
 have nk : ∀ i, (i = P.globals.size ∨ nx ≤ i) → J i = noneKnown nx i := fun i hi => by
  rcases h.loc i with e1 | ⟨b1, e1, h1, h2, _⟩
  ·exact e1
  ·omega
 have hr : Rel J ⟨t, nx⟩ W := by
  refine ⟨fun i j b s t2 e1 e2 => ?_, fun i b s e => ?_, fun i hi => ?_, fun i o ho _ => ?_⟩
  ·obtain ⟨rfl, _⟩ := at0 e1
   obtain ⟨rfl, _⟩ := at0 e2
   exact h.inj i j b e1 e2
  ·obtain ⟨_, _, _, _, ⟨c, ty, fz, _, h4⟩ | ⟨l, ty, _, h4, _⟩⟩ := at0 e
   ·exact (Array.getElem?_eq_some_iff.1 h4).1
   ·exact (Array.getElem?_eq_some_iff.1 h4).1
  ·rw [nk i (.inr hi)]; exact if_neg (Nat.not_lt.2 hi)
  ·obtain ⟨b, e⟩ := h.only i o ho
   have ho' : t.get i = some o := ho
   obtain ⟨_, _, _, _, ⟨c, ty, fz, h3, h4⟩ | ⟨l, ty, h3, h4, h5⟩⟩ := at0 e
   ·rw [h3] at ho'
    cases ho'
    exact ⟨b, 0, e, h4⟩
   ·rw [h3] at ho'
    cases ho'
    exact ⟨b, 0, e, h4, fun v hv => plain_refl 5 (h5 v hv)⟩
 have hB : Base P J := by
  refine ⟨fun g hg => ?_, ?_⟩
  ·rcases h.loc g with e1 | ⟨b1, e1, h1, h2, h3, _⟩
   ·exact .inr (by rw [e1]; exact if_pos (Nat.lt_trans hg hnx))
   ·obtain rfl := h3 hg
    exact .inl ⟨0, e1⟩
  ·rw [nk _ (.inl rfl)]; exact if_pos hnx
 refine callsIn_wide.1 (fun_ok (code_ok hN hX hm hS k).1 g args _ _ μ' hrun _ W args' hr hB ha 0 _ fun J' v' w' h1 h2 h3 => ?_)
 refine ⟨by rw [plain_eq 5 hpv h1], h3.os, h3.output, h3.size, fun b2 hb2 => ?_, h3.tape⟩
 by_cases hex : ∃ i, J i = .at b2 0
 ·obtain ⟨i, e⟩ := hex
  have hJ1 : ∀ {o : Ob}, t.get i = some o → o ≠ .dead → ObRel J' w' b2 0 o := fun {o} ho hd => by
   obtain ⟨b3, s3, hJ, hob⟩ := h2.obj i _ ((hk i b2 e).trans ho) hd
   rcases h3.at_ _ _ _ e with e3 | ⟨e3, _⟩
   ·rw [e3] at hJ; cases hJ; exact hob
   ·rw [e3] at hJ; cases hJ
  obtain ⟨_, _, _, _, ⟨c, ty, fz, h5, h6⟩ | ⟨l, ty, h5, h6, _⟩⟩ := at0 e
  ·have hob' : w'.heap[b2]? = _ := hJ1 h5 (by simp)
   rw [hob', h6]
  ·obtain ⟨hc, _⟩ := hJ1 h5 (by simp)
   rw [hc, h6]
 ·refine h3.frame b2 hb2 fun i s e => ?_
  obtain ⟨rfl, _⟩ := at0 e
  exact absurd ⟨i, e⟩ hex
end
noncomputable section
variable {X : FuncId → List Value → Mem → Option (Value × Mem)}
theorem law_all {n ca go : Nat} {ad : Option Addr} {gv : Nat → Int} {fr : Int} {t0 : T Ob} {o0 : Option Ob} {r5 r6 : Ob} (hN : NewOk X 11995 t0 o0 r5 r6) (g0 : t0.get 880 = o0) (g5 : t0.get 5 = some r5) (g6 : t0.get 6 = some r6)
  (hal : ∀ k, aCallS Tryz.prog (aCode Tryz.prog X S0 k) S0 4 [] ⟨t0, 900⟩ = some (.bool true, ⟨t0, 900⟩)) (hrom : Rom ⟨t0, 900⟩)
  (hgo : ∀ i, i < n → ad = some ⟨880, go, none⟩ ∧ cellsAt ⟨t0, 900⟩ 880 (go + i) = some (.int .i64 (gv i))) :
  EndsF (aFun Tryz.prog (aCode Tryz.prog X S0 12000) 3 [.slice ad n ca, .int .i64 fr] ⟨t0, 900⟩) fun v μ' => v = .bool true ∧ μ'.obs.get 880 = o0 ∧ μ'.obs.get 5 = some r5 ∧ μ'.obs.get 6 = some r6 := by
 by_cases h : (-100000 ≤ fr ∧ fr ≤ 100000) ∧ n ≤ 60
 ·have hm : newMem X (0 + 11995) t0 = newMem X 11995 t0 := by rw [Nat.zero_add]
  have hN' : NewOk X (0 + 11995) t0 o0 r5 r6 := by rw [Nat.zero_add]; exact hN
  have e880 : (newMem X 11995 t0).obs.get 880 = (Mem.obs ⟨t0, 900⟩).get 880 := hN.held0.trans g0.symm
  have e5 : (newMem X 11995 t0).obs.get 5 = (Mem.obs ⟨t0, 900⟩).get 5 := hN.ro5.trans g5.symm
  have hrom' : Rom (newMem X (0 + 11995) t0) := by
   rw [hm]
   exact ⟨by rw [hN.next]; decide, fun k hk => by rw [← hrom.at_ k hk]; unfold cellsAt; rw [e5]⟩
  obtain ⟨v, μ', hr, rfl, lf, hlf, hk⟩ := law_main (X := X) (k := 0) (gi := 880) (go := go) (gv := gv) (ca := ca) hN' hal hrom' h.1 h.2 (fun i hi => ⟨(hgo i hi).1, by rw [hm, ← (hgo i hi).2]; unfold cellsAt; rw [e880]⟩) (by decide)
  rw [hm] at hk
  have hnx := hN.next
  have hr : aFun Tryz.prog (aCode Tryz.prog X S0 12000) 3 [.slice ad n ca, .int .i64 fr] ⟨t0, 900⟩ = some (.bool true, μ') := by rw [Nat.zero_add] at hr; exact hr
  exact ⟨_, μ', hr, rfl, (hk.2 880 (by omega) (by decide) (by decide) (by decide) (by omega)).trans hN.held0, (hk.2 _ (by omega) (by decide) (by decide) (by decide) (by omega)).trans hN.ro5, (hk.2 _ (by omega) (by decide) (by decide) (by decide) (by omega)).trans hN.ro6⟩
 ·have hr := law_out (X := X) (k := 0) (ca := ca) (ad := ad) (fr := fr) (n := n) hal h
  rw [Nat.zero_add] at hr
  exact ⟨_, _, hr, rfl, g0, g5, g6⟩
end
noncomputable section
def J0R : Nat → Ev.Loc := fun i => if i = 5 then .at 5 0 else if i = 6 then .at 6 0 else noneKnown 900 i
theorem t00_5 (r5 r6 : Ob) : (t00 r5 r6).get 5 = some r5 := by unfold t00; rw [T.get_set, if_neg (by decide), T.get_set, if_pos rfl]
theorem t00_6 (r5 r6 : Ob) : (t00 r5 r6).get 6 = some r6 := by unfold t00; rw [T.get_set, if_pos rfl]
theorem t00_off (r5 r6 : Ob) (i : Nat) (h5 : i ≠ 5) (h6 : i ≠ 6) : (t00 r5 r6).get i = none := by unfold t00; rw [T.get_set, if_neg h6, T.get_set, if_neg h5, T.get_e]
theorem J0R_at {i b : Nat} (h : J0R i = .at b 0) : (i = 5 ∨ i = 6) ∧ b = i := by
 unfold J0R at h
 by_cases h5 : i = 5
 ·rw [if_pos h5] at h; cases h; exact ⟨.inl h5, h5.symm⟩
 ·rw [if_neg h5] at h
  by_cases h6 : i = 6
  ·rw [if_pos h6] at h; cases h; exact ⟨.inr h6, h6.symm⟩
  ·rw [if_neg h6] at h; exact absurd h (none_not _ _ _ _)
theorem hands0R {W : World} {l5 l6 : List Value} {t5 t6 : TypeId} (h5 : W.heap[(5 : Nat)]? = some (.cells l5.toArray t5 (0, 0))) (h6 : W.heap[(6 : Nat)]? = some (.cells l6.toArray t6 (0, 0))) (p5 : ∀ v ∈ l5, plainV 5 v = true) (p6 : ∀ v ∈ l6, plainV 5 v = true) :
  HandsR Tryz.prog W 900 J0R (t00 (.rom l5 t5) (.rom l6 t6)) := by
 refine ⟨fun i => ?_, fun i j b e1 e2 => (J0R_at e1).2.symm.trans (J0R_at e2).2, fun i o ho => ?_⟩
 ·by_cases h : i = 5
  ·subst h
   exact .inr ⟨_, if_pos rfl, by decide +kernel, by decide, fun _ => rfl, .inr ⟨l5, t5, t00_5 _ _, h5, p5⟩⟩
  ·by_cases g : i = 6
   ·subst g
    exact .inr ⟨_, (if_neg (by decide)).trans (if_pos rfl), by decide +kernel, by decide, fun _ => rfl, .inr ⟨l6, t6, t00_6 _ _, h6, p6⟩⟩
   ·exact .inl ((if_neg h).trans (if_neg g))
 ·by_cases h : i = 5
  ·subst h; exact ⟨_, if_pos rfl⟩
  ·by_cases g : i = 6
   ·subst g; exact ⟨_, (if_neg (by decide)).trans (if_pos rfl)⟩
   ·rw [t00_off _ _ _ h g] at ho; cases ho
def J1R (b : Nat) : Nat → Ev.Loc := fun i => if i = 880 then .at b 0 else J0R i
theorem hands1R {W : World} {b : Nat} {c : Array Value} {ty : TypeId} {fz : Nat × Nat} {l5 l6 : List Value} {t5 t6 : TypeId} (hb : W.heap[b]? = some (.cells c ty fz)) (n5 : b ≠ 5) (n6 : b ≠ 6) (h : HandsR Tryz.prog W 900 J0R (t00 (.rom l5 t5) (.rom l6 t6))) :
  HandsR Tryz.prog W 900 (J1R b) ((t00 (.rom l5 t5) (.rom l6 t6)).set 880 (.held c ty fz)) := by
 refine ⟨fun i => ?_, fun i j b' e1 e2 => ?_, fun i o ho => ?_⟩
 ·by_cases g : i = 880
  ·subst g
   exact .inr ⟨b, if_pos rfl, by decide +kernel, by decide, fun hh => absurd hh (by decide +kernel), .inl ⟨c, ty, fz, by rw [T.get_set, if_pos rfl], hb⟩⟩
  ·have e : J1R b i = J0R i := if_neg g
   rw [e]
   rcases h.loc i with h1 | ⟨b1, h1, h2, h3, h4, h5⟩
   ·exact .inl h1
   ·refine .inr ⟨b1, h1, h2, h3, h4, ?_⟩
    rw [T.get_set, if_neg g]
    exact h5
 ·unfold J1R at e1 e2
  by_cases g1 : i = 880
  ·by_cases g2 : j = 880
   ·rw [g1, g2]
   ·rw [if_pos g1] at e1; rw [if_neg g2] at e2; cases e1
    have := J0R_at e2
    rcases this.1 with h1 | h1
    ·exact absurd (this.2.trans h1) n5
    ·exact absurd (this.2.trans h1) n6
  ·rw [if_neg g1] at e1
   by_cases g2 : j = 880
   ·rw [if_pos g2] at e2; cases e2
    have := J0R_at e1
    rcases this.1 with h1 | h1
    ·exact absurd (this.2.trans h1) n5
    ·exact absurd (this.2.trans h1) n6
   ·rw [if_neg g2] at e2; exact h.inj i j b' e1 e2
 ·by_cases g : i = 880
  ·exact ⟨b, if_pos g⟩
  ·rw [T.get_set, if_neg g] at ho
   obtain ⟨b1, h1⟩ := h.only i o ho
   exact ⟨b1, (if_neg g).trans h1⟩
end
noncomputable section
theorem arel_pair {J : Nat → Ev.Loc} {v v' u u' : Value} (h : VRel J v v') (g : VRel J u u') : ARel J [v, u].toArray #[v', u'] := ⟨rfl, fun i a b ha hb => by
 match i with
 | 0 => simp at ha hb; subst ha hb; exact h
 | 1 => simp at ha hb; subst ha hb; exact g
 | i + 2 => simp at ha⟩
def Emp (v : Value) (ad : Option Addr) (c : Nat) : Prop := (ad = none ∧ c = 0 ∧ v = .slice none 0 0) ∨ ∃ a cap, ad = some ⟨0, 0, none⟩ ∧ c = 2 * cap ∧ v = .slice (some a) 0 cap
structure Full (W : World) (v : Value) (kd : IntKind) (b o n cap : Nat) (c : Array Value) (t : TypeId) (fz : Nat × Nat) (z : Nat → Int) : Prop where
 val : v = .slice (some ⟨b, o, none⟩) n cap
 pos : 0 < n
 le : n ≤ cap
 blk : W.heap[b]? = some (.cells c t fz)
 cell : ∀ k, k < n → c[o + k]? = some (.int kd (z k))
theorem Emp.rel {v : Value} {ad : Option Addr} {c : Nat} (h : Emp v ad c) {J : Nat → Ev.Loc} (hJ : J 0 = .dead) : VRel J (.slice ad 0 c) v := by
 rcases h with ⟨rfl, rfl, rfl⟩ | ⟨a, cap, rfl, rfl, rfl⟩
 ·exact .sliceNil 0 0
 ·exact .sliceDead a cap hJ (.inl ⟨by omega, by omega⟩)
theorem Full.cells {W : World} {v : Value} {kd : IntKind} {b o n cap : Nat} {c : Array Value} {t : TypeId} {fz : Nat × Nat} {z : Nat → Int} (h : Full W v kd b o n cap c t fz z) {μ : Mem} {hid : Nat} (hh : μ.obs.get hid = some (.held c t fz)) (k : Nat) (hk : k < n) : cellsAt μ hid (o + k) = some (.int kd (z k)) := by
 obtain ⟨hsz, hcj⟩ := Array.getElem?_eq_some_iff.1 (h.cell k hk)
 have hm : Nat.mod (o + k) (c.map strip).size = o + k := by show (o + k) % _ = _; rw [Nat.mod_eq_of_lt]; simpa using hsz
 unfold cellsAt
 rw [hh]
 show (if o + k < c.size then _ else _) = _
 rw [if_pos hsz]
 simp only [cellAt, T.get_e, hm]
 simp [Array.getD, hsz, hcj]
 rfl
theorem Full.rel {W : World} {v : Value} {kd : IntKind} {b o n cap : Nat} {c : Array Value} {t : TypeId} {fz : Nat × Nat} {z : Nat → Int} (h : Full W v kd b o n cap c t fz z) {J : Nat → Ev.Loc} {hid : Nat} (hJ : J hid = .at b 0) : VRel J (.slice (some ⟨hid, o, none⟩) n (2 * cap)) v := by
 rw [h.val]
 exact .slice hJ (.inl ⟨by omega, by omega⟩)
end
noncomputable section
theorem named : Named Tryz.prog := named_of (by kernel_rfl)
theorem mixed : Tryz.prog.follows .mixedOrders = true := by kernel_rfl
def xs : List (FuncId × XK) := [(67, .f64bits), (75, .f64from), (143, .f64bits), (201, .same), (202, .noZero 5), (196, .indexByte)]
theorem rows : ∀ x ∈ xs, ∃ fn, XRow Tryz.prog x.1 x.2 fn := by
 intro x hx
 simp only [xs, List.mem_cons, List.not_mem_nil, or_false] at hx
 rcases hx with rfl | rfl | rfl | rfl | rfl | rfl
 ·exact ⟨_, Tryz.func67, by kernel_rfl, by kernel_rfl, by kernel_rfl, by kernel_rfl, fun e h => by cases h⟩
 ·exact ⟨_, Tryz.func75, by kernel_rfl, by kernel_rfl, by kernel_rfl, by kernel_rfl, fun e h => by cases h⟩
 ·exact ⟨_, Tryz.func143, by kernel_rfl, by kernel_rfl, by kernel_rfl, by kernel_rfl, fun e h => by cases h⟩
 ·exact ⟨_, Tryz.func201, by kernel_rfl, by kernel_rfl, by kernel_rfl, by kernel_rfl, fun e h => by cases h⟩
 ·exact ⟨_, Tryz.func202, by kernel_rfl, by kernel_rfl, by kernel_rfl, by kernel_rfl, fun e h => by cases h; exact ⟨Tryz.f202.resultTypes.getD 0 0, by kernel_rfl, by kernel_rfl⟩⟩
 ·exact ⟨_, Tryz.func196, by kernel_rfl, by kernel_rfl, by kernel_rfl, by kernel_rfl, fun e h => by cases h⟩
theorem dead900 : noneKnown 900 0 = .dead := if_pos (by decide)
theorem ran_e {W : World} {v : Value} {ad : Option Addr} {c : Nat} {fr : Int} {l5 l6 : List Value} {t5 t6 : TypeId} (sums : SumsOk Tryz.prog S0) (hH : HandsR Tryz.prog W 900 J0R (t00 (.rom l5 t5) (.rom l6 t6)))
  (hal : ∀ k, aCallS Tryz.prog (aCode Tryz.prog (aExt xs) S0 k) S0 4 [] ⟨t00 (.rom l5 t5) (.rom l6 t6), 900⟩ = some (.bool true, ⟨t00 (.rom l5 t5) (.rom l6 t6), 900⟩)) (hrom : Rom ⟨t00 (.rom l5 t5) (.rom l6 t6), 900⟩)
  (h : Emp v ad c) : Calls Tryz.prog 3 #[v, .int .i64 fr] W fun e W' => e = .returned (.bool true) ∧ Same W W' := by
 obtain ⟨v1, μ', hrun, hv1, k8, k5, k6⟩ := law_all (X := aExt xs) (n := 0) (ca := c) (ad := ad) (go := 0) (gv := fun _ => 0) (fr := fr) (newE (X := aExt xs) (.rom l5 t5) (.rom l6 t6)) (t00_off _ _ _ (by decide) (by decide)) (t00_5 _ _) (t00_6 _ _) hal hrom (fun i hi => absurd hi (Nat.not_lt_zero _))
 subst hv1
 refine handsR_calls named (aExt_ok rows) mixed sums (by decide +kernel) hH (arel_pair (h.rel ((if_neg (by decide)).trans ((if_neg (by decide)).trans dead900))) (.int _ _)) hrun (fun i b e => ?_) rfl
 rcases (J0R_at e).1 with rfl | rfl
 ·rw [k5, t00_5]
 ·rw [k6, t00_6]
end
noncomputable section
theorem romKept_congr {μ μ' : Mem} : ∀ (rs : List (Nat × List Value × TypeId)), (∀ x ∈ rs, μ.obs.get x.1 = μ'.obs.get x.1) → romKept μ rs = romKept μ' rs
 | [], _ => rfl
 | x :: rs, h => by
   have h1 := h x (List.mem_cons_self ..)
   have h2 := romKept_congr rs fun y hy => h y (List.mem_cons_of_mem _ hy)
   unfold romKept at h2 ⊢
   simp only [List.all_cons, h1, h2]
theorem alive_call {X : FuncId → List Value → Mem → Option (Value × Mem)} {μ : Mem} (h : romKept μ roms = true) (k : Nat) : aCallS Tryz.prog (aCode Tryz.prog X S0 k) S0 4 [] μ = some (.bool true, μ) := by
 show (match romKept μ roms with | true => some (Value.bool true, μ) | false => none) = _
 rw [h]
def ni64 : Value → Bool
 | .int .i64 _ => false
 | _ => true
theorem Full.off {W : World} {v : Value} {b o n cap : Nat} {c : Array Value} {t : TypeId} {fz : Nat × Nat} {z : Nat → Int} (h : Full W v .i64 b o n cap c t fz z) {g : Nat} {l : List Value} {t5 : TypeId} (hg : W.heap[g]? = some (.cells l.toArray t5 (0, 0))) (hn : l.all ni64 = true) : b ≠ g := by
 rintro rfl
 have e := h.blk
 rw [hg] at e
 injection e with e
 injection e with e1 e2 e3
 have hc := h.cell 0 h.pos
 rw [← e1] at hc
 have hc : l[o + 0]? = some (.int .i64 (z 0)) := by simpa using hc
 have := List.all_eq_true.1 hn _ (List.mem_of_getElem? hc)
 simp [ni64] at this
structure Laid (W : World) (l5 l6 : List Value) (t5 t6 : TypeId) : Prop where
 h5 : W.heap[(5 : Nat)]? = some (.cells l5.toArray t5 (0, 0))
 h6 : W.heap[(6 : Nat)]? = some (.cells l6.toArray t6 (0, 0))
 p5 : l5.all (plainV 5) = true
 p6 : l6.all (plainV 5) = true
 n5 : l5.all ni64 = true
 n6 : l6.all ni64 = true
 kept : romKept ⟨t00 (.rom l5 t5) (.rom l6 t6), 900⟩ roms = true
 off : roms.all (fun x => Nat.blt x.1 880) = true
 rom : Rom ⟨t00 (.rom l5 t5) (.rom l6 t6), 900⟩
theorem ran_f {W : World} {v : Value} {fr : Int} {b o n cap : Nat} {c : Array Value} {t : TypeId} {fz : Nat × Nat} {z : Nat → Int} {l5 l6 : List Value} {t5 t6 : TypeId} (sums : SumsOk Tryz.prog S0) (hL : Laid W l5 l6 t5 t6) (h : Full W v .i64 b o n cap c t fz z) :
  Calls Tryz.prog 3 #[v, .int .i64 fr] W fun e W' => e = .returned (.bool true) ∧ Same W W' := by
 have hH := hands1R h.blk (h.off hL.h5 hL.n5) (h.off hL.h6 hL.n6) (hands0R hL.h5 hL.h6 (List.all_eq_true.1 hL.p5) (List.all_eq_true.1 hL.p6))
 have e8 : ((t00 (.rom l5 t5) (.rom l6 t6)).set 880 (Ob.held c t fz)).get 880 = some (Ob.held c t fz) := by rw [T.get_set, if_pos rfl]
 have eo : ∀ i, i ≠ 880 → ((t00 (.rom l5 t5) (.rom l6 t6)).set 880 (Ob.held c t fz)).get i = (t00 (.rom l5 t5) (.rom l6 t6)).get i := fun i hi => by rw [T.get_set, if_neg hi]
 have e5 := (eo 5 (by decide)).trans (t00_5 (.rom l5 t5) (.rom l6 t6))
 have e6 := (eo 6 (by decide)).trans (t00_6 (.rom l5 t5) (.rom l6 t6))
 have hk : romKept ⟨(t00 (.rom l5 t5) (.rom l6 t6)).set 880 (Ob.held c t fz), 900⟩ roms = true := by
  rw [← hL.kept]
  refine romKept_congr _ fun x hx => eo _ ?_
  have hx' : Nat.ble (x.1 + 1) 880 = true := List.all_eq_true.1 hL.off x hx
  exact Nat.ne_of_lt (Nat.le_of_ble_eq_true hx')
 have hrom : Rom ⟨(t00 (.rom l5 t5) (.rom l6 t6)).set 880 (Ob.held c t fz), 900⟩ := ⟨(by decide : 5 < 900), fun k hk => by
  rw [← hL.rom.at_ k hk]
  have e : (Mem.obs ⟨(t00 (.rom l5 t5) (.rom l6 t6)).set 880 (Ob.held c t fz), 900⟩).get 5 = (Mem.obs ⟨t00 (.rom l5 t5) (.rom l6 t6), 900⟩).get 5 := eo _ (by decide)
  unfold cellsAt
  rw [e]⟩
 obtain ⟨v1, μ', hrun, hv1, k8, k5, k6⟩ := law_all (X := aExt xs) (n := n) (ca := 2 * cap) (ad := some ⟨880, o, none⟩) (go := o) (gv := z) (fr := fr) (new1 (X := aExt xs) (.rom l5 t5) (.rom l6 t6) (.held c t fz)) e8 e5 e6 (fun k => alive_call hk k) hrom (fun i hi => ⟨rfl, h.cells (μ := ⟨_, 900⟩) e8 i hi⟩)
 subst hv1
 refine handsR_calls named (aExt_ok rows) mixed sums (by decide +kernel) hH (arel_pair (h.rel (if_pos rfl)) (.int _ _)) hrun (fun i b' e => ?_) rfl
 by_cases g : i = 880
 ·subst g; exact k8.trans e8.symm
 ·have e : J0R i = .at b' 0 := (if_neg g).symm.trans e
  rcases (J0R_at e).1 with rfl | rfl
  ·exact k5.trans e5.symm
  ·exact k6.trans e6.symm
def Reads (W : World) (v : Value) (kd : IntKind) : Prop := (∃ ad c, Emp v ad c) ∨ ∃ b o n cap c t fz z, Full W v kd b o n cap c t fz z
theorem reads_nil (W : World) (kd : IntKind) : Reads W (.slice none 0 0) kd := .inl ⟨none, 0, .inl ⟨rfl, rfl, rfl⟩⟩
theorem reads_some {W : World} {a : Addr} {len cap : Nat} {kd : IntKind} {zs : List Int} (hlc : len ≤ cap) (hl : len ≤ zs.length) (hcell : ∀ i, i < zs.length → W.cell? (a.add i) = some (.int kd (zs.getD i 0))) : Reads W (.slice (some a) len cap) kd := by
 by_cases hn : len = 0
 ·subst hn
  exact .inl ⟨some ⟨0, 0, none⟩, 2 * cap, .inr ⟨a, cap, rfl, rfl, rfl⟩⟩
 have h0 := hcell 0 (by omega)
 have ha0 : a.add 0 = a := rfl
 rw [ha0] at h0
 obtain ⟨b, o, sp⟩ := a
 obtain ⟨c, t, fz, hb, hsp⟩ : ∃ c t fz, W.heap[b]? = some (.cells c t fz) ∧ sp = none := by
  unfold World.cell? at h0
  simp only at h0
  split at h0
  ·rename_i c t fz hb
   refine ⟨c, t, fz, hb, ?_⟩
   cases sp with
   | none => rfl
   | some x => simp at h0
  ·cases h0
 subst hsp
 have hc : ∀ j, j < zs.length → c[o + j]? = some (.int kd (zs.getD j 0)) := fun j hj => by
  have h1 := hcell j hj
  unfold World.cell? Addr.add at h1
  by_cases hj0 : j = 0
  ·subst hj0; simp only [if_true, hb] at h1; simpa using h1
  ·rw [if_neg hj0] at h1; simp only [hb] at h1; simpa using h1
 exact .inr ⟨b, o, len, cap, c, t, fz, fun k => zs.getD k 0, ⟨rfl, by omega, hlc, hb, fun k hk => hc k (by omega)⟩⟩
theorem ran_any {W : World} {v : Value} {fr : Int} {l5 l6 : List Value} {t5 t6 : TypeId} (sums : SumsOk Tryz.prog S0) (hL : Laid W l5 l6 t5 t6) (h : Reads W v .i64) :
  Calls Tryz.prog 3 #[v, .int .i64 fr] W fun e W' => e = .returned (.bool true) ∧ Same W W' := by
 rcases h with ⟨ad, c, h⟩ | ⟨b, o, n, cap, c, t, fz, z, h⟩
 ·exact ran_e sums (hands0R hL.h5 hL.h6 (List.all_eq_true.1 hL.p5) (List.all_eq_true.1 hL.p6)) (fun k => alive_call hL.kept k) hL.rom h
 ·exact ran_f sums hL h
end
end Go.Proofs.YtcbdcaionmpekaaGreatDoor.tf
