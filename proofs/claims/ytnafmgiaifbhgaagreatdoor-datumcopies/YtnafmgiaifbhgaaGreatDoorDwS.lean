/-
  distafflaw05.DatumCopies, part S: its walk and its law. No conditions.
-/
import Derived.Test.YtnafmgiaifbhgaaGreatDoorDwR
set_option maxRecDepth 20000
set_option maxHeartbeats 8000000
set_option linter.unusedSimpArgs false
set_option linter.unusedVariables false
set_option linter.unusedSectionVars false
namespace Go.Proofs.YtnafmgiaifbhgaaGreatDoor.dc
open Go Go.Proofs Go.Proofs.YtnafmgiaifbhgaaGreatDoor Go.Proofs.YtnafmgiaifbhgaaGreatDoor.Ev
noncomputable section
section
set_option linter.defProp false
variable {X : XT} {ev : Code → Rg → Mem → Option (Ax × Rg × Mem)}
end
end
noncomputable section
section
set_option linter.defProp false
variable {X : XT} {ev : Code → Rg → Mem → Option (Ax × Rg × Mem)}
end
theorem rngS (s : ByteArray) : jhu pZ 9 (.string s) = some (.siter s 0, fun id => .pointer (some ⟨id, 0, none⟩)) := by
 unfold jhu
 simp only [Tryz.underlying9]
theorem next_yes {μ : Mem} {q p : Nat} {s : ByteArray} (h : μ.obs.get q = some (.siter s p)) (hp : p < (bys s).length) : jii μ (.pointer (some ⟨q, 0, none⟩)) = some (.tuple #[.bool true, .int .i64 (.ofNat p), .int .i32 (.ofNat (Utf8.decode s p).1)], ⟨μ.obs.set q (.siter s (p + (Utf8.decode s p).2)), μ.next⟩) := by
 unfold jii
 simp only [h]
 rw [show Nat.blt p s.data.toList.length = true from by rw [← jdr]; simpa using hp]
 rfl
theorem next_no {μ : Mem} {q p : Nat} {s : ByteArray} (h : μ.obs.get q = some (.siter s p)) (hp : (bys s).length ≤ p) : jii μ (.pointer (some ⟨q, 0, none⟩)) = some (.tuple #[.bool false], μ) := by
 unfold jii
 simp only [h]
 rw [show Nat.blt p s.data.toList.length = false from by rw [← jdr]; cases e : Nat.blt p (bys s).length with | false => rfl | true => exact absurd (by simpa using e) (Nat.not_lt.2 hp)]
theorem Own.len {st e : TypeId} {μ0 μ : Mem} {v : Value} {xs : List Value} (hu : pZ.underlying st = some (.slice e)) (h : Own e μ0 μ v xs) : aLen pZ st v = some xs.length := by
 unfold aLen
 rcases h.good with ⟨rfl, rfl⟩ | ⟨i, m, z, ov, fx, sh, c, rfl, _⟩ <;> simp only [hu] <;> rfl
end
noncomputable section
section
set_option linter.defProp false
variable {X : XT} {ev : Code → Rg → Mem → Option (Ax × Rg × Mem)}
def gg11 := go_call (P := pZ) (X := X) (ev := ev) (S := S0) Tryz.func11 rfl rfl
def gg22 := go_call (P := pZ) (X := X) (ev := ev) (S := S0) Tryz.func22 rfl rfl
end
def Dp : Nat → Dat → Prop
 | 0, _ => False
 | n + 1, .mk _ _ _ _ _ ls _ l => ls.length ≤ 200 ∧ l.length ≤ 4000 ∧ ∀ x ∈ l, Dp n x
theorem Sm.dp : ∀ {n : Nat} {d : Dat}, Sm n d → Dp n d
 | 0, _, h => h.elim
 | n + 1, .mk _ _ _ _ _ ls _ l, h => ⟨h.1, h.2.2.1, fun x hx => Sm.dp (h.2.2.2 x hx)⟩
theorem ji5 (fl : Bool) (f : Nat) (p : Bool) (xs : List Nat) : jez fl fl f f p p xs xs = true := by
 cases fl <;> simp [jez]
theorem str_ne1 (a : ByteArray) : aStr .neq a a = some (.bool false) := by
 unfold aStr
 simp only [jgu, decide_true, Bool.not_true]
theorem jdw (a : Int) : ieq a a = true := by rw [jd5]; exact beq_self_eq_true a
theorem bits_lt {d : Dat} {μ : Mem} {cs : List Value} (h : IsD μ d cs) : ∀ {k n fl f neg ls s l}, d = .mk k n fl f neg ls s l → f < 18446744073709551616 := by
 rintro k n fl f neg ls s l rfl
 obtain ⟨_, _, _, ⟨_, _, h, _⟩, _⟩ := jce.1 h
 exact wf_f64 h
theorem ji4 {n : Nat} {l : List Dat} {v w : Value} (hl : l.length ≤ 4000) (ih : ∀ {d : Dat} {cs ds : List Value} {X : XT} {g : Nat} {μ : Mem}, d ∈ l → jch X → IsD μ d cs → IsD μ d ds → 600 + 5000 * n ≤ g →
  ∃ μ', aFun pZ (jao pZ X S0 g) 11 [.agg cs.toArray, .agg ds.toArray] μ = some (.bool true, μ') ∧ Grow μ μ') :
  ∀ (j i : Nat), i + j = l.length → ∀ {X : XT} {e : Nat} {tm : T Value} {μ : Mem}, jch X → IsL μ l v → IsL μ l w → 600 + 5000 * n ≤ e → jam tm 0 = v → jam tm 1 = w → jam tm 12 = .int .i64 (.ofNat l.length) → jam tm 13 = .int .i64 (.ofNat i) →
  EndsC (jao pZ X S0 (e + j + 40) (.loop (jaR Tryz.f22 0)) ⟨27, tm, [], none⟩ μ) fun x r μ' => Grow μ μ' ∧ x = .exit 0 ∧ ∃ tm', r = ⟨27, tm', [], none⟩ := by
 intro j
 induction j with
 | zero =>
   intro i hi X e tm μ hX hv hw he h0 h1 h12 h13
   have hi : i = l.length := hi
   have e1 : ilt (.ofNat i) (.ofNat l.length) = false := (jat _ _).trans (decide_eq_false (by omega))
   refine jan ?_
   repeat (first | refine jab rfl ?_ | (refine jap rfl ?_; (try simp only [go_sem, h12, h13, e1]); fail_if_success refine ifC ?_) | (refine jad rfl ?_; (repeat (first | (refine jai ?_ rfl ?_; (solve | simp only [go_sem, h12, h13, e1])) | (refine jaf (v := ?_) (μ' := ?_) ?_ ?_ rfl ?_; rotate_left 2; (solve | rfl | simp only [go_sem, h12, h13, e1]); (solve | simp only [go_sem, h12, h13, e1]; try exact rfl)))); simp only [go_sem]))
   exact ⟨Grow.refl _, by trivial, _, rfl⟩
 | succ j ihj =>
   intro i hi X e tm μ hX hv hw he h0 h1 h12 h13
   have hlt : i < l.length := by omega
   have e1 : ilt (.ofNat i) (.ofNat l.length) = true := (jat _ _).trans (decide_eq_true hlt)
   have a1 : jax .i64 (Int.add (.ofNat i) 1) = .ofNat (i + 1) := jaV i 1 (by omega)
   obtain ⟨bi, bo, bc, cs, hbv, hb, hH, hD⟩ := hv.at (List.getElem?_eq_getElem hlt)
   obtain ⟨ci, co, cc, ds, hcv, hc, hH2, hD2⟩ := hw.at (List.getElem?_eq_getElem hlt)
   have hix : ∀ (r : Rg) (x y : Operand), aev pZ r x = v → aev pZ r y = .int .i64 (.ofNat i) → jas pZ (aev pZ r) 28 x y = some (.pointer (some ⟨bi, bo + 8 * i, none⟩)) := fun r x y g1 g2 => ix_D hlt (g1.trans hbv) g2
   have hiy : ∀ (r : Rg) (x y : Operand), aev pZ r x = w → aev pZ r y = .int .i64 (.ofNat i) → jas pZ (aev pZ r) 28 x y = some (.pointer (some ⟨ci, co + 8 * i, none⟩)) := fun r x y g1 g2 => ix_D hlt (g1.trans hcv) g2
   have hl1 : ∀ m, jbH pZ ⟨μ.obs, m⟩ 30 (.pointer (some ⟨bi, bo + 8 * i, none⟩)) = some (.agg cs.toArray) := fun m => Has.ld_D (μ := ⟨μ.obs, m⟩) hH hD.eight.1
   have hl2 : ∀ m, jbH pZ ⟨μ.obs, m⟩ 30 (.pointer (some ⟨ci, co + 8 * i, none⟩)) = some (.agg ds.toArray) := fun m => Has.ld_D (μ := ⟨μ.obs, m⟩) hH2 hD2.eight.1
   have hG1 : Grow μ ⟨μ.obs, μ.next + 10⟩ := jb7 μ 10
   obtain ⟨μ2, hr, hG2⟩ := ih (X := X) (g := e + (j + 1) + 32) (List.getElem_mem hlt) hX (hD.grow hG1) (hD2.grow hG1) (by omega)
   have hG : Grow μ μ2 := hG1.trans hG2
   refine jan ?_
   repeat (first | refine jab rfl ?_ | (refine jap rfl ?_; (try simp only [go_sem, h12, h13, e1]); fail_if_success refine ifC ?_) | (refine jad rfl ?_; (repeat (first | (refine jai ?_ rfl ?_; (solve | simp only [go_sem, h12, h13, e1])) | (refine jaf (v := ?_) (μ' := ?_) ?_ ?_ rfl ?_; rotate_left 2; (solve | rfl | simp only [go_sem, h12, h13, e1]); (solve | simp only [go_sem, h12, h13, e1]; try exact rfl)))); simp only [go_sem]))
   refine jaG (n := 10) (ms := [0, 0, 3, 7, 0, 0, 48, 112, 255, 511]) (ord := [0, 1, 2, 3, 4, 5, 6, 7, 8, 9]) (ds := ?_) ?_ ?_ ?_ ?_ ?_ ?_
   rotate_left
   ·kernel_rfl
   ·kernel_rfl
   ·kernel_rfl
   ·rfl
   ·rfl
   repeat (first | (refine jaA ?_ rfl ?_; (solve | simp only [go_sem, h0, h1, hix, hiy, hl1, hl2, gg11, hr])) | (refine jar (v := ?_) (μ' := ?_) (sn' := ?_) ?_ ?_ rfl ?_; rotate_left 3; (solve | rfl | simp only [go_sem, h0, h1, hix, hiy, hl1, hl2, gg11, hr]); (solve | simp only [jav, heavy, jaI, jaq, go_sem, h0, h1, hix, hiy, hl1, hl2, gg11, hr]; try exact rfl)))
   simp only [dRun, jay, jak]
   repeat (first | refine jab rfl ?_ | (refine jap rfl ?_; (try simp only [go_sem, h0, h1, h12, h13, a1]); fail_if_success refine ifC ?_) | (refine jad rfl ?_; (repeat (first | (refine jai ?_ rfl ?_; (solve | simp only [go_sem, h0, h1, h12, h13, a1])) | (refine jaf (v := ?_) (μ' := ?_) ?_ ?_ rfl ?_; rotate_left 2; (solve | rfl | simp only [go_sem, h0, h1, h12, h13, a1]); (solve | simp only [go_sem, h0, h1, h12, h13, a1]; try exact rfl)))); simp only [go_sem]))
   rw [show e + (j + 1) + 39 = e + j + 40 from by omega]
   refine EndsC.mono (ihj (i + 1) (by omega) hX (hv.grow hG) (hw.grow hG) he (by simp only [go_sem, h0]) (by simp only [go_sem, h1]) (by simp only [go_sem, h12]) (by simp only [go_sem])) ?_
   rintro x r' μ' ⟨g1, g2⟩
   exact ⟨hG.trans g1, g2⟩
theorem same5_eq : ∀ (n : Nat) {d : Dat} {cs ds : List Value} {X : XT} {g : Nat} {μ : Mem}, Dp n d → jch X → IsD μ d cs → IsD μ d ds → 600 + 5000 * n ≤ g →
  ∃ μ', aFun pZ (jao pZ X S0 g) 11 [.agg cs.toArray, .agg ds.toArray] μ = some (.bool true, μ') ∧ Grow μ μ' := by
 intro n
 induction n with
 | zero => intro d cs ds X g μ hS; exact hS.elim
 | succ n ih =>
   intro d cs ds X g μ hS hX hD hD2 hg
   obtain ⟨k, hk, rfl⟩ : ∃ k, 5000 * (n + 1) ≤ k ∧ g = k + 600 := ⟨g - 600, by omega, by omega⟩
   obtain ⟨kd, m, fl, f, neg, ls, s, l⟩ := d
   obtain ⟨hls, hll, hsub⟩ : ls.length ≤ 200 ∧ l.length ≤ 4000 ∧ ∀ x ∈ l, Dp n x := hS
   have hf := bits_lt hD rfl
   obtain ⟨vl, vi, rfl, _, hU, hL⟩ := jce.1 hD
   obtain ⟨wl, wi, rfl, _, hU2, hL2⟩ := jce.1 hD2
   obtain ⟨h1, h2⟩ := jgo μ 30 30 [.int .i64 kd, .int .i64 m, .bool fl, .float .f64 f, .bool neg, vl, .string s, vi] [.int .i64 kd, .int .i64 m, .bool fl, .float .f64 f, .bool neg, wl, .string s, wi]
   have hG1 := jd8 μ (obL 30 [.int .i64 kd, .int .i64 m, .bool fl, .float .f64 f, .bool neg, vl, .string s, vi]) (obL 30 [.int .i64 kd, .int .i64 m, .bool fl, .float .f64 f, .bool neg, wl, .string s, wi])
   obtain ⟨μ1, hμ1⟩ : ∃ μ1 : Mem, μ1 = ⟨(μ.obs.set μ.next (obL 30 [.int .i64 kd, .int .i64 m, .bool fl, .float .f64 f, .bool neg, vl, .string s, vi])).set (μ.next + 1) (obL 30 [.int .i64 kd, .int .i64 m, .bool fl, .float .f64 f, .bool neg, wl, .string s, wi]), μ.next + 1 + 1⟩ := ⟨_, rfl⟩
   rw [← hμ1] at h1 h2 hG1
   have n1 : μ1.next = μ.next + 1 + 1 := by rw [hμ1]
   have hN1 := jeF h1
   have hN2 := jeF h2
   obtain ⟨c0, c1, c2, c3, c4, c5, c6, c7⟩ := Has.c8 h1
   obtain ⟨d0, d1, d2, d3, d4, d5, d6, d7⟩ := Has.c8 h2
   obtain ⟨μ2, r1, G2⟩ := same4_eq (X := X) (g := k + 596) (fl := fl) (f2 := fl) (p := neg) (q := neg) hX hf hf (hU.grow hG1) (hU2.grow hG1) (by omega) (by omega)
   rw [ji5] at r1
   have h1' : Has μ2 μ.next 0 _ := h1.keep (G2.2 _ (by omega))
   have h2' : Has μ2 (μ.next + 1) 0 _ := h2.keep (G2.2 _ (by omega))
   obtain ⟨_, _, _, _, _, _, _, c7'⟩ := Has.c8 h1'
   obtain ⟨_, _, _, _, _, _, _, d7'⟩ := Has.c8 h2'
   have hLa := (hL.grow hG1).grow G2
   have hLb := (hL2.grow hG1).grow G2
   have lA := hLa.len
   have lB := hLb.len
   have q1 := jdw kd
   have q2 := jdw m
   have q3 := str_ne1 s
   have q4 : ieq (.ofNat l.length) (.ofNat l.length) = true := jdw _
   have hSL : ∃ μ', aFun pZ (jao pZ X S0 (k + 596)) 22 [vi, wi] μ2 = some (.bool true, μ') ∧ Grow μ2 μ' := by
    have key : EndsF (aFun pZ (jao pZ X S0 (k + 596)) 22 [vi, wi] μ2) fun r μ' => r = .bool true ∧ Grow μ2 μ' := by
     refine jaj Tryz.func22 rfl rfl (nbl rfl) ?_
     simp only [go_sem, Tryz.ntmps22]
     have zz := (⟨@lA, @lB, @jae, @q4⟩ : _ ∧ _ ∧ _ ∧ _)
     repeat (first | refine jab rfl ?_ | (refine jap rfl ?_; (try simp only [go_sem, jaa, zz]); fail_if_success refine ifC ?_) | (refine jad rfl ?_; (repeat (first | (refine jai ?_ rfl ?_; (solve | simp only [go_sem, jaa, zz])) | (refine jaf (v := ?_) (μ' := ?_) ?_ ?_ rfl ?_; rotate_left 2; (solve | rfl | simp only [go_sem, jaa, zz]); (solve | simp only [go_sem, jaa, zz]; try exact rfl)))); simp only [go_sem]))
     clear zz
     rw [show k + 591 = (k + 551 - l.length) + l.length + 40 from by omega]
     refine EndsC.mono (ji4 (n := n) hll (fun hm hX h1 h2 hg => ih (hsub _ hm) hX h1 h2 hg) l.length 0 (Nat.zero_add _) hX hLa hLb (by omega) (by simp only [go_sem]) (by simp only [go_sem]) (by simp only [go_sem]) (by simp only [go_sem]; try rfl)) ?_
     rintro x r μ' ⟨g1, rfl, tm', rfl⟩
     simp only [jaX, reduceIte, jak]
     repeat (first | refine jab rfl ?_ | (refine jap rfl ?_; (try simp only [go_sem, undef]); fail_if_success refine ifC ?_) | (refine jad rfl ?_; (repeat (first | (refine jai ?_ rfl ?_; (solve | simp only [go_sem, undef])) | (refine jaf (v := ?_) (μ' := ?_) ?_ ?_ rfl ?_; rotate_left 2; (solve | rfl | simp only [go_sem, undef]); (solve | simp only [go_sem, undef]; try exact rfl)))); simp only [go_sem]))
     refine jah ?_
     refine ⟨rfl, .bool true, ?_, rfl, g1⟩
     simp only [go_sem, Tryz.results22]
    obtain ⟨r, μ', h1, rfl, h2⟩ := key
    exact ⟨μ', h1, h2⟩
   obtain ⟨μ3, r2, G3⟩ := hSL
   have key : EndsF (aFun pZ (jao pZ X S0 (k + 600)) 11 [.agg #[.int .i64 kd, .int .i64 m, .bool fl, .float .f64 f, .bool neg, vl, .string s, vi], .agg #[.int .i64 kd, .int .i64 m, .bool fl, .float .f64 f, .bool neg, wl, .string s, wi]] μ) fun r μ' => r = .bool true ∧ Grow μ μ' := by
    refine jaj Tryz.func11 rfl rfl (nbl rfl) ?_
    simp only [go_sem, Tryz.ntmps11]
    refine jag ?_
    refine jaw ?_ ?_
    ·rfl
    simp only [go_sem, jda, Nat.add_eq]
    rw [← hμ1]
    have zz := (⟨@jfI, @jhf, @jdQ, @jfk, @jc1, @jau, @jcO, @jdb, @hN1, @hN2, @c0, @c1, @c6, @d0, @d1, @d6, @c7', @d7', @q1, @q2, @q3, @gg21, @r1, @gg22, @r2⟩ : _ ∧ _ ∧ _ ∧ _ ∧ _ ∧ _ ∧ _ ∧ _ ∧ _ ∧ _ ∧ _ ∧ _ ∧ _ ∧ _ ∧ _ ∧ _ ∧ _ ∧ _ ∧ _ ∧ _ ∧ _ ∧ _ ∧ _ ∧ _ ∧ _)
    repeat (first | refine jab rfl ?_ | (refine jap rfl ?_; (try simp only [go_sem, zz]); fail_if_success refine ifC ?_) | (refine jad rfl ?_; (repeat (first | (refine jai ?_ rfl ?_; (solve | simp only [go_sem, zz])) | (refine jaf (v := ?_) (μ' := ?_) ?_ ?_ rfl ?_; rotate_left 2; (solve | rfl | simp only [go_sem, zz]); (solve | simp only [go_sem, zz]; try exact rfl)))); simp only [go_sem]))
    clear zz
    refine jah ?_
    refine ⟨rfl, .bool true, ?_, rfl, (hG1.trans G2).trans G3⟩
    simp only [go_sem, Tryz.results11]
   obtain ⟨r, μ', h1, rfl, h2⟩ := key
   exact ⟨μ', h1, h2⟩
end
noncomputable section
section
set_option linter.defProp false
variable {X : XT} {ev : Code → Rg → Mem → Option (Ax × Rg × Mem)}
end
def ob2 (x y : Int) : Ob := .cells 2 48 #[.int .u32 x, .int .u32 y] .e 0 0 false false
end
noncomputable section
end
noncomputable section
section
set_option linter.defProp false
variable {X : XT} {ev : Code → Rg → Mem → Option (Ax × Rg × Mem)}
end
theorem Lv.one {μ : Mem} {v : Value} {ls : List Nat} (h : Lv μ v ls) : one v = true := h.rd.one
theorem Lv.put {μ : Mem} {v : Value} {ls : List Nat} {q o n : Nat} {vs : List Value} {t : TypeId} (h : Lv μ v ls) (hq : Blk μ q n t) (ht : t ≠ 48) : Lv (putL μ q o vs) v ls := by
 rcases h with h | ⟨i, c, m, z, ov, fx, sh, h1, h2, h3, h4, h5, h6⟩
 ·exact .inl h
 ·have hne : i ≠ q := by
   rintro rfl
   obtain ⟨z', ov', fx', sh', e⟩ := hq
   rw [h2] at e
   injection e with e
   injection e with _ e
   exact ht e.symm
  exact .inr ⟨i, c, m, z, ov, fx, sh, h1, (jbx _ _ _ _ hne).trans h2, h3, by rw [jbb]; exact h4, h5, h6⟩
end
noncomputable section
section
set_option linter.defProp false
variable {X : XT} {ev : Code → Rg → Mem → Option (Ax × Rg × Mem)}
def gg18 := go_call (P := pZ) (X := X) (ev := ev) (S := S0) Tryz.func18 rfl rfl
end
theorem z_Dt : jbh pZ 30 = some (.agg zD8.toArray) := by kernel_rfl
theorem pl_D : ∃ f, pZ.underlying 30 = some (.struct f) ∧ jct pZ f.toList = some [(0, 1), (1, 1), (2, 4), (6, 1), (7, 1)] := ⟨_, Tryz.underlying30, by kernel_rfl⟩
theorem put_D {μ : Mem} {i : Nat} {l : List Value} (h : Blk μ i 8 30) (hl : l.length = 8) : jbH pZ (putL μ i 0 l) 30 (.pointer (some ⟨i, 0, none⟩)) = some (.agg l.toArray) := Has.ld_D (Has.of_put (vs := l) h (by omega)) hl
end
noncomputable section
theorem jjs {μ : Mem} {i o : Nat} {a b : List Value} (h1 : Has μ i o a) (h2 : Has μ i (o + a.length) b) : Has μ i o (a ++ b) := by
 obtain ⟨n, z, ov, e1, e2, e3⟩ := h1
 obtain ⟨n', z', ov', f1, f2, f3⟩ := h2
 rw [e1] at f1
 cases f1
 refine ⟨n, z, ov, e1, by rw [List.length_append]; omega, fun k hk => ?_⟩
 rw [List.getElem_append]
 split
 ·exact e3 k _
 ·have := f3 (k - a.length) (by rw [List.length_append] at hk; omega)
  rw [← this]
  congr 1
  omega
def Rows8 (μ : Mem) (l : List Dat) (R : List (List Value)) : Prop := R.length = l.length ∧ ∀ (k : Nat) d row, l[k]? = some d → R[k]? = some row → IsD μ d row
theorem jiu {μ : Mem} {i : Nat} : ∀ {l : List Dat} {o : Nat}, IsDs μ l i o → ∃ R, Rows8 μ l R ∧ (l ≠ [] → Has μ i o R.flatten) ∧ R.flatten.length = 8 * l.length
 | [], o, _ => ⟨[], ⟨rfl, fun k d row h => by simp at h⟩, fun h => absurd rfl h, rfl⟩
 | d :: r, o, h => by
   rw [IsDs] at h
   obtain ⟨⟨cs, hH, hD⟩, hr⟩ := h
   obtain ⟨R, ⟨hl, hR⟩, hH2, hlen⟩ := jiu hr
   have h8 := hD.eight.1
   refine ⟨cs :: R, ⟨by simp [hl], fun k d' row h1 h2 => ?_⟩, fun _ => ?_, by rw [List.flatten_cons, List.length_append, hlen, h8, List.length_cons]; omega⟩
   ·cases k with
    | zero => simp at h1 h2; subst h1 h2; exact hD
    | succ k => exact hR k d' row (by simpa using h1) (by simpa using h2)
   ·rw [List.flatten_cons]
    cases r with
    | nil =>
      have : R = [] := List.eq_nil_of_length_eq_zero (by simpa using hl)
      subst this
      simpa using hH
    | cons e s => exact jjs hH (by rw [h8]; exact hH2 (by simp))
theorem jgn {μ : Mem} {i : Nat} : ∀ {R : List (List Value)} {o k : Nat} {row : List Value}, (∀ r ∈ R, r.length = 8) → Has μ i o R.flatten → R[k]? = some row → Has μ i (o + 8 * k) row
 | [], o, k, row, _, _, h => by simp at h
 | x :: R, o, k, row, h8, hH, h => by
   rw [List.flatten_cons] at hH
   cases k with
   | zero =>
     simp at h
     subst h
     exact Has.part (a := []) (b := x) (c := R.flatten) hH rfl
   | succ k =>
     have := jgn (o := o + 8) (k := k) (row := row) (fun r hr => h8 r (List.mem_cons_of_mem _ hr)) (by
      have := Has.part (a := x) (b := R.flatten) (c := []) hH (by simp)
      rw [h8 x (List.mem_cons_self ..)] at this
      exact this) (by simpa using h)
     rw [show o + 8 * (k + 1) = o + 8 + 8 * k from by omega]
     exact this
theorem Rows8.grow {μ μ' : Mem} {l : List Dat} {R : List (List Value)} (h : Rows8 μ l R) (g : Grow μ μ') : Rows8 μ' l R := ⟨h.1, fun k d row h1 h2 => (h.2 k d row h1 h2).grow g⟩
theorem Rows8.eight {μ : Mem} {l : List Dat} {R : List (List Value)} (h : Rows8 μ l R) : ∀ r ∈ R, r.length = 8 := fun r hr => by
 obtain ⟨k, hk, rfl⟩ := List.mem_iff_getElem.1 hr
 have hk' : k < l.length := by rw [← h.1]; exact hk
 exact (h.2 k _ _ (List.getElem?_eq_getElem hk') (List.getElem?_eq_getElem hk)).eight.1
def SrcR (μ : Mem) (l : List Dat) (v : Value) (R : List (List Value)) : Prop := R.flatten.length = 8 * l.length ∧ (∀ (μ' : Mem), Grow μ μ' → ja7 μ' 8 l.length v = some R.flatten) ∧ lenV v = some l.length
theorem SrcR.grow {μ μ' : Mem} {l : List Dat} {v : Value} {R : List (List Value)} (h : SrcR μ l v R) (g : Grow μ μ') : SrcR μ' l v R := ⟨h.1, fun m gm => h.2.1 m (g.trans gm), h.2.2⟩
theorem IsL.rows {μ : Mem} {l : List Dat} {v : Value} (h : IsL μ l v) : ∃ R, Rows8 μ l R ∧ SrcR μ l v R := by
 rcases h with ⟨_, ⟨rfl, rfl⟩ | ⟨i, o, c, rfl, h2, h3, _⟩⟩
 ·exact ⟨[], ⟨rfl, fun k d row h => by simp at h⟩, rfl, fun _ _ => rfl, rfl⟩
 ·obtain ⟨R, hR, hH, hl⟩ := jiu h3
  refine ⟨R, hR, hl, fun μ' g => ?_, rfl⟩
  by_cases hn : l = []
  ·subst hn
   have : R = [] := List.eq_nil_of_length_eq_zero hR.1
   subst this
   rfl
  ·have hpos : 0 < l.length := List.length_pos_iff.2 hn
   obtain ⟨m, z, ov, h1, h4, h5⟩ := hH hn
   unfold ja7
   obtain ⟨k, hk⟩ : ∃ k, R.flatten.length = k + 1 := ⟨R.flatten.length - 1, by omega⟩
   have e0 : Nat.mul l.length 8 = k + 1 := by rw [← hk, hl]; exact Nat.mul_comm _ _
   have hb : Nat.ble (Nat.add o (k + 1)) m = true := Nat.ble_eq_true_of_le (by show o + (k + 1) ≤ m; omega)
   have hc : jaE z ov o (k + 1) = R.flatten := jbI _ _ _ hk h5
   simp only [e0]
   rw [← g.2 i (h2 hn)] at h1
   cases hob : μ'.obs.get i with
   | none => rw [hob] at h1; cases h1
   | some ob =>
     rw [hob] at h1
     cases ob <;> first | (cases h1; simp only [hb, hc]) | cases h1
def obD0 : Ob := .cells 0 30 #[] .e 0 0 false false
theorem bsD0 (ρ : Operand → Value) : jbd pZ ρ 28 0 #[] = some (obD0, fun id => .slice (some ⟨id, 0, none⟩) 0 0) := by
 unfold jbd
 simp only [Tryz.underlying28, i_D]
 rfl
theorem appendD {μ : Mem} {v : Value} {l : List Dat} {R : List (List Value)} (h : SrcR μ l v R) (hn : l.length ≤ 4000) : ∃ i c fx sh μ', jbk pZ ⟨μ.obs.set μ.next obD0, Nat.add μ.next 1⟩ 28 28 (.slice (some ⟨μ.next, 0, none⟩) 0 0) v = some (.slice (some ⟨i, 0, none⟩) l.length c, μ') ∧
  μ'.obs.get i = some (.cells R.flatten.length 30 R.flatten.toArray .e 0 0 fx sh) ∧ μ.next ≤ i ∧ i < μ'.next ∧ Grow μ μ' ∧ CapK 8 l.length c := by
 have hg1 : Grow μ ⟨μ.obs.set μ.next obD0, Nat.add μ.next 1⟩ := jbn μ _
 obtain ⟨hl, hs, hlen⟩ := h
 have hs := hs _ hg1
 obtain ⟨xs, hxs⟩ : ∃ xs, xs = R.flatten := ⟨_, rfl⟩
 rw [← hxs] at hs hl ⊢
 have e1 : Nat.ble Tryz.t30.bytes 4096 = true := by kernel_rfl
 have e2 : Nat.beq (ja2 (.agg zD8.toArray)).length 8 = true := by kernel_rfl
 have e3 : Nat.ble l.length 67108864 = true := Nat.ble_eq_true_of_le (by omega)
 have e4 : Tryz.t30.size = 8 := by kernel_rfl
 have e5 : Nat.beq xs.length (Nat.mul l.length 8) = true := by rw [hl, show Nat.mul l.length 8 = 8 * l.length from Nat.mul_comm _ _]; exact Nat.beq_refl _
 obtain ⟨n, hn'⟩ : ∃ n, n = l.length := ⟨_, rfl⟩
 rw [← hn'] at hs hlen e3 e5 hn hl ⊢
 have hap : jbk pZ ⟨μ.obs.set μ.next obD0, Nat.add μ.next 1⟩ 28 28 (.slice (some ⟨μ.next, 0, none⟩) 0 0) v = jbo pZ ⟨μ.obs.set μ.next obD0, Nat.add μ.next 1⟩ 30 8 n xs (.slice (some ⟨μ.next, 0, none⟩) 0 0) := by
  unfold jbk
  simp only [Tryz.underlying28, i_D, e1, z_Dt, e4, e2, hlen, e3, hs, e5]
 rw [hap]
 unfold jbo
 have e6 : Nat.ble (Nat.add 0 n) 67108864 = true := Nat.ble_eq_true_of_le (by show 0 + n ≤ _; omega)
 simp only [e6]
 cases n with
 | zero =>
   obtain rfl : xs = [] := List.eq_nil_of_length_eq_zero hl
   refine ⟨_, _, _, _, _, rfl, by show T.get _ _ = _; rw [T.get_set, if_pos rfl]; rfl, Nat.le_refl _, Nat.lt_succ_self _, hg1, .inl ⟨rfl, Nat.le_refl _⟩⟩
 | succ n =>
   have e7 : Nat.ble (Nat.add 0 (n + 1)) (Nat.div 0 2) = false := by
    cases hb : Nat.ble (Nat.add 0 (n + 1)) (Nat.div 0 2) with
    | false => rfl
    | true => have := Nat.le_of_ble_eq_true hb; have h0 : Nat.div 0 2 = 0 := rfl; rw [h0] at this; have : 0 + (n + 1) ≤ 0 := this; omega
   simp only [show Nat.beq (Nat.mod 0 2) 0 = true from rfl, e7]
   rw [show Nat.add 0 (n + 1) = n + 1 from Nat.zero_add _]
   refine ⟨μ.next + 1, 17, true, false, _, rfl, ?_, by omega, ?_, ⟨?_, fun i hi => ?_⟩, .inr ⟨rfl, rfl⟩⟩
   ·show T.get (T.set _ (Nat.add μ.next 1) _) _ = _
    rw [T.get_set, if_pos rfl]
    rfl
   ·show μ.next + 1 < μ.next + 1 + 1; omega
   ·show μ.next ≤ μ.next + 1 + 1; omega
   ·show T.get (T.set (T.set _ _ _) (Nat.add μ.next 1) _) i = _
    rw [T.get_set, if_neg (by show i ≠ μ.next + 1; omega), T.get_set, if_neg (by omega)]
theorem anD (a : Addr) (n c : Nat) : aNil pZ 28 (.slice (some a) n c) (.slice none 0 0) = true := by
 unfold aNil
 simp only [Tryz.underlying28]
theorem cloneD {a : Addr} {l : List Dat} {R : List (List Value)} {c0 : Nat} {X : XT} {g : Nat} {μ : Mem} (h : SrcR μ l (.slice (some a) l.length c0) R) (hn : l.length ≤ 4000) (hg : 20 ≤ g) :
  ∃ i c fx sh μ', aFun pZ (jao pZ X S0 g) 18 [.slice (some a) l.length c0] μ = some (.slice (some ⟨i, 0, none⟩) l.length c, μ') ∧
   μ'.obs.get i = some (.cells R.flatten.length 30 R.flatten.toArray .e 0 0 fx sh) ∧ μ.next ≤ i ∧ i < μ'.next ∧ Grow μ μ' ∧ CapK 8 l.length c := by
 obtain ⟨k, rfl⟩ := gle hg
 obtain ⟨i, c, fx, sh, μ', hap, h3⟩ := appendD h hn
 refine ⟨i, c, fx, sh, μ', jaN ?_, h3⟩
 refine jaj Tryz.func18 rfl rfl (nbl rfl) ?_
 simp only [go_sem, Tryz.ntmps18]
 repeat (first | refine jab rfl ?_ | (refine jac rfl ?_; (try simp only [go_sem, anD, bsD0, jaa, hap]); fail_if_success refine ifC ?_))
 refine jah ?_
 refine ⟨rfl, _, ?_, rfl, rfl⟩
 simp only [go_sem, Tryz.results18]
end
noncomputable section
section
set_option linter.defProp false
variable {X : XT} {ev : Code → Rg → Mem → Option (Ax × Rg × Mem)}
def gg48 := go_call (P := pZ) (X := X) (ev := ev) (S := S0) Tryz.func48 rfl rfl
def gg30 := go_call (P := pZ) (X := X) (ev := ev) (S := S0) Tryz.func30 rfl rfl
def gg49 := go_call (P := pZ) (X := X) (ev := ev) (S := S0) Tryz.func49 rfl rfl
def gg31 := go_call (P := pZ) (X := X) (ev := ev) (S := S0) Tryz.func31 rfl rfl
def gg19 := go_call (P := pZ) (X := X) (ev := ev) (S := S0) Tryz.func19 rfl rfl
end
theorem jjc {ρ : Operand → Value} {d : Option Tmp} {t yt ty : TypeId} {x y : Operand} {ps : String} {af : Array Edge} {gd : Option (Nat × Bool)} {a b : Nat} (hx : ρ x = .float .f64 a) (hy : ρ y = .float .f64 b) : jaT pZ ρ ⟨d, .binOp .neq t x y yt, ty, ps, af, gd⟩ = some (.bool (FloatKind.f64.format.order a b != some .eq)) := by
 unfold jaT
 have e : pv pZ (execOp ρ ⟨d, .binOp .neq t x y yt, ty, ps, af, gd⟩) = some (.value (.bool (FloatKind.f64.format.order a b != some .eq))) := by
  simp only [execOp, hx, hy]
  rfl
 simp only [opsOf, jbV, hx, hy, jaS, e]
def flB (f : Nat) : Nat := if (FloatKind.f64.format.order f f != some .eq) = true then 9221120237041090561 else f
theorem jiH {X : XT} {g f : Nat} {μ : Mem} (hX : jch X) (hg : 20 ≤ g) : aFun pZ (jao pZ X S0 g) 48 [.float .f64 f] μ = some (.int .u64 (.ofNat (flB f)), μ) := by
 obtain ⟨k, rfl⟩ := gle hg
 have hc : ∀ μ', aGo pZ X (jbL pZ (jao pZ X S0 (k + 16)) S0) 40 [.float .f64 f] μ' = some (.int .u64 (.ofNat f), μ') := fun μ' => (go_bits _ _).trans (hX f μ')
 obtain ⟨b, hb⟩ : ∃ b, (FloatKind.f64.format.order f f != some .eq) = b := ⟨_, rfl⟩
 have hn : flB f = if b = true then 9221120237041090561 else f := by rw [← hb]; rfl
 have np : ∀ (ρ : Operand → Value) (d : Option Tmp) (t yt ty : TypeId) (x y : Operand) (ps : String) (af : Array Edge) (gd : Option (Nat × Bool)), ρ x = .float .f64 f → ρ y = .float .f64 f → jaT pZ ρ ⟨d, .binOp .neq t x y yt, ty, ps, af, gd⟩ = some (.bool b) := fun ρ d t yt ty x y ps af gd h1 h2 => by rw [jjc h1 h2, hb]
 refine jaN ?_
 rw [hn]
 cases b with
 | true =>
   refine jaj Tryz.func48 rfl rfl (nbl rfl) ?_
   simp only [go_sem, Tryz.ntmps48]
   repeat (first | refine jab rfl ?_ | (refine jap rfl ?_; (try simp only [go_sem, hc, anf, np]); fail_if_success refine ifC ?_) | (refine jad rfl ?_; (repeat (first | (refine jai ?_ rfl ?_; (solve | simp only [go_sem, hc, anf, np])) | (refine jaf (v := ?_) (μ' := ?_) ?_ ?_ rfl ?_; rotate_left 2; (solve | rfl | simp only [go_sem, hc, anf, np]); (solve | simp only [go_sem, hc, anf, np]; try exact rfl)))); simp only [go_sem]))
   refine jah ?_
   refine ⟨rfl, _, ?_, rfl, rfl⟩
   simp only [go_sem, Tryz.results48]
   try rfl
 | false =>
   refine jaj Tryz.func48 rfl rfl (nbl rfl) ?_
   simp only [go_sem, Tryz.ntmps48]
   repeat (first | refine jab rfl ?_ | (refine jap rfl ?_; (try simp only [go_sem, hc, anf, np]); fail_if_success refine ifC ?_) | (refine jad rfl ?_; (repeat (first | (refine jai ?_ rfl ?_; (solve | simp only [go_sem, hc, anf, np])) | (refine jaf (v := ?_) (μ' := ?_) ?_ ?_ rfl ?_; rotate_left 2; (solve | rfl | simp only [go_sem, hc, anf, np]); (solve | simp only [go_sem, hc, anf, np]; try exact rfl)))); simp only [go_sem]))
   refine jah ?_
   refine ⟨rfl, _, ?_, rfl, rfl⟩
   simp only [go_sem, Tryz.results48]
   try rfl
theorem fsame_eq {X : XT} {g f h : Nat} {μ : Mem} (hX : jch X) (hg : 40 ≤ g) : aFun pZ (jao pZ X S0 g) 30 [.float .f64 f, .float .f64 h] μ = some (.bool (decide (flB f = flB h)), μ) := by
 obtain ⟨k, rfl⟩ := gle hg
 have c1 : ∀ μ', aFun pZ (jao pZ X S0 (k + 37)) 48 [.float .f64 f] μ' = some (.int .u64 (.ofNat (flB f)), μ') := fun μ' => jiH hX (by omega)
 have c2 : ∀ μ', aFun pZ (jao pZ X S0 (k + 37)) 48 [.float .f64 h] μ' = some (.int .u64 (.ofNat (flB h)), μ') := fun μ' => jiH hX (by omega)
 have t1 : ieq (.ofNat (flB f)) (.ofNat (flB h)) = decide (flB f = flB h) := jbu _ _
 refine jaN ?_
 refine jaj Tryz.func30 rfl rfl (nbl rfl) ?_
 simp only [go_sem, Tryz.ntmps30]
 repeat (first | refine jab rfl ?_ | (refine jac rfl ?_; (try simp only [go_sem, gg48, c1, c2, t1]); fail_if_success refine ifC ?_))
 refine jah ?_
 refine ⟨rfl, _, ?_, rfl, rfl⟩
 simp only [go_sem, Tryz.results30]
theorem eq1_loop {xs ys : List Nat} {v w : Value} (hlen : xs.length = ys.length) (hl : xs.length ≤ 1000000) : ∀ (j i : Nat), i + j = xs.length → (xs.take i = ys.take i) → ∀ {X : XT} {e : Nat} {tm : T Value} {μ : Mem}, IsU μ xs v → IsU μ ys w →
  jam tm 0 = v → jam tm 1 = w → jam tm 12 = .int .i64 (.ofNat xs.length) → jam tm 13 = .int .i64 (.ofNat i) →
  EndsC (jao pZ X S0 (e + j + 30) (.loop (jaR Tryz.f49 0)) ⟨26, tm, [], none⟩ μ) fun x r μ' => Grow μ μ' ∧ ∃ tm', r = ⟨26, tm', [], none⟩ ∧ ((x = .exit 0 ∧ xs = ys) ∨ (x = .ret ∧ xs ≠ ys ∧ jam tm' 4 = .bool false)) := by
 intro j
 induction j with
 | zero =>
   intro i hi ht X e tm μ hv hw h0 h1 h12 h13
   have hi : i = xs.length := hi
   have e1 : ilt (.ofNat i) (.ofNat xs.length) = false := (jat _ _).trans (decide_eq_false (by omega))
   refine jan ?_
   repeat (first | refine jab rfl ?_ | (refine jac rfl ?_; (try simp only [go_sem, h12, h13, e1]); fail_if_success refine ifC ?_))
   refine ⟨Grow.refl _, _, rfl, .inl ⟨by trivial, ?_⟩⟩
   rw [hi, List.take_length, hlen, List.take_length] at ht
   exact ht
 | succ j ih =>
   intro i hi ht X e tm μ hv hw h0 h1 h12 h13
   have hx : i < xs.length := by omega
   have hy : i < ys.length := by omega
   have e1 : ilt (.ofNat i) (.ofNat xs.length) = true := (jat _ _).trans (decide_eq_true hx)
   have a1 : jax .i64 (Int.add (.ofNat i) 1) = .ofNat (i + 1) := jaV i 1 (by omega)
   obtain ⟨bx, bi, bo, bc, hbv, hbi, hbc⟩ := hv.at (List.getElem?_eq_getElem hx)
   obtain ⟨cx, ci, co, cc, hcv, hci, hcc⟩ := hw.at (List.getElem?_eq_getElem hy)
   obtain ⟨p, hp⟩ : ∃ p, p = xs[i]'hx := ⟨_, rfl⟩
   obtain ⟨q, hq⟩ : ∃ q, q = ys[i]'hy := ⟨_, rfl⟩
   rw [← hp] at hbc
   rw [← hq] at hcc
   have hix : ∀ (r : Rg) (x y : Operand), aev pZ r x = v → aev pZ r y = .int .i64 (.ofNat i) → jas pZ (aev pZ r) 23 x y = some (.pointer (some ⟨bi, bo + i, none⟩)) := fun r x y g1 g2 => ix_U hx (g1.trans hbv) g2
   have hiy : ∀ (r : Rg) (x y : Operand), aev pZ r x = w → aev pZ r y = .int .i64 (.ofNat i) → jas pZ (aev pZ r) 23 x y = some (.pointer (some ⟨ci, co + i, none⟩)) := fun r x y g1 g2 => ix_U hy (g1.trans hcv) g2
   have hcb : ∀ m, jal ⟨μ.obs, m⟩ bi (bo + i) = some (.int .u32 (.ofNat p)) := fun m => hbc
   have hcc' : ∀ m, jal ⟨μ.obs, m⟩ ci (co + i) = some (.int .u32 (.ofNat q)) := fun m => hcc
   have hG : Grow μ ⟨μ.obs, μ.next + 9⟩ := jb7 μ 9
   by_cases hpq : p = q
   ·have e2 : ieq (.ofNat p) (.ofNat q) = true := (jbu _ _).trans (decide_eq_true hpq)
    have ht' : xs.take (i + 1) = ys.take (i + 1) := by
     rw [List.take_add_one, List.take_add_one, ht, List.getElem?_eq_getElem hx, List.getElem?_eq_getElem hy, ← hp, ← hq, hpq]
    refine jan ?_
    repeat (first | refine jab rfl ?_ | (refine jac rfl ?_; (try simp only [go_sem, h12, h13, e1]); fail_if_success refine ifC ?_))
    refine jaG (n := 9) (ms := [0, 0, 3, 7, 0, 0, 48, 112, 255]) (ord := [0, 1, 2, 3, 4, 5, 6, 7, 8]) (ds := ?_) ?_ ?_ ?_ ?_ ?_ ?_
    rotate_left
    ·kernel_rfl
    ·kernel_rfl
    ·kernel_rfl
    ·rfl
    ·rfl
    repeat (first | (refine jaA ?_ rfl ?_; (solve | simp only [go_sem, h0, h1, hix, hiy, jcd, hcb, hcc', e2])) | (refine jar (v := ?_) (μ' := ?_) (sn' := ?_) ?_ ?_ rfl ?_; rotate_left 3; (solve | rfl | simp only [go_sem, h0, h1, hix, hiy, jcd, hcb, hcc', e2]); (solve | simp only [jav, heavy, jaI, jaq, go_sem, h0, h1, hix, hiy, jcd, hcb, hcc', e2]; try exact rfl)))
    simp only [dRun, jay, jak]
    repeat (first | refine jab rfl ?_ | (refine jac rfl ?_; (try simp only [go_sem, h0, h1, h12, h13, a1]); fail_if_success refine ifC ?_))
    rw [show e + (j + 1) + 29 = e + j + 30 from by omega]
    refine EndsC.mono (ih (i + 1) (by omega) ht' (hv.grow hG) (hw.grow hG) (by simp only [go_sem, h0]) (by simp only [go_sem, h1]) (by simp only [go_sem, h12]) (by simp only [go_sem])) ?_
    rintro x r μ' ⟨g1, g2⟩
    exact ⟨hG.trans g1, g2⟩
   ·have e2 : ieq (.ofNat p) (.ofNat q) = false := (jbu _ _).trans (decide_eq_false hpq)
    refine jan ?_
    repeat (first | refine jab rfl ?_ | (refine jac rfl ?_; (try simp only [go_sem, h12, h13, e1]); fail_if_success refine ifC ?_))
    refine jaG (n := 9) (ms := [0, 0, 3, 7, 0, 0, 48, 112, 255]) (ord := [0, 1, 2, 3, 4, 5, 6, 7, 8]) (ds := ?_) ?_ ?_ ?_ ?_ ?_ ?_
    rotate_left
    ·kernel_rfl
    ·kernel_rfl
    ·kernel_rfl
    ·rfl
    ·rfl
    repeat (first | (refine jaA ?_ rfl ?_; (solve | simp only [go_sem, h0, h1, hix, hiy, jcd, hcb, hcc', e2])) | (refine jar (v := ?_) (μ' := ?_) (sn' := ?_) ?_ ?_ rfl ?_; rotate_left 3; (solve | rfl | simp only [go_sem, h0, h1, hix, hiy, jcd, hcb, hcc', e2]); (solve | simp only [jav, heavy, jaI, jaq, go_sem, h0, h1, hix, hiy, jcd, hcb, hcc', e2]; try exact rfl)))
    simp only [dRun, jay, jak]
    repeat (first | refine jab rfl ?_ | (refine jac rfl ?_; (try simp only [go_sem, h0, h1, h12, h13, a1]); fail_if_success refine ifC ?_))
    refine jah ?_
    exact ⟨hG, _, rfl, .inr ⟨by trivial, fun e => hpq (by subst e; rw [hp, hq]), by simp only [go_sem]⟩⟩
theorem eq1_eq {xs ys : List Nat} {v w : Value} {X : XT} {g : Nat} {μ : Mem} (hv : IsU μ xs v) (hw : IsU μ ys w) (hl : xs.length ≤ 1000000) (hg : xs.length + 100 ≤ g) : ∃ μ', aFun pZ (jao pZ X S0 g) 49 [v, w] μ = some (.bool (decide (xs = ys)), μ') ∧ Grow μ μ' := by
 obtain ⟨k, hk, rfl⟩ : ∃ k, xs.length ≤ k ∧ g = k + 100 := ⟨g - 100, by omega, by omega⟩
 have l1 := hv.len
 have l2 := hw.len
 have key : EndsF (aFun pZ (jao pZ X S0 (k + 100)) 49 [v, w] μ) fun r μ' => r = .bool (decide (xs = ys)) ∧ Grow μ μ' := by
  by_cases hlen : xs.length = ys.length
  ·have e1 : ieq (.ofNat xs.length) (.ofNat ys.length) = true := (jbu _ _).trans (decide_eq_true hlen)
   refine jaj Tryz.func49 rfl rfl (nbl rfl) ?_
   simp only [go_sem, Tryz.ntmps49]
   repeat (first | refine jab rfl ?_ | (refine jac rfl ?_; (try simp only [go_sem, jaa, l1, l2, jae, e1]); fail_if_success refine ifC ?_))
   rw [show k + 95 = (k + 65 - xs.length) + xs.length + 30 from by omega]
   refine EndsC.mono (eq1_loop hlen hl xs.length 0 (Nat.zero_add _) rfl hv hw (by simp only [go_sem]) (by simp only [go_sem]) (by simp only [go_sem]) (by simp only [go_sem]; try rfl)) ?_
   rintro x r μ' ⟨g1, tm', rfl, ⟨rfl, g2⟩ | ⟨rfl, g2, g3⟩⟩
   ·simp only [jaX, reduceIte, jak]
    repeat (first | refine jab rfl ?_ | (refine jac rfl ?_; (try simp only [go_sem, undef]); fail_if_success refine ifC ?_))
    refine jah ?_
    refine ⟨rfl, .bool true, ?_, by rw [decide_eq_true g2], g1⟩
    simp only [go_sem, Tryz.results49]
   ·simp only [jaX]
    refine ⟨rfl, .bool false, ?_, by rw [decide_eq_false g2], g1⟩
    simp only [go_sem, Tryz.results49]
    rw [g3]
  ·have e1 : ieq (.ofNat xs.length) (.ofNat ys.length) = false := (jbu _ _).trans (decide_eq_false hlen)
   refine jaj Tryz.func49 rfl rfl (nbl rfl) ?_
   simp only [go_sem, Tryz.ntmps49]
   repeat (first | refine jab rfl ?_ | (refine jac rfl ?_; (try simp only [go_sem, jaa, l1, l2, jae, e1]); fail_if_success refine ifC ?_))
   refine jah ?_
   refine ⟨rfl, .bool false, ?_, by rw [decide_eq_false (fun h => hlen (by rw [h]))], Grow.refl _⟩
   simp only [go_sem, Tryz.results49]
 obtain ⟨r, μ', h1, rfl, h2⟩ := key
 exact ⟨μ', h1, h2⟩
end
noncomputable section
section
set_option linter.defProp false
variable {X : XT} {ev : Code → Rg → Mem → Option (Ax × Rg × Mem)}
def gg9 := go_call (P := pZ) (X := X) (ev := ev) (S := S0) Tryz.func9 rfl rfl
def gg20 := go_call (P := pZ) (X := X) (ev := ev) (S := S0) Tryz.func20 rfl rfl
end
theorem neqb {ρ : Operand → Value} {d : Option Tmp} {ty : TypeId} {x y : Operand} {ps : String} {af : Array Edge} {gd : Option (Nat × Bool)} {a b : Bool} (hx : ρ x = .bool a) (hy : ρ y = .bool b) : jaT pZ ρ ⟨d, .binOp .neq 4 x y 4, ty, ps, af, gd⟩ = some (.bool (!(a == b))) := by
 unfold jaT
 simp only [opsOf, jbV, hx, hy, jaS, execOp]
 show (_ : Option Value) = _
 kernel_rfl
theorem anbb (t : TypeId) (a b : Bool) : aNil pZ t (.bool a) (.bool b) = false := rfl
theorem neqB (a b : Bool) : ∀ (r : Rg) (d : Option Tmp) (ty : TypeId) (x y : Operand) (ps : String) (af : Array Edge) (gd : Option (Nat × Bool)), aev pZ r x = .bool a → aev pZ r y = .bool b → jaT pZ (aev pZ r) ⟨d, .binOp .neq 4 x y 4, ty, ps, af, gd⟩ = some (.bool (!(a == b))) := fun r d ty x y ps af gd g1 g2 => neqb g1 g2
theorem xsame_eq {xs ys : List Nat} {v w : Value} {p q : Bool} {X : XT} {g : Nat} {μ : Mem} (hv : IsU μ xs v) (hw : IsU μ ys w) (hl : xs.length ≤ 1000000) (hg : xs.length + 130 ≤ g) : ∃ μ', aFun pZ (jao pZ X S0 g) 31 [.agg #[.bool p, v], .agg #[.bool q, w]] μ = some (.bool ((p == q) && decide (xs = ys)), μ') ∧ Grow μ μ' := by
 obtain ⟨k, hk, rfl⟩ : ∃ k, xs.length ≤ k ∧ g = k + 130 := ⟨g - 130, by omega, by omega⟩
 obtain ⟨h1, h2⟩ := jgo μ 25 25 [.bool p, v] [.bool q, w]
 have hG := jd8 μ (obL 25 [.bool p, v]) (obL 25 [.bool q, w])
 obtain ⟨μ2, r1, G1⟩ := eq1_eq (X := X) (g := k + 127) (hv.grow hG) (hw.grow hG) hl (by omega)
 obtain ⟨c10, c11⟩ := Has.c2 h1
 obtain ⟨c20, c21⟩ := Has.c2 h2
 have key : EndsF (aFun pZ (jao pZ X S0 (k + 130)) 31 [.agg #[.bool p, v], .agg #[.bool q, w]] μ) fun r μ' => r = .bool ((p == q) && decide (xs = ys)) ∧ Grow μ μ' := by
  cases e : (p == q) with
  | true =>
    have q1 := eqB e
    refine jaj Tryz.func31 rfl rfl (nbl rfl) ?_
    simp only [go_sem, Tryz.ntmps31]
    have zz := (⟨@jf4, @jc0, @jb8, @jaM, @jdP, @c10, @c11, @c20, @c21, @q1, @gg49, @r1⟩ : _ ∧ _ ∧ _ ∧ _ ∧ _ ∧ _ ∧ _ ∧ _ ∧ _ ∧ _ ∧ _ ∧ _)
    repeat (first | refine jab rfl ?_ | (refine jap rfl ?_; (try simp only [go_sem, Nat.add_eq, zz]); fail_if_success refine ifC ?_) | (refine jad rfl ?_; (repeat (first | (refine jai ?_ rfl ?_; (solve | simp only [go_sem, Nat.add_eq, zz])) | (refine jaf (v := ?_) (μ' := ?_) ?_ ?_ rfl ?_; rotate_left 2; (solve | rfl | simp only [go_sem, Nat.add_eq, zz]); (solve | simp only [go_sem, Nat.add_eq, zz]; try exact rfl)))); simp only [go_sem]))
    clear zz
    refine jah ?_
    refine ⟨rfl, .bool (decide (xs = ys)), ?_, by rw [Bool.true_and], hG.trans G1⟩
    simp only [go_sem, Tryz.results31]
  | false =>
    have q1 := eqB e
    refine jaj Tryz.func31 rfl rfl (nbl rfl) ?_
    simp only [go_sem, Tryz.ntmps31]
    have zz := (⟨@jf4, @jc0, @jb8, @jaM, @jdP, @c10, @c11, @c20, @c21, @q1, @gg49, @r1⟩ : _ ∧ _ ∧ _ ∧ _ ∧ _ ∧ _ ∧ _ ∧ _ ∧ _ ∧ _ ∧ _ ∧ _)
    repeat (first | refine jab rfl ?_ | (refine jap rfl ?_; (try simp only [go_sem, Nat.add_eq, zz]); fail_if_success refine ifC ?_) | (refine jad rfl ?_; (repeat (first | (refine jai ?_ rfl ?_; (solve | simp only [go_sem, Nat.add_eq, zz])) | (refine jaf (v := ?_) (μ' := ?_) ?_ ?_ rfl ?_; rotate_left 2; (solve | rfl | simp only [go_sem, Nat.add_eq, zz]); (solve | simp only [go_sem, Nat.add_eq, zz]; try exact rfl)))); simp only [go_sem]))
    clear zz
    refine jah ?_
    refine ⟨rfl, .bool false, ?_, by rw [Bool.false_and], hG⟩
    simp only [go_sem, Tryz.results31]
 obtain ⟨r, μ', h1, rfl, h2⟩ := key
 exact ⟨μ', h1, h2⟩
def jdW (fl f2 : Bool) (f h : Nat) (p q : Bool) (xs ys : List Nat) : Bool := (fl == f2) && (if fl = true then decide (flB f = flB h) else (p == q) && decide (xs = ys))
theorem jiq {xs ys : List Nat} {v w : Value} {p q fl f2 : Bool} {f h : Nat} {X : XT} {g : Nat} {μ : Mem} (hX : jch X) (hv : IsU μ xs v) (hw : IsU μ ys w) (hl : xs.length ≤ 1000000) (hg : xs.length + 160 ≤ g) :
  ∃ μ', aFun pZ (jao pZ X S0 g) 19 [.agg #[.bool fl, .float .f64 f, .bool p, v], .agg #[.bool f2, .float .f64 h, .bool q, w]] μ = some (.bool (jdW fl f2 f h p q xs ys), μ') ∧ Grow μ μ' := by
 obtain ⟨k, hk, rfl⟩ : ∃ k, xs.length ≤ k ∧ g = k + 160 := ⟨g - 160, by omega, by omega⟩
 obtain ⟨h1, h2⟩ := jgo μ 27 27 [.bool fl, .float .f64 f, .bool p, v] [.bool f2, .float .f64 h, .bool q, w]
 have hG := jd8 μ (obL 27 [.bool fl, .float .f64 f, .bool p, v]) (obL 27 [.bool f2, .float .f64 h, .bool q, w])
 obtain ⟨μ2, r1, G1⟩ := xsame_eq (X := X) (p := p) (q := q) (g := k + 155) (hv.grow hG) (hw.grow hG) hl (by omega)
 have r2 : ∀ μ', aFun pZ (jao pZ X S0 (k + 153)) 30 [.float .f64 f, .float .f64 h] μ' = some (.bool (decide (flB f = flB h)), μ') := fun μ' => fsame_eq hX (by omega)
 have l1 := has_I h1
 have l2 := has_I h2
 obtain ⟨c10, c11, c12, c13⟩ := Has.c4 h1
 obtain ⟨c20, c21, c22, c23⟩ := Has.c4 h2
 have q1 := neqB fl f2
 have key : EndsF (aFun pZ (jao pZ X S0 (k + 160)) 19 [.agg #[.bool fl, .float .f64 f, .bool p, v], .agg #[.bool f2, .float .f64 h, .bool q, w]] μ) fun r μ' => r = .bool (jdW fl f2 f h p q xs ys) ∧ Grow μ μ' := by
  cases fl <;> cases f2
  ·skip
   refine jaj Tryz.func19 rfl rfl (nbl rfl) ?_
   simp only [go_sem, Tryz.ntmps19]
   have zz := (⟨@jds, @jcB, @jcA, @jbN, @jaM, @jbY, @c10, @c11, @c20, @c21, @l1, @l2, @anbb, @q1, @beq_tf, @beq_ft, @gg30, @r2, @gg31, @r1⟩ : _ ∧ _ ∧ _ ∧ _ ∧ _ ∧ _ ∧ _ ∧ _ ∧ _ ∧ _ ∧ _ ∧ _ ∧ _ ∧ _ ∧ _ ∧ _ ∧ _ ∧ _ ∧ _ ∧ _)
   repeat (first | refine jab rfl ?_ | (refine jap rfl ?_; (try simp only [go_sem, Nat.add_eq, zz]); fail_if_success refine ifC ?_) | (refine jad rfl ?_; (repeat (first | (refine jai ?_ rfl ?_; (solve | simp only [go_sem, Nat.add_eq, zz])) | (refine jaf (v := ?_) (μ' := ?_) ?_ ?_ rfl ?_; rotate_left 2; (solve | rfl | simp only [go_sem, Nat.add_eq, zz]); (solve | simp only [go_sem, Nat.add_eq, zz]; try exact rfl)))); simp only [go_sem]))
   clear zz
   refine jah ?_
   refine ⟨rfl, .bool ((p == q) && decide (xs = ys)), ?_, by simp [jdW], hG.trans G1⟩
   simp only [go_sem, Tryz.results19]
  ·skip
   refine jaj Tryz.func19 rfl rfl (nbl rfl) ?_
   simp only [go_sem, Tryz.ntmps19]
   have zz := (⟨@jds, @jcB, @jcA, @jbN, @jaM, @jbY, @c10, @c11, @c20, @c21, @l1, @l2, @anbb, @q1, @gg30, @r2, @gg31, @r1⟩ : _ ∧ _ ∧ _ ∧ _ ∧ _ ∧ _ ∧ _ ∧ _ ∧ _ ∧ _ ∧ _ ∧ _ ∧ _ ∧ _ ∧ _ ∧ _ ∧ _ ∧ _)
   repeat (first | refine jab rfl ?_ | (refine jap rfl ?_; (try simp only [go_sem, Nat.add_eq, zz]); fail_if_success refine ifC ?_) | (refine jad rfl ?_; (repeat (first | (refine jai ?_ rfl ?_; (solve | simp only [go_sem, Nat.add_eq, zz])) | (refine jaf (v := ?_) (μ' := ?_) ?_ ?_ rfl ?_; rotate_left 2; (solve | rfl | simp only [go_sem, Nat.add_eq, zz]); (solve | simp only [go_sem, Nat.add_eq, zz]; try exact rfl)))); simp only [go_sem]))
   clear zz
   refine jah ?_
   refine ⟨rfl, .bool false, ?_, by simp [jdW], hG⟩
   simp only [go_sem, Tryz.results19]
  ·skip
   refine jaj Tryz.func19 rfl rfl (nbl rfl) ?_
   simp only [go_sem, Tryz.ntmps19]
   have zz := (⟨@jds, @jcB, @jcA, @jbN, @jaM, @jbY, @c10, @c11, @c20, @c21, @l1, @l2, @anbb, @q1, @gg30, @r2, @gg31, @r1⟩ : _ ∧ _ ∧ _ ∧ _ ∧ _ ∧ _ ∧ _ ∧ _ ∧ _ ∧ _ ∧ _ ∧ _ ∧ _ ∧ _ ∧ _ ∧ _ ∧ _ ∧ _)
   repeat (first | refine jab rfl ?_ | (refine jap rfl ?_; (try simp only [go_sem, Nat.add_eq, zz]); fail_if_success refine ifC ?_) | (refine jad rfl ?_; (repeat (first | (refine jai ?_ rfl ?_; (solve | simp only [go_sem, Nat.add_eq, zz])) | (refine jaf (v := ?_) (μ' := ?_) ?_ ?_ rfl ?_; rotate_left 2; (solve | rfl | simp only [go_sem, Nat.add_eq, zz]); (solve | simp only [go_sem, Nat.add_eq, zz]; try exact rfl)))); simp only [go_sem]))
   clear zz
   refine jah ?_
   refine ⟨rfl, .bool false, ?_, by simp [jdW], hG⟩
   simp only [go_sem, Tryz.results19]
  ·skip
   refine jaj Tryz.func19 rfl rfl (nbl rfl) ?_
   simp only [go_sem, Tryz.ntmps19]
   have zz := (⟨@jds, @jcB, @jcA, @jbN, @jaM, @jbY, @c10, @c11, @c20, @c21, @l1, @l2, @anbb, @q1, @gg30, @r2, @gg31, @r1⟩ : _ ∧ _ ∧ _ ∧ _ ∧ _ ∧ _ ∧ _ ∧ _ ∧ _ ∧ _ ∧ _ ∧ _ ∧ _ ∧ _ ∧ _ ∧ _ ∧ _ ∧ _)
   repeat (first | refine jab rfl ?_ | (refine jap rfl ?_; (try simp only [go_sem, Nat.add_eq, zz]); fail_if_success refine ifC ?_) | (refine jad rfl ?_; (repeat (first | (refine jai ?_ rfl ?_; (solve | simp only [go_sem, Nat.add_eq, zz])) | (refine jaf (v := ?_) (μ' := ?_) ?_ ?_ rfl ?_; rotate_left 2; (solve | rfl | simp only [go_sem, Nat.add_eq, zz]); (solve | simp only [go_sem, Nat.add_eq, zz]; try exact rfl)))); simp only [go_sem]))
   clear zz
   refine jah ?_
   refine ⟨rfl, .bool (decide (flB f = flB h)), ?_, by simp [jdW], hG⟩
   simp only [go_sem, Tryz.results19]
 obtain ⟨r, μ', h1, rfl, h2⟩ := key
 exact ⟨μ', h1, h2⟩
theorem jiZ (fl : Bool) (f : Nat) (p : Bool) (xs : List Nat) : jdW fl fl f f p p xs xs = true := by
 cases fl <;> simp [jdW]
end
noncomputable section
theorem jjx {n : Nat} {l : List Dat} {v w : Value} (hl : l.length ≤ 4000) (ih : ∀ {d : Dat} {cs ds : List Value} {X : XT} {g : Nat} {μ : Mem}, d ∈ l → jch X → IsD μ d cs → IsD μ d ds → 600 + 5000 * n ≤ g →
  ∃ μ', aFun pZ (jao pZ X S0 g) 9 [.agg cs.toArray, .agg ds.toArray] μ = some (.bool true, μ') ∧ Grow μ μ') :
  ∀ (j i : Nat), i + j = l.length → ∀ {X : XT} {e : Nat} {tm : T Value} {μ : Mem}, jch X → IsL μ l v → IsL μ l w → 600 + 5000 * n ≤ e → jam tm 15 = v → jam tm 1 = w → jam tm 2 = .func (.func 9) #[] #[] → jam tm 16 = .int .i64 (.ofNat l.length) → jam tm 17 = .int .i64 (.ofNat i) →
  EndsC (jao pZ X S0 (e + j + 40) (.loop (jaR Tryz.f20 0)) ⟨32, tm, [], none⟩ μ) fun x r μ' => Grow μ μ' ∧ x = .exit 0 ∧ ∃ tm', r = ⟨32, tm', [], none⟩ := by
 intro j
 induction j with
 | zero =>
   intro i hi X e tm μ hX hv hw he h0 h1 hf h12 h13
   have hi : i = l.length := hi
   have e1 : ilt (.ofNat i) (.ofNat l.length) = false := (jat _ _).trans (decide_eq_false (by omega))
   refine jan ?_
   repeat (first | refine jab rfl ?_ | (refine jap rfl ?_; (try simp only [go_sem, h12, h13, e1]); fail_if_success refine ifC ?_) | (refine jad rfl ?_; (repeat (first | (refine jai ?_ rfl ?_; (solve | simp only [go_sem, h12, h13, e1])) | (refine jaf (v := ?_) (μ' := ?_) ?_ ?_ rfl ?_; rotate_left 2; (solve | rfl | simp only [go_sem, h12, h13, e1]); (solve | simp only [go_sem, h12, h13, e1]; try exact rfl)))); simp only [go_sem]))
   exact ⟨Grow.refl _, by trivial, _, rfl⟩
 | succ j ihj =>
   intro i hi X e tm μ hX hv hw he h0 h1 hf h12 h13
   have hlt : i < l.length := by omega
   have e1 : ilt (.ofNat i) (.ofNat l.length) = true := (jat _ _).trans (decide_eq_true hlt)
   have a1 : jax .i64 (Int.add (.ofNat i) 1) = .ofNat (i + 1) := jaV i 1 (by omega)
   obtain ⟨bi, bo, bc, cs, hbv, hb, hH, hD⟩ := hv.at (List.getElem?_eq_getElem hlt)
   obtain ⟨ci, co, cc, ds, hcv, hc, hH2, hD2⟩ := hw.at (List.getElem?_eq_getElem hlt)
   have hix : ∀ (r : Rg) (x y : Operand), aev pZ r x = v → aev pZ r y = .int .i64 (.ofNat i) → jas pZ (aev pZ r) 28 x y = some (.pointer (some ⟨bi, bo + 8 * i, none⟩)) := fun r x y g1 g2 => ix_D hlt (g1.trans hbv) g2
   have hiy : ∀ (r : Rg) (x y : Operand), aev pZ r x = w → aev pZ r y = .int .i64 (.ofNat i) → jas pZ (aev pZ r) 28 x y = some (.pointer (some ⟨ci, co + 8 * i, none⟩)) := fun r x y g1 g2 => ix_D hlt (g1.trans hcv) g2
   have hl1 := Has.ld_D hH hD.eight.1
   obtain ⟨μ1, hμ1⟩ : ∃ μ1 : Mem, μ1 = putL ⟨μ.obs.set μ.next (obDt zD8), μ.next + 1⟩ μ.next 0 cs := ⟨_, rfl⟩
   have hst := st_D (o := 0) (blk_D (μ := μ) (l := zD8)) (by omega) hD.eight.1 hD.eight.2
   have hG1 : Grow μ μ1 := by rw [hμ1]; exact (jbn μ _).put_new (Nat.le_refl _)
   have n1 : μ1.next = μ.next + 1 := by rw [hμ1, jbb]
   have hA : Has μ1 μ.next 0 cs := by
    rw [hμ1]
    exact Has.of_put (vs := cs) blk_D (by rw [hD.eight.1]; omega)
   rw [← hμ1] at hst
   have hl2 := Has.ld_D (hH2.keep (hG1.2 _ hc)) hD2.eight.1
   obtain ⟨μ2, hμ2⟩ : ∃ μ2 : Mem, μ2 = putL ⟨μ1.obs.set μ1.next (obDt zD8), μ1.next + 1⟩ μ1.next 0 ds := ⟨_, rfl⟩
   have hst2 := st_D (o := 0) (blk_D (μ := μ1) (l := zD8)) (by omega) hD2.eight.1 hD2.eight.2
   have hG2 : Grow μ1 μ2 := by rw [hμ2]; exact (jbn μ1 _).put_new (Nat.le_refl _)
   have hB : Has μ2 μ1.next 0 ds := by
    rw [hμ2]
    exact Has.of_put (vs := ds) blk_D (by rw [hD2.eight.1]; omega)
   rw [← hμ2] at hst2
   have hl3 := Has.ld_D (hA.keep (hG2.2 _ (by omega))) hD.eight.1
   have hl4 := Has.ld_D hB hD2.eight.1
   have hGG : Grow μ μ2 := hG1.trans hG2
   obtain ⟨μ3, hr, hG3⟩ := ih (X := X) (g := e + (j + 1) + 31) (List.getElem_mem hlt) hX (hD.grow hGG) (hD2.grow hGG) (by omega)
   have hG : Grow μ μ3 := hGG.trans hG3
   refine jan ?_
   have zz := (⟨@h0, @h1, @hf, @h12, @h13, @e1, @hix, @hiy, @hl1, @hl2, @hl3, @hl4, @al_D, @hst, @hst2, @gg9, @hr, @a1⟩ : _ ∧ _ ∧ _ ∧ _ ∧ _ ∧ _ ∧ _ ∧ _ ∧ _ ∧ _ ∧ _ ∧ _ ∧ _ ∧ _ ∧ _ ∧ _ ∧ _ ∧ _)
   repeat (first | refine jab rfl ?_ | (refine jap rfl ?_; (try simp only [go_sem, Nat.add_eq, zz]); fail_if_success refine ifC ?_) | (refine jad rfl ?_; (repeat (first | (refine jai ?_ rfl ?_; (solve | simp only [go_sem, Nat.add_eq, zz])) | (refine jaf (v := ?_) (μ' := ?_) ?_ ?_ rfl ?_; rotate_left 2; (solve | rfl | simp only [go_sem, Nat.add_eq, zz]); (solve | simp only [go_sem, Nat.add_eq, zz]; try exact rfl)))); simp only [go_sem]))
   clear zz
   rw [show e + (j + 1) + 39 = e + j + 40 from by omega]
   refine EndsC.mono (ihj (i + 1) (by omega) hX (hv.grow hG) (hw.grow hG) he (by simp only [go_sem, h0]) (by simp only [go_sem, h1]) (by simp only [go_sem, hf]) (by simp only [go_sem, h12]) (by simp only [go_sem])) ?_
   rintro x r' μ' ⟨g1, g2⟩
   exact ⟨hG.trans g1, g2⟩
theorem dsame_eq : ∀ (n : Nat) {d : Dat} {cs ds : List Value} {X : XT} {g : Nat} {μ : Mem}, Dp n d → jch X → IsD μ d cs → IsD μ d ds → 600 + 5000 * n ≤ g →
  ∃ μ', aFun pZ (jao pZ X S0 g) 9 [.agg cs.toArray, .agg ds.toArray] μ = some (.bool true, μ') ∧ Grow μ μ' := by
 intro n
 induction n with
 | zero => intro d cs ds X g μ hS; exact hS.elim
 | succ n ih =>
   intro d cs ds X g μ hS hX hD hD2 hg
   obtain ⟨k, hk, rfl⟩ : ∃ k, 5000 * (n + 1) ≤ k ∧ g = k + 600 := ⟨g - 600, by omega, by omega⟩
   obtain ⟨kd, m, fl, f, neg, ls, s, l⟩ := d
   obtain ⟨hls, hll, hsub⟩ : ls.length ≤ 200 ∧ l.length ≤ 4000 ∧ ∀ x ∈ l, Dp n x := hS
   obtain ⟨vl, vi, rfl, _, hU, hL⟩ := jce.1 hD
   obtain ⟨wl, wi, rfl, _, hU2, hL2⟩ := jce.1 hD2
   obtain ⟨h1, h2⟩ := jgo μ 30 30 [.int .i64 kd, .int .i64 m, .bool fl, .float .f64 f, .bool neg, vl, .string s, vi] [.int .i64 kd, .int .i64 m, .bool fl, .float .f64 f, .bool neg, wl, .string s, wi]
   have hG1 := jd8 μ (obL 30 [.int .i64 kd, .int .i64 m, .bool fl, .float .f64 f, .bool neg, vl, .string s, vi]) (obL 30 [.int .i64 kd, .int .i64 m, .bool fl, .float .f64 f, .bool neg, wl, .string s, wi])
   obtain ⟨μ1, hμ1⟩ : ∃ μ1 : Mem, μ1 = ⟨(μ.obs.set μ.next (obL 30 [.int .i64 kd, .int .i64 m, .bool fl, .float .f64 f, .bool neg, vl, .string s, vi])).set (μ.next + 1) (obL 30 [.int .i64 kd, .int .i64 m, .bool fl, .float .f64 f, .bool neg, wl, .string s, wi]), μ.next + 1 + 1⟩ := ⟨_, rfl⟩
   rw [← hμ1] at h1 h2 hG1
   have n1 : μ1.next = μ.next + 1 + 1 := by rw [hμ1]
   have hN1 := jeF h1
   have hN2 := jeF h2
   obtain ⟨c0, c1, c2, c3, c4, c5, c6, c7⟩ := Has.c8 h1
   obtain ⟨d0, d1, d2, d3, d4, d5, d6, d7⟩ := Has.c8 h2
   obtain ⟨μ2, r1, G2⟩ := jiq (X := X) (g := k + 596) (fl := fl) (f2 := fl) (p := neg) (q := neg) (f := f) (h := f) hX (hU.grow hG1) (hU2.grow hG1) (by omega) (by omega)
   rw [jiZ] at r1
   have h1' : Has μ2 μ.next 0 _ := h1.keep (G2.2 _ (by omega))
   have h2' : Has μ2 (μ.next + 1) 0 _ := h2.keep (G2.2 _ (by omega))
   obtain ⟨_, _, _, _, _, _, _, c7'⟩ := Has.c8 h1'
   obtain ⟨_, _, _, _, _, _, _, d7'⟩ := Has.c8 h2'
   have hLa := (hL.grow hG1).grow G2
   have hLb := (hL2.grow hG1).grow G2
   have lA := hLa.len
   have lB := hLb.len
   have q1 := jdw kd
   have q2 := jdw m
   have q3 := str_ne1 s
   have q4 : ieq (.ofNat l.length) (.ofNat l.length) = true := jdw _
   have hSL : ∃ μ', aFun pZ (jao pZ X S0 (k + 596)) 20 [vi, wi, .func (.func 9) #[] #[]] μ2 = some (.bool true, μ') ∧ Grow μ2 μ' := by
    have key : EndsF (aFun pZ (jao pZ X S0 (k + 596)) 20 [vi, wi, .func (.func 9) #[] #[]] μ2) fun r μ' => r = .bool true ∧ Grow μ2 μ' := by
     refine jaj Tryz.func20 rfl rfl (nbl rfl) ?_
     simp only [go_sem, Tryz.ntmps20]
     have zz := (⟨@lA, @lB, @jae, @q4⟩ : _ ∧ _ ∧ _ ∧ _)
     repeat (first | refine jab rfl ?_ | (refine jap rfl ?_; (try simp only [go_sem, jaa, zz]); fail_if_success refine ifC ?_) | (refine jad rfl ?_; (repeat (first | (refine jai ?_ rfl ?_; (solve | simp only [go_sem, jaa, zz])) | (refine jaf (v := ?_) (μ' := ?_) ?_ ?_ rfl ?_; rotate_left 2; (solve | rfl | simp only [go_sem, jaa, zz]); (solve | simp only [go_sem, jaa, zz]; try exact rfl)))); simp only [go_sem]))
     clear zz
     rw [show k + 591 = (k + 551 - l.length) + l.length + 40 from by omega]
     refine EndsC.mono (jjx (n := n) hll (fun hm hX h1 h2 hg => ih (hsub _ hm) hX h1 h2 hg) l.length 0 (Nat.zero_add _) hX hLa hLb (by omega) (by simp only [go_sem]) (by simp only [go_sem]) (by simp only [go_sem]) (by simp only [go_sem]) (by simp only [go_sem]; try rfl)) ?_
     rintro x r μ' ⟨g1, rfl, tm', rfl⟩
     simp only [jaX, reduceIte, jak]
     repeat (first | refine jab rfl ?_ | (refine jap rfl ?_; (try simp only [go_sem, undef]); fail_if_success refine ifC ?_) | (refine jad rfl ?_; (repeat (first | (refine jai ?_ rfl ?_; (solve | simp only [go_sem, undef])) | (refine jaf (v := ?_) (μ' := ?_) ?_ ?_ rfl ?_; rotate_left 2; (solve | rfl | simp only [go_sem, undef]); (solve | simp only [go_sem, undef]; try exact rfl)))); simp only [go_sem]))
     refine jah ?_
     refine ⟨rfl, .bool true, ?_, rfl, g1⟩
     simp only [go_sem, Tryz.results20]
    obtain ⟨r, μ', h1, rfl, h2⟩ := key
    exact ⟨μ', h1, h2⟩
   obtain ⟨μ3, r2, G3⟩ := hSL
   have key : EndsF (aFun pZ (jao pZ X S0 (k + 600)) 9 [.agg #[.int .i64 kd, .int .i64 m, .bool fl, .float .f64 f, .bool neg, vl, .string s, vi], .agg #[.int .i64 kd, .int .i64 m, .bool fl, .float .f64 f, .bool neg, wl, .string s, wi]] μ) fun r μ' => r = .bool true ∧ Grow μ μ' := by
    refine jaj Tryz.func9 rfl rfl (nbl rfl) ?_
    simp only [go_sem, Tryz.ntmps9]
    refine jag ?_
    refine jaw ?_ ?_
    ·rfl
    simp only [go_sem, jda, Nat.add_eq]
    rw [← hμ1]
    have zz := (⟨@jfI, @jhf, @jdQ, @jfk, @jc1, @jau, @jcO, @jdb, @hN1, @hN2, @c0, @c1, @c6, @d0, @d1, @d6, @c7', @d7', @q1, @q2, @q3, @gg19, @r1, @gg20, @r2⟩ : _ ∧ _ ∧ _ ∧ _ ∧ _ ∧ _ ∧ _ ∧ _ ∧ _ ∧ _ ∧ _ ∧ _ ∧ _ ∧ _ ∧ _ ∧ _ ∧ _ ∧ _ ∧ _ ∧ _ ∧ _ ∧ _ ∧ _ ∧ _ ∧ _)
    repeat (first | refine jab rfl ?_ | (refine jap rfl ?_; (try simp only [go_sem, zz]); fail_if_success refine ifC ?_) | (refine jad rfl ?_; (repeat (first | (refine jai ?_ rfl ?_; (solve | simp only [go_sem, zz])) | (refine jaf (v := ?_) (μ' := ?_) ?_ ?_ rfl ?_; rotate_left 2; (solve | rfl | simp only [go_sem, zz]); (solve | simp only [go_sem, zz]; try exact rfl)))); simp only [go_sem]))
    clear zz
    refine jah ?_
    refine ⟨rfl, .bool true, ?_, rfl, (hG1.trans G2).trans G3⟩
    simp only [go_sem, Tryz.results9]
   obtain ⟨r, μ', h1, rfl, h2⟩ := key
   exact ⟨μ', h1, h2⟩
end
noncomputable section
section
set_option linter.defProp false
variable {X : XT} {ev : Code → Rg → Mem → Option (Ax × Rg × Mem)}
def gg41 := go_call (P := pZ) (X := X) (ev := ev) (S := S0) Tryz.func41 rfl rfl
def gg25 := go_call (P := pZ) (X := X) (ev := ev) (S := S0) Tryz.func25 rfl rfl
end
theorem xright_ex {ls : List Nat} {v : Value} {neg : Bool} {X : XT} {g : Nat} {μ : Mem} (hU : IsU μ ls v) (hl : ls.length ≤ 200) (hg : 40 ≤ g) : ∃ b μ', aFun pZ (jao pZ X S0 g) 41 [.agg #[.bool neg, v]] μ = some (.bool b, μ') ∧ Grow μ μ' := by
 obtain ⟨k, rfl⟩ := gle hg
 have h1 := jd7 μ 25 [.bool neg, v]
 have hG := jbn μ (obL 25 [.bool neg, v])
 obtain ⟨c0, c1⟩ := Has.c2 h1
 have lU := (hU.grow hG).len
 obtain ⟨t, e1⟩ : ∃ t, ilt 64 (.ofNat ls.length) = t := ⟨_, rfl⟩
 have key : EndsF (aFun pZ (jao pZ X S0 (k + 40)) 41 [.agg #[.bool neg, v]] μ) fun r μ' => (∃ b, r = .bool b) ∧ Grow μ μ' := by
  by_cases h0 : ls.length = 0
  ·have e0 : ieq (.ofNat ls.length) 0 = true := (jaQ _ 0 0 rfl).trans (decide_eq_true h0)
   cases neg
   all_goals
    refine jaj Tryz.func41 rfl rfl (nbl rfl) ?_
    simp only [go_sem, Tryz.ntmps41]
    have zz := (⟨@jf4, @jc0, @jb8, @jaM, @jdP, @c0, @c1, @lU, @jae, @e0⟩ : _ ∧ _ ∧ _ ∧ _ ∧ _ ∧ _ ∧ _ ∧ _ ∧ _ ∧ _)
    repeat (first | refine jab rfl ?_ | (refine jap rfl ?_; (try simp only [go_sem, Nat.add_eq, jaa, zz]); fail_if_success refine ifC ?_) | (refine jad rfl ?_; (repeat (first | (refine jai ?_ rfl ?_; (solve | simp only [go_sem, Nat.add_eq, jaa, zz])) | (refine jaf (v := ?_) (μ' := ?_) ?_ ?_ rfl ?_; rotate_left 2; (solve | rfl | simp only [go_sem, Nat.add_eq, jaa, zz]); (solve | simp only [go_sem, Nat.add_eq, jaa, zz]; try exact rfl)))); simp only [go_sem]))
    clear zz
    refine jah ?_
    refine ⟨rfl, ?_⟩
    simp only [go_sem, Tryz.results41]
    exact ⟨_, rfl, ⟨_, rfl⟩, hG⟩
  ·have e0 : ieq (.ofNat ls.length) 0 = false := (jaQ _ 0 0 rfl).trans (decide_eq_false h0)
   have a1 : jax .i64 (Int.sub (.ofNat ls.length) 1) = .ofNat (ls.length - 1) := jck _ 1 (by omega) (by omega)
   obtain ⟨_, i, o, c, hv, hi, hc⟩ := (hU.grow hG).at (List.getElem?_eq_getElem (show ls.length - 1 < ls.length by omega))
   obtain ⟨x, hx⟩ : ∃ x, x = ls[ls.length - 1]'(by omega) := ⟨_, rfl⟩
   rw [← hx] at hc
   obtain ⟨q, e2⟩ : ∃ q, ieq (.ofNat x) 0 = q := ⟨_, rfl⟩
   have hix : ∀ (r : Rg) (x y : Operand), aev pZ r x = v → aev pZ r y = .int .i64 (.ofNat (ls.length - 1)) → jas pZ (aev pZ r) 23 x y = some (.pointer (some ⟨i, o + (ls.length - 1), none⟩)) := fun r x y g1 g2 => ix_U (by omega) (g1.trans hv) g2
   cases t <;> cases q
   all_goals
    refine jaj Tryz.func41 rfl rfl (nbl rfl) ?_
    simp only [go_sem, Tryz.ntmps41]
    have zz := (⟨@jf4, @jc0, @jb8, @jaM, @jdP, @jcd, @c0, @c1, @lU, @jae, @e0, @e1, @a1, @hix, @hc, @e2⟩ : _ ∧ _ ∧ _ ∧ _ ∧ _ ∧ _ ∧ _ ∧ _ ∧ _ ∧ _ ∧ _ ∧ _ ∧ _ ∧ _ ∧ _ ∧ _)
    repeat (first | refine jab rfl ?_ | (refine jap rfl ?_; (try simp only [go_sem, Nat.add_eq, jaa, zz]); fail_if_success refine ifC ?_) | (refine jad rfl ?_; (repeat (first | (refine jai ?_ rfl ?_; (solve | simp only [go_sem, Nat.add_eq, jaa, zz])) | (refine jaf (v := ?_) (μ' := ?_) ?_ ?_ rfl ?_; rotate_left 2; (solve | rfl | simp only [go_sem, Nat.add_eq, jaa, zz]); (solve | simp only [go_sem, Nat.add_eq, jaa, zz]; try exact rfl)))); simp only [go_sem]))
    clear zz
    refine jah ?_
    refine ⟨rfl, ?_⟩
    simp only [go_sem, Tryz.results41]
    exact ⟨_, rfl, ⟨_, rfl⟩, hG⟩
 obtain ⟨r, μ', h1, ⟨b, rfl⟩, h2⟩ := key
 exact ⟨b, μ', h1, h2⟩
theorem jgM {ls : List Nat} {v : Value} {fl neg : Bool} {f : Nat} {X : XT} {g : Nat} {μ : Mem} (hX : jch X) (hU : IsU μ ls v) (hl : ls.length ≤ 200) (hg : 100 ≤ g) :
  ∃ b μ', aFun pZ (jao pZ X S0 g) 25 [.agg #[.bool fl, .float .f64 f, .bool neg, v]] μ = some (.bool b, μ') ∧ Grow μ μ' := by
 obtain ⟨k, rfl⟩ := gle hg
 have h1 := jd7 μ 27 [.bool fl, .float .f64 f, .bool neg, v]
 have hG := jbn μ (obL 27 [.bool fl, .float .f64 f, .bool neg, v])
 obtain ⟨b, μ2, r1, G1⟩ := xright_ex (X := X) (neg := neg) (g := k + 96) (hU.grow hG) hl (by omega)
 have hb : ∀ μ', aGo pZ X (jbL pZ (jao pZ X S0 (k + 96)) S0) 40 [.float .f64 f] μ' = some (.int .u64 (.ofNat f), μ') := fun μ' => (go_bits _ _).trans (hX f μ')
 have lI := has_I h1
 have lU := (hU.grow hG).len
 obtain ⟨c0, c1, c2, c3⟩ := Has.c4 h1
 obtain ⟨l0, e0⟩ : ∃ b, ieq (.ofNat ls.length) 0 = b := ⟨_, rfl⟩
 obtain ⟨f0, e1⟩ : ∃ b, ieq (.ofNat f) 0 = b := ⟨_, rfl⟩
 have key : EndsF (aFun pZ (jao pZ X S0 (k + 100)) 25 [.agg #[.bool fl, .float .f64 f, .bool neg, v]] μ) fun r μ' => (∃ b, r = .bool b) ∧ Grow μ μ' := by
  cases fl
  ·cases f0
   ·skip
    refine jaj Tryz.func25 rfl rfl (nbl rfl) ?_
    simp only [go_sem, Tryz.ntmps25]
    have zz := (⟨@jds, @jcB, @jcA, @jbN, @jc0, @jb8, @jaM, @jbY, @jdP, @c0, @c1, @c2, @c3, @lI, @hb, @e1, @gg41, @r1⟩ : _ ∧ _ ∧ _ ∧ _ ∧ _ ∧ _ ∧ _ ∧ _ ∧ _ ∧ _ ∧ _ ∧ _ ∧ _ ∧ _ ∧ _ ∧ _ ∧ _ ∧ _)
    repeat (first | refine jab rfl ?_ | (refine jap rfl ?_; (try simp only [go_sem, Nat.add_eq, zz]); fail_if_success refine ifC ?_) | (refine jad rfl ?_; (repeat (first | (refine jai ?_ rfl ?_; (solve | simp only [go_sem, Nat.add_eq, zz])) | (refine jaf (v := ?_) (μ' := ?_) ?_ ?_ rfl ?_; rotate_left 2; (solve | rfl | simp only [go_sem, Nat.add_eq, zz]); (solve | simp only [go_sem, Nat.add_eq, zz]; try exact rfl)))); simp only [go_sem]))
    clear zz
    refine jah ?_
    refine ⟨rfl, ?_⟩
    simp only [go_sem, Tryz.results25]
    exact ⟨_, rfl, ⟨_, rfl⟩, hG⟩
   ·skip
    refine jaj Tryz.func25 rfl rfl (nbl rfl) ?_
    simp only [go_sem, Tryz.ntmps25]
    have zz := (⟨@jds, @jcB, @jcA, @jbN, @jc0, @jb8, @jaM, @jbY, @jdP, @c0, @c1, @c2, @c3, @lI, @hb, @e1, @gg41, @r1⟩ : _ ∧ _ ∧ _ ∧ _ ∧ _ ∧ _ ∧ _ ∧ _ ∧ _ ∧ _ ∧ _ ∧ _ ∧ _ ∧ _ ∧ _ ∧ _ ∧ _ ∧ _)
    repeat (first | refine jab rfl ?_ | (refine jap rfl ?_; (try simp only [go_sem, Nat.add_eq, zz]); fail_if_success refine ifC ?_) | (refine jad rfl ?_; (repeat (first | (refine jai ?_ rfl ?_; (solve | simp only [go_sem, Nat.add_eq, zz])) | (refine jaf (v := ?_) (μ' := ?_) ?_ ?_ rfl ?_; rotate_left 2; (solve | rfl | simp only [go_sem, Nat.add_eq, zz]); (solve | simp only [go_sem, Nat.add_eq, zz]; try exact rfl)))); simp only [go_sem]))
    clear zz
    refine jah ?_
    refine ⟨rfl, ?_⟩
    simp only [go_sem, Tryz.results25]
    exact ⟨_, rfl, ⟨_, rfl⟩, hG.trans G1⟩
  ·cases neg
   all_goals
    refine jaj Tryz.func25 rfl rfl (nbl rfl) ?_
    simp only [go_sem, Tryz.ntmps25]
    have zz := (⟨@jds, @jcB, @jcA, @jbN, @jc0, @jb8, @jaM, @jbY, @jdP, @c0, @c1, @c2, @c3, @lU, @jae, @e0⟩ : _ ∧ _ ∧ _ ∧ _ ∧ _ ∧ _ ∧ _ ∧ _ ∧ _ ∧ _ ∧ _ ∧ _ ∧ _ ∧ _ ∧ _ ∧ _)
    repeat (first | refine jab rfl ?_ | (refine jap rfl ?_; (try simp only [go_sem, Nat.add_eq, jaa, zz]); fail_if_success refine ifC ?_) | (refine jad rfl ?_; (repeat (first | (refine jai ?_ rfl ?_; (solve | simp only [go_sem, Nat.add_eq, jaa, zz])) | (refine jaf (v := ?_) (μ' := ?_) ?_ ?_ rfl ?_; rotate_left 2; (solve | rfl | simp only [go_sem, Nat.add_eq, jaa, zz]); (solve | simp only [go_sem, Nat.add_eq, jaa, zz]; try exact rfl)))); simp only [go_sem]))
    clear zz
    refine jah ?_
    refine ⟨rfl, ?_⟩
    simp only [go_sem, Tryz.results25]
    exact ⟨_, rfl, ⟨_, rfl⟩, hG⟩
 obtain ⟨r, μ', h1, ⟨b, rfl⟩, h2⟩ := key
 exact ⟨b, μ', h1, h2⟩
end
noncomputable section
section
set_option linter.defProp false
variable {X : XT} {ev : Code → Rg → Mem → Option (Ax × Rg × Mem)}
def gg46 := go_call (P := pZ) (X := X) (ev := ev) (S := S0) Tryz.func46 rfl rfl
def gg27 := go_call (P := pZ) (X := X) (ev := ev) (S := S0) Tryz.func27 rfl rfl
end
def kdL (kd : Int) : List Value := [.int .i64 kd, .int .i64 0, .bool false, .float .f64 0, .bool false, .slice none 0 0, .string ⟨#[]⟩, .slice none 0 0]
theorem bd_K {ρ : Operand → Value} {a : Operand} {kd : Int} (ha : ρ a = .int .i64 kd) : jcc pZ ρ 30 #[(0, a)] = some (.agg (kdL kd).toArray) := by
 obtain ⟨f, h1, h2⟩ := pl_D
 refine jbJ (cs := kdL kd) z_Dt h1 h2 ?_
 simp only [List.map_cons, List.map_nil, ha]
 rfl
def bareL (k0 k12 k34 : Bool) (kd m : Int) (fl : Bool) (f : Nat) (neg : Bool) (vl : Value) (s : ByteArray) (vi : Value) : List Value :=
 if k0 then [.int .i64 kd, .int .i64 0, .bool fl, .float .f64 f, .bool neg, vl, .string ⟨#[]⟩, .slice none 0 0]
 else if k12 then [.int .i64 kd, .int .i64 m, .bool false, .float .f64 0, .bool false, .slice none 0 0, .string ⟨#[]⟩, .slice none 0 0]
 else if k34 then [.int .i64 kd, .int .i64 0, .bool false, .float .f64 0, .bool false, .slice none 0 0, .string s, .slice none 0 0]
 else [.int .i64 kd, .int .i64 0, .bool false, .float .f64 0, .bool false, .slice none 0 0, .string ⟨#[]⟩, vi]
theorem st_at {μ : Mem} {i o n t te : Nat} {v : Value} {inf : TypeInfo} (hi : pZ.info? t = some inf) (hsz : inf.size = 1) (hv : one v = true) (h : Blk μ i n te) (ho : o < n) : jbt pZ μ t (.pointer (some ⟨i, o, none⟩)) v = some (undef, putL μ i o [v]) := jbl hi hsz hv h ho
theorem bare_ex {kd m : Int} {fl neg : Bool} {f : Nat} {vl vi : Value} {s : ByteArray} {X : XT} {g : Nat} {μ : Mem} (hvl : one vl = true) (hvi : one vi = true) (hg : 40 ≤ g) :
  ∃ μ', aFun pZ (jao pZ X S0 g) 46 [.agg #[.int .i64 kd, .int .i64 m, .bool fl, .float .f64 f, .bool neg, vl, .string s, vi]] μ = some (.agg (bareL (ieq kd 0) (ieq kd 1 || ieq kd 2) (ieq kd 3 || ieq kd 4) kd m fl f neg vl s vi).toArray, μ') ∧ Grow μ μ' := by
 obtain ⟨k, rfl⟩ := gle hg
 obtain ⟨cs, hcs⟩ : ∃ cs, cs = [Value.int .i64 kd, .int .i64 m, .bool fl, .float .f64 f, .bool neg, vl, .string s, vi] := ⟨_, rfl⟩
 obtain ⟨h1, h2⟩ := jgo μ 30 30 cs zD8
 obtain ⟨μ1, hμ1⟩ : ∃ μ1 : Mem, μ1 = ⟨(μ.obs.set μ.next (obL 30 cs)).set (μ.next + 1) (obDt zD8), μ.next + 1 + 1⟩ := ⟨_, rfl⟩
 have n1 : μ1.next = μ.next + 1 + 1 := by rw [hμ1]
 have hG1 : Grow μ μ1 := by rw [hμ1]; exact jd8 μ _ _
 have hb1 : Blk μ1 (μ.next + 1) 8 30 := by rw [hμ1]; exact blk_D (μ := ⟨μ.obs.set μ.next (obL 30 cs), μ.next + 1⟩) (l := zD8)
 have hA1 : Has μ1 μ.next 0 cs := by rw [hμ1]; exact h1
 have hst := st_D (o := 0) (l := kdL kd) (blk_D (μ := μ1) (l := zD8)) (by omega) rfl rfl
 obtain ⟨μ3, hμ3⟩ : ∃ μ3 : Mem, μ3 = putL ⟨μ1.obs.set μ1.next (obDt zD8), μ1.next + 1⟩ μ1.next 0 (kdL kd) := ⟨_, rfl⟩
 have hG3 : Grow μ1 μ3 := by rw [hμ3]; exact (jbn μ1 _).put_new (Nat.le_refl _)
 have hb3 : Blk μ3 μ1.next 8 30 := by rw [hμ3]; exact blk_D.put _ _
 have hK : Has μ3 μ1.next 0 (kdL kd) := by rw [hμ3]; exact Has.of_put (vs := kdL kd) blk_D (by show 0 + 8 ≤ 8; omega)
 rw [← hμ3] at hst
 have hb4 : Blk μ3 (μ.next + 1) 8 30 := hb1.of_get (hG3.2 _ (by omega))
 have hA3 : Has μ3 μ.next 0 cs := hA1.keep (hG3.2 _ (by omega))
 subst hcs
 have e0 := (Has.c8 hA1).1
 obtain ⟨c0, c1, c2, c3, c4, c5, c6, c7⟩ := Has.c8 hA3
 have hN := jeF hA3
 have fin : ∀ (p : Nat) (vs L : List Value), Has (putL μ3 μ1.next p vs) μ1.next 0 L → L.length = 8 → L.all one = true → ∃ μ5, jbH pZ (putL μ3 μ1.next p vs) 30 (.pointer (some ⟨μ1.next, 0, none⟩)) = some (.agg L.toArray) ∧
   jbt pZ (putL μ3 μ1.next p vs) 30 (.pointer (some ⟨μ.next + 1, 0, none⟩)) (.agg L.toArray) = some (undef, μ5) ∧ jbH pZ μ5 30 (.pointer (some ⟨μ.next + 1, 0, none⟩)) = some (.agg L.toArray) ∧ Grow μ μ5 := fun p vs L h hl ho =>
  ⟨_, Has.ld_D h hl, st_D (hb4.put _ _) (by omega) hl ho, put_D (hb4.put _ _) hl, ((hG1.trans hG3).put_new (by omega)).put_new (by omega)⟩
 have hbd : ∀ (r : Rg) (x : Operand), aev pZ r x = .int .i64 kd → jcc pZ (aev pZ r) 30 #[(0, x)] = some (.agg (kdL kd).toArray) := fun r x g => bd_K g
 obtain ⟨k0, q0⟩ : ∃ b, ieq kd 0 = b := ⟨_, rfl⟩
 obtain ⟨k1, q1⟩ : ∃ b, ieq kd 1 = b := ⟨_, rfl⟩
 obtain ⟨k2, q2⟩ : ∃ b, ieq kd 2 = b := ⟨_, rfl⟩
 obtain ⟨k3, q3⟩ : ∃ b, ieq kd 3 = b := ⟨_, rfl⟩
 obtain ⟨k4, q4⟩ : ∃ b, ieq kd 4 = b := ⟨_, rfl⟩
 have hN2 : ∃ μ5, jbt pZ μ3 27 (.pointer (some ⟨μ1.next, 2, none⟩)) (.agg #[.bool fl, .float .f64 f, .bool neg, vl]) = some (undef, putL μ3 μ1.next 2 [.bool fl, .float .f64 f, .bool neg, vl]) ∧ μ5 = μ3 := ⟨_, jcL (vs := [.bool fl, .float .f64 f, .bool neg, vl]) i_Num rfl (by simp only [List.all_cons, List.all_nil, hvl]; rfl) hb3 (by simp), rfl⟩
 obtain ⟨_, s0, _⟩ := hN2
 have s1 : jbt pZ μ3 3 (.pointer (some ⟨μ1.next, 1, none⟩)) (.int .i64 m) = some (undef, putL μ3 μ1.next 1 [.int .i64 m]) := st_at jdn rfl rfl hb3 (by omega)
 have s2 : jbt pZ μ3 9 (.pointer (some ⟨μ1.next, 6, none⟩)) (.string s) = some (undef, putL μ3 μ1.next 6 [.string s]) := st_at i_str rfl rfl hb3 (by omega)
 have s3 : jbt pZ μ3 28 (.pointer (some ⟨μ1.next, 7, none⟩)) vi = some (undef, putL μ3 μ1.next 7 [vi]) := st_at i_Dl rfl hvi hb3 (by omega)
 rw [q0, q1, q2, q3, q4]
 have key : EndsF (aFun pZ (jao pZ X S0 (k + 40)) 46 [.agg #[.int .i64 kd, .int .i64 m, .bool fl, .float .f64 f, .bool neg, vl, .string s, vi]] μ) fun r μ' => r = .agg (bareL k0 (k1 || k2) (k3 || k4) kd m fl f neg vl s vi).toArray ∧ Grow μ μ' := by
  refine jaj Tryz.func46 rfl rfl (nbl rfl) ?_
  simp only [go_sem, Tryz.ntmps46]
  refine jag ?_
  refine jaw ?_ ?_
  ·rfl
  simp only [go_sem, jda, al_D, Nat.add_eq]
  rw [← hμ1]
  have zy := (⟨@jfI, @jhf, @jdQ, @jfk, @jc1, @jau, @jcO, @jdb, @e0, @hbd, @al_D, @hst, @hN, @c0, @c1, @c6, @c7, @q0, @q1, @q2, @q3, @q4, @s0, @s1, @s2, @s3⟩ : _ ∧ _ ∧ _ ∧ _ ∧ _ ∧ _ ∧ _ ∧ _ ∧ _ ∧ _ ∧ _ ∧ _ ∧ _ ∧ _ ∧ _ ∧ _ ∧ _ ∧ _ ∧ _ ∧ _ ∧ _ ∧ _ ∧ _ ∧ _ ∧ _ ∧ _)
  cases k0 with
  | true =>
    obtain ⟨μ5, f1, f2, f3, f4⟩ := fin 2 [Value.bool fl, .float .f64 f, .bool neg, vl] [Value.int .i64 kd, .int .i64 0, .bool fl, .float .f64 f, .bool neg, vl, .string ⟨#[]⟩, .slice none 0 0] (hK.put_in (a := [Value.int .i64 kd, .int .i64 0]) (b := [Value.bool false, .float .f64 0, .bool false, .slice none 0 0]) (c := [Value.string ⟨#[]⟩, .slice none 0 0]) rfl hb3 rfl) rfl (by simp only [List.all_cons, List.all_nil, hvl, hvi]; rfl)
    repeat (first | refine jab rfl ?_ | (refine jap rfl ?_; (try simp only [go_sem, zy, f1, f2, Nat.add_eq]); fail_if_success refine ifC ?_) | (refine jad rfl ?_; (repeat (first | (refine jai ?_ rfl ?_; (solve | simp only [go_sem, zy, f1, f2, Nat.add_eq])) | (refine jaf (v := ?_) (μ' := ?_) ?_ ?_ rfl ?_; rotate_left 2; (solve | rfl | simp only [go_sem, zy, f1, f2, Nat.add_eq]); (solve | simp only [go_sem, zy, f1, f2, Nat.add_eq]; try exact rfl)))); simp only [go_sem]))
    refine jah ?_
    refine ⟨rfl, _, ?_, rfl, f4⟩
    simp only [go_sem, Tryz.results46]
    rw [f3]
    try rfl
  | false =>
    cases k1 with
    | true =>
      obtain ⟨μ5, f1, f2, f3, f4⟩ := fin 1 [Value.int .i64 m] [Value.int .i64 kd, .int .i64 m, .bool false, .float .f64 0, .bool false, .slice none 0 0, .string ⟨#[]⟩, .slice none 0 0] (hK.put_in (a := [Value.int .i64 kd]) (b := [Value.int .i64 0]) (c := [Value.bool false, .float .f64 0, .bool false, .slice none 0 0, .string ⟨#[]⟩, .slice none 0 0]) rfl hb3 rfl) rfl (by simp only [List.all_cons, List.all_nil, hvl, hvi]; rfl)
      repeat (first | refine jab rfl ?_ | (refine jap rfl ?_; (try simp only [go_sem, zy, f1, f2, Nat.add_eq]); fail_if_success refine ifC ?_) | (refine jad rfl ?_; (repeat (first | (refine jai ?_ rfl ?_; (solve | simp only [go_sem, zy, f1, f2, Nat.add_eq])) | (refine jaf (v := ?_) (μ' := ?_) ?_ ?_ rfl ?_; rotate_left 2; (solve | rfl | simp only [go_sem, zy, f1, f2, Nat.add_eq]); (solve | simp only [go_sem, zy, f1, f2, Nat.add_eq]; try exact rfl)))); simp only [go_sem]))
      refine jah ?_
      refine ⟨rfl, _, ?_, rfl, f4⟩
      simp only [go_sem, Tryz.results46]
      rw [f3]
      try rfl
    | false =>
      cases k2 with
      | true =>
        obtain ⟨μ5, f1, f2, f3, f4⟩ := fin 1 [Value.int .i64 m] [Value.int .i64 kd, .int .i64 m, .bool false, .float .f64 0, .bool false, .slice none 0 0, .string ⟨#[]⟩, .slice none 0 0] (hK.put_in (a := [Value.int .i64 kd]) (b := [Value.int .i64 0]) (c := [Value.bool false, .float .f64 0, .bool false, .slice none 0 0, .string ⟨#[]⟩, .slice none 0 0]) rfl hb3 rfl) rfl (by simp only [List.all_cons, List.all_nil, hvl, hvi]; rfl)
        repeat (first | refine jab rfl ?_ | (refine jap rfl ?_; (try simp only [go_sem, zy, f1, f2, Nat.add_eq]); fail_if_success refine ifC ?_) | (refine jad rfl ?_; (repeat (first | (refine jai ?_ rfl ?_; (solve | simp only [go_sem, zy, f1, f2, Nat.add_eq])) | (refine jaf (v := ?_) (μ' := ?_) ?_ ?_ rfl ?_; rotate_left 2; (solve | rfl | simp only [go_sem, zy, f1, f2, Nat.add_eq]); (solve | simp only [go_sem, zy, f1, f2, Nat.add_eq]; try exact rfl)))); simp only [go_sem]))
        refine jah ?_
        refine ⟨rfl, _, ?_, rfl, f4⟩
        simp only [go_sem, Tryz.results46]
        rw [f3]
        try rfl
      | false =>
        cases k3 with
        | true =>
          obtain ⟨μ5, f1, f2, f3, f4⟩ := fin 6 [Value.string s] [Value.int .i64 kd, .int .i64 0, .bool false, .float .f64 0, .bool false, .slice none 0 0, .string s, .slice none 0 0] (hK.put_in (a := [Value.int .i64 kd, .int .i64 0, .bool false, .float .f64 0, .bool false, .slice none 0 0]) (b := [Value.string ⟨#[]⟩]) (c := [Value.slice none 0 0]) rfl hb3 rfl) rfl (by simp only [List.all_cons, List.all_nil, hvl, hvi]; rfl)
          repeat (first | refine jab rfl ?_ | (refine jap rfl ?_; (try simp only [go_sem, zy, f1, f2, Nat.add_eq]); fail_if_success refine ifC ?_) | (refine jad rfl ?_; (repeat (first | (refine jai ?_ rfl ?_; (solve | simp only [go_sem, zy, f1, f2, Nat.add_eq])) | (refine jaf (v := ?_) (μ' := ?_) ?_ ?_ rfl ?_; rotate_left 2; (solve | rfl | simp only [go_sem, zy, f1, f2, Nat.add_eq]); (solve | simp only [go_sem, zy, f1, f2, Nat.add_eq]; try exact rfl)))); simp only [go_sem]))
          refine jah ?_
          refine ⟨rfl, _, ?_, rfl, f4⟩
          simp only [go_sem, Tryz.results46]
          rw [f3]
          try rfl
        | false =>
          cases k4 with
          | true =>
            obtain ⟨μ5, f1, f2, f3, f4⟩ := fin 6 [Value.string s] [Value.int .i64 kd, .int .i64 0, .bool false, .float .f64 0, .bool false, .slice none 0 0, .string s, .slice none 0 0] (hK.put_in (a := [Value.int .i64 kd, .int .i64 0, .bool false, .float .f64 0, .bool false, .slice none 0 0]) (b := [Value.string ⟨#[]⟩]) (c := [Value.slice none 0 0]) rfl hb3 rfl) rfl (by simp only [List.all_cons, List.all_nil, hvl, hvi]; rfl)
            repeat (first | refine jab rfl ?_ | (refine jap rfl ?_; (try simp only [go_sem, zy, f1, f2, Nat.add_eq]); fail_if_success refine ifC ?_) | (refine jad rfl ?_; (repeat (first | (refine jai ?_ rfl ?_; (solve | simp only [go_sem, zy, f1, f2, Nat.add_eq])) | (refine jaf (v := ?_) (μ' := ?_) ?_ ?_ rfl ?_; rotate_left 2; (solve | rfl | simp only [go_sem, zy, f1, f2, Nat.add_eq]); (solve | simp only [go_sem, zy, f1, f2, Nat.add_eq]; try exact rfl)))); simp only [go_sem]))
            refine jah ?_
            refine ⟨rfl, _, ?_, rfl, f4⟩
            simp only [go_sem, Tryz.results46]
            rw [f3]
            try rfl
          | false =>
            obtain ⟨μ5, f1, f2, f3, f4⟩ := fin 7 [vi] [Value.int .i64 kd, .int .i64 0, .bool false, .float .f64 0, .bool false, .slice none 0 0, .string ⟨#[]⟩, vi] (hK.put_in (a := [Value.int .i64 kd, .int .i64 0, .bool false, .float .f64 0, .bool false, .slice none 0 0, .string ⟨#[]⟩]) (b := [Value.slice none 0 0]) (c := ([] : List Value)) rfl hb3 rfl) rfl (by simp only [List.all_cons, List.all_nil, hvl, hvi]; rfl)
            repeat (first | refine jab rfl ?_ | (refine jap rfl ?_; (try simp only [go_sem, zy, f1, f2, Nat.add_eq]); fail_if_success refine ifC ?_) | (refine jad rfl ?_; (repeat (first | (refine jai ?_ rfl ?_; (solve | simp only [go_sem, zy, f1, f2, Nat.add_eq])) | (refine jaf (v := ?_) (μ' := ?_) ?_ ?_ rfl ?_; rotate_left 2; (solve | rfl | simp only [go_sem, zy, f1, f2, Nat.add_eq]); (solve | simp only [go_sem, zy, f1, f2, Nat.add_eq]; try exact rfl)))); simp only [go_sem]))
            refine jah ?_
            refine ⟨rfl, _, ?_, rfl, f4⟩
            simp only [go_sem, Tryz.results46]
            rw [f3]
            try rfl
 obtain ⟨r, μ', h1, rfl, h2⟩ := key
 exact ⟨μ', h1, h2⟩
end
noncomputable section
theorem jjI {μ : Mem} {ls : List Nat} {vl vi : Value} {n : Nat} (k0 k12 k34 : Bool) (kd m : Int) (fl : Bool) (f : Nat) (neg : Bool) (s : ByteArray) (hU : IsU μ ls vl) (hL : aLen pZ 28 vi = some n) (hvl : one vl = true) (hvi : one vi = true) :
  ∃ (m' : Int) (fl' : Bool) (f' : Nat) (neg' : Bool) (vl' : Value) (s' : ByteArray) (vi' : Value) (ls' : List Nat) (n' : Nat), bareL k0 k12 k34 kd m fl f neg vl s vi = [.int .i64 kd, .int .i64 m', .bool fl', .float .f64 f', .bool neg', vl', .string s', vi'] ∧ IsU μ ls' vl' ∧ aLen pZ 28 vi' = some n' ∧ one vl' = true ∧ one vi' = true := by
 unfold bareL
 have hz : aLen pZ 28 (.slice none 0 0) = some 0 := (show IsL μ [] (.slice none 0 0) from ⟨Nat.zero_le _, .inl ⟨rfl, rfl⟩⟩).len
 cases k0
 ·cases k12
  ·cases k34
   ·exact ⟨_, _, _, _, _, _, _, [], _, rfl, jhY _, hL, rfl, hvi⟩
   ·exact ⟨_, _, _, _, _, _, _, [], _, rfl, jhY _, hz, rfl, rfl⟩
  ·exact ⟨_, _, _, _, _, _, _, [], _, rfl, jhY _, hz, rfl, rfl⟩
 ·exact ⟨_, _, _, _, _, _, _, _, _, rfl, hU, hz, hvl, rfl⟩
theorem extra_ex {d : Dat} {cs : List Value} {n : Nat} {X : XT} {g : Nat} {μ : Mem} (hX : jch X) (hS : Dp n d) (hD : IsD μ d cs) (hg : 500 ≤ g) : ∃ b μ', aFun pZ (jao pZ X S0 g) 27 [.agg cs.toArray] μ = some (.bool b, μ') ∧ Grow μ μ' := by
 obtain ⟨k, rfl⟩ := gle hg
 cases n with
 | zero => exact hS.elim
 | succ n =>
 obtain ⟨kd, m, fl, f, neg, ls, s, l⟩ := d
 obtain ⟨hls, hll, _⟩ : ls.length ≤ 200 ∧ l.length ≤ 4000 ∧ ∀ x ∈ l, Dp n x := hS
 have h8 := hD.eight.2
 obtain ⟨vl, vi, rfl, _, hU, hL⟩ := jce.1 hD
 have hvl : one vl = true := List.all_eq_true.1 h8 vl (by simp)
 have hvi : one vi = true := List.all_eq_true.1 h8 vi (by simp)
 obtain ⟨cs, hcs⟩ : ∃ cs, cs = [Value.int .i64 kd, .int .i64 m, .bool fl, .float .f64 f, .bool neg, vl, .string s, vi] := ⟨_, rfl⟩
 have hA := jd7 μ 30 cs
 have hG1 := jbn μ (obL 30 cs)
 obtain ⟨μ1, hμ1⟩ : ∃ μ1 : Mem, μ1 = ⟨μ.obs.set μ.next (obL 30 cs), μ.next + 1⟩ := ⟨_, rfl⟩
 rw [← hμ1] at hA hG1
 have n1 : μ1.next = μ.next + 1 := by rw [hμ1]
 subst hcs
 have hl0 := Has.ld_D hA rfl
 obtain ⟨μ2, r1, G2⟩ := bare_ex (kd := kd) (m := m) (fl := fl) (neg := neg) (f := f) (s := s) (X := X) (g := k + 497) (μ := μ1) hvl hvi (by omega)
 have hU2 := (hU.grow hG1).grow G2
 have lA := ((hL.grow hG1).grow G2).len
 obtain ⟨m', fl', f', neg', vl', s', vi', ls', n', hb, hU', lB, hvl', hvi'⟩ := jjI (ieq kd 0) (ieq kd 1 || ieq kd 2) (ieq kd 3 || ieq kd 4) kd m fl f neg s hU2 lA hvl hvi
 rw [hb] at r1
 have hst := st_D (o := 0) (l := [.int .i64 kd, .int .i64 m', .bool fl', .float .f64 f', .bool neg', vl', .string s', vi']) (blk_D (μ := μ2) (l := zD8)) (by omega) rfl (by simp only [List.all_cons, List.all_nil, hvl', hvi']; rfl)
 obtain ⟨μ3, hμ3⟩ : ∃ μ3 : Mem, μ3 = putL ⟨μ2.obs.set μ2.next (obDt zD8), μ2.next + 1⟩ μ2.next 0 [.int .i64 kd, .int .i64 m', .bool fl', .float .f64 f', .bool neg', vl', .string s', vi'] := ⟨_, rfl⟩
 have hG3 : Grow μ2 μ3 := by rw [hμ3]; exact (jbn μ2 _).put_new (Nat.le_refl _)
 have hB : Has μ3 μ2.next 0 [.int .i64 kd, .int .i64 m', .bool fl', .float .f64 f', .bool neg', vl', .string s', vi'] := by rw [hμ3]; exact Has.of_put blk_D (by show 0 + 8 ≤ 8; omega)
 rw [← hμ3] at hst
 have hA3 := (hA.keep (G2.2 _ (by omega))).keep (hG3.2 _ (by have := G2.1; omega))
 obtain ⟨c0, c1, c2, c3, c4, c5, c6, c7⟩ := Has.c8 hA3
 obtain ⟨d0, d1, d2, d3, d4, d5, d6, d7⟩ := Has.c8 hB
 have hN1 := jeF hA3
 have hN2 := jeF hB
 have hG := (hG1.trans G2).trans hG3
 obtain ⟨μ4, r2, G4⟩ := jiq (X := X) (g := k + 496) (fl := fl) (f2 := fl') (p := neg) (q := neg') (f := f) (h := f') hX (hU2.grow hG3) (hU'.grow hG3) (by omega) (by omega)
 obtain ⟨t1, e1⟩ : ∃ t, ieq m m' = t := ⟨_, rfl⟩
 obtain ⟨t2, e2⟩ : ∃ t, aStr .neq s s' = some (.bool t) := ⟨_, rfl⟩
 obtain ⟨t3, e3⟩ : ∃ t, ieq (.ofNat l.length) (.ofNat n') = t := ⟨_, rfl⟩
 obtain ⟨t4, e4⟩ : ∃ t, jdW fl fl' f f' neg neg' ls ls' = t := ⟨_, rfl⟩
 rw [e4] at r2
 have key : EndsF (aFun pZ (jao pZ X S0 (k + 500)) 27 [.agg #[.int .i64 kd, .int .i64 m, .bool fl, .float .f64 f, .bool neg, vl, .string s, vi]] μ) fun r μ' => (∃ b, r = .bool b) ∧ Grow μ μ' := by
  refine jaj Tryz.func27 rfl rfl (nbl rfl) ?_
  simp only [go_sem, Tryz.ntmps27]
  refine jag ?_
  refine jaw ?_ ?_
  ·rfl
  simp only [go_sem, jda, Nat.add_eq]
  rw [← hμ1]
  cases t1 with
  | false =>
    cases t2 <;> cases t3
    all_goals
     have zz := (⟨@jfI, @jhf, @jdQ, @jfk, @jc1, @jau, @jcO, @jdb, @hl0, @gg46, @r1, @al_D, @hst, @hN1, @hN2, @c0, @c1, @c6, @c7, @d0, @d1, @d6, @d7, @e1, @e2, @lA, @lB, @jae, @e3⟩ : _ ∧ _ ∧ _ ∧ _ ∧ _ ∧ _ ∧ _ ∧ _ ∧ _ ∧ _ ∧ _ ∧ _ ∧ _ ∧ _ ∧ _ ∧ _ ∧ _ ∧ _ ∧ _ ∧ _ ∧ _ ∧ _ ∧ _ ∧ _ ∧ _ ∧ _ ∧ _ ∧ _ ∧ _)
     repeat (first | refine jab rfl ?_ | (refine jap rfl ?_; (try simp only [go_sem, Nat.add_eq, jaa, zz]); fail_if_success refine ifC ?_) | (refine jad rfl ?_; (repeat (first | (refine jai ?_ rfl ?_; (solve | simp only [go_sem, Nat.add_eq, jaa, zz])) | (refine jaf (v := ?_) (μ' := ?_) ?_ ?_ rfl ?_; rotate_left 2; (solve | rfl | simp only [go_sem, Nat.add_eq, jaa, zz]); (solve | simp only [go_sem, Nat.add_eq, jaa, zz]; try exact rfl)))); simp only [go_sem]))
     clear zz
     refine jah ?_
     refine ⟨rfl, ?_⟩
     simp only [go_sem, Tryz.results27]
     exact ⟨_, rfl, ⟨_, rfl⟩, hG⟩
  | true =>
    cases t2 with
    | true =>
      cases t3
      all_goals
       have zz := (⟨@jfI, @jhf, @jdQ, @jfk, @jc1, @jau, @jcO, @jdb, @hl0, @gg46, @r1, @al_D, @hst, @hN1, @hN2, @c0, @c1, @c6, @c7, @d0, @d1, @d6, @d7, @e1, @e2, @lA, @lB, @jae, @e3⟩ : _ ∧ _ ∧ _ ∧ _ ∧ _ ∧ _ ∧ _ ∧ _ ∧ _ ∧ _ ∧ _ ∧ _ ∧ _ ∧ _ ∧ _ ∧ _ ∧ _ ∧ _ ∧ _ ∧ _ ∧ _ ∧ _ ∧ _ ∧ _ ∧ _ ∧ _ ∧ _ ∧ _ ∧ _)
       repeat (first | refine jab rfl ?_ | (refine jap rfl ?_; (try simp only [go_sem, Nat.add_eq, jaa, zz]); fail_if_success refine ifC ?_) | (refine jad rfl ?_; (repeat (first | (refine jai ?_ rfl ?_; (solve | simp only [go_sem, Nat.add_eq, jaa, zz])) | (refine jaf (v := ?_) (μ' := ?_) ?_ ?_ rfl ?_; rotate_left 2; (solve | rfl | simp only [go_sem, Nat.add_eq, jaa, zz]); (solve | simp only [go_sem, Nat.add_eq, jaa, zz]; try exact rfl)))); simp only [go_sem]))
       clear zz
       refine jah ?_
       refine ⟨rfl, ?_⟩
       simp only [go_sem, Tryz.results27]
       exact ⟨_, rfl, ⟨_, rfl⟩, hG⟩
    | false =>
      cases t3 with
      | false =>
        have zz := (⟨@jfI, @jhf, @jdQ, @jfk, @jc1, @jau, @jcO, @jdb, @hl0, @gg46, @r1, @al_D, @hst, @hN1, @hN2, @c0, @c1, @c6, @c7, @d0, @d1, @d6, @d7, @e1, @e2, @lA, @lB, @jae, @e3⟩ : _ ∧ _ ∧ _ ∧ _ ∧ _ ∧ _ ∧ _ ∧ _ ∧ _ ∧ _ ∧ _ ∧ _ ∧ _ ∧ _ ∧ _ ∧ _ ∧ _ ∧ _ ∧ _ ∧ _ ∧ _ ∧ _ ∧ _ ∧ _ ∧ _ ∧ _ ∧ _ ∧ _ ∧ _)
        repeat (first | refine jab rfl ?_ | (refine jap rfl ?_; (try simp only [go_sem, Nat.add_eq, jaa, zz]); fail_if_success refine ifC ?_) | (refine jad rfl ?_; (repeat (first | (refine jai ?_ rfl ?_; (solve | simp only [go_sem, Nat.add_eq, jaa, zz])) | (refine jaf (v := ?_) (μ' := ?_) ?_ ?_ rfl ?_; rotate_left 2; (solve | rfl | simp only [go_sem, Nat.add_eq, jaa, zz]); (solve | simp only [go_sem, Nat.add_eq, jaa, zz]; try exact rfl)))); simp only [go_sem]))
        clear zz
        refine jah ?_
        refine ⟨rfl, ?_⟩
        simp only [go_sem, Tryz.results27]
        exact ⟨_, rfl, ⟨_, rfl⟩, hG⟩
      | true =>
        cases t4
        all_goals
         have zz := (⟨@jfI, @jhf, @jdQ, @jfk, @jc1, @jau, @jcO, @jdb, @hl0, @gg46, @r1, @al_D, @hst, @hN1, @hN2, @c0, @c1, @c6, @c7, @d0, @d1, @d6, @d7, @e1, @e2, @lA, @lB, @jae, @e3, @gg19, @r2⟩ : _ ∧ _ ∧ _ ∧ _ ∧ _ ∧ _ ∧ _ ∧ _ ∧ _ ∧ _ ∧ _ ∧ _ ∧ _ ∧ _ ∧ _ ∧ _ ∧ _ ∧ _ ∧ _ ∧ _ ∧ _ ∧ _ ∧ _ ∧ _ ∧ _ ∧ _ ∧ _ ∧ _ ∧ _ ∧ _ ∧ _)
         repeat (first | refine jab rfl ?_ | (refine jap rfl ?_; (try simp only [go_sem, Nat.add_eq, jaa, zz]); fail_if_success refine ifC ?_) | (refine jad rfl ?_; (repeat (first | (refine jai ?_ rfl ?_; (solve | simp only [go_sem, Nat.add_eq, jaa, zz])) | (refine jaf (v := ?_) (μ' := ?_) ?_ ?_ rfl ?_; rotate_left 2; (solve | rfl | simp only [go_sem, Nat.add_eq, jaa, zz]); (solve | simp only [go_sem, Nat.add_eq, jaa, zz]; try exact rfl)))); simp only [go_sem]))
         clear zz
         refine jah ?_
         refine ⟨rfl, ?_⟩
         simp only [go_sem, Tryz.results27]
         exact ⟨_, rfl, ⟨_, rfl⟩, hG.trans G4⟩
 obtain ⟨r, μ', h1, ⟨b, rfl⟩, h2⟩ := key
 exact ⟨b, μ', h1, h2⟩
end
noncomputable section
section
set_option linter.defProp false
variable {X : XT} {ev : Code → Rg → Mem → Option (Ax × Rg × Mem)}
def gg63 := go_call (P := pZ) (X := X) (ev := ev) (S := S0) Tryz.func63 rfl rfl
def gg42 := go_call (P := pZ) (X := X) (ev := ev) (S := S0) Tryz.func42 rfl rfl
end
theorem vrune_ex (x : Int) : ∃ b, ∀ {X : XT} {g : Nat} {μ : Mem}, 40 ≤ g → aFun pZ (jao pZ X S0 g) 63 [.int .i32 x] μ = some (.bool b, μ) := by
 obtain ⟨t1, e1⟩ : ∃ t, ilt x 0 = t := ⟨_, rfl⟩
 obtain ⟨t2, e2⟩ : ∃ t, ilt x 55296 = t := ⟨_, rfl⟩
 obtain ⟨t3, e3⟩ : ∃ t, ilt 57343 x = t := ⟨_, rfl⟩
 obtain ⟨t4, e4⟩ : ∃ t, ilt 1114111 x = t := ⟨_, rfl⟩
 refine ⟨(!t1 && t2) || (t3 && !t4), fun {X g μ} hg => ?_⟩
 obtain ⟨k, rfl⟩ := gle hg
 refine jaN ?_
 cases t1 <;> cases t2 <;> cases t3 <;> cases t4
 all_goals
  refine jaj Tryz.func63 rfl rfl (nbl rfl) ?_
  simp only [go_sem, Tryz.ntmps63]
  repeat (first | refine jab rfl ?_ | (refine jap rfl ?_; (try simp only [go_sem, e1, e2, e3, e4]); fail_if_success refine ifC ?_) | (refine jad rfl ?_; (repeat (first | (refine jai ?_ rfl ?_; (solve | simp only [go_sem, e1, e2, e3, e4])) | (refine jaf (v := ?_) (μ' := ?_) ?_ ?_ rfl ?_; rotate_left 2; (solve | rfl | simp only [go_sem, e1, e2, e3, e4]); (solve | simp only [go_sem, e1, e2, e3, e4]; try exact rfl)))); simp only [go_sem]))
  refine jah ?_
  refine ⟨rfl, _, ?_, rfl, rfl⟩
  simp only [go_sem, Tryz.results63]
  try rfl
theorem dsign_ex (n : Int) : ∃ b, ∀ {X : XT} {g : Nat} {μ : Mem}, 80 ≤ g → aFun pZ (jao pZ X S0 g) 42 [.int .i64 n] μ = some (.bool b, μ) := by
 obtain ⟨t1, e1⟩ : ∃ t, ilt n 0 = t := ⟨_, rfl⟩
 obtain ⟨t2, e2⟩ : ∃ t, ilt 1114111 n = t := ⟨_, rfl⟩
 obtain ⟨b, hb⟩ := vrune_ex (jax .i32 n)
 refine ⟨(!t1 && !t2) && b, fun {X g μ} hg => ?_⟩
 obtain ⟨k, rfl⟩ := gle hg
 have r1 := hb (X := X) (g := k + 77) (μ := μ) (by omega)
 refine jaN ?_
 cases t1 <;> cases t2
 all_goals
  refine jaj Tryz.func42 rfl rfl (nbl rfl) ?_
  simp only [go_sem, Tryz.ntmps42]
  repeat (first | refine jab rfl ?_ | (refine jap rfl ?_; (try simp only [go_sem, e1, e2, gg63, r1]); fail_if_success refine ifC ?_) | (refine jad rfl ?_; (repeat (first | (refine jai ?_ rfl ?_; (solve | simp only [go_sem, e1, e2, gg63, r1])) | (refine jaf (v := ?_) (μ' := ?_) ?_ ?_ rfl ?_; rotate_left 2; (solve | rfl | simp only [go_sem, e1, e2, gg63, r1]); (solve | simp only [go_sem, e1, e2, gg63, r1]; try exact rfl)))); simp only [go_sem]))
  refine jah ?_
  refine ⟨rfl, _, ?_, rfl, rfl⟩
  simp only [go_sem, Tryz.results42]
  try rfl
end
noncomputable section
section
set_option linter.defProp false
variable {X : XT} {ev : Code → Rg → Mem → Option (Ax × Rg × Mem)}
def gg44 := go_call (P := pZ) (X := X) (ev := ev) (S := S0) Tryz.func44 rfl rfl
end
theorem grow_poke {a b : Mem} {q : Nat} (h : Grow a b) (hq : a.next ≤ q) (ob : Ob) : Grow a ⟨b.obs.set q ob, b.next⟩ := ⟨h.1, fun j hj => by
 show T.get _ _ = _
 rw [T.get_set, if_neg (by omega)]
 exact h.2 j hj⟩
theorem rc_loop {s : ByteArray} (hl : (bys s).length ≤ 5000) {μ0 : Mem} {q : Nat} (hq : μ0.next ≤ q) : ∀ (f p n : Nat), (bys s).length ≤ p + f → n ≤ p → ∀ {X : XT} {e : Nat} {tm : T Value} {μ : Mem}, μ.obs.get q = some (.siter s p) → Grow μ0 μ →
  jam tm 2 = .int .i64 (.ofNat n) → jam tm 4 = .pointer (some ⟨q, 0, none⟩) →
  EndsC (jao pZ X S0 (e + f + 30) (.loop (jaR Tryz.f44 0)) ⟨10, tm, [], none⟩ μ) fun x r μ' => Grow μ0 μ' ∧ x = .exit 0 ∧ ∃ tm', r = ⟨10, tm', [], none⟩ ∧ ∃ m, jam tm' 2 = .int .i64 m := by
 intro f
 have done : ∀ (f p n : Nat), (bys s).length ≤ p → ∀ {X : XT} {e : Nat} {tm : T Value} {μ : Mem}, μ.obs.get q = some (.siter s p) → Grow μ0 μ →
   jam tm 2 = .int .i64 (.ofNat n) → jam tm 4 = .pointer (some ⟨q, 0, none⟩) →
   EndsC (jao pZ X S0 (e + f + 30) (.loop (jaR Tryz.f44 0)) ⟨10, tm, [], none⟩ μ) fun x r μ' => Grow μ0 μ' ∧ x = .exit 0 ∧ ∃ tm', r = ⟨10, tm', [], none⟩ ∧ ∃ m, jam tm' 2 = .int .i64 m := by
  intro f p n hp X e tm μ ho hG h2 h4
  have hnx := next_no ho hp
  refine jan ?_
  repeat (first | refine jab rfl ?_ | (refine jap rfl ?_; (try simp only [go_sem, h4, hnx]); fail_if_success refine ifC ?_) | (refine jad rfl ?_; (repeat (first | (refine jai ?_ rfl ?_; (solve | simp only [go_sem, h4, hnx])) | (refine jaf (v := ?_) (μ' := ?_) ?_ ?_ rfl ?_; rotate_left 2; (solve | rfl | simp only [go_sem, h4, hnx]); (solve | simp only [go_sem, h4, hnx]; try exact rfl)))); simp only [go_sem]))
  exact ⟨hG, by trivial, _, rfl, _, by simp only [go_sem, h2]; rfl⟩
 induction f with
 | zero =>
   intro p n hp hn X e tm μ ho hG h2 h4
   exact done 0 p n (by omega) ho hG h2 h4
 | succ f ih =>
   intro p n hp hn X e tm μ ho hG h2 h4
   by_cases hlt : p < (bys s).length
   ·obtain ⟨c, hc⟩ : ∃ c, c = (Utf8.decode s p).1 := ⟨_, rfl⟩
    obtain ⟨w, hw⟩ : ∃ w, w = (Utf8.decode s p).2 := ⟨_, rfl⟩
    have hw1 : 1 ≤ w := by rw [hw]; exact Lib.width_pos s p
    have hnx := next_yes ho hlt
    rw [← hc, ← hw] at hnx
    obtain ⟨μ1, hμ1⟩ : ∃ m : Mem, m = ⟨μ.obs.set q (.siter s (p + w)), μ.next⟩ := ⟨_, rfl⟩
    have hG1 : Grow μ0 μ1 := by rw [hμ1]; exact grow_poke hG hq _
    have hq1 : μ1.obs.get q = some (.siter s (p + w)) := by
     rw [hμ1]
     show T.get _ _ = _
     rw [T.get_set, if_pos rfl]
    rw [← hμ1] at hnx
    have a1 : jax .i64 (Int.add (.ofNat n) 1) = .ofNat (n + 1) := jaV n 1 (by omega)
    refine jan ?_
    repeat (first | refine jab rfl ?_ | (refine jap rfl ?_; (try simp only [go_sem, h2, h4, hnx, a1]); fail_if_success refine ifC ?_) | (refine jad rfl ?_; (repeat (first | (refine jai ?_ rfl ?_; (solve | simp only [go_sem, h2, h4, hnx, a1])) | (refine jaf (v := ?_) (μ' := ?_) ?_ ?_ rfl ?_; rotate_left 2; (solve | rfl | simp only [go_sem, h2, h4, hnx, a1]); (solve | simp only [go_sem, h2, h4, hnx, a1]; try exact rfl)))); simp only [go_sem]))
    rw [show e + (f + 1) + 29 = e + f + 30 from by omega]
    exact ih (p + w) (n + 1) (by omega) (by omega) hq1 hG1 (by simp only [go_sem]) (by simp only [go_sem, h4])
   ·exact done (f + 1) p n (by omega) ho hG h2 h4
theorem count_ex {s : ByteArray} (hl : (bys s).length ≤ 5000) {X : XT} {g : Nat} {μ : Mem} (hg : 6000 ≤ g) : ∃ n μ', aFun pZ (jao pZ X S0 g) 44 [.string s] μ = some (.int .i64 n, μ') ∧ Grow μ μ' := by
 obtain ⟨k, rfl⟩ := gle hg
 have key : EndsF (aFun pZ (jao pZ X S0 (k + 6000)) 44 [.string s] μ) fun r μ' => (∃ n, r = .int .i64 n) ∧ Grow μ μ' := by
  refine jaj Tryz.func44 rfl rfl (nbl rfl) ?_
  simp only [go_sem, Tryz.ntmps44]
  repeat (first | refine jab rfl ?_ | (refine jap rfl ?_; (try simp only [go_sem, rngS, Nat.add_eq]); fail_if_success refine ifC ?_) | (refine jad rfl ?_; (repeat (first | (refine jai ?_ rfl ?_; (solve | simp only [go_sem, rngS, Nat.add_eq])) | (refine jaf (v := ?_) (μ' := ?_) ?_ ?_ rfl ?_; rotate_left 2; (solve | rfl | simp only [go_sem, rngS, Nat.add_eq]); (solve | simp only [go_sem, rngS, Nat.add_eq]; try exact rfl)))); simp only [go_sem]))
  rw [show k + 5996 = (k + 966) + 5000 + 30 from by omega]
  refine EndsC.mono (rc_loop (μ0 := μ) (q := μ.next) hl (Nat.le_refl _) 5000 0 0 (by omega) (Nat.le_refl _) (by show T.get _ _ = _; rw [T.get_set, if_pos rfl]) (jbn μ _) (by simp only [go_sem]; try rfl) (by simp only [go_sem])) ?_
  rintro x r μ' ⟨g1, rfl, tm', rfl, m, h2⟩
  simp only [jaX, reduceIte, jak]
  repeat (first | refine jab rfl ?_ | (refine jap rfl ?_; (try simp only [go_sem, h2]); fail_if_success refine ifC ?_) | (refine jad rfl ?_; (repeat (first | (refine jai ?_ rfl ?_; (solve | simp only [go_sem, h2])) | (refine jaf (v := ?_) (μ' := ?_) ?_ ?_ rfl ?_; rotate_left 2; (solve | rfl | simp only [go_sem, h2]); (solve | simp only [go_sem, h2]; try exact rfl)))); simp only [go_sem]))
  refine jah ?_
  refine ⟨rfl, ?_⟩
  simp only [go_sem, Tryz.results44]
  exact ⟨_, rfl, ⟨_, rfl⟩, g1⟩
 obtain ⟨r, μ', h1, ⟨n, rfl⟩, h2⟩ := key
 exact ⟨n, μ', h1, h2⟩
theorem dname_ex (s : ByteArray) {X : XT} {g : Nat} {μ : Mem} (h1 : jbs X) (h2 : jb1 X) (h3 : Lay μ) (hg : 100000 ≤ g) : ∃ b μ', aFun pZ (jao pZ X S0 g) 45 [.string s] μ = some (.bool b, μ') ∧ Grow μ μ' := by
 by_cases h : Head s ∧ jeS s
 ·exact ⟨_, pn_yes h h1 h2 h3 hg⟩
 ·exact ⟨_, _, pn_no h (by omega), Grow.refl _⟩
end
noncomputable section
section
set_option linter.defProp false
variable {X : XT} {ev : Code → Rg → Mem → Option (Ax × Rg × Mem)}
def gg26 := go_call (P := pZ) (X := X) (ev := ev) (S := S0) Tryz.func26 rfl rfl
def gg43 := go_call (P := pZ) (X := X) (ev := ev) (S := S0) Tryz.func43 rfl rfl
end
def VsOk (X : XT) (μ0 : Mem) : Prop := ∀ (s : ByteArray) (g : Nat) (μ : Mem), (bys s).length ≤ 5000 → Grow μ0 μ → 50000 ≤ g → ∃ b μ', aFun pZ (jao pZ X S0 g) 43 [.string s] μ = some (.bool b, μ') ∧ Grow μ μ'
theorem single_ex {n : Nat} {d : Dat} {cs : List Value} {X : XT} {g : Nat} {μ μ0 : Mem} (hX0 : jbs X) (hX2 : jb1 X) (hY : Lay μ) (hV : VsOk X μ0) (h0 : Grow μ0 μ) (hX : jch X) (hS : Sm n d) (hD : IsD μ d cs) (hg : 100100 ≤ g) :
  ∃ b μ', aFun pZ (jao pZ X S0 g) 26 [.agg cs.toArray] μ = some (.bool b, μ') ∧ Grow μ μ' := by
 obtain ⟨k, rfl⟩ := gle hg
 cases n with
 | zero => exact hS.elim
 | succ n =>
 obtain ⟨kd, m, fl, f, neg, ls, s, l⟩ := d
 obtain ⟨hls, hsl, hll, _⟩ : ls.length ≤ 200 ∧ (bys s).length ≤ 5000 ∧ l.length ≤ 4000 ∧ ∀ x ∈ l, Sm n x := hS
 obtain ⟨vl, vi, rfl, _, hU, hL⟩ := jce.1 hD
 have h1 := jd7 μ 30 [.int .i64 kd, .int .i64 m, .bool fl, .float .f64 f, .bool neg, vl, .string s, vi]
 have hG := jbn μ (obL 30 [.int .i64 kd, .int .i64 m, .bool fl, .float .f64 f, .bool neg, vl, .string s, vi])
 have hN := jeF h1
 have lL := (hL.grow hG).len
 obtain ⟨c0, c1, c2, c3, c4, c5, c6, c7⟩ := Has.c8 h1
 obtain ⟨ba, μa, ra, Ga⟩ := jgM (X := X) (g := k + 100092) (fl := fl) (neg := neg) (f := f) hX (hU.grow hG) hls (by omega)
 obtain ⟨bb, hb⟩ := dsign_ex m
 have rb := fun μ' => hb (X := X) (g := k + 100088) (μ := μ') (by omega)
 obtain ⟨bc, μc, rc, Gc⟩ := hV s (k + 100086) _ hsl (h0.trans hG) (by omega)
 have c6' := (Has.c8 (h1.keep (Gc.2 _ (Nat.lt_succ_self _)))).2.2.2.2.2.2.1
 obtain ⟨cn, μe, re, Ge⟩ := count_ex (X := X) (g := k + 100086) (μ := μc) hsl (by omega)
 obtain ⟨bd, μd, rd, Gd⟩ := dname_ex s (X := X) (g := k + 100084) hX0 hX2 (hY.grow hG) (by omega)
 have key : EndsF (aFun pZ (jao pZ X S0 (k + 100100)) 26 [.agg #[.int .i64 kd, .int .i64 m, .bool fl, .float .f64 f, .bool neg, vl, .string s, vi]] μ) fun r μ' => (∃ b, r = .bool b) ∧ Grow μ μ' := by
  obtain ⟨k0, e0⟩ : ∃ b, ieq kd 0 = b := ⟨_, rfl⟩
  obtain ⟨k1, e1⟩ : ∃ b, ieq kd 1 = b := ⟨_, rfl⟩
  obtain ⟨k2, e2⟩ : ∃ b, ieq kd 2 = b := ⟨_, rfl⟩
  obtain ⟨k3, e3⟩ : ∃ b, ieq kd 3 = b := ⟨_, rfl⟩
  obtain ⟨k4, e4⟩ : ∃ b, ieq kd 4 = b := ⟨_, rfl⟩
  obtain ⟨k5, e5⟩ : ∃ b, ieq kd 5 = b := ⟨_, rfl⟩
  obtain ⟨k6, e6⟩ : ∃ b, ieq kd 6 = b := ⟨_, rfl⟩
  obtain ⟨k7, e7⟩ : ∃ b, ieq kd 7 = b := ⟨_, rfl⟩
  obtain ⟨n0, e8⟩ : ∃ b, ieq m 0 = b := ⟨_, rfl⟩
  obtain ⟨n1, e9⟩ : ∃ b, ieq m 1 = b := ⟨_, rfl⟩
  obtain ⟨sn, e12⟩ : ∃ b, ilt 400 cn = b := ⟨_, rfl⟩
  obtain ⟨t2, e13⟩ : ∃ b, ilt (.ofNat l.length) 2 = b := ⟨_, rfl⟩
  obtain ⟨vc, e14⟩ : ∃ b, ilt 200 (.ofNat l.length) = b := ⟨_, rfl⟩
  have zy := (⟨@jda, @Nat.add_eq, @jfI, @jhf, @jdQ, @jfk, @jc1, @jau, @jcO, @jdb, @hN, @c0, @c1, @c6, @c7, @lL, @jae, @e0, @e1, @e2, @e3, @e4, @e5, @e6, @e7, @e8, @e9, @e12, @e13, @e14⟩ : _ ∧ _ ∧ _ ∧ _ ∧ _ ∧ _ ∧ _ ∧ _ ∧ _ ∧ _ ∧ _ ∧ _ ∧ _ ∧ _ ∧ _ ∧ _ ∧ _ ∧ _ ∧ _ ∧ _ ∧ _ ∧ _ ∧ _ ∧ _ ∧ _ ∧ _ ∧ _ ∧ _ ∧ _ ∧ _)
  cases k0 with
  | true =>
    refine jaj Tryz.func26 rfl rfl (nbl rfl) ?_
    simp only [go_sem, Tryz.ntmps26]
    repeat (first | refine jab rfl ?_ | (refine jap rfl ?_; (try simp only [go_sem, undef, jaa, zy, gg25, ra]); fail_if_success refine ifC ?_) | (refine jad rfl ?_; (repeat (first | (refine jai ?_ rfl ?_; (solve | simp only [go_sem, undef, jaa, zy, gg25, ra])) | (refine jaf (v := ?_) (μ' := ?_) ?_ ?_ rfl ?_; rotate_left 2; (solve | rfl | simp only [go_sem, undef, jaa, zy, gg25, ra]); (solve | simp only [go_sem, undef, jaa, zy, gg25, ra]; try exact rfl)))); simp only [go_sem]))
    refine jah ?_
    refine ⟨rfl, ?_⟩
    simp only [go_sem, Tryz.results26]
    exact ⟨_, rfl, ⟨_, rfl⟩, hG.trans Ga⟩
  | false =>
    cases k1 with
    | true =>
      cases n0
      all_goals
       refine jaj Tryz.func26 rfl rfl (nbl rfl) ?_
       simp only [go_sem, Tryz.ntmps26]
       repeat (first | refine jab rfl ?_ | (refine jap rfl ?_; (try simp only [go_sem, undef, jaa, zy]); fail_if_success refine ifC ?_) | (refine jad rfl ?_; (repeat (first | (refine jai ?_ rfl ?_; (solve | simp only [go_sem, undef, jaa, zy])) | (refine jaf (v := ?_) (μ' := ?_) ?_ ?_ rfl ?_; rotate_left 2; (solve | rfl | simp only [go_sem, undef, jaa, zy]); (solve | simp only [go_sem, undef, jaa, zy]; try exact rfl)))); simp only [go_sem]))
       refine jah ?_
       refine ⟨rfl, ?_⟩
       simp only [go_sem, Tryz.results26]
       exact ⟨_, rfl, ⟨_, rfl⟩, hG⟩
    | false =>
      cases k2 with
      | true =>
        refine jaj Tryz.func26 rfl rfl (nbl rfl) ?_
        simp only [go_sem, Tryz.ntmps26]
        repeat (first | refine jab rfl ?_ | (refine jap rfl ?_; (try simp only [go_sem, undef, jaa, zy, gg42, rb]); fail_if_success refine ifC ?_) | (refine jad rfl ?_; (repeat (first | (refine jai ?_ rfl ?_; (solve | simp only [go_sem, undef, jaa, zy, gg42, rb])) | (refine jaf (v := ?_) (μ' := ?_) ?_ ?_ rfl ?_; rotate_left 2; (solve | rfl | simp only [go_sem, undef, jaa, zy, gg42, rb]); (solve | simp only [go_sem, undef, jaa, zy, gg42, rb]; try exact rfl)))); simp only [go_sem]))
        refine jah ?_
        refine ⟨rfl, ?_⟩
        simp only [go_sem, Tryz.results26]
        exact ⟨_, rfl, ⟨_, rfl⟩, hG⟩
      | false =>
        cases k3 with
        | true =>
          cases bc
          ·skip
           refine jaj Tryz.func26 rfl rfl (nbl rfl) ?_
           simp only [go_sem, Tryz.ntmps26]
           repeat (first | refine jab rfl ?_ | (refine jap rfl ?_; (try simp only [go_sem, undef, jaa, zy, gg43, rc]); fail_if_success refine ifC ?_) | (refine jad rfl ?_; (repeat (first | (refine jai ?_ rfl ?_; (solve | simp only [go_sem, undef, jaa, zy, gg43, rc])) | (refine jaf (v := ?_) (μ' := ?_) ?_ ?_ rfl ?_; rotate_left 2; (solve | rfl | simp only [go_sem, undef, jaa, zy, gg43, rc]); (solve | simp only [go_sem, undef, jaa, zy, gg43, rc]; try exact rfl)))); simp only [go_sem]))
           refine jah ?_
           refine ⟨rfl, ?_⟩
           simp only [go_sem, Tryz.results26]
           exact ⟨_, rfl, ⟨_, rfl⟩, hG.trans Gc⟩
          ·skip
           refine jaj Tryz.func26 rfl rfl (nbl rfl) ?_
           simp only [go_sem, Tryz.ntmps26]
           have zz := (⟨@zy, @gg43, @rc, @c6', @gg44, @re⟩ : _ ∧ _ ∧ _ ∧ _ ∧ _ ∧ _)
           repeat (first | refine jab rfl ?_ | (refine jap rfl ?_; (try simp only [go_sem, undef, jaa, zz]); fail_if_success refine ifC ?_) | (refine jad rfl ?_; (repeat (first | (refine jai ?_ rfl ?_; (solve | simp only [go_sem, undef, jaa, zz])) | (refine jaf (v := ?_) (μ' := ?_) ?_ ?_ rfl ?_; rotate_left 2; (solve | rfl | simp only [go_sem, undef, jaa, zz]); (solve | simp only [go_sem, undef, jaa, zz]; try exact rfl)))); simp only [go_sem]))
           clear zz
           refine jah ?_
           refine ⟨rfl, ?_⟩
           simp only [go_sem, Tryz.results26]
           exact ⟨_, rfl, ⟨_, rfl⟩, (hG.trans Gc).trans Ge⟩
        | false =>
          cases k4 with
          | true =>
            refine jaj Tryz.func26 rfl rfl (nbl rfl) ?_
            simp only [go_sem, Tryz.ntmps26]
            repeat (first | refine jab rfl ?_ | (refine jap rfl ?_; (try simp only [go_sem, undef, jaa, zy, gg45, rd]); fail_if_success refine ifC ?_) | (refine jad rfl ?_; (repeat (first | (refine jai ?_ rfl ?_; (solve | simp only [go_sem, undef, jaa, zy, gg45, rd])) | (refine jaf (v := ?_) (μ' := ?_) ?_ ?_ rfl ?_; rotate_left 2; (solve | rfl | simp only [go_sem, undef, jaa, zy, gg45, rd]); (solve | simp only [go_sem, undef, jaa, zy, gg45, rd]; try exact rfl)))); simp only [go_sem]))
            refine jah ?_
            refine ⟨rfl, ?_⟩
            simp only [go_sem, Tryz.results26]
            exact ⟨_, rfl, ⟨_, rfl⟩, hG.trans Gd⟩
          | false =>
            cases k5 with
            | true =>
              refine jaj Tryz.func26 rfl rfl (nbl rfl) ?_
              simp only [go_sem, Tryz.ntmps26]
              repeat (first | refine jab rfl ?_ | (refine jap rfl ?_; (try simp only [go_sem, undef, jaa, zy]); fail_if_success refine ifC ?_) | (refine jad rfl ?_; (repeat (first | (refine jai ?_ rfl ?_; (solve | simp only [go_sem, undef, jaa, zy])) | (refine jaf (v := ?_) (μ' := ?_) ?_ ?_ rfl ?_; rotate_left 2; (solve | rfl | simp only [go_sem, undef, jaa, zy]); (solve | simp only [go_sem, undef, jaa, zy]; try exact rfl)))); simp only [go_sem]))
              refine jah ?_
              refine ⟨rfl, ?_⟩
              simp only [go_sem, Tryz.results26]
              exact ⟨_, rfl, ⟨_, rfl⟩, hG⟩
            | false =>
              cases k6 with
              | true =>
                cases t2 with
                | true =>
                  refine jaj Tryz.func26 rfl rfl (nbl rfl) ?_
                  simp only [go_sem, Tryz.ntmps26]
                  repeat (first | refine jab rfl ?_ | (refine jap rfl ?_; (try simp only [go_sem, undef, jaa, zy]); fail_if_success refine ifC ?_) | (refine jad rfl ?_; (repeat (first | (refine jai ?_ rfl ?_; (solve | simp only [go_sem, undef, jaa, zy])) | (refine jaf (v := ?_) (μ' := ?_) ?_ ?_ rfl ?_; rotate_left 2; (solve | rfl | simp only [go_sem, undef, jaa, zy]); (solve | simp only [go_sem, undef, jaa, zy]; try exact rfl)))); simp only [go_sem]))
                  refine jah ?_
                  refine ⟨rfl, ?_⟩
                  simp only [go_sem, Tryz.results26]
                  exact ⟨_, rfl, ⟨_, rfl⟩, hG⟩
                | false =>
                  have hl2 : 2 ≤ l.length := by
                   rw [jbf, decide_eq_false_iff_not] at e13
                   have : ¬ ((l.length : Int) < 2) := e13
                   omega
                  obtain ⟨dl, hdl⟩ : ∃ d, l[l.length - 1]? = some d := ⟨_, List.getElem?_eq_getElem (by omega)⟩
                  obtain ⟨bi, bo, bc, es, hbv, hbi, hH, hE⟩ := (hL.grow hG).at hdl
                  obtain ⟨x0, x1, x2, x3, x4, x5, x6, x7⟩ := dl
                  obtain ⟨w1, w2, rfl, _⟩ := jce.1 hE
                  have hlc := Has.cell hH 0 (by simp)
                  have hlc : jal _ bi (bo + 8 * (l.length - 1)) = some (.int .i64 x0) := hlc
                  have q1 : jax .i64 (Int.sub (.ofNat l.length) 1) = .ofNat (l.length - 1) := jck l.length 1 (by omega) (by omega)
                  have hix : ∀ (r : Rg) (x y : Operand), aev pZ r x = vi → aev pZ r y = .int .i64 (.ofNat (l.length - 1)) → jas pZ (aev pZ r) 28 x y = some (.pointer (some ⟨bi, bo + 8 * (l.length - 1), none⟩)) := fun r x y g1 g2 => ix_D (by omega) (g1.trans hbv) g2
                  obtain ⟨a5, e15⟩ : ∃ b, ieq x0 5 = b := ⟨_, rfl⟩
                  obtain ⟨a6, e16⟩ : ∃ b, ieq x0 6 = b := ⟨_, rfl⟩
                  cases a5
                  all_goals
                   refine jaj Tryz.func26 rfl rfl (nbl rfl) ?_
                   simp only [go_sem, Tryz.ntmps26]
                   have zz := (⟨@zy, @q1, @hix, @hlc, @e15, @e16⟩ : _ ∧ _ ∧ _ ∧ _ ∧ _ ∧ _)
                   repeat (first | refine jab rfl ?_ | (refine jap rfl ?_; (try simp only [go_sem, undef, jaa, zz]); fail_if_success refine ifC ?_) | (refine jad rfl ?_; (repeat (first | (refine jai ?_ rfl ?_; (solve | simp only [go_sem, undef, jaa, zz])) | (refine jaf (v := ?_) (μ' := ?_) ?_ ?_ rfl ?_; rotate_left 2; (solve | rfl | simp only [go_sem, undef, jaa, zz]); (solve | simp only [go_sem, undef, jaa, zz]; try exact rfl)))); simp only [go_sem]))
                   clear zz
                   refine jah ?_
                   refine ⟨rfl, ?_⟩
                   simp only [go_sem, Tryz.results26]
                   exact ⟨_, rfl, ⟨_, rfl⟩, hG⟩
              | false =>
                cases k7 with
                | true =>
                  refine jaj Tryz.func26 rfl rfl (nbl rfl) ?_
                  simp only [go_sem, Tryz.ntmps26]
                  repeat (first | refine jab rfl ?_ | (refine jap rfl ?_; (try simp only [go_sem, undef, jaa, zy]); fail_if_success refine ifC ?_) | (refine jad rfl ?_; (repeat (first | (refine jai ?_ rfl ?_; (solve | simp only [go_sem, undef, jaa, zy])) | (refine jaf (v := ?_) (μ' := ?_) ?_ ?_ rfl ?_; rotate_left 2; (solve | rfl | simp only [go_sem, undef, jaa, zy]); (solve | simp only [go_sem, undef, jaa, zy]; try exact rfl)))); simp only [go_sem]))
                  refine jah ?_
                  refine ⟨rfl, ?_⟩
                  simp only [go_sem, Tryz.results26]
                  exact ⟨_, rfl, ⟨_, rfl⟩, hG⟩
                | false =>
                  refine jaj Tryz.func26 rfl rfl (nbl rfl) ?_
                  simp only [go_sem, Tryz.ntmps26]
                  repeat (first | refine jab rfl ?_ | (refine jap rfl ?_; (try simp only [go_sem, undef, jaa, zy]); fail_if_success refine ifC ?_) | (refine jad rfl ?_; (repeat (first | (refine jai ?_ rfl ?_; (solve | simp only [go_sem, undef, jaa, zy])) | (refine jaf (v := ?_) (μ' := ?_) ?_ ?_ rfl ?_; rotate_left 2; (solve | rfl | simp only [go_sem, undef, jaa, zy]); (solve | simp only [go_sem, undef, jaa, zy]; try exact rfl)))); simp only [go_sem]))
                  refine jah ?_
                  refine ⟨rfl, ?_⟩
                  simp only [go_sem, Tryz.results26]
                  exact ⟨_, rfl, ⟨_, rfl⟩, hG⟩
 obtain ⟨r, μ', h1, ⟨b, rfl⟩, h2⟩ := key
 exact ⟨b, μ', h1, h2⟩
end
noncomputable section
def VIn (lo hi : Nat) (μ : Mem) (n : Nat) (v : Value) : Prop := n ≠ 0 → ∃ i o c, v = .slice (some ⟨i, o, none⟩) n c ∧ lo ≤ i ∧ i < hi ∧ ∃ m t, Blk μ i m t ∧ o + n ≤ m
mutual
def InD (lo hi : Nat) (μ : Mem) : Dat → List Value → Prop
 | .mk k n fl f neg ls s l, cs => ∃ vl vi, cs = [.int .i64 k, .int .i64 n, .bool fl, .float .f64 f, .bool neg, vl, .string s, vi] ∧ (wfI k ∧ wfI n ∧ (Lit.float .f64 f).wf = true ∧ s.size ≤ maxLen ∧ l.length ≤ maxLen) ∧ (IsU μ ls vl ∧ VIn lo hi μ ls.length vl) ∧
   ((vi = .slice none 0 0 ∧ l = []) ∨ ∃ i o c, vi = .slice (some ⟨i, o, none⟩) l.length c ∧ (l ≠ [] → i < μ.next ∧ lo ≤ i ∧ i < hi ∧ ∃ m t, Blk μ i m t ∧ o + 8 * l.length ≤ m) ∧ InDs lo hi μ l i o ∧ CapK 8 l.length c)
def InDs (lo hi : Nat) (μ : Mem) : List Dat → Nat → Nat → Prop
 | [], _, _ => True
 | d :: r, i, o => (∃ cs, Has μ i o cs ∧ InD lo hi μ d cs) ∧ InDs lo hi μ r i (o + 8)
end
mutual
theorem InD.isD {lo hi : Nat} {μ : Mem} : ∀ {d : Dat} {cs : List Value}, InD lo hi μ d cs → IsD μ d cs
 | .mk k n fl f neg ls s l, cs, h => by
   rw [InD] at h
   obtain ⟨vl, vi, h1, ⟨h2, h3, h4, h5, h6⟩, ⟨h7, _⟩, h8⟩ := h
   rw [jce]
   refine ⟨vl, vi, h1, ⟨h2, h3, h4, h5⟩, h7, h6, ?_⟩
   rcases h8 with h8 | ⟨i, o, c, e1, e2, e3, e4⟩
   ·exact .inl h8
   ·exact .inr ⟨i, o, c, e1, fun hn => (e2 hn).1, InDs.isDs e3, e4⟩
theorem InDs.isDs {lo hi : Nat} {μ : Mem} : ∀ {l : List Dat} {i o : Nat}, InDs lo hi μ l i o → IsDs μ l i o
 | [], i, o, _ => by rw [IsDs]; trivial
 | d :: r, i, o, h => by
   rw [InDs] at h
   rw [IsDs]
   obtain ⟨⟨cs, h1, h2⟩, h3⟩ := h
   exact ⟨⟨cs, h1, InD.isD h2⟩, InDs.isDs h3⟩
end
theorem jgj {lo hi : Nat} {μ μ' : Mem} {ls : List Nat} {v : Value} (h : IsU μ ls v) (hv : VIn lo hi μ ls.length v) (hn : μ.next ≤ μ'.next) (g : ∀ j, lo ≤ j → j < hi → μ'.obs.get j = μ.obs.get j) : IsU μ' ls v := by
 obtain ⟨h1, h2, h3 | ⟨i, o, c, h3, h4, h5⟩⟩ := h
 ·exact ⟨h1, h2, .inl h3⟩
 ·refine ⟨h1, h2, .inr ⟨i, o, c, h3, fun hne => ⟨Nat.lt_of_lt_of_le (h4 hne).1 hn, (h4 hne).2.keep ?_⟩, h5⟩⟩
  obtain ⟨i', o', c', e1, e2, e3, _⟩ := hv (fun h0 => hne (List.eq_nil_of_length_eq_zero h0))
  rw [h3] at e1
  injection e1 with e1
  injection e1 with e1
  injection e1 with e1
  subst e1
  exact g _ e2 e3
theorem VIn.move {lo hi n : Nat} {μ μ' : Mem} {v : Value} (h : VIn lo hi μ n v) (g : ∀ j, lo ≤ j → j < hi → μ'.obs.get j = μ.obs.get j) : VIn lo hi μ' n v := fun hn => by
 obtain ⟨i, o, c, e1, e2, e3, m, t, e4, e5⟩ := h hn
 exact ⟨i, o, c, e1, e2, e3, m, t, e4.of_get (g i e2 e3), e5⟩
mutual
theorem InD.move {lo hi : Nat} {μ μ' : Mem} (hn : μ.next ≤ μ'.next) (g : ∀ j, lo ≤ j → j < hi → μ'.obs.get j = μ.obs.get j) : ∀ {d : Dat} {cs : List Value}, InD lo hi μ d cs → InD lo hi μ' d cs
 | .mk k n fl f neg ls s l, cs, h => by
   rw [InD] at h ⊢
   obtain ⟨vl, vi, h1, h2, ⟨h7, hv⟩, h8⟩ := h
   refine ⟨vl, vi, h1, h2, ⟨jgj h7 hv hn g, hv.move g⟩, ?_⟩
   rcases h8 with h8 | ⟨i, o, c, e1, e2, e3, e4⟩
   ·exact .inl h8
   ·exact .inr ⟨i, o, c, e1, fun hne => by
    obtain ⟨q1, q2, q3, m, t, q4, q5⟩ := e2 hne
    exact ⟨Nat.lt_of_lt_of_le q1 hn, q2, q3, m, t, q4.of_get (g i q2 q3), q5⟩, InDs.move hn g (fun hne => ⟨(e2 hne).2.1, (e2 hne).2.2.1⟩) e3, e4⟩
theorem InDs.move {lo hi : Nat} {μ μ' : Mem} (hn : μ.next ≤ μ'.next) (g : ∀ j, lo ≤ j → j < hi → μ'.obs.get j = μ.obs.get j) : ∀ {l : List Dat} {i o : Nat}, (l ≠ [] → lo ≤ i ∧ i < hi) → InDs lo hi μ l i o → InDs lo hi μ' l i o
 | [], i, o, _, _ => by rw [InDs]; trivial
 | d :: r, i, o, hi', h => by
   rw [InDs] at h ⊢
   obtain ⟨⟨cs, h1, h2⟩, h3⟩ := h
   have hr := hi' (List.cons_ne_nil _ _)
   exact ⟨⟨cs, h1.keep (g i hr.1 hr.2), InD.move hn g h2⟩, InDs.move hn g (fun _ => hr) h3⟩
end
theorem VIn.wide {lo hi lo' hi' n : Nat} {μ : Mem} {v : Value} (h : VIn lo hi μ n v) (h1 : lo' ≤ lo) (h2 : hi ≤ hi') : VIn lo' hi' μ n v := fun hn => by
 obtain ⟨i, o, c, e1, e2, e3, e4⟩ := h hn
 exact ⟨i, o, c, e1, by omega, by omega, e4⟩
mutual
theorem InD.wide {lo hi lo' hi' : Nat} {μ : Mem} (a1 : lo' ≤ lo) (a2 : hi ≤ hi') : ∀ {d : Dat} {cs : List Value}, InD lo hi μ d cs → InD lo' hi' μ d cs
 | .mk k n fl f neg ls s l, cs, h => by
   rw [InD] at h ⊢
   obtain ⟨vl, vi, h1, h2, ⟨h7, hv⟩, h8⟩ := h
   refine ⟨vl, vi, h1, h2, ⟨h7, hv.wide a1 a2⟩, ?_⟩
   rcases h8 with h8 | ⟨i, o, c, e1, e2, e3, e4⟩
   ·exact .inl h8
   ·exact .inr ⟨i, o, c, e1, fun hne => ⟨(e2 hne).1, by have := (e2 hne).2.1; omega, by have := (e2 hne).2.2.1; omega, (e2 hne).2.2.2⟩, InDs.wide a1 a2 e3, e4⟩
theorem InDs.wide {lo hi lo' hi' : Nat} {μ : Mem} (a1 : lo' ≤ lo) (a2 : hi ≤ hi') : ∀ {l : List Dat} {i o : Nat}, InDs lo hi μ l i o → InDs lo' hi' μ l i o
 | [], i, o, _ => by rw [InDs]; trivial
 | d :: r, i, o, h => by
   rw [InDs] at h ⊢
   obtain ⟨⟨cs, h1, h2⟩, h3⟩ := h
   exact ⟨⟨cs, h1, InD.wide a1 a2 h2⟩, InDs.wide a1 a2 h3⟩
end
theorem jhZ {lo hi : Nat} {μ : Mem} : ∀ {l : List Dat} {i o : Nat}, (∀ (k : Nat) d, l[k]? = some d → ∃ cs, Has μ i (o + 8 * k) cs ∧ InD lo hi μ d cs) → InDs lo hi μ l i o
 | [], i, o, h => by rw [InDs]; trivial
 | x :: r, i, o, h => by
   rw [InDs]
   refine ⟨h 0 x rfl, jhZ fun k d hk => ?_⟩
   rw [show o + 8 + 8 * k = o + 8 * (k + 1) from by omega]
   exact h (k + 1) d (by simpa using hk)
end
noncomputable section
def KV (a b : Value) : Prop := a = b ∨ (∃ x y, a = .int .i64 x ∧ b = .int .i64 y) ∨ (∃ x y, a = .int .u32 x ∧ b = .int .u32 y) ∨ (∃ x y, a = .string x ∧ b = .string y)
theorem KV.refl (a : Value) : KV a a := .inl rfl
theorem KV.trans {a b c : Value} (h : KV a b) (g : KV b c) : KV a c := by
 rcases h with rfl | ⟨x, y, rfl, rfl⟩ | ⟨x, y, rfl, rfl⟩ | ⟨x, y, rfl, rfl⟩
 ·exact g
 ·rcases g with rfl | ⟨x', y', e, rfl⟩ | ⟨x', y', e, rfl⟩ | ⟨x', y', e, rfl⟩
  ·exact .inr (.inl ⟨_, _, rfl, rfl⟩)
  ·exact .inr (.inl ⟨_, _, rfl, rfl⟩)
  ·cases e
  ·cases e
 ·rcases g with rfl | ⟨x', y', e, rfl⟩ | ⟨x', y', e, rfl⟩ | ⟨x', y', e, rfl⟩
  ·exact .inr (.inr (.inl ⟨_, _, rfl, rfl⟩))
  ·cases e
  ·exact .inr (.inr (.inl ⟨_, _, rfl, rfl⟩))
  ·cases e
 ·rcases g with rfl | ⟨x', y', e, rfl⟩ | ⟨x', y', e, rfl⟩ | ⟨x', y', e, rfl⟩
  ·exact .inr (.inr (.inr ⟨_, _, rfl, rfl⟩))
  ·cases e
  ·cases e
  ·exact .inr (.inr (.inr ⟨_, _, rfl, rfl⟩))
def KP (lo : Nat) (μ μ' : Mem) : Prop := μ.next ≤ μ'.next ∧ (∀ j, j < lo → μ'.obs.get j = μ.obs.get j) ∧
 (∀ j, j < μ.next → ∀ n z ov, jb5 (μ.obs.get j) = some (n, z, ov) → ∃ z' ov', jb5 (μ'.obs.get j) = some (n, z', ov') ∧ ∀ o, o < n → KV (cellAt z ov o) (cellAt z' ov' o)) ∧
 ∀ j, j < μ.next → ∀ n t, Blk μ j n t → Blk μ' j n t
theorem KP.refl (lo : Nat) (μ : Mem) : KP lo μ μ := ⟨Nat.le_refl _, fun _ _ => rfl, fun j _ n z ov h => ⟨z, ov, h, fun o _ => KV.refl _⟩, fun j _ n t h => h⟩
theorem KP.trans {lo : Nat} {a b c : Mem} (h : KP lo a b) (g : KP lo b c) : KP lo a c :=
 ⟨Nat.le_trans h.1 g.1, fun j hj => (g.2.1 j hj).trans (h.2.1 j hj), fun j hj n z ov e => by
  obtain ⟨z1, ov1, e1, k1⟩ := h.2.2.1 j hj n z ov e
  obtain ⟨z2, ov2, e2, k2⟩ := g.2.2.1 j (Nat.lt_of_lt_of_le hj h.1) n z1 ov1 e1
  exact ⟨z2, ov2, e2, fun o ho => (k1 o ho).trans (k2 o ho)⟩, fun j hj n t e => g.2.2.2 j (Nat.lt_of_lt_of_le hj h.1) n t (h.2.2.2 j hj n t e)⟩
theorem KP.of_grow {lo : Nat} {a b : Mem} (h : Grow a b) (hlo : lo ≤ a.next) : KP lo a b :=
 ⟨h.1, fun j hj => h.2 j (Nat.lt_of_lt_of_le hj hlo), fun j hj n z ov e => ⟨z, ov, by rw [h.2 j hj]; exact e, fun o _ => KV.refl _⟩, fun j hj n t e => e.of_get (h.2 j hj)⟩
theorem KP.put1 {lo i o n t : Nat} {μ : Mem} {a v : Value} (hb : Blk μ i n t) (hlo : lo ≤ i) (ho : o < n) (ha : jal μ i o = some a) (hk : KV a v) : KP lo μ (putL μ i o [v]) := by
 refine ⟨by rw [jbb]; exact Nat.le_refl _, fun j hj => jbx _ _ _ _ (by omega), fun j hj m z ov e => ?_, fun j hj m s e => e.put _ _⟩
 by_cases hji : j = i
 ·subst hji
  obtain ⟨z0, ov0, fx, sh, hz⟩ := hb
  have e0 := e
  rw [hz] at e0
  cases e0
  refine ⟨z, ov.lay o [v], by rw [jem hz]; rfl, fun p hp => ?_⟩
  rw [jbO]
  by_cases hpo : p = o
  ·subst hpo
   rw [dif_pos ⟨Nat.le_refl _, by show p < p + 1; omega⟩]
   rw [jf2 e hp] at ha
   cases ha
   simpa using hk
  ·rw [dif_neg (by rintro ⟨g1, g2⟩; simp only [List.length_cons, List.length_nil] at g2; omega)]
   exact KV.refl _
 ·exact ⟨z, ov, by rw [jbx _ _ _ _ hji]; exact e, fun p _ => KV.refl _⟩
theorem KP.cell {lo i o : Nat} {μ μ' : Mem} {a : Value} (h : KP lo μ μ') (hi : i < μ.next) (ha : jal μ i o = some a) : ∃ b, jal μ' i o = some b ∧ KV a b := by
 unfold jal at ha
 split at ha
 ·rename_i n z ov e
  split at ha
  ·rename_i ho
   cases ha
   obtain ⟨z', ov', e', k'⟩ := h.2.2.1 i hi n z ov e
   exact ⟨_, jf2 e' ho, k' o ho⟩
  ·cases ha
 ·cases ha
theorem KP.has {lo i o : Nat} {μ μ' : Mem} {l : List Value} (h : KP lo μ μ') (hi : i < μ.next) (hH : Has μ i o l) : ∃ l', Has μ' i o l' ∧ l'.length = l.length ∧ ∀ (k : Nat) a b, l[k]? = some a → l'[k]? = some b → KV a b := by
 obtain ⟨n, z, ov, e, hn, hc⟩ := hH
 obtain ⟨z', ov', e', k'⟩ := h.2.2.1 i hi n z ov e
 refine ⟨(List.range l.length).map fun k => cellAt z' ov' (o + k), ⟨n, z', ov', e', by simpa using hn, fun k hk => by simp⟩, by simp, fun k a b ha hb => ?_⟩
 obtain ⟨hk, rfl⟩ := List.getElem?_eq_some_iff.1 ha
 obtain ⟨hk', rfl⟩ := List.getElem?_eq_some_iff.1 hb
 rw [List.getElem_map, List.getElem_range, ← hc k hk]
 exact k' (o + k) (by omega)
end
noncomputable section
theorem kv_int {x : Int} {b : Value} (h : KV (.int .i64 x) b) : ∃ y, b = .int .i64 y := by
 rcases h with rfl | ⟨x', y, e, rfl⟩ | ⟨x', y, e, rfl⟩ | ⟨x', y, e, rfl⟩
 ·exact ⟨_, rfl⟩
 ·exact ⟨_, rfl⟩
 ·cases e
 ·cases e
theorem kv_u32 {x : Int} {b : Value} (h : KV (.int .u32 x) b) : ∃ y, b = .int .u32 y := by
 rcases h with rfl | ⟨x', y, e, rfl⟩ | ⟨x', y, e, rfl⟩ | ⟨x', y, e, rfl⟩
 ·exact ⟨_, rfl⟩
 ·cases e
 ·exact ⟨_, rfl⟩
 ·cases e
theorem kv_str {x : ByteArray} {b : Value} (h : KV (.string x) b) : ∃ y, b = .string y := by
 rcases h with rfl | ⟨x', y, e, rfl⟩ | ⟨x', y, e, rfl⟩ | ⟨x', y, e, rfl⟩
 ·exact ⟨_, rfl⟩
 ·cases e
 ·cases e
 ·exact ⟨_, rfl⟩
theorem kv_bool {x : Bool} {b : Value} (h : KV (.bool x) b) : b = .bool x := by
 rcases h with rfl | ⟨x', y, e, rfl⟩ | ⟨x', y, e, rfl⟩ | ⟨x', y, e, rfl⟩
 ·rfl
 all_goals cases e
theorem kv_flo {k : FloatKind} {x : Nat} {b : Value} (h : KV (.float k x) b) : b = .float k x := by
 rcases h with rfl | ⟨x', y, e, rfl⟩ | ⟨x', y, e, rfl⟩ | ⟨x', y, e, rfl⟩
 ·rfl
 all_goals cases e
theorem kv_sl {a : Option Addr} {l c : Nat} {b : Value} (h : KV (.slice a l c) b) : b = .slice a l c := by
 rcases h with rfl | ⟨x', y, e, rfl⟩ | ⟨x', y, e, rfl⟩ | ⟨x', y, e, rfl⟩
 ·rfl
 all_goals cases e
def RmB (lo : Nat) (μ : Mem) (i e : Nat) : Prop := i < μ.next ∧ lo ≤ i ∧ ∃ m t, Blk μ i m t ∧ e ≤ m
def LmS (lo : Nat) (μ : Mem) (n : Nat) (v : Value) : Prop := (v = .slice none 0 0 ∧ n = 0) ∨ ∃ i o c, v = .slice (some ⟨i, o, none⟩) n c ∧ (n ≠ 0 → RmB lo μ i (o + n) ∧ ∀ k, k < n → ∃ x, jal μ i (o + k) = some (.int .u32 x))
mutual
def ShD (lo : Nat) (μ : Mem) : Dat → List Value → Prop
 | .mk _ _ _ _ _ ls _ l, cs => ∃ kd m fl f neg vl s vi, cs = [.int .i64 kd, .int .i64 m, .bool fl, .float .f64 f, .bool neg, vl, .string s, vi] ∧ LmS lo μ ls.length vl ∧
   ((vi = .slice none 0 0 ∧ l = []) ∨ ∃ i o c, vi = .slice (some ⟨i, o, none⟩) l.length c ∧ (l ≠ [] → RmB lo μ i (o + 8 * l.length)) ∧ ShDs lo μ l i o)
def ShDs (lo : Nat) (μ : Mem) : List Dat → Nat → Nat → Prop
 | [], _, _ => True
 | d :: r, i, o => (∃ cs, Has μ i o cs ∧ ShD lo μ d cs) ∧ ShDs lo μ r i (o + 8)
end
theorem RmB.kp {lo i e : Nat} {μ μ' : Mem} (h : RmB lo μ i e) (g : KP lo μ μ') : RmB lo μ' i e := by
 obtain ⟨h1, h2, m, t, h3, h4⟩ := h
 exact ⟨Nat.lt_of_lt_of_le h1 g.1, h2, m, t, g.2.2.2 i h1 m t h3, h4⟩
theorem LmS.sl {lo n : Nat} {μ : Mem} {v : Value} (h : LmS lo μ n v) : ∃ a l c, v = .slice a l c := by
 rcases h with ⟨rfl, _⟩ | ⟨i, o, c, rfl, _⟩
 ·exact ⟨_, _, _, rfl⟩
 ·exact ⟨_, _, _, rfl⟩
theorem LmS.kp {lo n : Nat} {μ μ' : Mem} {v : Value} (h : LmS lo μ n v) (g : KP lo μ μ') : LmS lo μ' n v := by
 rcases h with h | ⟨i, o, c, h1, h2⟩
 ·exact .inl h
 ·refine .inr ⟨i, o, c, h1, fun hn => ⟨(h2 hn).1.kp g, fun k hk => ?_⟩⟩
  obtain ⟨x, hx⟩ := (h2 hn).2 k hk
  obtain ⟨b, hb, hv⟩ := g.cell (h2 hn).1.1 hx
  obtain ⟨y, rfl⟩ := kv_u32 hv
  exact ⟨y, hb⟩
theorem eight_kv {cs cs' : List Value} (hl : cs'.length = cs.length) (hk : ∀ (k : Nat) a b, cs[k]? = some a → cs'[k]? = some b → KV a b) {a0 a1 a2 a3 a4 a5 a6 a7 : Value} (e : cs = [a0, a1, a2, a3, a4, a5, a6, a7]) :
  ∃ b0 b1 b2 b3 b4 b5 b6 b7, cs' = [b0, b1, b2, b3, b4, b5, b6, b7] ∧ KV a0 b0 ∧ KV a1 b1 ∧ KV a2 b2 ∧ KV a3 b3 ∧ KV a4 b4 ∧ KV a5 b5 ∧ KV a6 b6 ∧ KV a7 b7 := by
 subst e
 obtain ⟨b0, b1, b2, b3, b4, b5, b6, b7, rfl⟩ := eight (by simpa using hl)
 exact ⟨b0, b1, b2, b3, b4, b5, b6, b7, rfl, hk 0 _ _ rfl rfl, hk 1 _ _ rfl rfl, hk 2 _ _ rfl rfl, hk 3 _ _ rfl rfl, hk 4 _ _ rfl rfl, hk 5 _ _ rfl rfl, hk 6 _ _ rfl rfl, hk 7 _ _ rfl rfl⟩
theorem ShD.kv {lo : Nat} {μ : Mem} : ∀ {d : Dat} {cs cs' : List Value}, ShD lo μ d cs → cs'.length = cs.length → (∀ (k : Nat) a b, cs[k]? = some a → cs'[k]? = some b → KV a b) → ShD lo μ d cs'
 | .mk _ _ _ _ _ ls _ l, cs, cs', h, hl, hk => by
   rw [ShD] at h ⊢
   obtain ⟨kd, m, fl, f, neg, vl, s, vi, e, h1, h2⟩ := h
   obtain ⟨b0, b1, b2, b3, b4, b5, b6, b7, rfl, q0, q1, q2, q3, q4, q5, q6, q7⟩ := eight_kv hl hk e
   obtain ⟨kd', rfl⟩ := kv_int q0
   obtain ⟨m', rfl⟩ := kv_int q1
   obtain rfl := kv_bool q2
   obtain rfl := kv_flo q3
   obtain rfl := kv_bool q4
   obtain ⟨a, p, c, rfl⟩ := h1.sl
   obtain rfl := kv_sl q5
   obtain ⟨s', rfl⟩ := kv_str q6
   have hv : b7 = vi := by
    rcases h2 with ⟨rfl, _⟩ | ⟨i, o, c, rfl, _⟩
    ·exact kv_sl q7
    ·exact kv_sl q7
   subst hv
   exact ⟨_, _, _, _, _, _, _, _, rfl, h1, h2⟩
mutual
theorem ShD.kp {lo : Nat} {μ μ' : Mem} (g : KP lo μ μ') : ∀ {d : Dat} {cs : List Value}, ShD lo μ d cs → ShD lo μ' d cs
 | .mk _ _ _ _ _ ls _ l, cs, h => by
   rw [ShD] at h ⊢
   obtain ⟨kd, m, fl, f, neg, vl, s, vi, e, h1, h2⟩ := h
   refine ⟨kd, m, fl, f, neg, vl, s, vi, e, h1.kp g, ?_⟩
   rcases h2 with h2 | ⟨i, o, c, e1, e2, e3⟩
   ·exact .inl h2
   ·exact .inr ⟨i, o, c, e1, fun hn => (e2 hn).kp g, ShDs.kp g (fun hn => (e2 hn).1) e3⟩
theorem ShDs.kp {lo : Nat} {μ μ' : Mem} (g : KP lo μ μ') : ∀ {l : List Dat} {i o : Nat}, (l ≠ [] → i < μ.next) → ShDs lo μ l i o → ShDs lo μ' l i o
 | [], i, o, _, _ => by rw [ShDs]; trivial
 | d :: r, i, o, hi, h => by
   rw [ShDs] at h ⊢
   obtain ⟨⟨cs, h1, h2⟩, h3⟩ := h
   obtain ⟨cs', g1, g2, g3⟩ := g.has (hi (List.cons_ne_nil _ _)) h1
   exact ⟨⟨cs', g1, (ShD.kp g h2).kv g2 g3⟩, ShDs.kp g (fun _ => hi (List.cons_ne_nil _ _)) h3⟩
end
theorem jhM {lo : Nat} {μ : Mem} : ∀ {l : List Dat} {i o k : Nat} {d : Dat}, ShDs lo μ l i o → l[k]? = some d → ∃ cs, Has μ i (o + 8 * k) cs ∧ ShD lo μ d cs
 | [], i, o, k, d, _, hd => by simp at hd
 | x :: r, i, o, k, d, h, hd => by
   rw [ShDs] at h
   cases k with
   | zero =>
     simp only [List.getElem?_cons_zero, Option.some.injEq] at hd
     subst hd
     exact h.1
   | succ k =>
     obtain ⟨cs, h1, h2⟩ := jhM h.2 (k := k) (by simpa using hd)
     exact ⟨cs, by rw [show o + 8 * (k + 1) = o + 8 + 8 * k from by omega]; exact h1, h2⟩
end
noncomputable section
section
set_option linter.defProp false
variable {X : XT} {ev : Code → Rg → Mem → Option (Ax × Rg × Mem)}
def gg10 := go_call (P := pZ) (X := X) (ev := ev) (S := S0) Tryz.func10 rfl rfl
end
theorem st_u {μ : Mem} {i o n t : Nat} {x : Int} (h : Blk μ i n t) (ho : o < n) : jbt pZ μ 48 (.pointer (some ⟨i, o, none⟩)) (.int .u32 x) = some (undef, putL μ i o [.int .u32 x]) := jbl jdl rfl rfl h ho
theorem jhK {lo n q : Nat} {vl : Value} (hn : n ≤ 1000000) : ∀ (j i : Nat), i + j = n → ∀ {X : XT} {e : Nat} {tm : T Value} {μ : Mem}, LmS lo μ n vl → q < μ.next → jal μ q 5 = some vl →
  jam tm 1 = .pointer (some ⟨q, 0, none⟩) → jam tm 8 = .int .i64 (.ofNat n) → jam tm 9 = .int .i64 (.ofNat i) →
  EndsC (jao pZ X S0 (e + j + 30) (.loop (jaR Tryz.f10 0)) ⟨45, tm, [], none⟩ μ) fun x r μ' => KP lo μ μ' ∧ x = .exit 0 ∧ ∃ tm', r = ⟨45, tm', [], none⟩ ∧ jam tm' 1 = .pointer (some ⟨q, 0, none⟩) := by
 intro j
 induction j with
 | zero =>
   intro i hi X e tm μ hL hq hc h1 h8 h9
   have hi : i = n := hi
   have e1 : ilt (.ofNat i) (.ofNat n) = false := (jat _ _).trans (decide_eq_false (by omega))
   refine jan ?_
   repeat (first | refine jab rfl ?_ | (refine jap rfl ?_; (try simp only [go_sem, h8, h9, e1]); fail_if_success refine ifC ?_) | (refine jad rfl ?_; (repeat (first | (refine jai ?_ rfl ?_; (solve | simp only [go_sem, h8, h9, e1])) | (refine jaf (v := ?_) (μ' := ?_) ?_ ?_ rfl ?_; rotate_left 2; (solve | rfl | simp only [go_sem, h8, h9, e1]); (solve | simp only [go_sem, h8, h9, e1]; try exact rfl)))); simp only [go_sem]))
   exact ⟨KP.refl _ _, by trivial, _, rfl, by simp only [go_sem, h1]⟩
 | succ j ih =>
   intro i hi X e tm μ hL hq hc h1 h8 h9
   have hlt : i < n := by omega
   have e1 : ilt (.ofNat i) (.ofNat n) = true := (jat _ _).trans (decide_eq_true hlt)
   have a1 : jax .i64 (Int.add (.ofNat i) 1) = .ofNat (i + 1) := jaV i 1 (by omega)
   have hL0 := hL
   rcases hL with ⟨_, h0⟩ | ⟨bi, bo, bc, hv, hr⟩
   ·omega
   ·obtain ⟨⟨hb, hlo, m, t, hB, hm⟩, hcl⟩ := hr (by omega)
    obtain ⟨x, hx⟩ := hcl i hlt
    obtain ⟨y, hy⟩ : ∃ y, y = jax .u32 (Int.add x 1) := ⟨_, rfl⟩
    have a2 : jax .u32 (Int.add x 1) = y := hy.symm
    have hst := st_u (o := bo + i) (x := y) hB (by omega)
    have hK : KP lo μ (putL μ bi (bo + i) [.int .u32 y]) := KP.put1 hB hlo (by omega) hx (.inr (.inr (.inl ⟨_, _, rfl, rfl⟩)))
    have hix : ∀ (r : Rg) (a b : Operand), aev pZ r a = vl → aev pZ r b = .int .i64 (.ofNat i) → jas pZ (aev pZ r) 23 a b = some (.pointer (some ⟨bi, bo + i, none⟩)) := fun r a b g1 g2 => ix_U hlt (g1.trans hv) g2
    obtain ⟨v', hc', hkv⟩ := hK.cell hq hc
    have hv' : v' = vl := by subst hv; exact kv_sl hkv
    subst hv'
    refine jan ?_
    have zz := (⟨@h1, @h8, @h9, @e1, @a1, @jdQ, @jbN, @jb8, @jdP, @jcd, @hc, @hix, @hx, @a2, @hst⟩ : _ ∧ _ ∧ _ ∧ _ ∧ _ ∧ _ ∧ _ ∧ _ ∧ _ ∧ _ ∧ _ ∧ _ ∧ _ ∧ _ ∧ _)
    repeat (first | refine jab rfl ?_ | (refine jap rfl ?_; (try simp only [go_sem, zz]); fail_if_success refine ifC ?_) | (refine jad rfl ?_; (repeat (first | (refine jai ?_ rfl ?_; (solve | simp only [go_sem, zz])) | (refine jaf (v := ?_) (μ' := ?_) ?_ ?_ rfl ?_; rotate_left 2; (solve | rfl | simp only [go_sem, zz]); (solve | simp only [go_sem, zz]; try exact rfl)))); simp only [go_sem]))
    clear zz
    rw [show e + (j + 1) + 29 = e + j + 30 from by omega]
    refine EndsC.mono (ih (i + 1) (by omega) (hL0.kp hK) (by rw [jbb]; exact hq) hc' (by simp only [go_sem, h1]) (by simp only [go_sem, h8]) (by simp only [go_sem])) ?_
    rintro x r μ' ⟨g1, g2⟩
    exact ⟨hK.trans g1, g2⟩
end
noncomputable section
def ItS (lo : Nat) (μ : Mem) (l : List Dat) (vi : Value) : Prop := l ≠ [] → ∃ i o c, vi = .slice (some ⟨i, o, none⟩) l.length c ∧ RmB lo μ i (o + 8 * l.length) ∧ ShDs lo μ l i o
theorem ItS.kp {lo : Nat} {μ μ' : Mem} {l : List Dat} {vi : Value} (h : ItS lo μ l vi) (g : KP lo μ μ') : ItS lo μ' l vi := fun hn => by
 obtain ⟨i, o, c, h1, h2, h3⟩ := h hn
 exact ⟨i, o, c, h1, h2.kp g, ShDs.kp g (fun _ => h2.1) h3⟩
theorem jeN {lo q o : Nat} {μ μ' : Mem} {v : Value} (g : KP lo μ μ') (hq : q < μ.next) (hc : jal μ q o = some v) (hv : ∃ a l c, v = .slice a l c) : jal μ' q o = some v := by
 obtain ⟨a, l, c, rfl⟩ := hv
 obtain ⟨b, hb, hk⟩ := g.cell hq hc
 rw [kv_sl hk] at hb
 exact hb
theorem ShD.cells {lo : Nat} {μ : Mem} {d : Dat} {cs : List Value} (h : ShD lo μ d cs) : ∃ kd m fl f neg vl s vi, cs = [Value.int .i64 kd, .int .i64 m, .bool fl, .float .f64 f, .bool neg, vl, .string s, vi] := by
 cases d
 rw [ShD] at h
 obtain ⟨_, _, _, _, _, _, _, _, e, _⟩ := h
 exact ⟨_, _, _, _, _, _, _, _, e⟩
theorem jhL {lo n q : Nat} {l : List Dat} {vi : Value} (hl : l.length ≤ 4000) (ih : ∀ {d : Dat} {cs : List Value} {X : XT} {g : Nat} {μ : Mem}, d ∈ l → lo ≤ μ.next → ShD lo μ d cs → 600 + 5000 * n ≤ g →
  ∃ v μ', aFun pZ (jao pZ X S0 g) 10 [.agg cs.toArray] μ = some (v, μ') ∧ KP lo μ μ') (hvi : ∃ a l c, vi = .slice a l c) :
  ∀ (j i : Nat), i + j = l.length → ∀ {X : XT} {e : Nat} {tm : T Value} {μ : Mem}, ItS lo μ l vi → lo ≤ μ.next → q < μ.next → jal μ q 7 = some vi → 600 + 5000 * n ≤ e →
  jam tm 1 = .pointer (some ⟨q, 0, none⟩) → jam tm 24 = .int .i64 (.ofNat l.length) → jam tm 25 = .int .i64 (.ofNat i) →
  EndsC (jao pZ X S0 (e + j + 40) (.loop (jaR Tryz.f10 1)) ⟨45, tm, [], none⟩ μ) fun x r μ' => KP lo μ μ' ∧ x = .exit 2 ∧ ∃ tm', r = ⟨45, tm', [], none⟩ := by
 intro j
 induction j with
 | zero =>
   intro i hi X e tm μ hI hlo hq hc he h1 h8 h9
   have hi : i = l.length := hi
   have e1 : ilt (.ofNat i) (.ofNat l.length) = false := (jat _ _).trans (decide_eq_false (by omega))
   refine jan ?_
   repeat (first | refine jab rfl ?_ | (refine jap rfl ?_; (try simp only [go_sem, h8, h9, e1]); fail_if_success refine ifC ?_) | (refine jad rfl ?_; (repeat (first | (refine jai ?_ rfl ?_; (solve | simp only [go_sem, h8, h9, e1])) | (refine jaf (v := ?_) (μ' := ?_) ?_ ?_ rfl ?_; rotate_left 2; (solve | rfl | simp only [go_sem, h8, h9, e1]); (solve | simp only [go_sem, h8, h9, e1]; try exact rfl)))); simp only [go_sem]))
   exact ⟨KP.refl _ _, by trivial, _, rfl⟩
 | succ j ihj =>
   intro i hi X e tm μ hI hlo hq hc he h1 h8 h9
   have hlt : i < l.length := by omega
   have e1 : ilt (.ofNat i) (.ofNat l.length) = true := (jat _ _).trans (decide_eq_true hlt)
   have a1 : jax .i64 (Int.add (.ofNat i) 1) = .ofNat (i + 1) := jaV i 1 (by omega)
   have hne : l ≠ [] := by rintro rfl; simp at hlt
   obtain ⟨bi, bo, bc, hv, ⟨hb, hblo, m, t, hB, hm⟩, hSs⟩ := hI hne
   obtain ⟨cs, hH, hD⟩ := jhM hSs (List.getElem?_eq_getElem hlt)
   have hix : ∀ (r : Rg) (a b : Operand), aev pZ r a = vi → aev pZ r b = .int .i64 (.ofNat i) → jas pZ (aev pZ r) 28 a b = some (.pointer (some ⟨bi, bo + 8 * i, none⟩)) := fun r a b g1 g2 => ix_D hlt (g1.trans hv) g2
   have h8' : cs.length = 8 := by
    obtain ⟨_, _, _, _, _, _, _, _, rfl⟩ := hD.cells
    rfl
   have hld := Has.ld_D hH h8'
   obtain ⟨rv, μ2, hr, hK2⟩ := ih (X := X) (g := e + (j + 1) + 32) (List.getElem_mem hlt) hlo hD (by omega)
   have hc2 := jeN hK2 hq hc hvi
   have hI2 := hI.kp hK2
   obtain ⟨bi', bo', bc', hv', ⟨hb', hblo', m', t', hB', hm'⟩, hSs'⟩ := hI2 hne
   rw [hv] at hv'
   cases hv'
   obtain ⟨cs', hH', hD'⟩ := jhM hSs' (List.getElem?_eq_getElem hlt)
   obtain ⟨kd, mm, fl, f, neg, vl, s, vi', rfl⟩ := hD'.cells
   have k6 := Has.cell hH' 6 (by simp)
   have k0 := Has.cell hH' 0 (by simp)
   obtain ⟨μ3, hμ3⟩ : ∃ m : Mem, m = putL μ2 bi (bo + 8 * i + 6) [.string ⟨#[63]⟩] := ⟨_, rfl⟩
   have s6 : jbt pZ μ2 9 (.pointer (some ⟨bi, bo + 8 * i + 6, none⟩)) (.string ⟨#[63]⟩) = some (undef, μ3) := by rw [hμ3]; exact st_at i_str rfl rfl hB' (by omega)
   have hK3 : KP lo μ2 μ3 := by rw [hμ3]; exact KP.put1 hB' hblo' (by omega) k6 (.inr (.inr (.inr ⟨_, _, rfl, rfl⟩)))
   have hc3 := jeN hK3 (Nat.lt_of_lt_of_le hq hK2.1) hc2 hvi
   have hB3 := hK3.2.2.2 bi hb' m' t' hB'
   obtain ⟨b0, k0', kv0⟩ := hK3.cell hb' k0
   obtain ⟨kd', rfl⟩ := kv_int kv0
   obtain ⟨μ4, hμ4⟩ : ∃ m : Mem, m = putL μ3 bi (bo + 8 * i) [.int .i64 9] := ⟨_, rfl⟩
   have s0 : jbt pZ μ3 3 (.pointer (some ⟨bi, bo + 8 * i, none⟩)) (.int .i64 9) = some (undef, μ4) := by rw [hμ4]; exact st_at jdn rfl rfl hB3 (by omega)
   have hK4 : KP lo μ3 μ4 := by rw [hμ4]; exact KP.put1 hB3 hblo' (by omega) k0' (.inr (.inl ⟨_, _, rfl, rfl⟩))
   have hK : KP lo μ μ4 := (hK2.trans hK3).trans hK4
   have hc4 := jeN hK hq hc hvi
   refine jan ?_
   have zz := (⟨@h1, @h8, @h9, @e1, @a1, @jfI, @jfk, @jc1, @jdb, @hc, @hc2, @hc3, @hix, @hld, @gg10, @hr, @s6, @s0⟩ : _ ∧ _ ∧ _ ∧ _ ∧ _ ∧ _ ∧ _ ∧ _ ∧ _ ∧ _ ∧ _ ∧ _ ∧ _ ∧ _ ∧ _ ∧ _ ∧ _ ∧ _)
   repeat (first | refine jab rfl ?_ | (refine jap rfl ?_; (try simp only [go_sem, zz]); fail_if_success refine ifC ?_) | (refine jad rfl ?_; (repeat (first | (refine jai ?_ rfl ?_; (solve | simp only [go_sem, zz])) | (refine jaf (v := ?_) (μ' := ?_) ?_ ?_ rfl ?_; rotate_left 2; (solve | rfl | simp only [go_sem, zz]); (solve | simp only [go_sem, zz]; try exact rfl)))); simp only [go_sem]))
   clear zz
   rw [show e + (j + 1) + 39 = e + j + 40 from by omega]
   refine EndsC.mono (ihj (i + 1) (by omega) (hI.kp hK) (Nat.le_trans hlo hK.1) (Nat.lt_of_lt_of_le hq hK.1) hc4 he (by simp only [go_sem, h1]) (by simp only [go_sem, h8]) (by simp only [go_sem])) ?_
   rintro x r μ' ⟨g1, g2⟩
   exact ⟨hK.trans g1, g2⟩
end
noncomputable section
theorem LmS.len {lo n : Nat} {μ : Mem} {v : Value} (h : LmS lo μ n v) : aLen pZ 23 v = some n := by
 unfold aLen
 rcases h with ⟨rfl, rfl⟩ | ⟨i, o, c, rfl, _⟩ <;> simp only [Tryz.underlying23]
theorem len_it {v : Value} {l : List Dat} (h : (v = .slice none 0 0 ∧ l = []) ∨ ∃ i o c, v = .slice (some ⟨i, o, none⟩) l.length c) : aLen pZ 28 v = some l.length := by
 unfold aLen
 rcases h with ⟨rfl, rfl⟩ | ⟨i, o, c, rfl⟩ <;> simp only [Tryz.underlying28] <;> rfl
theorem spoil_eq {lo : Nat} : ∀ (n : Nat) {d : Dat} {cs : List Value} {X : XT} {g : Nat} {μ : Mem}, Dp n d → lo ≤ μ.next → ShD lo μ d cs → 600 + 5000 * n ≤ g →
  ∃ v μ', aFun pZ (jao pZ X S0 g) 10 [.agg cs.toArray] μ = some (v, μ') ∧ KP lo μ μ' := by
 intro n
 induction n with
 | zero => intro d cs X g μ hS; exact hS.elim
 | succ n ih =>
   intro d cs X g μ hS hlo hD hg
   obtain ⟨k, hk, rfl⟩ : ∃ k, 5000 * (n + 1) ≤ k ∧ g = k + 600 := ⟨g - 600, by omega, by omega⟩
   obtain ⟨_, _, _, _, _, ls, _, l⟩ := d
   obtain ⟨hls, hll, hsub⟩ : ls.length ≤ 200 ∧ l.length ≤ 4000 ∧ ∀ x ∈ l, Dp n x := hS
   rw [ShD] at hD
   obtain ⟨kd, m, fl, f, neg, vl, s, vi, rfl, hL, hI⟩ := hD
   have h1 := jd7 μ 30 [.int .i64 kd, .int .i64 m, .bool fl, .float .f64 f, .bool neg, vl, .string s, vi]
   have hG := jbn μ (obL 30 [.int .i64 kd, .int .i64 m, .bool fl, .float .f64 f, .bool neg, vl, .string s, vi])
   obtain ⟨μ1, hμ1⟩ : ∃ m1 : Mem, m1 = ⟨μ.obs.set μ.next (obL 30 [.int .i64 kd, .int .i64 m, .bool fl, .float .f64 f, .bool neg, vl, .string s, vi]), μ.next + 1⟩ := ⟨_, rfl⟩
   rw [← hμ1] at h1 hG
   have n1 : μ1.next = μ.next + 1 := by rw [hμ1]
   have hK1 : KP lo μ μ1 := KP.of_grow hG hlo
   obtain ⟨c0, c1, c2, c3, c4, c5, c6, c7⟩ := Has.c8 h1
   have lU := hL.len
   have lI : aLen pZ 28 vi = some l.length := len_it (hI.imp id fun ⟨i, o, c, h, _⟩ => ⟨i, o, c, h⟩)
   have hvi : ∃ a l c, vi = .slice a l c := by
    rcases hI with ⟨rfl, _⟩ | ⟨i, o, c, rfl, _⟩
    ·exact ⟨_, _, _, rfl⟩
    ·exact ⟨_, _, _, rfl⟩
   have hIt : ItS lo μ l vi := fun hn => by
    rcases hI with ⟨_, h0⟩ | ⟨i, o, c, h1, h2, h3⟩
    ·exact absurd h0 hn
    ·exact ⟨i, o, c, h1, h2 hn, h3⟩
   have key : EndsF (aFun pZ (jao pZ X S0 (k + 600)) 10 [.agg #[.int .i64 kd, .int .i64 m, .bool fl, .float .f64 f, .bool neg, vl, .string s, vi]] μ) fun r μ' => KP lo μ μ' := by
    refine jaj Tryz.func10 rfl rfl (nbl rfl) ?_
    simp only [go_sem, Tryz.ntmps10]
    refine jag ?_
    refine jaw ?_ ?_
    ·rfl
    simp only [go_sem, jda, Nat.add_eq]
    rw [← hμ1]
    have zz := (⟨@jdQ, @jbN, @jb8, @jdP, @c5, @lU, @jae⟩ : _ ∧ _ ∧ _ ∧ _ ∧ _ ∧ _ ∧ _)
    repeat (first | refine jab rfl ?_ | (refine jap rfl ?_; (try simp only [go_sem, jaa, zz]); fail_if_success refine ifC ?_) | (refine jad rfl ?_; (repeat (first | (refine jai ?_ rfl ?_; (solve | simp only [go_sem, jaa, zz])) | (refine jaf (v := ?_) (μ' := ?_) ?_ ?_ rfl ?_; rotate_left 2; (solve | rfl | simp only [go_sem, jaa, zz]); (solve | simp only [go_sem, jaa, zz]; try exact rfl)))); simp only [go_sem]))
    clear zz
    rw [show k + 596 = (k + 566 - ls.length) + ls.length + 30 from by omega]
    refine EndsC.mono (jhK (lo := lo) (q := μ.next) (vl := vl) (by omega) ls.length 0 (Nat.zero_add _) (hL.kp hK1) (by omega) c5 (by simp only [go_sem]) (by simp only [go_sem]) (by simp only [go_sem]; try rfl)) ?_
    rintro x r μ2 ⟨hK2, rfl, tm', rfl, h1'⟩
    have hK12 := hK1.trans hK2
    have c7' := jeN hK2 (by omega) c7 hvi
    simp only [jaX, reduceIte, jak]
    have zz := (⟨@h1', @jc1, @jdb, @c7', @lI, @jae⟩ : _ ∧ _ ∧ _ ∧ _ ∧ _ ∧ _)
    repeat (first | refine jab rfl ?_ | (refine jap rfl ?_; (try simp only [go_sem, jaa, zz]); fail_if_success refine ifC ?_) | (refine jad rfl ?_; (repeat (first | (refine jai ?_ rfl ?_; (solve | simp only [go_sem, jaa, zz])) | (refine jaf (v := ?_) (μ' := ?_) ?_ ?_ rfl ?_; rotate_left 2; (solve | rfl | simp only [go_sem, jaa, zz]); (solve | simp only [go_sem, jaa, zz]; try exact rfl)))); simp only [go_sem]))
    clear zz
    rw [show k + 596 = (k + 556 - l.length) + l.length + 40 from by omega]
    refine EndsC.mono (jhL (lo := lo) (n := n) (q := μ.next) (vi := vi) hll (fun hm h2 h3 h4 => ih (hsub _ hm) h2 h3 h4) hvi l.length 0 (Nat.zero_add _) (hIt.kp hK12) (Nat.le_trans hlo hK12.1) (by have := hK2.1; omega) c7' (by omega) (by simp only [go_sem, h1']) (by simp only [go_sem]) (by simp only [go_sem]; try rfl)) ?_
    rintro x r μ3 ⟨hK3, rfl, tm2, rfl⟩
    simp only [jaX, reduceIte, jak]
    refine ⟨rfl, ?_⟩
    simp only [go_sem, Tryz.results10]
    exact ⟨_, rfl, hK12.trans hK3⟩
   obtain ⟨r, μ', h1, h2⟩ := key
   exact ⟨r, μ', h1, h2⟩
end
noncomputable section
theorem jjC {X : XT} {g : Nat} {ls : List Nat} {v : Value} {μ : Mem} (h : IsU μ ls v) (hn : ls.length ≤ 1000000) (hg : 20 ≤ g) : ∃ v' μ', aFun pZ (jao pZ X S0 g) 17 [v] μ = some (v', μ') ∧ Lv μ' v' ls ∧ Grow μ μ' ∧ New μ v' := by
 obtain ⟨k, rfl⟩ := gle hg
 obtain ⟨v', μ1, hap, hR, hG, hN⟩ := appendU h hn
 have key : EndsF (aFun pZ (jao pZ X S0 (k + 20)) 17 [v] μ) fun w μ' => Lv μ' w ls ∧ Grow μ μ' ∧ New μ w := by
  rcases h with ⟨_, _, ⟨rfl, rfl⟩ | ⟨i, o, c, rfl, _⟩⟩
  ·skip
   refine jaj Tryz.func17 rfl rfl (nbl rfl) ?_
   simp only [go_sem, Tryz.ntmps17]
   repeat (first | refine jab rfl ?_ | (refine jac rfl ?_; (try simp only [go_sem, an5, p_sl]); fail_if_success refine ifC ?_))
   refine jah ?_
   refine ⟨rfl, .slice none 0 0, ?_, .inl ⟨rfl, rfl⟩, Grow.refl _, New.nil _⟩
   simp only [go_sem, Tryz.results17]
  ·skip
   refine jaj Tryz.func17 rfl rfl (nbl rfl) ?_
   simp only [go_sem, Tryz.ntmps17]
   repeat (first | refine jab rfl ?_ | (refine jac rfl ?_; (try simp only [go_sem, an4, bs0, jaa, hap]); fail_if_success refine ifC ?_))
   refine jah ?_
   refine ⟨rfl, v', ?_, hR, hG, hN⟩
   simp only [go_sem, Tryz.results17]
 obtain ⟨w, μ', h1, h2, h3⟩ := key
 exact ⟨w, μ', h1, h2, h3⟩
theorem lv_vIn {μ0 μ : Mem} {v : Value} {ls : List Nat} (h : Lv μ v ls) (hn : New μ0 v) : VIn μ0.next μ.next μ ls.length v := fun hne => by
 rcases h with ⟨rfl, rfl⟩ | ⟨i, c, m, z, ov, fx, sh, rfl, h2, h3, h4, h5, h6⟩
 ·exact absurd rfl hne
 ·exact ⟨i, 0, c, rfl, hn i ⟨_, _, rfl⟩, h4, m, _, ⟨z, ov, fx, sh, h2⟩, by omega⟩
theorem lmS_of {lo hi : Nat} {μ : Mem} {ls : List Nat} {v : Value} (h : IsU μ ls v) (hv : VIn lo hi μ ls.length v) : LmS lo μ ls.length v := by
 obtain ⟨_, _, ⟨rfl, rfl⟩ | ⟨i, o, c, rfl, h4, _⟩⟩ := h
 ·exact .inl ⟨rfl, rfl⟩
 ·refine .inr ⟨i, o, c, rfl, fun hn => ?_⟩
  have hne : ls ≠ [] := fun e => hn (by rw [e]; rfl)
  obtain ⟨q1, q2⟩ := h4 hne
  obtain ⟨i', o', c', e1, e2, e3, m, t, e4, e5⟩ := hv hn
  injection e1 with e1 _ _
  injection e1 with e1
  injection e1 with e1 e6
  subst e1 e6
  refine ⟨⟨q1, e2, m, t, e4, e5⟩, fun k hk => ?_⟩
  have := q2.cell k (by simpa using hk)
  exact ⟨.ofNat (ls[k]), by rw [this]; simp⟩
mutual
theorem InD.shD {lo hi : Nat} {μ : Mem} : ∀ {d : Dat} {cs : List Value}, InD lo hi μ d cs → ShD lo μ d cs
 | .mk k n fl f neg ls s l, cs, h => by
   rw [InD] at h
   rw [ShD]
   obtain ⟨vl, vi, h1, h2, ⟨h7, hv⟩, h8⟩ := h
   refine ⟨k, n, fl, f, neg, vl, s, vi, h1, lmS_of h7 hv, ?_⟩
   rcases h8 with h8 | ⟨i, o, c, e1, e2, e3, e4⟩
   ·exact .inl h8
   ·exact .inr ⟨i, o, c, e1, fun hn => by
     obtain ⟨q1, q2, q3, m, t, q4, q5⟩ := e2 hn
     exact ⟨q1, q2, m, t, q4, q5⟩, InDs.shDs e3⟩
theorem InDs.shDs {lo hi : Nat} {μ : Mem} : ∀ {l : List Dat} {i o : Nat}, InDs lo hi μ l i o → ShDs lo μ l i o
 | [], i, o, _ => by rw [ShDs]; trivial
 | d :: r, i, o, h => by
   rw [InDs] at h
   rw [ShDs]
   obtain ⟨⟨cs, h1, h2⟩, h3⟩ := h
   exact ⟨⟨cs, h1, InD.shD h2⟩, InDs.shDs h3⟩
end
end
noncomputable section
section
set_option linter.defProp false
variable {X : XT} {ev : Code → Rg → Mem → Option (Ax × Rg × Mem)}
def gg64 := go_call (P := pZ) (X := X) (ev := ev) (S := S0) Tryz.func64 rfl rfl
end
def firstL : List Nat := [240, 241, 2, 19, 3, 35, 52, 4, 68]
structure Lay8 (μ : Mem) : Prop where
 fs : ∀ k, k < 256 → ∃ x, x ∈ firstL ∧ jal μ 1 k = some (.int .u8 (.ofNat x))
 ar : ∀ k, k < 16 → ∃ a b, Has μ 2 (2 * k) [.int .u8 (.ofNat a), .int .u8 (.ofNat b)]
 lt : 20 < μ.next
theorem Lay8.grow {μ μ' : Mem} (h : Lay8 μ) (g : Grow μ μ') : Lay8 μ' := by
 refine ⟨fun k hk => ?_, fun k hk => ?_, Nat.lt_of_lt_of_le h.lt g.1⟩
 ·obtain ⟨x, h1, h2⟩ := h.fs k hk
  exact ⟨x, h1, (jcb g (Nat.lt_of_le_of_lt (by decide) h.lt) _).trans h2⟩
 ·obtain ⟨a, b, h1⟩ := h.ar k hk
  exact ⟨a, b, h1.keep (g.2 _ (Nat.lt_of_le_of_lt (by decide) h.lt))⟩
theorem sh8_none (a b : Int) : ja5 false .u8 a b = none := rfl
theorem and8_none (a b : Int) : jbW Nat.land .u8 .u8 a b = none := rfl
theorem jju : ∀ x, x ∈ firstL → ∃ sz hi, hi < 16 ∧ sz < 8 ∧ pv pZ (pure (Value.int .u8 (bits .and .u8 (.ofNat x) 7)) : Sem Value) = some (.int .u8 (.ofNat sz)) ∧ pv pZ (Op.shift .shr .u8 (.ofNat x) .u64 4) = some (.int .u8 (.ofNat hi)) := by
 intro x hx
 simp only [firstL, List.mem_cons, List.not_mem_nil, or_false] at hx
 rcases hx with rfl | rfl | rfl | rfl | rfl | rfl | rfl | rfl | rfl
 ·exact ⟨0, 15, by decide, by decide, (by show (_ : Option Value) = _; kernel_rfl), (by show (_ : Option Value) = _; kernel_rfl)⟩
 ·exact ⟨1, 15, by decide, by decide, (by show (_ : Option Value) = _; kernel_rfl), (by show (_ : Option Value) = _; kernel_rfl)⟩
 ·exact ⟨2, 0, by decide, by decide, (by show (_ : Option Value) = _; kernel_rfl), (by show (_ : Option Value) = _; kernel_rfl)⟩
 ·exact ⟨3, 1, by decide, by decide, (by show (_ : Option Value) = _; kernel_rfl), (by show (_ : Option Value) = _; kernel_rfl)⟩
 ·exact ⟨3, 0, by decide, by decide, (by show (_ : Option Value) = _; kernel_rfl), (by show (_ : Option Value) = _; kernel_rfl)⟩
 ·exact ⟨3, 2, by decide, by decide, (by show (_ : Option Value) = _; kernel_rfl), (by show (_ : Option Value) = _; kernel_rfl)⟩
 ·exact ⟨4, 3, by decide, by decide, (by show (_ : Option Value) = _; kernel_rfl), (by show (_ : Option Value) = _; kernel_rfl)⟩
 ·exact ⟨4, 0, by decide, by decide, (by show (_ : Option Value) = _; kernel_rfl), (by show (_ : Option Value) = _; kernel_rfl)⟩
 ·exact ⟨4, 4, by decide, by decide, (by show (_ : Option Value) = _; kernel_rfl), (by show (_ : Option Value) = _; kernel_rfl)⟩
theorem i_ar : pZ.info? 94 = some Tryz.t94 := by kernel_rfl
theorem fa_ar0 (ρ : Operand → Value) (x : Operand) : jaL pZ ρ 94 x 0 = (match ρ x with | .pointer (some a) => some (.pointer (some (a.add 0))) | _ => none) := jaK (ft := 5) (off := 0) Tryz.underlying94 rfl i_u8 rfl ρ x
theorem fa_ar1 (ρ : Operand → Value) (x : Operand) : jaL pZ ρ 94 x 1 = (match ρ x with | .pointer (some a) => some (.pointer (some (a.add 1))) | _ => none) := jaK (ft := 5) (off := 1) Tryz.underlying94 rfl i_u8 rfl ρ x
def z_ar : List Value := [.int .u8 0, .int .u8 0]
def obAr : Ob := .cells 2 94 z_ar.toArray .e 0 0 false false
theorem al_ar : jdJ pZ 94 = some (obAr, fun id => .pointer (some ⟨id, 0, none⟩)) := by kernel_rfl
theorem blk_ar {μ : Mem} : Blk ⟨μ.obs.set μ.next obAr, μ.next + 1⟩ μ.next 2 94 := ⟨_, _, _, _, by show T.get _ _ = _; rw [T.get_set, if_pos rfl]; rfl⟩
theorem ix256 {c : Nat} (hc : c < 256) (r : Rg) (b : Operand) (h : aev pZ r b = .int .u8 (.ofNat c)) : jas pZ (aev pZ r) 92 (.global 1) b = some (.pointer (some ⟨1, c, none⟩)) := by
 unfold jas
 simp only [h, glob 1 (by kernel_rfl) r, Tryz.underlying92, aIdx, i_u8]
 rw [show Nat.blt c 256 = true from by simpa using hc]
 simp only [Addr.add]
 rw [show Nat.mul c Tryz.t5.size = c from Nat.mul_one c, Nat.zero_add]
 split
 ·rename_i h; rw [h]
 ·rfl
theorem ix16 {c : Nat} (hc : c < 16) (r : Rg) (b : Operand) (h : aev pZ r b = .int .u8 (.ofNat c)) : jas pZ (aev pZ r) 95 (.global 2) b = some (.pointer (some ⟨2, 2 * c, none⟩)) := by
 unfold jas
 simp only [h, glob 2 (by kernel_rfl) r, Tryz.underlying95, aIdx, i_ar]
 rw [show Nat.blt c 16 = true from by simpa using hc]
 simp only [Addr.add]
 rw [show Nat.mul c Tryz.t94.size = 2 * c from Nat.mul_comm c 2, Nat.zero_add]
 split
 ·rename_i h; rw [h]
 ·rfl
theorem u8_lt (s : ByteArray) {i : Nat} (h : i < (bys s).length) : (bys s)[i]'h < 256 := by
 have e : (bys s)[i]'h = (s.data.toList[i]'(by rw [← jdr]; exact h)).toNat := List.getElem_map ..
 rw [e]
 exact UInt8.toNat_lt _
theorem byte_at (s : ByteArray) {i : Nat} (h : i < (bys s).length) : ∃ c, c < 256 ∧ ∀ (r : Rg) (x y : Operand), aev pZ r x = .string s → aev pZ r y = .int .i64 (.ofNat i) → ja3 pZ (aev pZ r) 9 x y = some (.int .u8 (.ofNat c)) :=
 ⟨_, u8_lt s h, fun r x y h1 h2 => jbU h h1 h2⟩
theorem je0 (s : ByteArray) {k : Nat} (h : k ≤ (bys s).length) (r : Rg) (x y : Operand) (h1 : aev pZ r x = .string s) (h2 : aev pZ r y = .int .i64 (.ofNat k)) : jbg pZ (aev pZ r) 9 x (some y) none none = some (.string (jbw s k)) := jb9 h1 h2 h
theorem jb3 (s : ByteArray) (k : Nat) : (bys (jbw s k)).length = (bys s).length - k := by rw [jc6, List.length_drop]
theorem wShl8 (a : Nat) : ja5 true .u64 (.ofNat (W a)) 8 = some (.int .u64 (.ofNat (W (Sh (W a) 8)))) := wShl a 8 (by decide)
theorem wShl16 (a : Nat) : ja5 true .u64 (.ofNat (W a)) 16 = some (.int .u64 (.ofNat (W (Sh (W a) 16)))) := wShl a 16 (by decide)
theorem wShl24 (a : Nat) : ja5 true .u64 (.ofNat (W a)) 24 = some (.int .u64 (.ofNat (W (Sh (W a) 24)))) := wShl a 24 (by decide)
theorem wShl40 (a : Nat) : ja5 true .u64 (.ofNat (W a)) 40 = some (.int .u64 (.ofNat (W (Sh (W a) 40)))) := wShl a 40 (by decide)
theorem wShl48 (a : Nat) : ja5 true .u64 (.ofNat (W a)) 48 = some (.int .u64 (.ofNat (W (Sh (W a) 48)))) := wShl a 48 (by decide)
theorem wShl56 (a : Nat) : ja5 true .u64 (.ofNat (W a)) 56 = some (.int .u64 (.ofNat (W (Sh (W a) 56)))) := wShl a 56 (by decide)
theorem wShl32 (a : Nat) : ja5 true .u64 (.ofNat (W a)) 32 = some (.int .u64 (.ofNat (W (Sh (W a) 32)))) := wShl a 32 (by decide)
theorem wAndV (a : Nat) : jbW Nat.land .u64 .u64 (.ofNat (W a)) 9259542123273814144 = some (.int .u64 (.ofNat (W (W a &&& 9259542123273814144)))) := jfE _ 9259542123273814144 (W_lt a) (by decide)
theorem jdK {s : ByteArray} (h : 8 ≤ (bys s).length) : ∃ n, ∀ {X : XT} {g : Nat} {μ : Mem}, 20 ≤ g → aFun pZ (jao pZ X S0 g) 64 [.string s] μ = some (u n, ⟨μ.obs, μ.next + 39⟩) := by
 obtain ⟨c0, _, g0⟩ := byte_at s (i := 0) (by omega)
 have x0 : ∀ (r : Rg) (x : Operand), aev pZ r x = .string s → ja3 pZ (aev pZ r) 9 x (.const (.int .i64 0)) = some (.int .u8 (.ofNat c0)) := fun r x h => g0 r x _ h rfl
 obtain ⟨c1, _, g1⟩ := byte_at s (i := 1) (by omega)
 have x1 : ∀ (r : Rg) (x : Operand), aev pZ r x = .string s → ja3 pZ (aev pZ r) 9 x (.const (.int .i64 1)) = some (.int .u8 (.ofNat c1)) := fun r x h => g1 r x _ h rfl
 obtain ⟨c2, _, g2⟩ := byte_at s (i := 2) (by omega)
 have x2 : ∀ (r : Rg) (x : Operand), aev pZ r x = .string s → ja3 pZ (aev pZ r) 9 x (.const (.int .i64 2)) = some (.int .u8 (.ofNat c2)) := fun r x h => g2 r x _ h rfl
 obtain ⟨c3, _, g3⟩ := byte_at s (i := 3) (by omega)
 have x3 : ∀ (r : Rg) (x : Operand), aev pZ r x = .string s → ja3 pZ (aev pZ r) 9 x (.const (.int .i64 3)) = some (.int .u8 (.ofNat c3)) := fun r x h => g3 r x _ h rfl
 obtain ⟨c4, _, g4⟩ := byte_at s (i := 4) (by omega)
 have x4 : ∀ (r : Rg) (x : Operand), aev pZ r x = .string s → ja3 pZ (aev pZ r) 9 x (.const (.int .i64 4)) = some (.int .u8 (.ofNat c4)) := fun r x h => g4 r x _ h rfl
 obtain ⟨c5, _, g5⟩ := byte_at s (i := 5) (by omega)
 have x5 : ∀ (r : Rg) (x : Operand), aev pZ r x = .string s → ja3 pZ (aev pZ r) 9 x (.const (.int .i64 5)) = some (.int .u8 (.ofNat c5)) := fun r x h => g5 r x _ h rfl
 obtain ⟨c6, _, g6⟩ := byte_at s (i := 6) (by omega)
 have x6 : ∀ (r : Rg) (x : Operand), aev pZ r x = .string s → ja3 pZ (aev pZ r) 9 x (.const (.int .i64 6)) = some (.int .u8 (.ofNat c6)) := fun r x h => g6 r x _ h rfl
 obtain ⟨c7, _, g7⟩ := byte_at s (i := 7) (by omega)
 have x7 : ∀ (r : Rg) (x : Operand), aev pZ r x = .string s → ja3 pZ (aev pZ r) 9 x (.const (.int .i64 7)) = some (.int .u8 (.ofNat c7)) := fun r x h => g7 r x _ h rfl
 refine ⟨?_, fun {X g μ} hg => ?_⟩
 rotate_left 1
 ·obtain ⟨k, rfl⟩ := gle hg
  refine jaN ?_
  refine jaj Tryz.func64 rfl rfl (nbl rfl) ?_
  simp only [go_sem, Tryz.ntmps64]
  repeat (first | refine jab rfl ?_ | (refine jap rfl ?_; (try simp only [go_sem, undef]); fail_if_success refine ifC ?_) | (refine jad rfl ?_; (repeat (first | (refine jai ?_ rfl ?_; (solve | simp only [go_sem, undef])) | (refine jaf (v := ?_) (μ' := ?_) ?_ ?_ rfl ?_; rotate_left 2; (solve | rfl | simp only [go_sem, undef]); (solve | simp only [go_sem, undef]; try exact rfl)))); simp only [go_sem]))
  have zz := (⟨@x0, @x1, @x2, @x3, @x4, @x5, @x6, @x7, @jfo, @jbP, @wShl8, @wShl16, @wShl24, @wShl32, @wShl40, @wShl48, @wShl56, @wOr⟩ : _ ∧ _ ∧ _ ∧ _ ∧ _ ∧ _ ∧ _ ∧ _ ∧ _ ∧ _ ∧ _ ∧ _ ∧ _ ∧ _ ∧ _ ∧ _ ∧ _ ∧ _)
  refine jaG (n := 39) (ms := [0, 1, 3, 0, 8, 24, 56, 127, 0, 256, 768, 1792, 4095, 0, 8192, 24576, 57344, 131071, 0, 262144, 786432, 1835008, 4194303, 0, 8388608, 25165824, 58720256, 134217727, 0, 268435456, 805306368, 1879048192, 4294967295, 0, 8589934592, 25769803776, 60129542144, 137438953471, 274877906943]) (ord := [0, 1, 2, 3, 4, 5, 6, 7, 8, 9, 10, 11, 12, 13, 14, 15, 16, 17, 18, 19, 20, 21, 22, 23, 24, 25, 26, 27, 28, 29, 30, 31, 32, 33, 34, 35, 36, 37, 38]) (ds := ?_) ?_ ?_ ?_ ?_ ?_ ?_
  rotate_left
  ·kernel_rfl
  ·kernel_rfl
  ·kernel_rfl
  ·rfl
  ·rfl
  repeat (first | (refine jaA ?_ rfl ?_; (solve | simp only [go_sem, zz])) | (refine jar (v := ?_) (μ' := ?_) (sn' := ?_) ?_ ?_ rfl ?_; rotate_left 3; (solve | rfl | simp only [go_sem, zz]); (solve | simp only [jav, heavy, jaI, jaq, go_sem, zz]; try exact rfl)))
  clear zz
  simp only [dRun, jay, jak]
  refine jah ?_
  refine ⟨rfl, _, ?_, rfl, rfl⟩
  simp only [go_sem, Tryz.results64]
  rfl
end
end Go.Proofs.YtnafmgiaifbhgaaGreatDoor.dc
