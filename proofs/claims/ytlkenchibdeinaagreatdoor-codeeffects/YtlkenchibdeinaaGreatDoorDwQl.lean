/-
  distafflaw10.CodeEffects, part Ql: its walk and its law. No conditions.
-/
import Derived.Test.YtlkenchibdeinaaGreatDoorDwQj
import Derived.Test.YtlkenchibdeinaaGreatDoorDwQk
set_option linter.all false
set_option maxRecDepth 20000
set_option maxHeartbeats 8000000
namespace Go.Proofs.YtlkenchibdeinaaGreatDoor.ce
open YtlkenchibdeinaaGreatDoor.Ev
noncomputable section
@[go_sem] def gg14 {X ev} := gC X ev Tryz.func14 rfl rfl
theorem dec_le4 (n b0 b1 b2 b3 : Nat) : (Lib.decodeN n b0 b1 b2 b3).2 ≤ 4 := by
 unfold Lib.decodeN
 repeat' split
 all_goals simp
theorem width_le4 (s : ByteArray) (pos : Nat) : (Utf8.decode s pos).2 ≤ 4 := by rw [Lib.decode_at]; exact dec_le4 _ _ _ _ _
theorem jg8 {s : ByteArray} : ∀ (f p n : Nat), (bys s).length ≤ p + f → (jbI s f p n).1 = true → (bys s).length ≤ p + 4 * ((jbI s f p n).2 - n) ∧ n ≤ (jbI s f p n).2
 | 0, p, n, h, _ => ⟨by show _ ≤ p + 4 * (n - n); omega, rzN n⟩
 | f + 1, p, n, h, h1 => by
   have hw := Lib.width_pos s p
   have hw4 := width_le4 s p
   unfold jbI at h1 ⊢
   split
   ·rename_i hlt
    rw [if_pos hlt] at h1
    split
    ·rename_i hb
     rw [if_pos hb] at h1
     cases h1
    ·rename_i hb
     rw [if_neg hb] at h1
     have := jg8 f _ _ (by omega) h1
     omega
   ·exact ⟨by show _ ≤ p + 4 * (n - n); omega, rzN n⟩
theorem goR_cons {F : Dat → Int → Int} {d : Dat} {l : List Dat} {m r : Int} (h : goR F (d :: l) m = r) (hr : 0 ≤ r) : 0 ≤ F d m ∧ goR F l (F d m) = r := by
 rw [goR] at h
 split at h
 ·omega
 ·exact ⟨by omega, h⟩
theorem right_ok {n deep : Nat} {k m : Int} {fl : Bool} {f : Nat} {neg : Bool} {ls : List Nat} {s : ByteArray} {l : List Dat} {left r : Int} (h : jby (n + 1) deep (.mk k m fl f neg ls s l) left = r) (hr : 0 ≤ r) :
  jcU fl f neg ls = true ∧ onlyD (.mk k m fl f neg ls s l) = true ∧ jhw (.mk k m fl f neg ls s l) = true ∧ goR (jby n (deep + 1)) l (left - 1) = r ∧ 1 ≤ left := by
 rw [jby] at h
 split at h
 ·omega
 ·rename_i hb
  unfold badB at hb
  simp only [Bool.or_eq_true, Bool.and_eq_true, Bool.not_eq_true', not_or, Bool.not_eq_false] at hb
  obtain ⟨⟨⟨⟨⟨h1, _⟩, _⟩, h4⟩, h5⟩, h6⟩ := hb
  refine ⟨h4, h5, h6, h, ?_⟩
  rw [jaZ, decide_eq_true_eq] at h1
  omega
theorem jjT {fl : Bool} {f : Nat} {neg : Bool} {ls : List Nat} (h : jcU fl f neg ls = true) : ls.length ≤ 64 := by
 unfold jcU at h
 split at h
 ·simp only [Bool.and_eq_true] at h
  have h2 := h.2
  rw [jaB _ 0 0 rfl, decide_eq_true_eq] at h2
  omega
 ·simp only [Bool.and_eq_true] at h
  have h2 := h.2
  unfold jes at h2
  simp only [Bool.and_eq_true, Bool.not_eq_true'] at h2
  have h3 := h2.1
  rw [jcp _ 64 64 rfl, decide_eq_false_iff_not] at h3
  omega
theorem kind_text {k m : Int} {fl : Bool} {f : Nat} {neg : Bool} {ls : List Nat} {s : ByteArray} {l : List Dat} (h : jhw (.mk k m fl f neg ls s l) = true) :
  (ieq k 0 = false → ieq k 1 = true → m = 0 ∨ m = 1) ∧ (ieq k 0 = false → ieq k 1 = false → ieq k 2 = true → 0 ≤ m ∧ m ≤ 1114111) ∧ (ieq k 0 = false → ieq k 1 = false → ieq k 2 = false → ieq k 3 = true → (bys s).length ≤ 1600) ∧ (ieq k 0 = false → ieq k 1 = false → ieq k 2 = false → ieq k 3 = false → ieq k 4 = true → (bys s).length ≤ 40) := by
 simp only [jhw, kindB] at h
 refine ⟨fun h0 h1 => ?_, fun h0 h1 h2 => ?_, fun h0 h1 h2 h3 => ?_, fun h0 h1 h2 h3 h4 => ?_⟩
 ·rw [h0, h1] at h
  simp only [Bool.false_eq_true, if_false, if_true, Bool.or_eq_true] at h
  rw [jc5, jc5] at h
  simpa using h
 ·rw [h0, h1, h2] at h
  simp only [Bool.false_eq_true, if_false, if_true] at h
  unfold signB at h
  simp only [Bool.or_eq_true, Bool.and_eq_true, Bool.not_eq_true', jaZ, decide_eq_true_eq, decide_eq_false_iff_not] at h
  omega
 ·rw [h0, h1, h2, h3] at h
  simp only [Bool.false_eq_true, if_false, if_true, Bool.and_eq_true, Bool.not_eq_true'] at h
  have h5 := jg8 (s := s) (bys s).length 0 0 (by omega) h.1
  have h6 := h.2
  rw [jcp _ 400 400 rfl, decide_eq_false_iff_not] at h6
  omega
 ·rw [h0, h1, h2, h3, h4] at h
  simp only [Bool.false_eq_true, if_false, if_true] at h
  unfold jhq at h
  split at h
  ·rename_i hh
   exact hh.1.2.1
  ·cases h
theorem jg1 {n deep : Nat} {l : List Dat} {v : Value} {r m0 : Int} {kd : Int} {c1 c2 c3 c4 c5 c6 : Value} {q : Nat} (hl : l.length ≤ 2000000) (hr : 0 ≤ r) (hm0 : m0 ≤ 3000) (ih : ∀ {d : Dat} {cs : List Value} {m r : Int} {X : XT} {g : Nat} {μ : Mem}, d ∈ l → jb1 X → ja7 X → jb7 X → Lay μ → LayP μ → IsD μ d cs → jby n (deep + 1) d m = r → 0 ≤ r → -1 ≤ m → m ≤ 3000 → fu n ≤ g →
  ∃ s μ', aFun pZ (jaj pZ X S0 g) 14 [.agg cs.toArray] μ = some (.string s, μ') ∧ ((bys s).length : Int) + 10 ≤ 20000 * (m - r) ∧ Grow μ μ') :
  ∀ (j i : Nat), i + j = l.length → ∀ {X : XT} {e : Nat} {tm : T Value} {μ : Mem} {m : Int} {out : ByteArray}, jb1 X → ja7 X → jb7 X → Lay μ → LayP μ → IsL μ l v → goR (jby n (deep + 1)) (l.drop i) m = r → -1 ≤ m → m ≤ m0 → ((bys out).length : Int) ≤ 2 + 20000 * (m0 - m) → fu n ≤ e →
  Has μ q 0 [.int .i64 kd, c1, c2, c3, c4, c5, c6, v] → q < μ.next →
  jac tm 1 = .pointer (some ⟨q, 0, none⟩) → jac tm 3 = .string out → jac tm 37 = v → jac tm 38 = .int .i64 (.ofNat l.length) → jac tm 39 = .int .i64 (.ofNat i) →
  LpC X (e + j + 30) Tryz.f14 0 68 tm μ fun x rg μ' => x = .exit 1 ∧ Grow μ μ' ∧ ∃ tm' s, rg = ⟨68, tm', [], none⟩ ∧ jac tm' 3 = .string s ∧ ((bys s).length : Int) ≤ 2 + 20000 * (m0 - r) := by
 intro j
 induction j with
 | zero =>
   intro i hi X e tm μ m out hX hX2 hX3 hY hP hL hgo hm hmm hb he hH hq h1 h3 h37 h38 h39
   have hi : i = l.length := hi
   have e1 : ilt (.ofNat i) (.ofNat l.length) = false := dF (jao _ _) (by omega)
   rw [hi, List.drop_length, goR] at hgo
   refine jah ?_
   repeat ((first | refine jab rfl ?_ | refine jam rfl ?_); (try simp only [go_sem, h38, h39, e1]); fail_if_success refine stk ?_)
   exact ⟨by trivial, Grow.refl _, _, out, rfl, by simp only [go_sem, h3], by rw [← hgo]; exact hb⟩
 | succ j ihj =>
   intro i hi X e tm μ m out hX hX2 hX3 hY hP hL hgo hm hmm hb he hH hq h1 h3 h37 h38 h39
   have hlt : i < l.length := by omega
   have hdr : l.drop i = l[i]'hlt :: l.drop (i + 1) := List.drop_eq_getElem_cons hlt
   rw [hdr] at hgo
   obtain ⟨hr1, hgo1⟩ := goR_cons hgo hr
   obtain ⟨hr2, hr3⟩ := jdZ n (deep + 1) (l[i]'hlt) m hm
   have e1 : ilt (.ofNat i) (.ofNat l.length) = true := dT (jao _ _) hlt
   have a1 : jak .i64 (Int.add (.ofNat i) 1) = .ofNat (i + 1) := jaE i 1 (by omega)
   have q1 : jak .i64 (Int.sub (.ofNat l.length) 1) = .ofNat (l.length - 1) := jaV l.length 1 (by omega) (by omega)
   obtain ⟨bi, bo, bc, cs, hv, hbk, hHd, hD⟩ := hL.at (rzK hlt)
   have hix : ∀ r x y, aev pZ r x = v → aev pZ r y = .int .i64 (.ofNat i) → jan pZ (aev pZ r) 25 x y = some (.pointer (some ⟨bi, bo + 8 * i, none⟩)) := fun r x y g1 g2 => ix_D hlt (g1.trans hv) g2
   have hl1 := Has.ld_D hHd hD.eight.1
   have lL := hL.len
   obtain ⟨μ1, hμ1⟩ := exq (putL ⟨μ.obs.set μ.next (obDt zD8), μ.next + 1⟩ μ.next 0 cs : Mem)
   have hst := st_D (o := 0) (jkn (μ := μ) (l := zD8)) (by omega) hD.eight.1 hD.eight.2
   have hG1 : Grow μ μ1 := by rw [hμ1]; exact (ja5 μ _).put_new (rzN _)
   have hl2 : jcq pZ μ1 44 (.pointer (some ⟨μ.next, 0, none⟩)) = some (.agg cs.toArray) := by
    rw [hμ1]
    exact Has.ld_D (Has.of_put (vs := cs) jkn (by rw [hD.eight.1]; omega)) hD.eight.1
   rw [← hμ1] at hst
   have hH1 : Has μ1 q 0 _ := hH.keep (hG1.2 q hq)
   obtain ⟨k0, _, _, _, _, _, _, k7⟩ := Has.c8 hH1
   obtain ⟨s, μ2, hr, ls, hG2⟩ := ih (X := X) (g := e + (j + 1) + 21) (List.getElem_mem hlt) hX hX2 hX3 (hY.grow hG1) (hP.grow hG1) (hD.grow hG1) rfl hr1 hm (by omega) (by omega)
   have hG : Grow μ μ2 := hG1.trans hG2
   have hq2 : q < μ2.next := rzO hq hG.1
   have hH2 : Has μ2 q 0 _ := hH.keep (hG.2 q hq)
   obtain ⟨o1, y1, z1⟩ := jbt out ⟨#[32]⟩ (by show _ + 1 < _; omega)
   have z1 : (bys o1).length = (bys out).length + 1 := z1
   obtain ⟨o2, y2, z2⟩ := jbt out ⟨#[46, 32]⟩ (by show _ + 2 < _; omega)
   have z2 : (bys o2).length = (bys out).length + 2 := z2
   obtain ⟨o3, y3, z3⟩ := jbt o1 ⟨#[46, 32]⟩ (by show _ + 2 < _; omega)
   have z3 : (bys o3).length = (bys o1).length + 2 := z3
   obtain ⟨t0, w0, u0⟩ := jbt out s (by omega)
   obtain ⟨t1, w1, u1⟩ := jbt o1 s (by omega)
   obtain ⟨t2, w2, u2⟩ := jbt o2 s (by omega)
   obtain ⟨t3, w3, u3⟩ := jbt o3 s (by omega)
   obtain ⟨b1, e2⟩ := eqx (ilt 0 (.ofNat i))
   obtain ⟨b2, e3⟩ := eqx (ieq kd 6)
   obtain ⟨b3, e4⟩ := eqx (ieq (.ofNat i) (.ofNat (l.length - 1)))
   have cc : b2 = false ∨ (b2 = true ∧ b3 = false) ∨ (b2 = true ∧ b3 = true) := by cases b2 <;> cases b3 <;> simp
   cases b1
   all_goals rcases cc with rfl | ⟨rfl, rfl⟩ | ⟨rfl, rfl⟩
   all_goals
    refine jah ?_
    repeat ((first | refine jab rfl ?_ | refine jam rfl ?_); (try simp only [go_sem, h1, h3, h37, h38, h39, e1, hix, hl1, hst, hl2, e2, k0, k7, e3, lL, jae, q1, e4, y1, y2, y3, hr, w0, w1, w2, w3, a1]); fail_if_success refine stk ?_)
    rw [(by omega : e + (j + 1) + 29 = e + j + 30)]
    first
     | (refine rzM (ihj (i + 1) (by omega) (out := t0) hX hX2 hX3 (hY.grow hG) (hP.grow hG) (hL.grow hG) hgo1 hr2 (by omega) (by omega) he hH2 hq2 (by simp only [go_sem, h1]) ?_ (by simp only [go_sem, h37]) (by simp only [go_sem, h38]) (by simp only [go_sem])) ?_; (focus (simp only [go_sem]; done)))
     | (refine rzM (ihj (i + 1) (by omega) (out := t1) hX hX2 hX3 (hY.grow hG) (hP.grow hG) (hL.grow hG) hgo1 hr2 (by omega) (by omega) he hH2 hq2 (by simp only [go_sem, h1]) ?_ (by simp only [go_sem, h37]) (by simp only [go_sem, h38]) (by simp only [go_sem])) ?_; (focus (simp only [go_sem]; done)))
     | (refine rzM (ihj (i + 1) (by omega) (out := t2) hX hX2 hX3 (hY.grow hG) (hP.grow hG) (hL.grow hG) hgo1 hr2 (by omega) (by omega) he hH2 hq2 (by simp only [go_sem, h1]) ?_ (by simp only [go_sem, h37]) (by simp only [go_sem, h38]) (by simp only [go_sem])) ?_; (focus (simp only [go_sem]; done)))
     | (refine rzM (ihj (i + 1) (by omega) (out := t3) hX hX2 hX3 (hY.grow hG) (hP.grow hG) (hL.grow hG) hgo1 hr2 (by omega) (by omega) he hH2 hq2 (by simp only [go_sem, h1]) ?_ (by simp only [go_sem, h37]) (by simp only [go_sem, h38]) (by simp only [go_sem])) ?_; (focus (simp only [go_sem]; done)))
    rintro x r' μ' ⟨g0, g1, g2⟩
    exact ⟨g0, hG.trans g1, g2⟩
theorem bd_tf (r : Rg) : jb0 pZ (aev pZ r) 79 #[(0, .const (.string ⟨List.toArray [35, 102]⟩)), (1, .const (.string ⟨List.toArray [35, 116]⟩))] = some (.agg #[.string ⟨List.toArray [35, 102]⟩, .string ⟨List.toArray [35, 116]⟩]) := by kernel_rfl
theorem ix_tf0 {ρ : Operand → Value} {x y : Operand} (hx : ρ x = .agg #[.string ⟨List.toArray [35, 102]⟩, .string ⟨List.toArray [35, 116]⟩]) (hy : ρ y = .int .i64 0) : jaX pZ ρ 79 x y = some (.string ⟨List.toArray [35, 102]⟩) := by
 unfold jaX
 simp only [hx, hy, show (0 : Int) = .ofNat 0 from rfl, Tryz.underlying79, jkb]
 show (_ : Option Value) = _
 kernel_rfl
theorem ix_tf1 {ρ : Operand → Value} {x y : Operand} (hx : ρ x = .agg #[.string ⟨List.toArray [35, 102]⟩, .string ⟨List.toArray [35, 116]⟩]) (hy : ρ y = .int .i64 1) : jaX pZ ρ 79 x y = some (.string ⟨List.toArray [35, 116]⟩) := by
 unfold jaX
 simp only [hx, hy, show (1 : Int) = .ofNat 1 from rfl, Tryz.underlying79, jkb]
 show (_ : Option Value) = _
 kernel_rfl
theorem text5_ex : ∀ (n : Nat) {deep : Nat}, deep + n ≤ 2000000 → ∀ {d : Dat} {cs : List Value} {m r : Int} {X : XT} {g : Nat} {μ : Mem}, Sm n d → jb1 X → ja7 X → jb7 X → Lay μ → LayP μ → IsD μ d cs → jby n deep d m = r → 0 ≤ r → -1 ≤ m → m ≤ 3000 → fu n ≤ g →
  ∃ s μ', aFun pZ (jaj pZ X S0 g) 14 [.agg cs.toArray] μ = some (.string s, μ') ∧ ((bys s).length : Int) + 10 ≤ 20000 * (m - r) ∧ Grow μ μ' := by
 intro n
 induction n with
 | zero => intro deep _ d cs m r X g μ hS; exact hS.elim
 | succ n ih =>
   intro deep hdn d cs m r X g μ hS hX hX2 hX3 hY hP hD hgo hr hm hm3 hg
   rw [fu_succ] at hg
   obtain ⟨k, hk, rfl⟩ : ∃ k, fu n + 3999900 ≤ k ∧ g = k + 100 := ⟨g - 100, by omega, by omega⟩
   obtain ⟨kd, n', fl, f, neg, ls, s, l⟩ := d
   obtain ⟨_, hsl, hll, hsub⟩ : ls.length ≤ 2000000 ∧ (bys s).length ≤ 2000000 ∧ l.length ≤ 2000000 ∧ ∀ x ∈ l, Sm n x := hS
   obtain ⟨g4, _, gk, hgo, hm1⟩ := right_ok hgo hr
   have hr1 : r ≤ m - 1 := by rw [← hgo]; exact (goR_le (jdZ n (deep + 1)) l (m - 1) (by omega)).2
   obtain ⟨kt1, kt2, kt3, kt4⟩ := kind_text gk
   have hf := bits_lt hD rfl
   obtain ⟨vl, vi, rfl, _, hU, hL⟩ := jdh.1 hD
   have h1 := jey μ 44 [.int .i64 kd, .int .i64 n', .bool fl, .float .f64 f, .bool neg, vl, .string s, vi]
   have hG1 := ja5 μ (obL 44 [.int .i64 kd, .int .i64 n', .bool fl, .float .f64 f, .bool neg, vl, .string s, vi])
   obtain ⟨μ1, hμ1⟩ := exq (⟨μ.obs.set μ.next (obL 44 [.int .i64 kd, .int .i64 n', .bool fl, .float .f64 f, .bool neg, vl, .string s, vi]), μ.next + 1⟩ : Mem)
   rw [← hμ1] at h1 hG1
   have n1 : μ1.next = μ.next + 1 := by rw [hμ1]
   obtain ⟨c0, c1, _, _, _, _, c6, c7⟩ := Has.c8 h1
   have hN := has_N h1
   obtain ⟨k0, e0⟩ := eqx (ieq kd 0)
   obtain ⟨k1, e1⟩ := eqx (ieq kd 1)
   obtain ⟨k2, e2⟩ := eqx (ieq kd 2)
   obtain ⟨k3, e3⟩ := eqx (ieq kd 3)
   obtain ⟨k4, e4⟩ := eqx (ieq kd 4)
   obtain ⟨k7, e7⟩ := eqx (ieq kd 7)
   have key : EndsF (aFun pZ (jaj pZ X S0 (k + 100)) 14 [.agg #[.int .i64 kd, .int .i64 n', .bool fl, .float .f64 f, .bool neg, vl, .string s, vi]] μ) fun w μ' => ∃ s, w = .string s ∧ ((bys s).length : Int) + 10 ≤ 20000 * (m - r) ∧ Grow μ μ' := by
    refine jaf Tryz.func14 rfl rfl (nbl rfl) ?_
    simp only [go_sem, Tryz.ntmps14]
    refine jaa rfl ?_
    refine jaa rfl ?_
    simp only [go_sem, jf5, ← hμ1]
    cases k0 with
    | true =>
      obtain ⟨t, μ2, r1, l1, G2⟩ := text4_ex (X := X) (fl := fl) (neg := neg) (g := k + 92) hX hX2 hX3 (hY.grow hG1) (hP.grow hG1) hf (hU.grow hG1) (jjT g4) (by omega)
      repeat ((first | refine jab rfl ?_ | refine jam rfl ?_); (try simp only [go_sem, c0, hN, e0, r1]); fail_if_success refine stk ?_)
      exact jad ⟨rfl, .string t, by simp only [go_sem, Tryz.results14], t, rfl, by omega, hG1.trans G2⟩
    | false =>
    cases k1 with
    | true =>
      rcases kt1 e0 e1 with rfl | rfl
      ·skip
       repeat ((first | refine jab rfl ?_ | refine jam rfl ?_); (try simp only [go_sem, c0, c1, e0, e1, bd_tf, ix_tf0, ix_tf1]); fail_if_success refine stk ?_)
       refine jad ?_
       refine ⟨rfl, .string ⟨List.toArray [35, 102]⟩, ?_, _, rfl, (by show ((2 : Nat) : Int) + 10 ≤ _; omega), hG1⟩
       simp only [go_sem, Tryz.results14]
      ·skip
       repeat ((first | refine jab rfl ?_ | refine jam rfl ?_); (try simp only [go_sem, c0, c1, e0, e1, bd_tf, ix_tf0, ix_tf1]); fail_if_success refine stk ?_)
       refine jad ?_
       refine ⟨rfl, .string ⟨List.toArray [35, 116]⟩, ?_, _, rfl, (by show ((2 : Nat) : Int) + 10 ≤ _; omega), hG1⟩
       simp only [go_sem, Tryz.results14]
    | false =>
    cases k2 with
    | true =>
      obtain ⟨z1, z2⟩ := kt2 e0 e1 e2
      obtain ⟨q, rfl⟩ : ∃ q : Nat, n' = .ofNat q := ⟨n'.toNat, (Int.toNat_of_nonneg z1).symm⟩
      have z2 : (q : Int) ≤ 1114111 := z2
      obtain ⟨t, μ2, r1, l1, G2⟩ := char_ex (n := q) (by omega) (X := X) (g := k + 88) (μ := μ1) (by omega)
      repeat ((first | refine jab rfl ?_ | refine jam rfl ?_); (try simp only [go_sem, c0, c1, e0, e1, e2, r1]); fail_if_success refine stk ?_)
      exact jad ⟨rfl, .string t, by simp only [go_sem, Tryz.results14], t, rfl, by omega, hG1.trans G2⟩
    | false =>
    cases k3 with
    | true =>
      have z1 := kt3 e0 e1 e2 e3
      obtain ⟨t, μ2, r1, l1, G2⟩ := quote_ex hsl (X := X) (g := k + 86) (μ := μ1) (by omega)
      repeat ((first | refine jab rfl ?_ | refine jam rfl ?_); (try simp only [go_sem, c0, c6, e0, e1, e2, e3, r1]); fail_if_success refine stk ?_)
      exact jad ⟨rfl, .string t, by simp only [go_sem, Tryz.results14], t, rfl, by omega, hG1.trans G2⟩
    | false =>
    cases k4 with
    | true =>
      have z1 := kt4 e0 e1 e2 e3 e4
      repeat ((first | refine jab rfl ?_ | refine jam rfl ?_); (try simp only [go_sem, c0, c6, e0, e1, e2, e3, e4]); fail_if_success refine stk ?_)
      exact jad ⟨rfl, .string s, by simp only [go_sem, Tryz.results14], s, rfl, by omega, hG1⟩
    | false =>
      have lL := (hL.grow hG1).len
      cases k7
      all_goals
       repeat ((first | refine jab rfl ?_ | refine jam rfl ?_); (try simp only [go_sem, c0, c7, e0, e1, e2, e3, e4, e7, lL, jae]); fail_if_success refine stk ?_)
       rw [(by omega : k + 93 = (k + 63 - l.length) + l.length + 30)]
       first
        | (refine rzM (jg1 (n := n) (deep := deep) (m0 := m - 1) (q := μ.next) hll hr (by omega) (fun hm hX hX2 hX3 hY hP hD h0 h1 h2 h3 hg => ih (by omega) (hsub _ hm) hX hX2 hX3 hY hP hD h0 h1 h2 h3 hg) l.length 0 (rzT _) (m := m - 1) (out := ⟨List.toArray [40]⟩) hX hX2 hX3 (hY.grow hG1) (hP.grow hG1) (hL.grow hG1) hgo (by omega) (Int.le_refl _) (by show ((1 : Nat) : Int) ≤ _; omega) (by omega) h1 (by omega) (by simp only [go_sem]) ?_ (by simp only [go_sem]) (by simp only [go_sem]) (by simp only [go_sem]; try rfl)) ?_; (focus (simp only [go_sem]; done)))
        | (refine rzM (jg1 (n := n) (deep := deep) (m0 := m - 1) (q := μ.next) hll hr (by omega) (fun hm hX hX2 hX3 hY hP hD h0 h1 h2 h3 hg => ih (by omega) (hsub _ hm) hX hX2 hX3 hY hP hD h0 h1 h2 h3 hg) l.length 0 (rzT _) (m := m - 1) (out := ⟨List.toArray [35, 40]⟩) hX hX2 hX3 (hY.grow hG1) (hP.grow hG1) (hL.grow hG1) hgo (by omega) (Int.le_refl _) (by show ((2 : Nat) : Int) ≤ _; omega) (by omega) h1 (by omega) (by simp only [go_sem]) ?_ (by simp only [go_sem]) (by simp only [go_sem]) (by simp only [go_sem]; try rfl)) ?_; (focus (simp only [go_sem]; done)))
       rintro x rg μ2 ⟨rfl, G2, tm', t, rfl, q3, lt⟩
       obtain ⟨u, hu, lu⟩ := jbt t ⟨#[41]⟩ (by show _ + 1 < _; omega)
       have lu : (bys u).length = (bys t).length + 1 := lu
       simp only [go_sem]
       repeat ((first | refine jab rfl ?_ | refine jam rfl ?_); (try simp only [go_sem, q3, hu]); fail_if_success refine stk ?_)
       refine jad ?_
       refine ⟨rfl, .string u, ?_, u, rfl, (by show ((bys u).length : Int) + 10 ≤ _; omega), hG1.trans G2⟩
       simp only [go_sem, Tryz.results14]
   obtain ⟨w, μ', h1, s, rfl, h2⟩ := key
   exact ⟨s, μ', h1, h2⟩
@[go_sem] def gg6 {X ev} := gC X ev Tryz.func6 rfl rfl
theorem ins_loop {l : List Ins} {v : Value} (hl : l.length ≤ 40000) : ∀ (j i : Nat), i + j = l.length → ∀ {X : XT} {e : Nat} {tm : T Value} {μ : Mem}, Rw 3 IsI μ l v →
  jac tm 77 = v → jac tm 78 = .int .i64 (.ofNat l.length) → jac tm 79 = .int .i64 (.ofNat i) →
  LpC X (e + j + 60) Tryz.f6 1 129 tm μ fun x r μ' => Grow μ μ' ∧ ∃ tm', r = ⟨129, tm', [], none⟩ ∧ ((x = .exit 2 ∧ jac tm' 1 = jac tm 1 ∧ jac tm' 3 = jac tm 3 ∧ jac tm' 29 = jac tm 29 ∧ jac tm' 30 = jac tm 30 ∧ jac tm' 31 = jac tm 31) ∨ (x = .ret ∧ jac tm' 2 = .bool false)) := by
 intro j
 induction j with
 | zero =>
   intro i hi X e tm μ hL h77 h78 h79
   have hi : i = l.length := hi
   have e1 : ilt (.ofNat i) (.ofNat l.length) = false := dF (jao _ _) (by omega)
   refine jah ?_
   repeat ((first | refine jab rfl ?_ | refine jam rfl ?_); (try simp only [go_sem, h77, h78, h79, e1]); fail_if_success refine stk ?_)
   refine ⟨Grow.refl _, _, rfl, .inl ⟨by trivial, ?_, ?_, ?_, ?_, ?_⟩⟩
   all_goals simp only [go_sem]
 | succ j ihj =>
   intro i hi X e tm μ hL h77 h78 h79
   have hlt : i < l.length := by omega
   have e1 : ilt (.ofNat i) (.ofNat l.length) = true := dT (jao _ _) hlt
   have a1 : jak .i64 (Int.add (.ofNat i) 1) = .ofNat (i + 1) := jaE i 1 (by omega)
   obtain ⟨bi, bo, bc, cs, hv, hb, hH, hI⟩ := hL.at (rzK hlt)
   obtain ⟨x, hx⟩ := exq (l[i]'hlt)
   rw [← hx] at hI
   have hI : cs = [.int .i64 x.op, .int .i64 x.a, .int .i64 x.b] := hI
   have hix : ∀ r x y, aev pZ r x = v → aev pZ r y = .int .i64 (.ofNat i) → jan pZ (aev pZ r) 34 x y = some (.pointer (some ⟨bi, bo + 3 * i, none⟩)) := fun r x y g1 g2 => ix_w Tryz.underlying34 i_Ins rfl hlt (g1.trans hv) g2
   have hl1 := Has.ld_I hH (by rw [hI]; rfl)
   obtain ⟨μ1, hμ1⟩ := exq (putL ⟨μ.obs.set μ.next (obIs zI3), μ.next + 1⟩ μ.next 0 cs : Mem)
   have hst := st_Ins (o := 0) (blk_Ins (μ := μ) (l := zI3)) (by omega) (show cs.length = 3 by rw [hI]; rfl) (by rw [hI]; rfl)
   have hG1 : Grow μ μ1 := by rw [hμ1]; exact (ja5 μ _).put_new (rzN _)
   have hH1 : Has μ1 μ.next 0 cs := by
    rw [hμ1]
    exact Has.of_put (vs := cs) blk_Ins (by rw [hI]; exact rzN _)
   rw [hI] at hH1
   obtain ⟨c0, c1, c2⟩ := Has.c3 hH1
   rw [← hμ1] at hst
   have hn : ∀ (n : Int) (m : Mem), aFun pZ (jaj pZ X S0 (e + (j + 1) + 52)) 12 [.int .i64 n] m = some (.bool (numB n), m) := fun n m => num_eq (by omega)
   obtain ⟨b0, e2⟩ := eqx (numB x.op)
   obtain ⟨b1, e3⟩ := eqx (numB x.a)
   obtain ⟨b2, e4⟩ := eqx (numB x.b)
   have cc : (b0 = true ∧ b1 = true ∧ b2 = true) ∨ b0 = false ∨ (b0 = true ∧ b1 = false) ∨ (b0 = true ∧ b1 = true ∧ b2 = false) := by cases b0 <;> cases b1 <;> cases b2 <;> simp
   rcases cc with ⟨rfl, rfl, rfl⟩ | rfl | ⟨rfl, rfl⟩ | ⟨rfl, rfl, rfl⟩
   ·refine jah ?_
    repeat ((first | refine jab rfl ?_ | refine jam rfl ?_); (try simp only [go_sem, h77, h78, h79, e1, hix, hl1, hst, c0, c1, c2, hn, e2, e3, e4, a1]); fail_if_success refine stk ?_)
    rw [(by omega : e + (j + 1) + 59 = e + j + 60)]
    refine rzM (ihj (i + 1) (by omega) (hL.grow hG1 fun _ _ h => h) (by simp only [go_sem, h77]) (by simp only [go_sem, h78]) (by simp only [go_sem])) ?_
    simp only [go_sem]
    rintro x' r μ' ⟨g1, g2⟩
    exact ⟨hG1.trans g1, g2⟩
   all_goals
    refine jah ?_
    repeat ((first | refine jab rfl ?_ | refine jam rfl ?_); (try simp only [go_sem, h77, h78, h79, e1, hix, hl1, hst, c0, c1, c2, hn, e2, e3, e4]); fail_if_success refine stk ?_)
    refine jad ?_
    exact ⟨hG1, _, rfl, .inr ⟨by trivial, by simp only [go_sem]⟩⟩
theorem prc_loop {l : List Prc} {v : Value} (hl : l.length ≤ 200) : ∀ (j i : Nat), i + j = l.length → ∀ {X : XT} {e m : Nat} {tm : T Value} {μ : Mem}, IsPs μ l v → 41000 ≤ e → m ≤ 40000 →
  jac tm 3 = .int .i64 (.ofNat m) → jac tm 29 = v → jac tm 30 = .int .i64 (.ofNat l.length) → jac tm 31 = .int .i64 (.ofNat i) →
  LpC X (e + j + 60) Tryz.f6 0 129 tm μ fun x r μ' => Grow μ μ' ∧ ∃ tm', r = ⟨129, tm', [], none⟩ ∧ ((x = .exit 0 ∧ jac tm' 1 = jac tm 1) ∨ (x = .ret ∧ jac tm' 2 = .bool false)) := by
 intro j
 induction j with
 | zero =>
   intro i hi X e m tm μ hL he hm h3 h29 h30 h31
   have hi : i = l.length := hi
   have e1 : ilt (.ofNat i) (.ofNat l.length) = false := dF (jao _ _) (by omega)
   refine jah ?_
   repeat ((first | refine jab rfl ?_ | refine jam rfl ?_); (try simp only [go_sem, h30, h31, e1]); fail_if_success refine stk ?_)
   refine ⟨Grow.refl _, _, rfl, .inl ⟨by trivial, ?_⟩⟩
   simp only [go_sem]
 | succ j ihj =>
   intro i hi X e m tm μ hL he hm h3 h29 h30 h31
   have hlt : i < l.length := by omega
   have e1 : ilt (.ofNat i) (.ofNat l.length) = true := dT (jao _ _) hlt
   have a1 : jak .i64 (Int.add (.ofNat i) 1) = .ofNat (i + 1) := jaE i 1 (by omega)
   have a2 : jak .i64 (Int.sub 40000 (.ofNat m)) = .ofNat (40000 - m) := jaV 40000 m (by omega) (by omega)
   obtain ⟨bi, bo, bc, cs, hv, hb, hH, hP⟩ := hL.at (rzK hlt)
   obtain ⟨p, hp⟩ := exq (l[i]'hlt)
   rw [← hp] at hP
   have h7 := hP.seven
   have hix : ∀ r x y, aev pZ r x = v → aev pZ r y = .int .i64 (.ofNat i) → jan pZ (aev pZ r) 24 x y = some (.pointer (some ⟨bi, bo + 7 * i, none⟩)) := fun r x y g1 g2 => ix_w Tryz.underlying24 i_Pr rfl hlt (g1.trans hv) g2
   have hl1 := Has.ld_P hH h7.1
   obtain ⟨μ1, hμ1⟩ := exq (putL ⟨μ.obs.set μ.next (obPr zP7), μ.next + 1⟩ μ.next 0 cs : Mem)
   have hst := st_P (o := 0) (blk_P (μ := μ) (l := zP7)) (by omega) h7.1 h7.2
   have hG1 : Grow μ μ1 := by rw [hμ1]; exact (ja5 μ _).put_new (rzN _)
   have hH1 : Has μ1 μ.next 0 cs := by
    rw [hμ1]
    exact Has.of_put (vs := cs) blk_P (by rw [h7.1]; exact rzN _)
   obtain ⟨w, hcs, hco, _, hI⟩ := hP
   rw [hcs] at hH1
   obtain ⟨c0, c1, c2, c3, c4, c5, c6⟩ := Has.c7 hH1
   rw [← hμ1] at hst
   have hI1 := hI.grow hG1 fun _ _ h => h
   have lI := Rw.len Tryz.underlying34 hI1
   have lS := jaU p.nm
   have hn : ∀ (n : Int) (m : Mem), aFun pZ (jaj pZ X S0 (e + (j + 1) + 51)) 12 [.int .i64 n] m = some (.bool (numB n), m) := fun n m => num_eq (by omega)
   obtain ⟨b0, e2⟩ := eqx (ilt (.ofNat (40000 - m)) (.ofNat p.co.length))
   obtain ⟨b1, e3⟩ := eqx (ilt 100 (.ofNat (bys p.nm).length))
   obtain ⟨b2, e4⟩ := eqx (numB p.pa)
   obtain ⟨b3, e5⟩ := eqx (numB p.sl)
   obtain ⟨b4, e6⟩ := eqx (numB p.de)
   obtain ⟨b5, e7⟩ := eqx (numB p.fr)
   have cc : (b0 = false ∧ b1 = false ∧ b2 = true ∧ b3 = true ∧ b4 = true ∧ b5 = true) ∨ b0 = true ∨ (b0 = false ∧ b1 = true) ∨ (b0 = false ∧ b1 = false ∧ b2 = false) ∨ (b0 = false ∧ b1 = false ∧ b2 = true ∧ b3 = false) ∨ (b0 = false ∧ b1 = false ∧ b2 = true ∧ b3 = true ∧ b4 = false) ∨ (b0 = false ∧ b1 = false ∧ b2 = true ∧ b3 = true ∧ b4 = true ∧ b5 = false) := by cases b0 <;> cases b1 <;> cases b2 <;> cases b3 <;> cases b4 <;> cases b5 <;> simp
   rcases cc with ⟨rfl, rfl, rfl, rfl, rfl, rfl⟩ | rfl | ⟨rfl, rfl⟩ | ⟨rfl, rfl, rfl⟩ | ⟨rfl, rfl, rfl, rfl⟩ | ⟨rfl, rfl, rfl, rfl, rfl⟩ | ⟨rfl, rfl, rfl, rfl, rfl, rfl⟩
   ·have hcl : p.co.length ≤ 40000 - m := by
     rw [jao, decide_eq_false_iff_not] at e2
     omega
    have a3 : jak .i64 (Int.add (.ofNat m) (.ofNat p.co.length)) = .ofNat (m + p.co.length) := jaE m p.co.length (by omega)
    refine jah ?_
    repeat ((first | refine jab rfl ?_ | refine jam rfl ?_); (try simp only [go_sem, h3, h29, h30, h31, e1, hix, hl1, hst, c0, c1, c2, c3, c4, c5, c6, lI, lS, jae, a2, hn, e2, e3, e4, e5, e6, e7, a3]); fail_if_success refine stk ?_)
    rw [(by omega : e + (j + 1) + 50 = (e + j - 9 - p.co.length) + p.co.length + 60)]
    refine rzM (ins_loop (v := w) (l := p.co) (by omega) p.co.length 0 (rzT _) hI1 (by simp only [go_sem]) (by simp only [go_sem]) (by simp only [go_sem]; try rfl)) ?_
    simp only [go_sem]
    rintro x r μ' ⟨g1, tm', rfl, ⟨rfl, k1, k3, k29, k30, k31⟩ | ⟨rfl, q1⟩⟩
    ·simp only [go_sem]
     repeat ((first | refine jab rfl ?_ | refine jam rfl ?_); (try simp only [go_sem, k31, h31, a1]); fail_if_success refine stk ?_)
     rw [(by omega : e + (j + 1) + 59 = e + j + 60)]
     have hG := hG1.trans g1
     refine rzM (ihj (i + 1) (by omega) (m := m + p.co.length) (hL.grow hG fun _ _ h => h.grow hG) he (by omega) (by simp only [go_sem, k3]) (by simp only [go_sem, k29, h29]) (by simp only [go_sem, k30, h30]) (by simp only [go_sem])) ?_
     simp only [go_sem]
     rintro x' r' μ2 ⟨g2, tm2, g3, g4⟩
     refine ⟨hG.trans g2, tm2, g3, g4.imp (fun h => ⟨h.1, h.2.trans k1⟩) fun h => h⟩
    ·simp only [jbi]
     exact ⟨hG1.trans g1, _, rfl, .inr ⟨by trivial, q1⟩⟩
   all_goals
    refine jah ?_
    repeat ((first | refine jab rfl ?_ | refine jam rfl ?_); (try simp only [go_sem, h3, h29, h30, h31, e1, hix, hl1, hst, c0, c1, c2, c3, c4, c5, c6, lI, lS, jae, a2, hn, e2, e3, e4, e5, e6, e7]); fail_if_success refine stk ?_)
    refine jad ?_
    exact ⟨hG1, _, rfl, .inr ⟨by trivial, by simp only [go_sem]⟩⟩
theorem con_loop {n : Nat} (hn : n ≤ 2000000) {l : List Dat} {v : Value} (hl : l.length ≤ 200) (hS : ∀ d ∈ l, Sm n d) : ∀ (j i : Nat), i + j = l.length → ∀ {X : XT} {e : Nat} {tm : T Value} {μ : Mem}, jbc X → ja7 X → jb7 X → Lay μ → LayP μ → jb1 X → IsL μ l v → fu n + 1000 ≤ e →
  jac tm 102 = v → jac tm 103 = .int .i64 (.ofNat l.length) → jac tm 104 = .int .i64 (.ofNat i) →
  LpC X (e + j + 60) Tryz.f6 2 129 tm μ fun x r μ' => Grow μ μ' ∧ ∃ tm', r = ⟨129, tm', [], none⟩ ∧ ((x = .exit 4 ∧ jac tm' 1 = jac tm 1) ∨ (x = .ret ∧ jac tm' 2 = .bool false)) := by
 intro j
 induction j with
 | zero =>
   intro i hi X e tm μ hX1 hX2 hX3 hY hP hX hL he h102 h103 h104
   have hi : i = l.length := hi
   have e1 : ilt (.ofNat i) (.ofNat l.length) = false := dF (jao _ _) (by omega)
   refine jah ?_
   repeat ((first | refine jab rfl ?_ | refine jam rfl ?_); (try simp only [go_sem, h103, h104, e1]); fail_if_success refine stk ?_)
   refine ⟨Grow.refl _, _, rfl, .inl ⟨by trivial, ?_⟩⟩
   simp only [go_sem]
 | succ j ihj =>
   intro i hi X e tm μ hX1 hX2 hX3 hY hP hX hL he h102 h103 h104
   have hlt : i < l.length := by omega
   have e1 : ilt (.ofNat i) (.ofNat l.length) = true := dT (jao _ _) hlt
   have a1 : jak .i64 (Int.add (.ofNat i) 1) = .ofNat (i + 1) := jaE i 1 (by omega)
   obtain ⟨bi, bo, bc, cs, hv, hb, hH, hD⟩ := hL.at (rzK hlt)
   have hix : ∀ r x y, aev pZ r x = v → aev pZ r y = .int .i64 (.ofNat i) → jan pZ (aev pZ r) 25 x y = some (.pointer (some ⟨bi, bo + 8 * i, none⟩)) := fun r x y g1 g2 => ix_D hlt (g1.trans hv) g2
   have hl1 := Has.ld_D hH hD.eight.1
   obtain ⟨μ1, hμ1⟩ := exq (putL ⟨μ.obs.set μ.next (obDt zD8), μ.next + 1⟩ μ.next 0 cs : Mem)
   have hst := st_D (o := 0) (jkn (μ := μ) (l := zD8)) (by omega) hD.eight.1 hD.eight.2
   have hG1 : Grow μ μ1 := by rw [hμ1]; exact (ja5 μ _).put_new (rzN _)
   have hH1 : Has μ1 μ.next 0 cs := by
    rw [hμ1]
    exact Has.of_put (vs := cs) jkn (by rw [hD.eight.1]; omega)
   have hn1 : μ.next < μ1.next := by rw [hμ1, jcd]; exact rzQ _
   have hl2 := Has.ld_D hH1 hD.eight.1
   rw [← hμ1] at hst
   obtain ⟨μ2, r1, G2⟩ := Right_eq hn (X := X) (g := e + (j + 1) + 52) (hS _ (List.getElem_mem hlt)) hX1 hX2 (hY.grow hG1) hX (hD.grow hG1) (by omega)
   have hl3 := Has.ld_D (hH1.keep (G2.2 _ hn1)) hD.eight.1
   have G12 := hG1.trans G2
   obtain ⟨b0, e2⟩ := eqx (ilt (jby n 0 (l[i]'hlt) 3000) 0)
   rw [e2] at r1
   cases b0 with
   | true =>
     refine jah ?_
     repeat ((first | refine jab rfl ?_ | refine jam rfl ?_); (try simp only [go_sem, h102, h103, h104, e1, hix, hl1, hst, hl2, r1]); fail_if_success refine stk ?_)
     refine jad ?_
     exact ⟨G12, _, rfl, .inr ⟨by trivial, by simp only [go_sem]⟩⟩
   | false =>
     rw [jaZ, decide_eq_false_iff_not] at e2
     obtain ⟨s, μ3, r2, ls, G3⟩ := text5_ex n (deep := 0) (m := 3000) (X := X) (g := e + (j + 1) + 52) (by omega) (hS _ (List.getElem_mem hlt)) hX hX2 hX3 (hY.grow G12) (hP.grow G12) (hD.grow G12) rfl (by omega) (by decide) (by decide) (by omega)
     have G13 := G12.trans G3
     have lS := jaU s
     obtain ⟨b1, e3⟩ := eqx (ilt 20000 (.ofNat (bys s).length))
     cases b1 with
     | true =>
       refine jah ?_
       repeat ((first | refine jab rfl ?_ | refine jam rfl ?_); (try simp only [go_sem, h102, h103, h104, e1, hix, hl1, hst, hl2, r1, hl3, r2, lS, jae, e3]); fail_if_success refine stk ?_)
       refine jad ?_
       exact ⟨G13, _, rfl, .inr ⟨by trivial, by simp only [go_sem]⟩⟩
     | false =>
       refine jah ?_
       repeat ((first | refine jab rfl ?_ | refine jam rfl ?_); (try simp only [go_sem, h102, h103, h104, e1, hix, hl1, hst, hl2, r1, hl3, r2, lS, jae, e3, a1]); fail_if_success refine stk ?_)
       rw [(by omega : e + (j + 1) + 59 = e + j + 60)]
       refine rzM (ihj (i + 1) (by omega) hX1 hX2 hX3 (hY.grow G13) (hP.grow G13) hX (hL.grow G13) he (by simp only [go_sem, h102]) (by simp only [go_sem, h103]) (by simp only [go_sem])) ?_
       simp only [go_sem]
       rintro x' r μ' ⟨g1, g2⟩
       exact ⟨G13.trans g1, g2⟩
theorem glo_loop {l : List ByteArray} {v : Value} (hl : l.length ≤ 200) : ∀ (j i : Nat), i + j = l.length → ∀ {X : XT} {e : Nat} {tm : T Value} {μ : Mem}, IsSs μ l v →
  jac tm 119 = v → jac tm 120 = .int .i64 (.ofNat l.length) → jac tm 121 = .int .i64 (.ofNat i) →
  LpC X (e + j + 60) Tryz.f6 3 129 tm μ fun x r μ' => μ' = μ ∧ ∃ tm', r = ⟨129, tm', [], none⟩ ∧ (x = .exit 6 ∨ (x = .ret ∧ jac tm' 2 = .bool false)) := by
 intro j
 induction j with
 | zero =>
   intro i hi X e tm μ hL h119 h120 h121
   have hi : i = l.length := hi
   have e1 : ilt (.ofNat i) (.ofNat l.length) = false := dF (jao _ _) (by omega)
   refine jah ?_
   repeat ((first | refine jab rfl ?_ | refine jam rfl ?_); (try simp only [go_sem, h120, h121, e1]); fail_if_success refine stk ?_)
   exact ⟨by trivial, _, rfl, .inl (by trivial)⟩
 | succ j ihj =>
   intro i hi X e tm μ hL h119 h120 h121
   have hlt : i < l.length := by omega
   have e1 : ilt (.ofNat i) (.ofNat l.length) = true := dT (jao _ _) hlt
   have a1 : jak .i64 (Int.add (.ofNat i) 1) = .ofNat (i + 1) := jaE i 1 (by omega)
   obtain ⟨bi, bo, bc, cs, hv, hb, hH, hS⟩ := hL.at (rzK hlt)
   obtain ⟨s, hs⟩ := exq (l[i]'hlt)
   rw [← hs] at hS
   have hS : cs = [.string s] := hS
   rw [hS] at hH
   have c0 := Has.cell hH 0 (by simp)
   have c0 : jal μ bi (bo + 1 * i) = some (.string s) := c0
   have hix : ∀ r x y, aev pZ r x = v → aev pZ r y = .int .i64 (.ofNat i) → jan pZ (aev pZ r) 26 x y = some (.pointer (some ⟨bi, bo + 1 * i, none⟩)) := fun r x y g1 g2 => ix_w Tryz.underlying26 jkb rfl hlt (g1.trans hv) g2
   have lS := jaU s
   obtain ⟨b0, e2⟩ := eqx (ilt 100 (.ofNat (bys s).length))
   cases b0 with
   | true =>
     refine jah ?_
     repeat ((first | refine jab rfl ?_ | refine jam rfl ?_); (try simp only [go_sem, h119, h120, h121, e1, hix, c0, lS, jae, e2]); fail_if_success refine stk ?_)
     refine jad ?_
     exact ⟨by trivial, _, rfl, .inr ⟨by trivial, by simp only [go_sem]⟩⟩
   | false =>
     refine jah ?_
     repeat ((first | refine jab rfl ?_ | refine jam rfl ?_); (try simp only [go_sem, h119, h120, h121, e1, hix, c0, lS, jae, e2, a1]); fail_if_success refine stk ?_)
     rw [(by omega : e + (j + 1) + 59 = e + j + 60)]
     exact ihj (i + 1) (by omega) hL (by simp only [go_sem, h119]) (by simp only [go_sem, h120]) (by simp only [go_sem])
theorem jjU {n : Nat} (hn : n ≤ 2000000) {ps : List Prc} {ds : List Dat} {gs : List ByteArray} {cs : List Value} {X : XT} {g : Nat} {μ : Mem} (hX1 : jbc X) (hX2 : ja7 X) (hX3 : jb7 X) (hY : Lay μ) (hP : LayP μ) (hX : jb1 X) (hC : IsC μ ps ds gs cs) (hp : ps.length ≤ 200) (hd : ds.length ≤ 200) (hgl : gs.length ≤ 200) (hS : ∀ d ∈ ds, Sm n d) (hg : fu n + 2000 ≤ g) :
  ∃ b μ', aFun pZ (jaj pZ X S0 g) 6 [.agg cs.toArray] μ = some (.bool b, μ') ∧ Grow μ μ' := by
 obtain ⟨k, hk, rfl⟩ : ∃ k, fu n + 1900 ≤ k ∧ g = k + 100 := ⟨g - 100, by omega, by omega⟩
 have hfu := fu_ge n
 obtain ⟨vp, vd, vg, rfl, _, _, h4, h5, h6⟩ := hC
 have h1 := jey μ 28 [vp, vd, vg]
 have hG := ja5 μ (obL 28 [vp, vd, vg])
 obtain ⟨μ1, hμ1⟩ := exq (⟨μ.obs.set μ.next (obL 28 [vp, vd, vg]), μ.next + 1⟩ : Mem)
 rw [← hμ1] at h1 hG
 have n1 : μ1.next = μ.next + 1 := by rw [hμ1]
 obtain ⟨c0, c1, c2⟩ := Has.c3 h1
 have l4 := Rw.len Tryz.underlying24 h4
 have l5 := h5.len
 have l6 := Rw.len Tryz.underlying26 h6
 have e0 : ilt 4000 (.ofNat ps.length) = false := dF (jcp _ 4000 4000 rfl) (by omega)
 have e1 : ilt 4000 (.ofNat ds.length) = false := dF (jcp _ 4000 4000 rfl) (by omega)
 have e2 : ilt 4000 (.ofNat gs.length) = false := dF (jcp _ 4000 4000 rfl) (by omega)
 have key : EndsF (aFun pZ (jaj pZ X S0 (k + 100)) 6 [.agg #[vp, vd, vg]] μ) fun r μ' => (∃ b, r = .bool b) ∧ Grow μ μ' := by
  refine jaf Tryz.func6 rfl rfl (nbl rfl) ?_
  simp only [go_sem, Tryz.ntmps6]
  refine jaa rfl ?_
  refine jaa rfl ?_
  simp only [go_sem, jed, ← hμ1]
  repeat ((first | refine jab rfl ?_ | refine jam rfl ?_); (try simp only [go_sem, c0, c1, c2, l4, l5, l6, jae, e0, e1, e2]); fail_if_success refine stk ?_)
  rw [(by omega : k + 94 = (k + 34 - ps.length) + ps.length + 60)]
  refine rzM (prc_loop hp ps.length 0 (rzT _) (m := 0) (h4.grow hG fun _ _ h => h.grow hG) (by omega) (by omega) (by simp only [go_sem]; try rfl) (by simp only [go_sem]) (by simp only [go_sem]) (by simp only [go_sem]; try rfl)) ?_
  simp only [go_sem]
  rintro x r μ2 ⟨G2, tm', rfl, ⟨rfl, k1⟩ | ⟨rfl, q1⟩⟩
  ·simp only [go_sem]
   have h2 := h1.keep (G2.2 _ (by omega))
   obtain ⟨d0, d1, d2⟩ := Has.c3 h2
   have G12 := hG.trans G2
   repeat ((first | refine jab rfl ?_ | refine jam rfl ?_); (try simp only [go_sem, k1, d1, l5, jae]); fail_if_success refine stk ?_)
   rw [(by omega : k + 93 = (k + 33 - ds.length) + ds.length + 60)]
   refine rzM (con_loop hn hd hS ds.length 0 (rzT _) hX1 hX2 hX3 (hY.grow G12) (hP.grow G12) hX (h5.grow G12) (by omega) (by simp only [go_sem]) (by simp only [go_sem]) (by simp only [go_sem]; try rfl)) ?_
   simp only [go_sem]
   rintro x r μ3 ⟨G3, tm2, rfl, ⟨rfl, k2⟩ | ⟨rfl, q1⟩⟩
   ·simp only [go_sem]
    have h3 := h2.keep (G3.2 _ (by have := G2.1; omega))
    obtain ⟨_, _, f2⟩ := Has.c3 h3
    have G13 := G12.trans G3
    rw [k1] at k2
    repeat ((first | refine jab rfl ?_ | refine jam rfl ?_); (try simp only [go_sem, k2, f2, l6, jae]); fail_if_success refine stk ?_)
    rw [(by omega : k + 92 = (k + 32 - gs.length) + gs.length + 60)]
    refine rzM (glo_loop hgl gs.length 0 (rzT _) (h6.grow G13 fun _ _ h => h) (by simp only [go_sem]) (by simp only [go_sem]) (by simp only [go_sem]; try rfl)) ?_
    rintro x r μ4 ⟨rfl, tm3, rfl, rfl | ⟨rfl, q1⟩⟩
    ·simp only [go_sem]
     repeat ((first | refine jab rfl ?_ | refine jam rfl ?_); (try simp only [go_sem]); fail_if_success refine stk ?_)
     exact jad ⟨rfl, .bool true, by simp only [go_sem, Tryz.results6], ⟨true, rfl⟩, G13⟩
    ·simp only [jbi]
     refine ⟨rfl, .bool false, ?_, ⟨false, rfl⟩, G13⟩
     simp only [go_sem, Tryz.results6]
     rw [q1]
   ·simp only [jbi]
    refine ⟨rfl, .bool false, ?_, ⟨false, rfl⟩, G12.trans G3⟩
    simp only [go_sem, Tryz.results6]
    rw [q1]
  ·simp only [jbi]
   refine ⟨rfl, .bool false, ?_, ⟨false, rfl⟩, hG.trans G2⟩
   simp only [go_sem, Tryz.results6]
   rw [q1]
 obtain ⟨r, μ', h1, ⟨b, rfl⟩, h2⟩ := key
 exact ⟨b, μ', h1, h2⟩
theorem ieq_rfl (a : Int) : ieq a a = true := by rw [jc5]; exact beq_self_eq_true a
theorem effs {x : Ins} {ps : List Prc} {ds : List Dat} {gs : List ByteArray} {cs : List Value} {m : Nat} (ha : x.a = .ofNat m) (hm : m ≤ 16777215) : ∃ t p : Int, ∀ {X : XT} {g : Nat} {μ : Mem}, IsC μ ps ds gs cs → 100 ≤ g →
  (∃ μ', aFun pZ (jaj pZ X S0 g) 7 [.agg #[.int .i64 x.op, .int .i64 x.a, .int .i64 x.b], .agg cs.toArray] μ = some (.tuple #[.int .i64 t, .int .i64 p], μ') ∧ Grow μ μ') ∧
  (∃ μ', aFun pZ (jaj pZ X S0 g) 8 [.agg #[.int .i64 x.op, .int .i64 x.a, .int .i64 x.b], .agg cs.toArray] μ = some (.tuple #[.int .i64 t, .int .i64 p], μ') ∧ Grow μ μ') := by
 by_cases ho : x.op < 0 ∨ 21 < x.op
 ·exact ⟨0, 0, fun hC hg => ⟨peff_out ho hC hg, reff_out ho hC hg⟩⟩
 ·obtain ⟨q, hq⟩ : ∃ q : Nat, x.op = .ofNat q := ⟨x.op.toNat, (Int.toNat_of_nonneg (by omega)).symm⟩
  have hq2 : x.op = (q : Int) := hq
  have hq3 : q < 22 := by omega
  exact ⟨effT q m ps, effP q, fun hC hg => ⟨peff_eq hq hq3 ha hm hC hg, reff_eq hq hq3 ha hm hC hg⟩⟩
theorem jkf {n : Nat} (hn : n ≤ 2000000) {x : Ins} {ps : List Prc} {ds : List Dat} {gs : List ByteArray} {cs : List Value} {X : XT} {g : Nat} {μ : Mem} (hX1 : jbc X) (hX2 : ja7 X) (hX3 : jb7 X) (hY : Lay μ) (hP : LayP μ) (hX : jb1 X) (hC : IsC μ ps ds gs cs) (hS : ∀ d ∈ ds, Sm n d) (hg : fu n + 3000 ≤ g)
  (hal : ∀ k μ, jbj pZ (jaj pZ X S0 k) S0 4 [] μ = some (.bool true, μ)) :
  ∃ μ', aFun pZ (jaj pZ X S0 g) 3 [.agg #[.int .i64 x.op, .int .i64 x.a, .int .i64 x.b], .agg cs.toArray] μ = some (.bool true, μ') ∧ Grow μ μ' := by
 obtain ⟨k, hk, rfl⟩ : ∃ k, fu n + 2900 ≤ k ∧ g = k + 100 := ⟨g - 100, by omega, by omega⟩
 obtain ⟨op, a, b⟩ := x
 have hC0 := hC
 obtain ⟨vp, vd, vg, rfl, _⟩ := hC0
 obtain ⟨h1, h2⟩ := jix μ 23 28 [.int .i64 op, .int .i64 a, .int .i64 b] [vp, vd, vg]
 have hG2 := jfl μ (obL 23 [.int .i64 op, .int .i64 a, .int .i64 b]) (obL 28 [vp, vd, vg])
 obtain ⟨μ2, hμ2⟩ := exq (⟨(μ.obs.set μ.next (obL 23 [.int .i64 op, .int .i64 a, .int .i64 b])).set (μ.next + 1) (obL 28 [vp, vd, vg]), μ.next + 1 + 1⟩ : Mem)
 rw [← hμ2] at h1 h2 hG2
 have n2 : μ2.next = μ.next + 1 + 1 := by rw [hμ2]
 have ldC : ∀ {M : Mem}, Grow μ2 M → jcq pZ M 28 (.pointer (some ⟨μ.next + 1, 0, none⟩)) = some (.agg #[vp, vd, vg]) := fun G => has_C (h2.keep (G.2 _ (by omega)))
 have ldI : ∀ {M : Mem}, Grow μ2 M → jcq pZ M 23 (.pointer (some ⟨μ.next, 0, none⟩)) = some (.agg #[.int .i64 op, .int .i64 a, .int .i64 b]) := fun G => Has.ld_I (h1.keep (G.2 _ (by omega))) rfl
 have ldA : ∀ {M : Mem}, Grow μ2 M → jal M μ.next 1 = some (.int .i64 a) := fun G => (Has.c3 (h1.keep (G.2 _ (by omega)))).2.1
 have L2 := ldC (Grow.refl μ2)
 obtain ⟨μ3, r1, G3⟩ := great_eq (X := X) (g := k + 95) (hC.grow hG2) (by omega)
 obtain ⟨gb, e0⟩ := eqx ((ilt 200 (.ofNat ps.length) || ilt 200 (.ofNat ds.length) || ilt 200 (.ofNat gs.length)))
 rw [e0] at r1
 have key : EndsF (aFun pZ (jaj pZ X S0 (k + 100)) 3 [.agg #[.int .i64 op, .int .i64 a, .int .i64 b], .agg #[vp, vd, vg]] μ) fun w μ' => w = .bool true ∧ Grow μ μ' := by
  refine jaf Tryz.func3 rfl rfl (nbl rfl) ?_
  simp only [go_sem, Tryz.ntmps3]
  refine jaa rfl ?_
  refine jaa rfl ?_
  simp only [go_sem, jfv, jed, ← hμ2]
  cases gb with
  | true =>
    repeat ((first | refine jab rfl ?_ | refine jam rfl ?_); (try simp only [go_sem, jeB (P := pZ) Tryz.func4 rfl, hal, L2, r1]); fail_if_success refine stk ?_)
    exact jad ⟨rfl, .bool true, by simp only [go_sem, Tryz.results3], rfl, hG2.trans G3⟩
  | false =>
    simp only [Bool.or_eq_false_iff] at e0
    obtain ⟨⟨l1, l2⟩, l3⟩ := e0
    rw [jcp _ 200 200 rfl, decide_eq_false_iff_not] at l1 l2 l3
    have L3 := ldC G3
    obtain ⟨rb, μ4, r2, G4⟩ := jjU hn (X := X) (g := k + 95) hX1 hX2 hX3 (hY.grow (hG2.trans G3)) (hP.grow (hG2.trans G3)) hX (hC.grow (hG2.trans G3)) (by omega) (by omega) (by omega) hS (by omega)
    have G34 := G3.trans G4
    have hG4 := hG2.trans G34
    obtain ⟨b1, e1⟩ := eqx (ilt a 0)
    obtain ⟨b2, e2⟩ := eqx (ilt 16777215 a)
    have c1 := ldA G34
    have cc : (rb = true ∧ b1 = false ∧ b2 = false) ∨ rb = false ∨ (rb = true ∧ b1 = true) ∨ (rb = true ∧ b1 = false ∧ b2 = true) := by cases rb <;> cases b1 <;> cases b2 <;> simp
    rcases cc with ⟨rfl, rfl, rfl⟩ | rfl | ⟨rfl, rfl⟩ | ⟨rfl, rfl, rfl⟩
    ·have e3 := e1
     have e4 := e2
     rw [jaZ, decide_eq_false_iff_not] at e3 e4
     obtain ⟨t, p, hE⟩ := effs (x := ⟨op, a, b⟩) (ps := ps) (ds := ds) (gs := gs) (cs := [vp, vd, vg]) (m := a.toNat) (show a = .ofNat a.toNat from (Int.toNat_of_nonneg (by omega)).symm) (by omega)
     obtain ⟨μ5, r3, G5⟩ := (hE (X := X) (g := k + 95) (hC.grow hG4) (by omega)).1
     have G35 := G34.trans G5
     obtain ⟨μ6, r4, G6⟩ := (hE (X := X) (g := k + 94) (hC.grow (hG4.trans G5)) (by omega)).2
     have L4 := ldC G34
     have L5 := ldI G34
     have L6 := ldC G35
     have L7 := ldI G35
     have q1 := ieq_rfl t
     have q2 := ieq_rfl p
     repeat ((first | refine jab rfl ?_ | refine jam rfl ?_); (try simp only [go_sem, jeB (P := pZ) Tryz.func4 rfl, hal, L2, r1, L3, r2, c1, e1, e2, L4, L5, L6, L7, r3, r4, q1, q2]); fail_if_success refine stk ?_)
     exact jad ⟨rfl, .bool true, by simp only [go_sem, Tryz.results3], rfl, (hG4.trans G5).trans G6⟩
    all_goals
     repeat ((first | refine jab rfl ?_ | refine jam rfl ?_); (try simp only [go_sem, jeB (P := pZ) Tryz.func4 rfl, hal, L2, r1, L3, r2, c1, e1, e2]); fail_if_success refine stk ?_)
     exact jad ⟨rfl, .bool true, by simp only [go_sem, Tryz.results3], rfl, hG4⟩
 obtain ⟨w, μ', h1, rfl, h2⟩ := key
 exact ⟨μ', h1, h2⟩
theorem am_loop {S : List (FuncId × LK)} {s : ByteArray} {c : Nat} (hl : (bys s).length ≤ 1000) : ∀ (m i : Nat), i + m = (bys s).length → ∀ {X : XT} {e : Nat} {tm : T Value} {μ : Mem}, jac tm 0 = .string s → jac tm 1 = .int .u8 (.ofNat c) → jac tm 4 = .bool false → jac tm 5 = .int .i64 (.ofNat i) →
  EndsC (jaj pZ X S (e + m + 30) (.loop (jbk Tryz.f114 0)) ⟨17, tm, [], none⟩ μ) fun x r μ' => μ' = μ ∧ ∃ tm', r = ⟨17, tm', [], none⟩ ∧ ((((bys s).drop i).contains c = false ∧ x = .exit 0) ∨ (((bys s).drop i).contains c = true ∧ x = .ret ∧ jac tm' 4 = .bool true)) := by
 have ls := jaU s
 intro m
 induction m with
 | zero =>
   intro i hi X e tm μ h0 h1 h2 h3
   have hi : i = (bys s).length := hi
   have e1 : ilt (.ofNat i) (.ofNat (bys s).length) = false := dF (jao _ _) (by omega)
   refine jah ?_
   repeat (refine jaa rfl ?_; (try simp only [go_sem, h0, h1, h2, h3, ls, jae, e1]); fail_if_success refine stk ?_)
   exact ⟨by trivial, _, rfl, .inl ⟨(by rw [hi, List.drop_length]; rfl), by trivial⟩⟩
 | succ m ih =>
   intro i hi X e tm μ h0 h1 h2 h3
   have hlt : i < (bys s).length := by omega
   have hdr : (bys s).drop i = (bys s)[i]'hlt :: (bys s).drop (i + 1) := List.drop_eq_getElem_cons hlt
   obtain ⟨b, hb⟩ := exq ((bys s)[i]'hlt)
   rw [← hb] at hdr
   have hx : ∀ r x y, aev pZ r x = .string s → aev pZ r y = .int .i64 (.ofNat i) → jaX pZ (aev pZ r) 9 x y = some (.int .u8 (.ofNat b)) := fun r x y h1 h2 => by rw [hb]; exact jbB hlt h1 h2
   have e1 : ilt (.ofNat i) (.ofNat (bys s).length) = true := dT (jao _ _) hlt
   have a1 : jak .i64 (Int.add (.ofNat i) 1) = .ofNat (i + 1) := jaE i 1 (by omega)
   clear hb
   rw [hdr]
   by_cases hp : b = c
   ·have e2 : ieq (.ofNat b) (.ofNat c) = true := dT (jbG _ _) hp
    refine jah ?_
    repeat (refine jaa rfl ?_; (try simp only [go_sem, h0, h1, h2, h3, ls, jae, e1, hx, e2]); fail_if_success refine stk ?_)
    refine jad ?_
    exact ⟨by trivial, _, rfl, .inr ⟨(by rw [List.contains_cons, hp]; simp), by trivial, by simp only [go_sem]⟩⟩
   ·have e2 : ieq (.ofNat b) (.ofNat c) = false := dF (jbG _ _) hp
    refine jah ?_
    repeat (refine jaa rfl ?_; (try simp only [go_sem, h0, h1, h2, h3, ls, jae, e1, hx, e2, a1]); fail_if_success refine stk ?_)
    rw [(by omega : e + (m + 1) + 29 = e + m + 30)]
    refine rzM (ih (i + 1) (by omega) (by simp only [go_sem, h0]) (by simp only [go_sem, h1]) (by simp only [go_sem, h2]) (by simp only [go_sem])) ?_
    rintro x r μ' ⟨g1, tm', g2, g3⟩
    have ec : (b :: (bys s).drop (i + 1)).contains c = ((bys s).drop (i + 1)).contains c := by
     rw [List.contains_cons, show (c == b) = false from by simpa using fun h => hp h.symm, Bool.false_or]
    rw [ec]
    exact ⟨g1, tm', g2, g3⟩
theorem among_eq {S : List (FuncId × LK)} {s : ByteArray} {c : Nat} (hl : (bys s).length ≤ 1000) {X : XT} {g : Nat} {μ : Mem} (hg : 2000 ≤ g) : aFun pZ (jaj pZ X S g) 114 [.string s, .int .u8 (.ofNat c)] μ = some (.bool ((bys s).contains c), μ) := by
 obtain ⟨k, rfl⟩ := gle hg
 refine jaF ?_
 refine jaf Tryz.func114 rfl rfl (nbl rfl) ?_
 simp only [go_sem, Tryz.ntmps114]
 repeat (refine jaa rfl ?_; (try simp only [go_sem]); fail_if_success refine stk ?_)
 rw [(by omega : k + 1996 = (k + 1966 - (bys s).length) + (bys s).length + 30)]
 refine rzM (am_loop (c := c) hl (bys s).length 0 (rzT _) (by simp only [go_sem]) (by simp only [go_sem]) (by simp only [go_sem]) (by simp only [go_sem]; try rfl)) ?_
 rintro x r μ' ⟨rfl, tm', rfl, ⟨h1, rfl⟩ | ⟨h1, rfl, h2⟩⟩
 ·rw [List.drop_zero] at h1
  simp only [go_sem]
  rw [h1]
  repeat (refine jaa rfl ?_; (try simp only [go_sem]); fail_if_success refine stk ?_)
  exact jad ⟨rfl, _, by simp only [go_sem, Tryz.results114], rfl, rfl⟩
 ·rw [List.drop_zero] at h1
  simp only [jbi]
  refine ⟨rfl, _, ?_, rfl, rfl⟩
  simp only [go_sem, Tryz.results114]
  rw [h2, h1]
def jhm : ByteArray := ⟨List.toArray (List.append [97, 98, 99, 100, 101, 102, 103, 104, 105, 106, 107, 108, 109, 110, 111, 112, 113, 114, 115, 116, 117, 118, 119, 120, 121, 122, 65, 66, 67, 68, 69, 70, 71, 72, 73, 74, 75, 76, 77, 78] [79, 80, 81, 82, 83, 84, 85, 86, 87, 88, 89, 90, 48, 49, 50, 51, 52, 53, 54, 55, 56, 57, 33, 36, 37, 38, 42, 47, 58, 60, 61, 62, 63, 94, 95, 126, 43, 45, 46, 64])⟩
theorem jfV : bys jhm = plainL := by kernel_rfl
theorem rplain_eq {c : Nat} {X : XT} {g : Nat} {μ : Mem} (hg : 3000 ≤ g) : aFun pZ (jaj pZ X [] g) 85 [.int .u8 (.ofNat c)] μ = some (.bool (plainL.contains c), μ) := by
 obtain ⟨k, rfl⟩ := gle hg
 refine jaF ?_
 have ha := among_eq (S := []) (s := jhm) (c := c) (by rw [jfV]; decide) (X := X) (g := k + 2997) (μ := μ) (by omega)
 rw [jfV] at ha
 have hc : ∀ μ', aGo pZ X (jbj pZ (jaj pZ X [] (k + 2997)) []) 114 [.string jhm, .int .u8 (.ofNat c)] μ' = aFun pZ (jaj pZ X [] (k + 2997)) 114 [.string jhm, .int .u8 (.ofNat c)] μ' := fun μ' => go_call (P := pZ) (X := X) (S := []) Tryz.func114 rfl rfl _ _
 refine jaf Tryz.func85 rfl rfl (nbl rfl) ?_
 simp only [go_sem, Tryz.ntmps85]
 repeat (refine jaa rfl ?_; (try simp only [go_sem, show (⟨List.toArray _⟩ : ByteArray) = jhm from rfl, hc, ha]); fail_if_success refine stk ?_)
 exact jad ⟨rfl, _, by simp only [go_sem, Tryz.results85], rfl, rfl⟩
theorem plain_run {P : Program} {X : XT} (hN : jc2 P) (hX : XOk P X) (hm : P.follows .mixedOrders = true) {S : List (FuncId × LK)} (hS : SumsOk P S) {k : Nat} {g : FuncId} {nx : Nat} (hnx : P.globals.size < nx)
  (f : List Value → Option Value) (h : ∀ args v, f args = some v → ∃ μ', aFun P (jaj P X S k) g args ⟨.e, nx⟩ = some (v, μ')) : KOk P g (.plain f) := by
 intro args v hf hp hv W n R hR
 obtain ⟨μ', hrun⟩ := h args v hf
 have hnone : ∀ i b s, jaY nx i ≠ .at b s := fun i b s e => by unfold jaY at e; split at e <;> cases e
 have hr : Rel (jaY nx) ⟨.e, nx⟩ W := ⟨fun i j b s t e _ => absurd e (hnone _ _ _), fun i b s e => absurd e (hnone _ _ _), fun i hi => if_neg (Nat.not_lt.2 hi), fun i o ho _ => by simp [T.get_e] at ho⟩
 have hB : Base P (jaY nx) := ⟨fun g hg => .inr (if_pos (Nat.lt_trans hg hnx)), if_pos hnx⟩
 have ha : ARel (jaY nx) args.toArray args.toArray := ⟨rfl, fun i a b ha hb => by
  rw [ha] at hb; cases hb
  refine jbp 5 (List.all_eq_true.1 hp _ ?_)
  have := Array.mem_of_getElem? ha
  simpa using this⟩
 refine jhy (jgF hN hX hm hS k).1 g args _ v μ' hrun _ W _ hr hB ha n R fun J' v' w' h1 h2 h3 => ?_
 rw [jd2 5 hv h1]
 exact hR w' ⟨h3.os, h3.output, h3.size, fun b hb => h3.frame b hb (fun i s e => absurd e (hnone _ _ _)), h3.tape⟩
theorem isNamed : jc2 pZ := named_of (by kernel_rfl)
theorem mixed : pZ.follows .mixedOrders = true := by kernel_rfl
def xs : List (FuncId × XK) := [(60, .f64bits), (87, .f64from), (154, .f64bits), (183, .same), (185, .noZero 5), (276, .f64from), (235, .indexByte), (262, .indexByte)]
theorem rows : ∀ x ∈ xs, ∃ fn, XRow pZ x.1 x.2 fn := by
 intro x hx
 simp only [xs, List.mem_cons, List.not_mem_nil, or_false] at hx
 rcases hx with rfl | rfl | rfl | rfl | rfl | rfl | rfl | rfl
 ·exact ⟨_, Tryz.func60, by kernel_rfl, by kernel_rfl, by kernel_rfl, by kernel_rfl, fun e h => by cases h⟩
 ·exact ⟨_, Tryz.func87, by kernel_rfl, by kernel_rfl, by kernel_rfl, by kernel_rfl, fun e h => by cases h⟩
 ·exact ⟨_, Tryz.func154, by kernel_rfl, by kernel_rfl, by kernel_rfl, by kernel_rfl, fun e h => by cases h⟩
 ·exact ⟨_, Tryz.func183, by kernel_rfl, by kernel_rfl, by kernel_rfl, by kernel_rfl, fun e h => by cases h⟩
 ·exact ⟨_, Tryz.func185, by kernel_rfl, by kernel_rfl, by kernel_rfl, by kernel_rfl, fun e h => by cases h; exact ⟨Tryz.f185.resultTypes.getD 0 0, by kernel_rfl, by kernel_rfl⟩⟩
 ·exact ⟨_, Tryz.func276, by kernel_rfl, by kernel_rfl, by kernel_rfl, by kernel_rfl, fun e h => by cases h⟩
 ·exact ⟨_, Tryz.func235, by kernel_rfl, by kernel_rfl, by kernel_rfl, by kernel_rfl, fun e h => by cases h⟩
 ·exact ⟨_, Tryz.func262, by kernel_rfl, by kernel_rfl, by kernel_rfl, by kernel_rfl, fun e h => by cases h⟩
theorem bits1 : jbc (aExt xs) := fun a μ => rfl
theorem bits2 : ja7 (aExt xs) := fun n μ _ => rfl
def domC : List (List Value) := (List.range 256).map fun q => [.int .u8 (.ofNat q)]
theorem domP : ∀ args v, fP args = some v → args ∈ domC := by
 intro args v h
 unfold fP at h
 split at h
 ·rename_i q
  split at h
  ·rename_i hq
   exact List.mem_map.2 ⟨q, List.mem_range.2 hq, rfl⟩
  ·cases h
 ·cases h
theorem domF : ∀ args v, fF args = some v → args ∈ domC := by
 intro args v h
 unfold fF at h
 split at h
 ·rename_i q
  split at h
  ·rename_i hq
   exact List.mem_map.2 ⟨q, List.mem_range.2 hq, rfl⟩
  ·cases h
 ·cases h
theorem tbP : domOk (fun args => aFun pZ (jaj pZ (aExt xs) [] 100) 170 args ⟨.e, 900⟩) fP domC = true := by kernel_rfl
theorem ranR : ∀ args v, fP args = some v → ∃ μ', aFun pZ (jaj pZ (aExt xs) [] 3000) 85 args ⟨.e, 900⟩ = some (v, μ') := by
 intro args v h
 unfold fP at h
 split at h
 ·split at h
  ·cases h
   exact ⟨_, rplain_eq (rzN _)⟩
  ·cases h
 ·cases h
theorem tbF : domOk (fun args => aFun pZ (jaj pZ (aExt xs) [] 100) 196 args ⟨.e, 900⟩) fF domC = true := by kernel_rfl
theorem ranAlive : jiu roms (aFun pZ (jaj pZ (aExt xs) [] 4000) 4 [] ⟨romObs roms, 900⟩) = true := by kernel_rfl
theorem sums : SumsOk pZ S0 :=
 SumsOk.cons (sum_of isNamed (jfF rows) mixed (SumsOk.none _) (by decide +kernel) roms (by kernel_rfl) ranAlive)
 (SumsOk.cons (jhl isNamed (jfF rows) mixed (SumsOk.none _) (by decide +kernel) fP domC domP tbP)
 (SumsOk.cons (plain_run isNamed (jfF rows) mixed (SumsOk.none _) (by decide +kernel) fP ranR)
 (SumsOk.cons (jhl isNamed (jfF rows) mixed (SumsOk.none _) (by decide +kernel) fF domC domF tbF) (SumsOk.none _))))
structure Bulk {H : Type} (B : DataW H → Nat) (A : List (DataW H) → Nat) : Prop where
 str : ∀ bs, B (.lit (.string bs)) = bs.length + 1
 sl : ∀ e s, B (.slice e s) = A e + A s + 1
 agg : ∀ p, B (.agg p) = A p + 1
 cons : ∀ d r, A (d :: r) = B d + A r
 pos : ∀ d, 1 ≤ B d
section
variable {H : Type} {B : DataW H → Nat} {A : List (DataW H) → Nat}
theorem Bulk.len (hb : Bulk B A) : ∀ l : List (DataW H), l.length ≤ A l
 | [] => rzY _
 | d :: r => by
   have := hb.len r
   have := hb.pos d
   rw [hb.cons, List.length_cons]
   omega
theorem Bulk.mem (hb : Bulk B A) : ∀ {l : List (DataW H)} {d : DataW H}, d ∈ l → B d ≤ A l
 | [], d, h => by cases h
 | x :: r, d, h => by
   rw [hb.cons]
   rcases List.mem_cons.1 h with rfl | h
   ·omega
   ·have := hb.mem h
    omega
theorem Bulk.part (hb : Bulk B A) {p : List (DataW H × List MemPlace)} {k : Nat} {x : DataW H × List MemPlace} (h : p[k]? = some x) : B x.1 < B (.agg (p.map (·.1))) := by
 rw [hb.agg]
 have := hb.mem (List.mem_map.2 ⟨x, List.mem_of_getElem? h, rfl⟩ : x.1 ∈ p.map (·.1))
 omega
end
section
variable {H : Type} {enc : TypeId × Value → H} {W : World} {sp : Nat → Bool} {hd : Bool} {B : DataW H → Nat} {A : List (DataW H) → Nat} {P : Program} {fuel gs : Nat} {t e : TypeId} {cs : List Value} {x : DataW H × List MemPlace}
theorem jgf (hB : Bulk B A) {w : Nat} (ht : P.underlying t = some (.slice e)) (hc : P.cellsOf e = w) (hw : 0 < w) (h : DataW.trod enc P W 0 sp hd fuel t cs = some x) :
  ∃ v len, cs = [v] ∧ len ≤ maxLen ∧ len ≤ B x.1 ∧ ((v = .slice none 0 0 ∧ len = 0) ∨ ∃ a cap, v = .slice (some a) len cap ∧ len ≤ cap ∧ (0 < len → ∃ b o c tb fz n, a = ⟨b, o, none⟩ ∧ fuel = n + 1 ∧ W.heap[b]? = some (.cells c tb fz) ∧ ∀ i, i < len → ∃ row y, DataW.trod enc P W 0 sp hd n e row = some y ∧ B y.1 < B x.1 ∧ ∀ (j : Nat) v, row[j]? = some v → c[o + i * w + j]? = some v)) := by
 rcases DataW.trod_slice ht h with ⟨rfl, _⟩ | ⟨a, len, cap, elems, rest, n, hn, rfl, hx, _, hl, hm, hel, hat, _⟩
 ·exact ⟨_, 0, rfl, rzY _, rzY _, .inl ⟨rfl, rfl⟩⟩
 ·have hx1 : x.1 = .slice (elems.map (·.1)) (rest.map (·.1)) := by rw [hx]
  have hBx : B x.1 = A (elems.map (·.1)) + A (rest.map (·.1)) + 1 := by rw [hx1, hB.sl]
  have hle := hB.len (elems.map (·.1))
  rw [List.length_map] at hle
  refine ⟨_, len, rfl, rzS hl hm, by omega, .inr ⟨a, cap, rfl, hl, fun h0 => ?_⟩⟩
  rw [hc] at hat
  have each : ∀ i, i < len → ∃ row y, W.cells? 0 (a.add (i * w)) w = some row ∧ DataW.trod enc P W 0 sp hd n e row = some y ∧ B y.1 < B x.1 := fun i hi => by
   have h4 := hat i hi
   rw [rzK (by omega), Option.bind_eq_some_iff] at h4
   obtain ⟨row, h5, h6⟩ := h4
   have := hB.mem (List.mem_map.2 ⟨_, List.getElem_mem (show i < elems.length by omega), rfl⟩ : (elems[i]'(by omega)).1 ∈ elems.map (·.1))
   exact ⟨row, _, h5, h6, by omega⟩
  obtain ⟨r0, _, q1, _⟩ := each 0 h0
  rw [Nat.zero_mul] at q1
  have ea := jg6 q1 hw
  obtain ⟨b, o, spt⟩ := a
  injection ea with _ _ ea
  subst ea
  obtain ⟨c, tb, fz, hb, _, _⟩ := jd8 (m := 0) q1 hw
  refine ⟨b, o, c, tb, fz, n, rfl, hn, hb, fun i hi => ?_⟩
  obtain ⟨row, y, q2, q3, q5⟩ := each i hi
  obtain ⟨c', _, _, hb', _, q4⟩ := jd8 q2 hw
  rw [hb] at hb'
  cases hb'
  exact ⟨row, y, q3, q5, q4⟩
theorem isU_trodB (hB : Bulk B A) (hlt : gs < 870) (ht : P.underlying t = some (.slice e)) (he : P.underlying e = some (.int .u32)) (hc : P.cellsOf e = 1) (h : DataW.trod enc P W 0 sp hd fuel t cs = some x) : ∃ v ls, cs = [v] ∧ ls.length ≤ B x.1 ∧ IsU (memW W gs) ls (absV W gs v) := by
 obtain ⟨v, len, rfl, hl, hlb, ⟨rfl, rfl⟩ | ⟨a, cap, rfl, hcp, hk⟩⟩ := jgf hB ht hc (by decide) h
 ·exact ⟨_, [], rfl, rzY _, fun x hx => by simp at hx, rzY _, .inl ⟨rfl, rfl⟩⟩
 ·by_cases h0 : len = 0
  ·subst h0
   obtain ⟨i, o, hi⟩ := jgM (W := W) (gs := gs) (l := 0) (c := cap) (a := a)
   exact ⟨_, [], rfl, rzY _, fun x hx => by simp at hx, rzY _, .inr ⟨i, o, _, hi, fun h => absurd rfl h, .inl ⟨by omega, rzY _⟩⟩⟩
  ·obtain ⟨b, o, c, tb, fz, n, rfl, _, hb, hi⟩ := hk (by omega)
   have ev : ∀ i, i < len → ∃ a, a < 4294967296 ∧ c[o + i]? = some (.int .u32 (.ofNat a)) := fun i hil => by
    obtain ⟨row, y, q1, _, q2⟩ := hi i hil
    obtain ⟨a, ha, rfl⟩ := u_trod he q1
    have := q2 0 _ rfl
    rw [Nat.mul_one] at this
    exact ⟨a, ha, this⟩
   obtain ⟨ls, hls, hall⟩ := jgt ev
   refine ⟨_, ls, rfl, by omega, fun x hx => ?_, by omega, .inr ⟨_, _, _, by rw [hls]; exact jjB hb, fun hn => ⟨id_lt hb, ?_⟩, .inl ⟨by omega, by omega⟩⟩⟩
   ·obtain ⟨i, hi, rfl⟩ := List.mem_iff_getElem.1 hx
    exact (hall i _ (rzK hi)).1
   ·have := jeV (row := ls.map fun x => Value.int .u32 (.ofNat x)) hlt hb (fun j v hj => by
     rw [List.getElem?_map] at hj
     cases e : ls[j]? with
     | none => rw [e] at hj; cases hj
     | some y => rw [e] at hj; cases hj; exact (hall j y e).2) (by simpa using hn)
    rw [List.map_map] at this
    exact this
theorem num_trodB (hB : Bulk B A) (hlt : gs < 870) (h : DataW.trod enc pZ W 0 sp hd fuel 42 cs = some x) : ∃ fl f neg vl ls, cs = [.bool fl, .float .f64 f, .bool neg, vl] ∧ (Lit.float .f64 f).wf = true ∧ ls.length ≤ B x.1 ∧ IsU (memW W gs) ls (absV W gs vl) := by
 obtain ⟨xs, n, rfl, hxe, hl, hx, hf⟩ := DataW.trod_struct Tryz.underlying42 h
 rw [cells_N] at hl
 obtain ⟨c0, c1, c2, c3, rfl⟩ := four hl
 have hx : xs.length = 3 := hx
 obtain ⟨x0, e0⟩ : ∃ y, xs[0]? = some y := ⟨_, rzK (by omega)⟩
 obtain ⟨x1, e1⟩ : ∃ y, xs[1]? = some y := ⟨_, rzK (by omega)⟩
 obtain ⟨x2, e2⟩ : ∃ y, xs[2]? = some y := ⟨_, rzK (by omega)⟩
 have h0 : DataW.trod enc pZ W 0 sp hd n 4 (([c0, c1, c2, c3].drop 0).take (pZ.cellsOf 4)) = some x0 := (hf 0 _ rfl).trans e0
 have h1 : DataW.trod enc pZ W 0 sp hd n 37 (([c0, c1, c2, c3].drop 1).take (pZ.cellsOf 37)) = some x1 := (hf 1 _ rfl).trans e1
 have h2 : DataW.trod enc pZ W 0 sp hd n 40 (([c0, c1, c2, c3].drop 2).take (pZ.cellsOf 40)) = some x2 := (hf 2 _ rfl).trans e2
 simp only [jeE, cells_f64, cells_I, List.drop_zero, List.drop_succ_cons, List.take_succ_cons, List.take_zero] at h0 h1 h2
 obtain ⟨fl, q0, _⟩ := DataW.trod_bool Tryz.underlying4 h0
 obtain ⟨f, q1, hw⟩ := jep Tryz.underlying37 h1
 obtain ⟨ys, n2, rfl, hye, hl2, hy, hg⟩ := DataW.trod_struct Tryz.underlying40 h2
 have hy : ys.length = 2 := hy
 obtain ⟨y0, e3⟩ : ∃ y, ys[0]? = some y := ⟨_, rzK (by omega)⟩
 obtain ⟨y1, e4⟩ : ∃ y, ys[1]? = some y := ⟨_, rzK (by omega)⟩
 have h3 : DataW.trod enc pZ W 0 sp hd n2 4 (([c2, c3].drop 0).take (pZ.cellsOf 4)) = some y0 := (hg 0 _ rfl).trans e3
 have h4 : DataW.trod enc pZ W 0 sp hd n2 38 (([c2, c3].drop 1).take (pZ.cellsOf 38)) = some y1 := (hg 1 _ rfl).trans e4
 simp only [jeE, cells_Ls, List.drop_zero, List.drop_succ_cons, List.take_succ_cons, List.take_zero] at h3 h4
 obtain ⟨neg, q3, _⟩ := DataW.trod_bool Tryz.underlying4 h3
 obtain ⟨vl, ls, q4, hlb, hU⟩ := isU_trodB hB (gs := gs) hlt Tryz.underlying38 Tryz.underlying141 cells_u32 h4
 have b1 := hB.part e4
 have b2 := hB.part e2
 have hy2 : x2.1 = .agg (ys.map (·.1)) := by rw [hye]
 rw [hy2] at b2
 cases q0; cases q1; cases q3; cases q4
 exact ⟨fl, f, neg, _, ls, rfl, hw, by rw [hxe]; show _ ≤ B (.agg _); omega, hU⟩
theorem Sm.mono : ∀ {n m : Nat} {d : Dat}, Sm n d → n ≤ m → Sm m d
 | 0, _, _, h, _ => h.elim
 | n + 1, 0, _, _, h => absurd h (by omega)
 | n + 1, m + 1, .mk _ _ _ _ _ ls s l, h, hm => ⟨h.1, h.2.1, h.2.2.1, fun x hx => Sm.mono (h.2.2.2 x hx) (by omega)⟩
theorem jiG (hB : Bulk B A) (hlt : gs < 870) : ∀ (fuel : Nat) {cs : List Value} {x : DataW H × List MemPlace}, DataW.trod enc pZ W 0 sp hd fuel 44 cs = some x → B x.1 ≤ 2000000 → ∃ d, IsD (memW W gs) d (cs.map (absV W gs)) ∧ Sm (B x.1) d := by
 intro fuel
 induction fuel using Nat.strongRecOn with
 | ind fuel ih =>
 intro cs x h hBx
 obtain ⟨xs, n, rfl, hxe, hl, hx, hf⟩ := DataW.trod_struct Tryz.underlying44 h
 rw [jiJ] at hl
 obtain ⟨c0, c1, c2, c3, c4, c5, c6, c7, rfl⟩ := eight hl
 have hx : xs.length = 5 := hx
 obtain ⟨x0, e0⟩ : ∃ y, xs[0]? = some y := ⟨_, rzK (by omega)⟩
 obtain ⟨x1, e1⟩ : ∃ y, xs[1]? = some y := ⟨_, rzK (by omega)⟩
 obtain ⟨x2, e2⟩ : ∃ y, xs[2]? = some y := ⟨_, rzK (by omega)⟩
 obtain ⟨x3, e3⟩ : ∃ y, xs[3]? = some y := ⟨_, rzK (by omega)⟩
 obtain ⟨x4, e4⟩ : ∃ y, xs[4]? = some y := ⟨_, rzK (by omega)⟩
 have h0 : DataW.trod enc pZ W 0 sp hd n 3 (([c0, c1, c2, c3, c4, c5, c6, c7].drop 0).take (pZ.cellsOf 3)) = some x0 := (hf 0 _ rfl).trans e0
 have h1 : DataW.trod enc pZ W 0 sp hd n 3 (([c0, c1, c2, c3, c4, c5, c6, c7].drop 1).take (pZ.cellsOf 3)) = some x1 := (hf 1 _ rfl).trans e1
 have h2 : DataW.trod enc pZ W 0 sp hd n 42 (([c0, c1, c2, c3, c4, c5, c6, c7].drop 2).take (pZ.cellsOf 42)) = some x2 := (hf 2 _ rfl).trans e2
 have h3 : DataW.trod enc pZ W 0 sp hd n 9 (([c0, c1, c2, c3, c4, c5, c6, c7].drop 6).take (pZ.cellsOf 9)) = some x3 := (hf 3 _ rfl).trans e3
 have h4 : DataW.trod enc pZ W 0 sp hd n 25 (([c0, c1, c2, c3, c4, c5, c6, c7].drop 7).take (pZ.cellsOf 25)) = some x4 := (hf 4 _ rfl).trans e4
 simp only [jft, cells_N, jfs, jju, List.drop_zero, List.drop_succ_cons, List.take_succ_cons, List.take_zero] at h0 h1 h2 h3 h4
 have b2 := hB.part e2
 have b3 := hB.part e3
 have b4 := hB.part e4
 have hxx : B x.1 = B (.agg (xs.map (·.1))) := by rw [hxe]
 rw [← hxx] at b2 b3 b4
 obtain ⟨k, q0, hk⟩ := jco h0
 obtain ⟨m, q1, hm⟩ := jco h1
 obtain ⟨fl, f, neg, vl, ls, q2, hfw, hlb, hU⟩ := num_trodB hB (gs := gs) hlt h2
 obtain ⟨s, q3, hsx, hs⟩ := DataW.trod_string Tryz.underlying9 h3
 rw [hsx, hB.str, ← jb5] at b3
 cases q0; cases q1; cases q2; cases q3
 obtain ⟨v, len, q4, hle, hlb4, hv⟩ := jgf hB Tryz.underlying25 jiJ (by decide) h4
 cases q4
 obtain ⟨q, hq⟩ : ∃ q, B x.1 = q + 1 := ⟨B x.1 - 1, by omega⟩
 have fin : ∀ (l : List Dat), l.length ≤ len → (∀ d ∈ l, Sm q d) → IsL (memW W gs) l (absV W gs c7) → ∃ d, IsD (memW W gs) d ([Value.int .i64 k, .int .i64 m, .bool fl, .float .f64 f, .bool neg, c5, .string s, c7].map (absV W gs)) ∧ Sm (B x.1) d := fun l hll hSl hL => ⟨.mk k m fl f neg ls s l, jdh.2 ⟨_, _, rfl, ⟨hk, hm, hfw, hs⟩, hU, hL⟩, by
  rw [hq]
  exact ⟨by omega, by omega, by omega, hSl⟩⟩
 rcases hv with ⟨rfl, rfl⟩ | ⟨a, cap, rfl, hcp, hr⟩
 ·exact fin [] (rzN _) (fun d h => by cases h) ⟨rzY _, .inl ⟨rfl, rfl⟩⟩
 ·by_cases h0 : len = 0
  ·subst h0
   obtain ⟨i, o, hi⟩ := jgM (W := W) (gs := gs) (l := 0) (c := cap) (a := a)
   exact fin [] (rzN _) (fun d h => by cases h) ⟨rzY _, .inr ⟨i, o, _, hi, fun h => absurd rfl h, (by rw [IsDs]; trivial), .inl ⟨by omega, rzY _⟩⟩⟩
  ·obtain ⟨b, o, c, tb, fz, n', rfl, hn', hb, hi⟩ := hr (by omega)
   obtain ⟨l, hl1, hl2⟩ := jgt (len := len) (Q := fun i d => (∃ cs, Has (memW W gs) (idB gs b) (o + 8 * i) cs ∧ IsD (memW W gs) d cs) ∧ Sm q d) fun i hil => by
    obtain ⟨row, y, q1, qb, q2⟩ := hi i hil
    obtain ⟨d, hd, hS⟩ := ih n' (by omega) q1 (by omega)
    refine ⟨d, ⟨_, jeV hlt hb (fun j v hj => ?_) ?_, hd⟩, hS.mono (by omega)⟩
    ·rw [Nat.mul_comm 8 i]
     exact q2 j v hj
    ·rintro rfl
     cases d
     rw [jdh] at hd
     obtain ⟨_, _, h, _⟩ := hd
     cases h
   refine fin l (by omega) (fun d hd => ?_) ⟨by omega, .inr ⟨_, _, _, by rw [hl1]; exact jjB hb, fun _ => id_lt hb, jiv fun i d h => (hl2 i d h).1, .inl ⟨by omega, by omega⟩⟩⟩
   obtain ⟨i, hi, rfl⟩ := List.mem_iff_getElem.1 hd
   exact (hl2 i _ (rzK hi)).2
theorem jkh (hB : Bulk B A) (hlt : gs < 870) {v : Value} (h : DataW.trod enc pZ W 0 sp hd fuel 25 [v] = some x) (hBx : B x.1 ≤ 2000000) : ∃ l, IsL (memW W gs) l (absV W gs v) ∧ ∀ d ∈ l, Sm (B x.1) d := by
 obtain ⟨v', len, q4, hle, _, hv⟩ := jgf hB Tryz.underlying25 jiJ (by decide) h
 cases q4
 rcases hv with ⟨rfl, rfl⟩ | ⟨a, cap, rfl, hcp, hr⟩
 ·exact ⟨[], ⟨rzY _, .inl ⟨rfl, rfl⟩⟩, fun d h => by cases h⟩
 ·by_cases h0 : len = 0
  ·subst h0
   obtain ⟨i, o, hi⟩ := jgM (W := W) (gs := gs) (l := 0) (c := cap) (a := a)
   exact ⟨[], ⟨rzY _, .inr ⟨i, o, _, hi, fun h => absurd rfl h, (by rw [IsDs]; trivial), .inl ⟨by omega, rzY _⟩⟩⟩, fun d h => by cases h⟩
  ·obtain ⟨b, o, c, tb, fz, n', rfl, hn', hb, hi⟩ := hr (by omega)
   obtain ⟨l, hl1, hl2⟩ := jgt (len := len) (Q := fun i d => (∃ cs, Has (memW W gs) (idB gs b) (o + 8 * i) cs ∧ IsD (memW W gs) d cs) ∧ Sm (B x.1) d) fun i hil => by
    obtain ⟨row, y, q1, qb, q2⟩ := hi i hil
    obtain ⟨d, hd, hS⟩ := jiG hB hlt n' q1 (by omega)
    refine ⟨d, ⟨_, jeV hlt hb (fun j v hj => ?_) ?_, hd⟩, hS.mono (by omega)⟩
    ·rw [Nat.mul_comm 8 i]
     exact q2 j v hj
    ·rintro rfl
     cases d
     rw [jdh] at hd
     obtain ⟨_, _, h, _⟩ := hd
     cases h
   refine ⟨l, ⟨by omega, .inr ⟨_, _, _, by rw [hl1]; exact jjB hb, fun _ => id_lt hb, jiv fun i d h => (hl2 i d h).1, .inl ⟨by omega, by omega⟩⟩⟩, fun d hd => ?_⟩
   obtain ⟨i, hi, rfl⟩ := List.mem_iff_getElem.1 hd
   exact (hl2 i _ (rzK hi)).2
theorem jic {α : Type} {Q : Mem → α → List Value → Prop} {w : Nat} (hlt : gs < 870) (ht : P.underlying t = some (.slice e)) (hc : P.cellsOf e = w) (hw : 0 < w) (hne : ∀ μ a, ¬ Q μ a []) (each : ∀ {n : Nat} {row : List Value} {y : DataW H × List MemPlace}, DataW.trod enc P W 0 sp hd n e row = some y → ∃ a, Q (memW W gs) a (row.map (absV W gs))) (h : DataW.trod enc P W 0 sp hd fuel t cs = some x) :
  ∃ v l, cs = [v] ∧ l.length ≤ maxLen ∧ Rw w Q (memW W gs) l (absV W gs v) := by
 obtain ⟨v, len, rfl, hle, hv⟩ := trod_sl ht hc hw h
 rcases hv with ⟨rfl, rfl⟩ | ⟨a, cap, rfl, hcp, hr⟩
 ·exact ⟨_, [], rfl, rzY _, .inl ⟨rfl, rfl⟩⟩
 ·by_cases h0 : len = 0
  ·subst h0
   obtain ⟨i, o, hi⟩ := jgM (W := W) (gs := gs) (l := 0) (c := cap) (a := a)
   exact ⟨_, [], rfl, rzY _, .inr ⟨i, o, _, hi, fun h => absurd rfl h, fun k x hk => by simp at hk⟩⟩
  ·obtain ⟨b, o, c, tb, fz, n', rfl, hn', hb, hi⟩ := hr (by omega)
   obtain ⟨l, hl1, hl2⟩ := jgt (len := len) (Q := fun i a => ∃ cs, Has (memW W gs) (idB gs b) (o + w * i) cs ∧ Q (memW W gs) a cs) fun i hil => by
    obtain ⟨row, y, q1, q2⟩ := hi i hil
    obtain ⟨a, ha⟩ := each q1
    refine ⟨a, _, jeV hlt hb (fun j v hj => ?_) ?_, ha⟩
    ·rw [Nat.mul_comm w i]
     exact q2 j v hj
    ·rintro rfl
     exact hne _ _ ha
   exact ⟨_, l, rfl, by omega, .inr ⟨_, _, _, by rw [hl1]; exact jjB hb, fun _ => id_lt hb, hl2⟩⟩
theorem jjs : pZ.cellsOf 36 = 7 := by kernel_rfl
theorem jjt : pZ.cellsOf 23 = 3 := by kernel_rfl
theorem cells_Co : pZ.cellsOf 28 = 3 := by kernel_rfl
theorem cells_Prs : pZ.cellsOf 24 = 1 := by kernel_rfl
theorem cells_Iss : pZ.cellsOf 34 = 1 := by kernel_rfl
theorem cells_Sss : pZ.cellsOf 26 = 1 := by kernel_rfl
theorem thr3 {α : Type} {l : List α} (h : l.length = 3) : ∃ a b c, l = [a, b, c] := by
 obtain ⟨a, b, c, d, h1⟩ := four (l := l ++ l.take 1) (by rw [rzX, List.length_take, h]; rfl)
 refine ⟨a, b, c, ?_⟩
 have := congrArg (List.take 3) h1
 rwa [List.take_append_of_le_length (by omega), List.take_of_length_le (by omega)] at this
theorem sev7 {α : Type} {l : List α} (h : l.length = 7) : ∃ a b c d e f g, l = [a, b, c, d, e, f, g] := by
 obtain ⟨a, b, c, d, h1⟩ := four (l := l.take 4) (by rw [List.length_take, h]; rfl)
 obtain ⟨e, f, g, h2⟩ := thr3 (l := l.drop 4) (by rw [List.length_drop, h])
 exact ⟨a, b, c, d, e, f, g, by rw [← List.take_append_drop 4 l, h1, h2]; rfl⟩
theorem jjm {cs : List Value} (h : DataW.trod enc pZ W 0 sp hd fuel 23 cs = some x) : ∃ i : Ins, cs = [.int .i64 i.op, .int .i64 i.a, .int .i64 i.b] := by
 obtain ⟨xs, n, rfl, _, hl, hx, hf⟩ := DataW.trod_struct Tryz.underlying23 h
 rw [jjt] at hl
 obtain ⟨c0, c1, c2, rfl⟩ := thr3 hl
 have hx : xs.length = 3 := hx
 obtain ⟨x0, e0⟩ : ∃ y, xs[0]? = some y := ⟨_, rzK (by omega)⟩
 obtain ⟨x1, e1⟩ : ∃ y, xs[1]? = some y := ⟨_, rzK (by omega)⟩
 obtain ⟨x2, e2⟩ : ∃ y, xs[2]? = some y := ⟨_, rzK (by omega)⟩
 have h0 : DataW.trod enc pZ W 0 sp hd n 3 (([c0, c1, c2].drop 0).take (pZ.cellsOf 3)) = some x0 := (hf 0 _ rfl).trans e0
 have h1 : DataW.trod enc pZ W 0 sp hd n 3 (([c0, c1, c2].drop 1).take (pZ.cellsOf 3)) = some x1 := (hf 1 _ rfl).trans e1
 have h2 : DataW.trod enc pZ W 0 sp hd n 3 (([c0, c1, c2].drop 2).take (pZ.cellsOf 3)) = some x2 := (hf 2 _ rfl).trans e2
 simp only [jft, List.drop_zero, List.drop_succ_cons, List.take_succ_cons, List.take_zero] at h0 h1 h2
 obtain ⟨a, q0, _⟩ := jco h0
 obtain ⟨b, q1, _⟩ := jco h1
 obtain ⟨c, q2, _⟩ := jco h2
 cases q0; cases q1; cases q2
 exact ⟨⟨a, b, c⟩, rfl⟩
theorem prc_trod (hlt : gs < 870) {cs : List Value} (h : DataW.trod enc pZ W 0 sp hd fuel 36 cs = some x) : ∃ p, IsP (memW W gs) p (cs.map (absV W gs)) := by
 obtain ⟨xs, n, rfl, _, hl, hx, hf⟩ := DataW.trod_struct Tryz.underlying36 h
 rw [jjs] at hl
 obtain ⟨c0, c1, c2, c3, c4, c5, c6, rfl⟩ := sev7 hl
 have hx : xs.length = 7 := hx
 obtain ⟨x0, e0⟩ : ∃ y, xs[0]? = some y := ⟨_, rzK (by omega)⟩
 obtain ⟨x1, e1⟩ : ∃ y, xs[1]? = some y := ⟨_, rzK (by omega)⟩
 obtain ⟨x2, e2⟩ : ∃ y, xs[2]? = some y := ⟨_, rzK (by omega)⟩
 obtain ⟨x3, e3⟩ : ∃ y, xs[3]? = some y := ⟨_, rzK (by omega)⟩
 obtain ⟨x4, e4⟩ : ∃ y, xs[4]? = some y := ⟨_, rzK (by omega)⟩
 obtain ⟨x5, e5⟩ : ∃ y, xs[5]? = some y := ⟨_, rzK (by omega)⟩
 obtain ⟨x6, e6⟩ : ∃ y, xs[6]? = some y := ⟨_, rzK (by omega)⟩
 have h0 : DataW.trod enc pZ W 0 sp hd n 9 (([c0, c1, c2, c3, c4, c5, c6].drop 0).take (pZ.cellsOf 9)) = some x0 := (hf 0 _ rfl).trans e0
 have h1 : DataW.trod enc pZ W 0 sp hd n 3 (([c0, c1, c2, c3, c4, c5, c6].drop 1).take (pZ.cellsOf 3)) = some x1 := (hf 1 _ rfl).trans e1
 have h2 : DataW.trod enc pZ W 0 sp hd n 4 (([c0, c1, c2, c3, c4, c5, c6].drop 2).take (pZ.cellsOf 4)) = some x2 := (hf 2 _ rfl).trans e2
 have h3 : DataW.trod enc pZ W 0 sp hd n 3 (([c0, c1, c2, c3, c4, c5, c6].drop 3).take (pZ.cellsOf 3)) = some x3 := (hf 3 _ rfl).trans e3
 have h4 : DataW.trod enc pZ W 0 sp hd n 3 (([c0, c1, c2, c3, c4, c5, c6].drop 4).take (pZ.cellsOf 3)) = some x4 := (hf 4 _ rfl).trans e4
 have h5 : DataW.trod enc pZ W 0 sp hd n 3 (([c0, c1, c2, c3, c4, c5, c6].drop 5).take (pZ.cellsOf 3)) = some x5 := (hf 5 _ rfl).trans e5
 have h6 : DataW.trod enc pZ W 0 sp hd n 34 (([c0, c1, c2, c3, c4, c5, c6].drop 6).take (pZ.cellsOf 34)) = some x6 := (hf 6 _ rfl).trans e6
 simp only [jft, jeE, jfs, cells_Iss, List.drop_zero, List.drop_succ_cons, List.take_succ_cons, List.take_zero] at h0 h1 h2 h3 h4 h5 h6
 obtain ⟨s, q0, _, hs⟩ := DataW.trod_string Tryz.underlying9 h0
 obtain ⟨a, q1, _⟩ := jco h1
 obtain ⟨r, q2, _⟩ := DataW.trod_bool Tryz.underlying4 h2
 obtain ⟨b, q3, _⟩ := jco h3
 obtain ⟨c, q4, _⟩ := jco h4
 obtain ⟨d, q5, _⟩ := jco h5
 obtain ⟨v, l, q6, hll, hR⟩ := jic (Q := IsI) hlt Tryz.underlying34 jjt (by decide) (fun _ _ h => by cases h) (fun h => by
  obtain ⟨i, rfl⟩ := jjm h
  exact ⟨i, rfl⟩) h6
 cases q0; cases q1; cases q2; cases q3; cases q4; cases q5; cases q6
 exact ⟨⟨s, a, r, b, c, d, l⟩, _, rfl, hll, hs, hR⟩
theorem code_trod (hB : Bulk B A) (hlt : gs < 870) {cs : List Value} (h : DataW.trod enc pZ W 0 sp hd fuel 28 cs = some x) (hBx : B x.1 ≤ 2000000) : ∃ ps ds gl, IsC (memW W gs) ps ds gl (cs.map (absV W gs)) ∧ ∀ d ∈ ds, Sm (B x.1) d := by
 obtain ⟨xs, n, rfl, hxe, hl, hx, hf⟩ := DataW.trod_struct Tryz.underlying28 h
 rw [cells_Co] at hl
 obtain ⟨c0, c1, c2, rfl⟩ := thr3 hl
 have hx : xs.length = 3 := hx
 obtain ⟨x0, e0⟩ : ∃ y, xs[0]? = some y := ⟨_, rzK (by omega)⟩
 obtain ⟨x1, e1⟩ : ∃ y, xs[1]? = some y := ⟨_, rzK (by omega)⟩
 obtain ⟨x2, e2⟩ : ∃ y, xs[2]? = some y := ⟨_, rzK (by omega)⟩
 have h0 : DataW.trod enc pZ W 0 sp hd n 24 (([c0, c1, c2].drop 0).take (pZ.cellsOf 24)) = some x0 := (hf 0 _ rfl).trans e0
 have h1 : DataW.trod enc pZ W 0 sp hd n 25 (([c0, c1, c2].drop 1).take (pZ.cellsOf 25)) = some x1 := (hf 1 _ rfl).trans e1
 have h2 : DataW.trod enc pZ W 0 sp hd n 26 (([c0, c1, c2].drop 2).take (pZ.cellsOf 26)) = some x2 := (hf 2 _ rfl).trans e2
 simp only [cells_Prs, jju, cells_Sss, List.drop_zero, List.drop_succ_cons, List.take_succ_cons, List.take_zero] at h0 h1 h2
 have b1 := hB.part e1
 have hxx : B x.1 = B (.agg (xs.map (·.1))) := by rw [hxe]
 rw [← hxx] at b1
 obtain ⟨v0, ps, q0, hps, hR0⟩ := jic (Q := IsP) hlt Tryz.underlying24 jjs (by decide) (fun _ _ ⟨_, h, _⟩ => by cases h) (fun h => prc_trod hlt h) h0
 obtain ⟨ds, hL, hS⟩ := jkh hB hlt h1 (by omega)
 obtain ⟨v2, gl, q2, hgl, hR2⟩ := jic (Q := IsS) hlt Tryz.underlying26 jfs (by decide) (fun _ _ h => by cases h) (fun h => by
  obtain ⟨s, rfl, _, _⟩ := DataW.trod_string Tryz.underlying9 h
  exact ⟨s, rfl⟩) h2
 cases q0; cases q2
 exact ⟨ps, ds, gl, ⟨_, _, _, rfl, hps, hgl, hR0, hL, hR2⟩, fun d hd => (hS d hd).mono (by omega)⟩
end
structure LaidP (W : World) : Prop where
 pw : ∃ t, W.heap[(4 : Nat)]? = some (.cells ((List.range 20).map fun k => u (10 ^ k)).toArray t (0, 0))
theorem layP_hand {W : World} (hL : LaidP W) : LayP (memW W pZ.globals.size) := by
 obtain ⟨t, h⟩ := hL.pw
 have hz := gsz
 refine ⟨fun k hk => ?_, by show 20 < 900 + _; omega⟩
 have hc := jcO (k := k) (v := u (10 ^ k)) hz.2 h (by rw [List.getElem?_toArray, List.getElem?_map, List.getElem?_range hk]; rfl)
 rw [idB_low (rzO (by decide) hz.1)] at hc
 exact hc
theorem jko {X : XT} {μ : Mem} (h : jie μ roms = true) (k : Nat) : jbj pZ (jaj pZ X S0 k) S0 4 [] μ = some (.bool true, μ) := by
 show (match jie μ roms with | true => some (Value.bool true, μ) | false => none) = _
 rw [h]
theorem toBits : jb1 (aExt xs) := fun a μ => rfl
theorem toBits2 : jb7 (aExt xs) := fun a μ => rfl
theorem arel_2 {J : Nat → Ev.Loc} {a b a' b' : Value} (h1 : VRel J a a') (h2 : VRel J b b') : ARel J [a, b].toArray #[a', b'] := ⟨rfl, fun i x y hx hy => by
 match i with
 | 0 => simp at hx hy; subst hx hy; exact h1
 | 1 => simp at hx hy; subst hx hy; exact h2
 | i + 2 => simp at hx⟩
theorem jjA {W : World} {gs : Nat} (hlt : gs < 870) (c : Array Value) : VRel (jW W gs) (.agg (c.toList.map (absV W gs)).toArray) (.agg c) := .agg (by simp) fun i a b ha hb => by
 simp only [List.getElem?_toArray, List.getElem?_map, Array.getElem?_toList, hb, Option.map_some, Option.some.injEq] at ha
 subst ha
 exact abs_rel hlt b
section
variable {H : Type} {enc : TypeId × Value → H} {W : World} {sp : Nat → Bool} {hd : Bool} {B : DataW H → Nat} {A : List (DataW H) → Nat}
theorem ranE (hB : Bulk B A) (hL : Laid W) (hLP : LaidP W) {f1 f2 : Nat} {c1 c2 : Array Value} {x1 x2 : DataW H × List MemPlace} (h1 : DataW.trod enc pZ W 0 sp hd f1 23 c1.toList = some x1) (h2 : DataW.trod enc pZ W 0 sp hd f2 28 c2.toList = some x2) (hb : B x2.1 ≤ 2000000) :
  Calls pZ 3 #[.agg c1, .agg c2] W fun e W' => e = .returned (.bool true) ∧ Same W W' := by
 obtain ⟨i, hi⟩ := jjm h1
 obtain ⟨ps, ds, gl, hC, hS⟩ := code_trod hB gsz.2 h2 hb
 obtain ⟨g, hg⟩ : ∃ g, fu (B x2.1) + 3000 ≤ g := ⟨_, rzN _⟩
 obtain ⟨μ', hr, hG⟩ := jkf (X := aExt xs) (g := g) (x := i) hb bits1 bits2 toBits2 (lay_hand hL) (layP_hand hLP) toBits hC hS hg (fun k μ => jko rfl k)
 have ha := jjA (W := W) gsz.2 c1
 rw [hi] at ha
 exact jhx isNamed (jfF rows) mixed sums (by have := gsz.2; show _ < 900 + _; omega) (handsW rfl gsz.2) (arel_2 ha (jjA gsz.2 c2)) hr hG.2 rfl
end
end
end Go.Proofs.YtlkenchibdeinaaGreatDoor.ce
