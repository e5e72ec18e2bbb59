/-
  distafflaw10.CodeEffects, part Qk: its walk and its law. No conditions.
-/
import Derived.Test.YtlkenchibdeinaaGreatDoorDwQf
set_option linter.all false
set_option maxRecDepth 20000
set_option maxHeartbeats 8000000
namespace Go.Proofs.YtlkenchibdeinaaGreatDoor.ce
open YtlkenchibdeinaaGreatDoor.Ev
noncomputable section
@[go_sem] def gg12 {X ev} := gC X ev Tryz.func12 rfl rfl
@[go_sem] def gg5 {X ev} := gC X ev Tryz.func5 rfl rfl
def Rw {α : Type} (w : Nat) (Q : Mem → α → List Value → Prop) (μ : Mem) (l : List α) (v : Value) : Prop := (v = .slice none 0 0 ∧ l = []) ∨ ∃ i o c, v = .slice (some ⟨i, o, none⟩) l.length c ∧ (l ≠ [] → i < μ.next) ∧ ∀ (k : Nat) x, l[k]? = some x → ∃ cs, Has μ i (o + w * k) cs ∧ Q μ x cs
theorem Rw.grow {α : Type} {w : Nat} {Q : Mem → α → List Value → Prop} {μ μ' : Mem} {l : List α} {v : Value} (h : Rw w Q μ l v) (g : Grow μ μ') (hQ : ∀ x cs, Q μ x cs → Q μ' x cs) : Rw w Q μ' l v := by
 rcases h with h | ⟨i, o, c, h1, h2, h3⟩
 ·exact .inl h
 ·refine .inr ⟨i, o, c, h1, fun hn => rzO (h2 hn) g.1, fun k x hk => ?_⟩
  obtain ⟨cs, h4, h5⟩ := h3 k x hk
  exact ⟨cs, h4.keep (g.2 i (h2 (by rintro rfl; simp at hk))), hQ x cs h5⟩
theorem Rw.at {α : Type} {w : Nat} {Q : Mem → α → List Value → Prop} {μ : Mem} {l : List α} {v : Value} {k : Nat} {x : α} (h : Rw w Q μ l v) (hx : l[k]? = some x) : ∃ i o c cs, v = .slice (some ⟨i, o, none⟩) l.length c ∧ i < μ.next ∧ Has μ i (o + w * k) cs ∧ Q μ x cs := by
 rcases h with ⟨_, rfl⟩ | ⟨i, o, c, h1, h2, h3⟩
 ·simp at hx
 ·obtain ⟨cs, h4, h5⟩ := h3 k x hx
  exact ⟨i, o, c, cs, h1, h2 (by rintro rfl; simp at hx), h4, h5⟩
theorem Rw.len {α : Type} {w : Nat} {Q : Mem → α → List Value → Prop} {μ : Mem} {l : List α} {v : Value} {st e : TypeId} (hu : pZ.underlying st = some (.slice e)) (h : Rw w Q μ l v) : aLen pZ st v = some l.length := by
 unfold aLen
 rcases h with ⟨rfl, rfl⟩ | ⟨i, o, c, rfl, _⟩ <;> simp only [hu] <;> rfl
theorem Rw.one {α : Type} {w : Nat} {Q : Mem → α → List Value → Prop} {μ : Mem} {l : List α} {v : Value} (h : Rw w Q μ l v) : one v = true := by
 rcases h with ⟨rfl, rfl⟩ | ⟨i, o, c, rfl, _⟩ <;> rfl
theorem ix_w {st e : TypeId} {inf : TypeInfo} {w : Nat} (hu : pZ.underlying st = some (.slice e)) (hi : pZ.info? e = some inf) (hw : inf.size = w) {ρ : Operand → Value} {a b : Operand} {i o l c k : Nat} (hk : k < l) (h1 : ρ a = .slice (some ⟨i, o, none⟩) l c) (h2 : ρ b = .int .i64 (.ofNat k)) : jan pZ ρ st a b = some (.pointer (some ⟨i, o + w * k, none⟩)) := by
 unfold jan
 simp only [h1, h2, hu, aIdx, hi]
 rw [show Nat.blt k l = true from by simpa using hk]
 simp only
 rw [show Nat.mul k inf.size = w * k from by rw [hw]; exact Nat.mul_comm k w]
 unfold Addr.add
 by_cases g : w * k = 0
 ·rw [if_pos g, g]; rfl
 ·rw [if_neg g]
structure Ins where
 op : Int
 a : Int
 b : Int
structure Prc where
 nm : ByteArray
 pa : Int
 re : Bool
 sl : Int
 de : Int
 fr : Int
 co : List Ins
def IsI (_ : Mem) (x : Ins) (cs : List Value) : Prop := cs = [.int .i64 x.op, .int .i64 x.a, .int .i64 x.b]
def IsS (_ : Mem) (s : ByteArray) (cs : List Value) : Prop := cs = [.string s]
def IsP (μ : Mem) (p : Prc) (cs : List Value) : Prop := ∃ v, cs = [.string p.nm, .int .i64 p.pa, .bool p.re, .int .i64 p.sl, .int .i64 p.de, .int .i64 p.fr, v] ∧ p.co.length ≤ maxLen ∧ p.nm.size ≤ maxLen ∧ Rw 3 IsI μ p.co v
theorem IsP.grow {μ μ' : Mem} {p : Prc} {cs : List Value} (h : IsP μ p cs) (g : Grow μ μ') : IsP μ' p cs := by
 obtain ⟨v, h1, h2, h3, h4⟩ := h
 exact ⟨v, h1, h2, h3, h4.grow g fun _ _ h => h⟩
theorem IsP.seven {μ : Mem} {p : Prc} {cs : List Value} (h : IsP μ p cs) : cs.length = 7 ∧ cs.all one = true := by
 obtain ⟨v, rfl, _, _, h4⟩ := h
 refine ⟨rfl, ?_⟩
 simp only [List.all_cons, List.all_nil, h4.one]
 rfl
abbrev IsPs (μ : Mem) (l : List Prc) (v : Value) : Prop := Rw 7 IsP μ l v
abbrev IsSs (μ : Mem) (l : List ByteArray) (v : Value) : Prop := Rw 1 IsS μ l v
def IsC (μ : Mem) (ps : List Prc) (ds : List Dat) (gs : List ByteArray) (cs : List Value) : Prop := ∃ vp vd vg, cs = [vp, vd, vg] ∧ ps.length ≤ maxLen ∧ gs.length ≤ maxLen ∧ IsPs μ ps vp ∧ IsL μ ds vd ∧ IsSs μ gs vg
theorem IsC.grow {μ μ' : Mem} {ps : List Prc} {ds : List Dat} {gs : List ByteArray} {cs : List Value} (h : IsC μ ps ds gs cs) (g : Grow μ μ') : IsC μ' ps ds gs cs := by
 obtain ⟨vp, vd, vg, h1, h2, h3, h4, h5, h6⟩ := h
 exact ⟨vp, vd, vg, h1, h2, h3, h4.grow g fun _ _ h => h.grow g, h5.grow g, h6.grow g fun _ _ h => h⟩
theorem i_Pr : pZ.info? 36 = some Tryz.t36 := by kernel_rfl
theorem i_Ins : pZ.info? 23 = some Tryz.t23 := by kernel_rfl
theorem i_Co : pZ.info? 28 = some Tryz.t28 := by kernel_rfl
theorem i_Prs : pZ.info? 24 = some Tryz.t24 := by kernel_rfl
theorem i_Iss : pZ.info? 34 = some Tryz.t34 := by kernel_rfl
theorem i_Sss : pZ.info? 26 = some Tryz.t26 := by kernel_rfl
@[go_sem] def ld_Prs := jbK (P := pZ) Tryz.underlying24 rfl
@[go_sem] def ld_Iss := jbK (P := pZ) Tryz.underlying34 rfl
@[go_sem] def ld_Sss := jbK (P := pZ) Tryz.underlying26 rfl
@[go_sem] def fa_Co0 := jaq (P := pZ) (f := 0) (ft := 24) (off := 0) Tryz.underlying28 rfl i_Prs rfl
@[go_sem] def fa_Co1 := jaq (P := pZ) (f := 1) (ft := 25) (off := 1) Tryz.underlying28 rfl i_Dl rfl
@[go_sem] def fa_Co2 := jaq (P := pZ) (f := 2) (ft := 26) (off := 2) Tryz.underlying28 rfl i_Sss rfl
@[go_sem] def fa_Pr0 := jaq (P := pZ) (f := 0) (ft := 9) (off := 0) Tryz.underlying36 rfl jkb rfl
@[go_sem] def fa_Pr1 := jaq (P := pZ) (f := 1) (ft := 3) (off := 1) Tryz.underlying36 rfl jcg rfl
@[go_sem] def fa_Pr3 := jaq (P := pZ) (f := 3) (ft := 3) (off := 3) Tryz.underlying36 rfl jcg rfl
@[go_sem] def fa_Pr4 := jaq (P := pZ) (f := 4) (ft := 3) (off := 4) Tryz.underlying36 rfl jcg rfl
@[go_sem] def fa_Pr5 := jaq (P := pZ) (f := 5) (ft := 3) (off := 5) Tryz.underlying36 rfl jcg rfl
@[go_sem] def fa_Pr6 := jaq (P := pZ) (f := 6) (ft := 34) (off := 6) Tryz.underlying36 rfl i_Iss rfl
@[go_sem] def fa_Is0 := jaq (P := pZ) (f := 0) (ft := 3) (off := 0) Tryz.underlying23 rfl jcg rfl
@[go_sem] def fa_Is1 := jaq (P := pZ) (f := 1) (ft := 3) (off := 1) Tryz.underlying23 rfl jcg rfl
@[go_sem] def fa_Is2 := jaq (P := pZ) (f := 2) (ft := 3) (off := 2) Tryz.underlying23 rfl jcg rfl
theorem jed (a b c : Value) : aBox 28 (.agg #[a, b, c]) = some (obL 28 [a, b, c], fun id => .pointer (some ⟨id, 0, none⟩)) := rfl
theorem jfv (a b c : Value) : aBox 23 (.agg #[a, b, c]) = some (obL 23 [a, b, c], fun id => .pointer (some ⟨id, 0, none⟩)) := rfl
theorem Has.c3 {μ : Mem} {i : Nat} {a b c : Value} (h : Has μ i 0 [a, b, c]) : jal μ i 0 = some a ∧ jal μ i 1 = some b ∧ jal μ i 2 = some c := ⟨Has.cell h 0 (by simp), Has.cell h 1 (by simp), Has.cell h 2 (by simp)⟩
theorem Has.c7 {μ : Mem} {i : Nat} {a b c d e f g : Value} (h : Has μ i 0 [a, b, c, d, e, f, g]) : jal μ i 0 = some a ∧ jal μ i 1 = some b ∧ jal μ i 2 = some c ∧ jal μ i 3 = some d ∧ jal μ i 4 = some e ∧ jal μ i 5 = some f ∧ jal μ i 6 = some g :=
 ⟨Has.cell h 0 (by simp), Has.cell h 1 (by simp), Has.cell h 2 (by simp), Has.cell h 3 (by simp), Has.cell h 4 (by simp), Has.cell h 5 (by simp), Has.cell h 6 (by simp)⟩
theorem has_C {μ : Mem} {i : Nat} {a b c : Value} (h : Has μ i 0 [a, b, c]) : jcq pZ μ 28 (.pointer (some ⟨i, 0, none⟩)) = some (.agg #[a, b, c]) := h.load Tryz.underlying28 i_Co rfl
theorem Has.ld_P {μ : Mem} {i o : Nat} {l : List Value} (h : Has μ i o l) (hl : l.length = 7) : jcq pZ μ 36 (.pointer (some ⟨i, o, none⟩)) = some (.agg l.toArray) := h.load Tryz.underlying36 i_Pr (by rw [hl]; rfl)
theorem Has.ld_I {μ : Mem} {i o : Nat} {l : List Value} (h : Has μ i o l) (hl : l.length = 3) : jcq pZ μ 23 (.pointer (some ⟨i, o, none⟩)) = some (.agg l.toArray) := h.load Tryz.underlying23 i_Ins (by rw [hl]; rfl)
def zP7 : List Value := [.string ⟨#[]⟩, .int .i64 0, .bool false, .int .i64 0, .int .i64 0, .int .i64 0, .slice none 0 0]
def obPr (l : List Value) : Ob := .cells 7 36 l.toArray .e 0 0 false false
@[go_sem] theorem al_P : jcS pZ 36 = some (obPr zP7, fun id => .pointer (some ⟨id, 0, none⟩)) := by kernel_rfl
theorem blk_P {μ : Mem} {l : List Value} : Blk ⟨μ.obs.set μ.next (obPr l), μ.next + 1⟩ μ.next 7 36 := ⟨_, _, _, _, by show T.get _ _ = _; rw [T.get_set, if_pos rfl]; rfl⟩
theorem st_P {μ : Mem} {i o n t : Nat} {l : List Value} (h : Blk μ i n t) (ho : o + 7 ≤ n) (hl : l.length = 7) (h1 : l.all one = true) : jbx pZ μ 36 (.pointer (some ⟨i, o, none⟩)) (.agg l.toArray) = some (undef, putL μ i o l) := jcr (vs := l) i_Pr (by rw [hl]; rfl) h1 h (by omega)
def zI3 : List Value := [.int .i64 0, .int .i64 0, .int .i64 0]
def obIs (l : List Value) : Ob := .cells 3 23 l.toArray .e 0 0 false false
@[go_sem] theorem al_Ins : jcS pZ 23 = some (obIs zI3, fun id => .pointer (some ⟨id, 0, none⟩)) := by kernel_rfl
theorem blk_Ins {μ : Mem} {l : List Value} : Blk ⟨μ.obs.set μ.next (obIs l), μ.next + 1⟩ μ.next 3 23 := ⟨_, _, _, _, by show T.get _ _ = _; rw [T.get_set, if_pos rfl]; rfl⟩
theorem st_Ins {μ : Mem} {i o n t : Nat} {l : List Value} (h : Blk μ i n t) (ho : o + 3 ≤ n) (hl : l.length = 3) (h1 : l.all one = true) : jbx pZ μ 23 (.pointer (some ⟨i, o, none⟩)) (.agg l.toArray) = some (undef, putL μ i o l) := jcr (vs := l) i_Ins (by rw [hl]; rfl) h1 h (by omega)
def numB (n : Int) : Bool := !ilt n 0 && !ilt 16777215 n
theorem num_eq {n : Int} {X : XT} {g : Nat} {μ : Mem} (hg : 20 ≤ g) : aFun pZ (jaj pZ X S0 g) 12 [.int .i64 n] μ = some (.bool (numB n), μ) := by
 obtain ⟨k, rfl⟩ := gle hg
 refine jaF ?_
 unfold numB
 obtain ⟨b0, e0⟩ := eqx (ilt n 0)
 obtain ⟨b1, e1⟩ := eqx (ilt 16777215 n)
 rw [e0, e1]
 cases b0 <;> cases b1
 all_goals
  refine jaf Tryz.func12 rfl rfl (nbl rfl) ?_
  simp only [go_sem, Tryz.ntmps12]
  repeat ((first | refine jab rfl ?_ | refine jam rfl ?_); (try simp only [go_sem, e0, e1]); fail_if_success refine stk ?_)
  refine jad ?_
  refine ⟨rfl, .bool _, ?_, rfl, rfl⟩
  simp only [go_sem, Tryz.results12]
  try rfl
theorem great_eq {ps : List Prc} {ds : List Dat} {gs : List ByteArray} {cs : List Value} {X : XT} {g : Nat} {μ : Mem} (hC : IsC μ ps ds gs cs) (hg : 50 ≤ g) : ∃ μ', aFun pZ (jaj pZ X S0 g) 5 [.agg cs.toArray] μ = some (.bool (ilt 200 (.ofNat ps.length) || ilt 200 (.ofNat ds.length) || ilt 200 (.ofNat gs.length)), μ') ∧ Grow μ μ' := by
 obtain ⟨k, rfl⟩ := gle hg
 obtain ⟨vp, vd, vg, rfl, _, _, h4, h5, h6⟩ := hC
 have h1 := jey μ 28 [vp, vd, vg]
 have hG := ja5 μ (obL 28 [vp, vd, vg])
 obtain ⟨c0, c1, c2⟩ := Has.c3 h1
 have l4 := Rw.len Tryz.underlying24 h4
 have l5 := h5.len
 have l6 := Rw.len Tryz.underlying26 h6
 have key : EndsF (aFun pZ (jaj pZ X S0 (k + 50)) 5 [.agg #[vp, vd, vg]] μ) fun r μ' => r = .bool (ilt 200 (.ofNat ps.length) || ilt 200 (.ofNat ds.length) || ilt 200 (.ofNat gs.length)) ∧ Grow μ μ' := by
  obtain ⟨b0, e0⟩ := eqx (ilt 200 (.ofNat ps.length))
  obtain ⟨b1, e1⟩ := eqx (ilt 200 (.ofNat ds.length))
  obtain ⟨b2, e2⟩ := eqx (ilt 200 (.ofNat gs.length))
  rw [e0, e1, e2]
  cases b0 <;> cases b1
  all_goals
   refine jaf Tryz.func5 rfl rfl (nbl rfl) ?_
   simp only [go_sem, Tryz.ntmps5]
   repeat ((first | refine jab rfl ?_ | refine jam rfl ?_); (try simp only [go_sem, jed, c0, c1, c2, l4, l5, l6, jae, e0, e1, e2]); fail_if_success refine stk ?_)
   refine jad ?_
   refine ⟨rfl, .bool _, ?_, rfl, hG⟩
   simp only [go_sem, Tryz.results5]
   try rfl
 obtain ⟨r, μ', h1, rfl, h2⟩ := key
 exact ⟨μ', h1, h2⟩
@[go_sem] def gg8 {X ev} := gC X ev Tryz.func8 rfl rfl
@[go_sem] def gg7 {X ev} := gC X ev Tryz.func7 rfl rfl
def tkL : List Value := [.int .i64 0, .int .i64 0, .int .i64 1, .int .i64 0, .int .i64 0, .int .i64 1, .int .i64 1, .int .i64 1, .int .i64 1, .int .i64 2, .int .i64 0, .int .i64 0, .int .i64 1, .int .i64 0, .int .i64 0, .int .i64 1, .int .i64 1, .int .i64 0, .int .i64 1, .int .i64 0, .int .i64 0, .int .i64 0]
def ptL : List Value := [.int .i64 1, .int .i64 1, .int .i64 0, .int .i64 1, .int .i64 1, .int .i64 0, .int .i64 0, .int .i64 1, .int .i64 1, .int .i64 0, .int .i64 1, .int .i64 0, .int .i64 0, .int .i64 1, .int .i64 0, .int .i64 0, .int .i64 0, .int .i64 1, .int .i64 1, .int .i64 1, .int .i64 1, .int .i64 1]
def tkN : List Int := [0, 0, 1, 0, 0, 1, 1, 1, 1, 2, 0, 0, 1, 0, 0, 1, 1, 0, 1, 0, 0, 0]
def ptN : List Int := [1, 1, 0, 1, 1, 0, 0, 1, 1, 0, 1, 0, 0, 1, 0, 0, 0, 1, 1, 1, 1, 1]
theorem tk_at {q : Nat} (h : q < 22) : tkL[q]? = some (.int .i64 (tkN.getD q 0)) ∧ ptL[q]? = some (.int .i64 (ptN.getD q 0)) := by
 obtain rfl | rfl | rfl | rfl | rfl | rfl | rfl | rfl | rfl | rfl | rfl | rfl | rfl | rfl | rfl | rfl | rfl | rfl | rfl | rfl | rfl | rfl : q = 0 ∨ q = 1 ∨ q = 2 ∨ q = 3 ∨ q = 4 ∨ q = 5 ∨ q = 6 ∨ q = 7 ∨ q = 8 ∨ q = 9 ∨ q = 10 ∨ q = 11 ∨ q = 12 ∨ q = 13 ∨ q = 14 ∨ q = 15 ∨ q = 16 ∨ q = 17 ∨ q = 18 ∨ q = 19 ∨ q = 20 ∨ q = 21 := by omega
 all_goals exact ⟨rfl, rfl⟩
def frAt (ps : List Prc) (m : Nat) : Int := match ps[m]? with
 | some p => p.fr
 | none => 0
def effT (q m : Nat) (ps : List Prc) : Int := if q = 10 then frAt ps m else if q = 13 ∨ q = 14 then .ofNat (m + 1) else if q = 17 then .ofNat (m + m + 2) else tkN.getD q 0
def effP (q : Nat) : Int := ptN.getD q 0
theorem bd_tk (r : Rg) : jb0 pZ (aev pZ r) 55 #[(0, .const (.int .i64 0)), (1, .const (.int .i64 0)), (2, .const (.int .i64 1)), (3, .const (.int .i64 0)), (4, .const (.int .i64 0)), (5, .const (.int .i64 1)), (6, .const (.int .i64 1)), (7, .const (.int .i64 1)), (8, .const (.int .i64 1)), (9, .const (.int .i64 2)), (10, .const (.int .i64 0)), (11, .const (.int .i64 0)), (12, .const (.int .i64 1)), (13, .const (.int .i64 0)), (14, .const (.int .i64 0)), (15, .const (.int .i64 1)), (16, .const (.int .i64 1)), (17, .const (.int .i64 0)), (18, .const (.int .i64 1)), (19, .const (.int .i64 0)), (20, .const (.int .i64 0)), (21, .const (.int .i64 0))] = some (.agg tkL.toArray) := by kernel_rfl
theorem bd_pt (r : Rg) : jb0 pZ (aev pZ r) 55 #[(0, .const (.int .i64 1)), (1, .const (.int .i64 1)), (2, .const (.int .i64 0)), (3, .const (.int .i64 1)), (4, .const (.int .i64 1)), (5, .const (.int .i64 0)), (6, .const (.int .i64 0)), (7, .const (.int .i64 1)), (8, .const (.int .i64 1)), (9, .const (.int .i64 0)), (10, .const (.int .i64 1)), (11, .const (.int .i64 0)), (12, .const (.int .i64 0)), (13, .const (.int .i64 1)), (14, .const (.int .i64 0)), (15, .const (.int .i64 0)), (16, .const (.int .i64 0)), (17, .const (.int .i64 1)), (18, .const (.int .i64 1)), (19, .const (.int .i64 1)), (20, .const (.int .i64 1)), (21, .const (.int .i64 1))] = some (.agg ptL.toArray) := by kernel_rfl
def z22 : List Value := List.replicate 22 (.int .i64 0)
def ob22 : Ob := .cells 22 55 z22.toArray .e 0 0 false false
@[go_sem] theorem al_22 : jcS pZ 55 = some (ob22, fun id => .pointer (some ⟨id, 0, none⟩)) := by kernel_rfl
theorem jf6 {μ : Mem} : Blk ⟨μ.obs.set μ.next ob22, μ.next + 1⟩ μ.next 22 55 := ⟨_, _, _, _, by show T.get _ _ = _; rw [T.get_set, if_pos rfl]; rfl⟩
theorem i_22 : pZ.info? 55 = some Tryz.t55 := by kernel_rfl
theorem st_22 {μ : Mem} {i n t : Nat} {l : List Value} (h : Blk μ i n t) (ho : 22 ≤ n) (hl : l.length = 22) (h1 : l.all one = true) : jbx pZ μ 55 (.pointer (some ⟨i, 0, none⟩)) (.agg l.toArray) = some (undef, putL μ i 0 l) := jcr (vs := l) i_22 (by rw [hl]; rfl) h1 h (by omega)
theorem ix_22 {ρ : Operand → Value} {a b : Operand} {i q : Nat} (hq : q < 22) (h1 : ρ a = .pointer (some ⟨i, 0, none⟩)) (h2 : ρ b = .int .i64 (.ofNat q)) : jan pZ ρ 55 a b = some (.pointer (some ⟨i, q, none⟩)) := by
 unfold jan
 simp only [h1, h2, Tryz.underlying55, aIdx, jcg]
 rw [show Nat.blt q 22 = true from by simpa using hq]
 simp only [Addr.add]
 rw [show Nat.mul q Tryz.t3.size = q from Nat.mul_one q, rzT]
 split
 ·rename_i h; rw [h]
 ·rfl
theorem reff_eq {x : Ins} {q m : Nat} {ps : List Prc} {ds : List Dat} {gs : List ByteArray} {cs : List Value} {X : XT} {g : Nat} {μ : Mem} (hop : x.op = .ofNat q) (hq : q < 22) (ha : x.a = .ofNat m) (hm : m ≤ 16777215) (hC : IsC μ ps ds gs cs) (hg : 100 ≤ g) :
  ∃ μ', aFun pZ (jaj pZ X S0 g) 8 [.agg #[.int .i64 x.op, .int .i64 x.a, .int .i64 x.b], .agg cs.toArray] μ = some (.tuple #[.int .i64 (effT q m ps), .int .i64 (effP q)], μ') ∧ Grow μ μ' := by
 obtain ⟨k, rfl⟩ := gle hg
 obtain ⟨op, a, b⟩ := x
 have hop : op = .ofNat q := hop
 have ha : a = .ofNat m := ha
 subst hop ha
 obtain ⟨vp, vd, vg, rfl, hpl, _, h4, h5, h6⟩ := hC
 obtain ⟨h1, h2⟩ := jix μ 23 28 [.int .i64 (.ofNat q), .int .i64 (.ofNat m), .int .i64 b] [vp, vd, vg]
 have hG2 := jfl μ (obL 23 [.int .i64 (.ofNat q), .int .i64 (.ofNat m), .int .i64 b]) (obL 28 [vp, vd, vg])
 obtain ⟨μ2, hμ2⟩ := exq (⟨(μ.obs.set μ.next (obL 23 [.int .i64 (.ofNat q), .int .i64 (.ofNat m), .int .i64 b])).set (μ.next + 1) (obL 28 [vp, vd, vg]), μ.next + 1 + 1⟩ : Mem)
 rw [← hμ2] at h1 h2 hG2
 have n2 : μ2.next = μ.next + 1 + 1 := by rw [hμ2]
 obtain ⟨μ3, hμ3⟩ := exq (putL ⟨μ2.obs.set μ2.next ob22, μ2.next + 1⟩ μ2.next 0 tkL : Mem)
 have hst3 := st_22 (l := tkL) (jf6 (μ := μ2)) (by omega) rfl rfl
 have hG3 : Grow μ2 μ3 := by rw [hμ3]; exact (ja5 μ2 _).put_new (rzN _)
 have n3 : μ3.next = μ2.next + 1 := by rw [hμ3, jcd]
 have hT3 : Has μ3 μ2.next 0 tkL := by
  rw [hμ3]
  exact Has.of_put (vs := tkL) jf6 (by decide)
 rw [← hμ3] at hst3
 obtain ⟨μ4, hμ4⟩ := exq (putL ⟨μ3.obs.set μ3.next ob22, μ3.next + 1⟩ μ3.next 0 ptL : Mem)
 have hst4 := st_22 (l := ptL) (jf6 (μ := μ3)) (by omega) rfl rfl
 have hG4 : Grow μ3 μ4 := by rw [hμ4]; exact (ja5 μ3 _).put_new (rzN _)
 have n4 : μ4.next = μ3.next + 1 := by rw [hμ4, jcd]
 have hP4 : Has μ4 μ3.next 0 ptL := by
  rw [hμ4]
  exact Has.of_put (vs := ptL) jf6 (by decide)
 rw [← hμ4] at hst4
 have G24 := hG3.trans hG4
 have hG := hG2.trans G24
 obtain ⟨c0, c1, c2⟩ := Has.c3 (h1.keep (G24.2 _ (by omega)))
 obtain ⟨d0, _, _⟩ := Has.c3 (h2.keep (G24.2 _ (by omega)))
 obtain ⟨t1, t2⟩ := tk_at hq
 have ct : jal μ4 μ2.next q = some (.int .i64 (tkN.getD q 0)) := by
  have := (hT3.keep (hG4.2 _ (by omega))).cell q (show q < tkL.length from hq)
  rw [rzT] at this
  rw [this, rzK (show q < tkL.length from hq)] at *
  exact t1
 have cp : jal μ4 μ3.next q = some (.int .i64 (ptN.getD q 0)) := by
  have := hP4.cell q (show q < ptL.length from hq)
  rw [rzT] at this
  rw [this, rzK (show q < ptL.length from hq)] at *
  exact t2
 have c0' : ∀ M, jal ⟨μ4.obs, M⟩ μ.next 0 = some (.int .i64 (.ofNat q)) := fun M => c0
 have cp' : ∀ M, jal ⟨μ4.obs, M⟩ μ3.next q = some (.int .i64 (ptN.getD q 0)) := fun M => cp
 have l4 := Rw.len Tryz.underlying24 (h4.grow hG fun _ _ h => h.grow hG)
 have hixT : ∀ r x y, aev pZ r x = .pointer (some ⟨μ2.next, 0, none⟩) → aev pZ r y = .int .i64 (.ofNat q) → jan pZ (aev pZ r) 55 x y = some (.pointer (some ⟨μ2.next, q, none⟩)) := fun r x y g1 g2 => ix_22 hq g1 g2
 have hixP : ∀ r x y, aev pZ r x = .pointer (some ⟨μ3.next, 0, none⟩) → aev pZ r y = .int .i64 (.ofNat q) → jan pZ (aev pZ r) 55 x y = some (.pointer (some ⟨μ3.next, q, none⟩)) := fun r x y g1 g2 => ix_22 hq g1 g2
 have e0 : ilt (.ofNat q) 0 = false := dF (jao q 0) (by omega)
 have e1 : ilt 21 (.ofNat q) = false := dF (jcp q 21 21 rfl) (by omega)
 have e2 : ilt (.ofNat m) 0 = false := dF (jao m 0) (by omega)
 have s1 : jak .i64 (Int.add (.ofNat m) 1) = .ofNat (m + 1) := jaE m 1 (by omega)
 have s2 : jak .i64 (Int.add (.ofNat m) (.ofNat m)) = .ofNat (m + m) := jaE m m (by omega)
 have s3 : jak .i64 (Int.add (.ofNat (m + m)) 2) = .ofNat (m + m + 2) := jaE (m + m) 2 (by omega)
 have f10 := jaB q 10 10 rfl
 have f13 := jaB q 13 13 rfl
 have f14 := jaB q 14 14 rfl
 have f17 := jaB q 17 17 rfl
 have key : EndsF (aFun pZ (jaj pZ X S0 (k + 100)) 8 [.agg #[.int .i64 (.ofNat q), .int .i64 (.ofNat m), .int .i64 b], .agg #[vp, vd, vg]] μ) fun r μ' => r = .tuple #[.int .i64 (effT q m ps), .int .i64 (effP q)] ∧ Grow μ μ' := by
  refine jaf Tryz.func8 rfl rfl (nbl rfl) ?_
  simp only [go_sem, Tryz.ntmps8]
  refine jaa rfl ?_
  refine jaa rfl ?_
  simp only [go_sem, jfv, jed, ← hμ2]
  repeat ((first | refine jab rfl ?_ | refine jam rfl ?_); (try simp only [go_sem, bd_tk, bd_pt, hst3, hst4, c0, e0, e1, hixT, ct]); fail_if_success refine stk ?_)
  have cc : (q = 10 ∧ m < ps.length) ∨ (q = 10 ∧ ¬ m < ps.length) ∨ q = 13 ∨ q = 14 ∨ q = 17 ∨ (q ≠ 10 ∧ q ≠ 13 ∧ q ≠ 14 ∧ q ≠ 17) := by omega
  rcases cc with ⟨q10, hlt⟩ | ⟨q10, hlt⟩ | hc | hc | hc | ⟨q10, hc, hc2, hc3⟩
  rw [rzU q10] at f10
  rw [rzV (by omega)] at f13 f14 f17
  obtain ⟨bi, bo, bc, es, hv, hb, hH, hP⟩ := h4.at (rzK hlt)
  obtain ⟨p, hp⟩ := exq (ps[m]'hlt)
  rw [← hp] at hP
  obtain ⟨w, hes, _⟩ := hP
  have e3 : ilt (.ofNat m) (.ofNat ps.length) = true := dT (jao _ _) hlt
  have hix : ∀ r x y, aev pZ r x = vp → aev pZ r y = .int .i64 (.ofNat m) → jan pZ (aev pZ r) 24 x y = some (.pointer (some ⟨bi, bo + 7 * m, none⟩)) := fun r x y g1 g2 => ix_w Tryz.underlying24 i_Pr rfl hlt (g1.trans hv) g2
  have cf : jal μ4 bi (bo + 7 * m + 5) = some (.int .i64 p.fr) := by
   rw [hes] at hH
   exact Has.cell (hH.keep (hG.2 _ hb)) 5 (by simp)
  have hT : effT q m ps = p.fr := by
   unfold effT frAt
   rw [if_pos q10, rzK hlt, ← hp]
  rw [hT]
  repeat ((first | refine jab rfl ?_ | refine jam rfl ?_); (try simp only [go_sem, c0, c1, d0, l4, jae, f10, f13, f14, f17, e2, e3, hix, cf]); fail_if_success refine stk ?_)
  rotate_left
  rw [rzU q10] at f10
  rw [rzV (by omega)] at f13 f14 f17
  have e3 : ilt (.ofNat m) (.ofNat ps.length) = false := dF (jao _ _) hlt
  have hT : effT q m ps = tkN.getD q 0 := by
   unfold effT frAt
   rw [if_pos q10, List.getElem?_eq_none (by omega), q10]
   rfl
  rw [hT]
  repeat ((first | refine jab rfl ?_ | refine jam rfl ?_); (try simp only [go_sem, c0, c1, d0, l4, jae, f10, f13, f14, f17, e2, e3]); fail_if_success refine stk ?_)
  rotate_left
  rw [rzU hc] at f13
  rw [rzV (by omega)] at f10 f14 f17
  have hT : effT q m ps = .ofNat (m + 1) := by unfold effT; rw [if_neg (by omega), if_pos (.inl hc)]
  rw [hT]
  rotate_left
  rw [rzU hc] at f14
  rw [rzV (by omega)] at f10 f13 f17
  have hT : effT q m ps = .ofNat (m + 1) := by unfold effT; rw [if_neg (by omega), if_pos (.inr hc)]
  rw [hT]
  rotate_left
  rw [rzU hc] at f17
  rw [rzV (by omega)] at f10 f13 f14
  have hT : effT q m ps = .ofNat (m + m + 2) := by unfold effT; rw [if_neg (by omega), if_neg (by omega), if_pos hc]
  rw [hT]
  rotate_left
  rw [rzV (by omega)] at f10 f13 f14 f17
  have hT : effT q m ps = tkN.getD q 0 := by unfold effT; rw [if_neg q10, if_neg (by omega), if_neg hc3]
  rw [hT]
  all_goals
   repeat ((first | refine jab rfl ?_ | refine jam rfl ?_); (try simp only [go_sem, c0, c1, f10, f13, f14, f17, s1, s2, s3]); fail_if_success refine stk ?_)
   skip
   refine jaz (n := 7) (ms := [0, 0, 2, 6, 14, 1, 63]) (ord := [0, 1, 2, 3, 4, 5, 6]) (ds := ?_) ?_ ?_ ?_ ?_ ?_ ?_
   rotate_left
   ·kernel_rfl
   ·kernel_rfl
   ·kernel_rfl
   ·rfl
   ·rfl
   repeat (first | (refine ja8 ?_ rfl ?_; (solve | simp only [go_sem, c0', hixP, cp'])) | (refine jay (v := ?_) (μ' := ?_) (sn' := ?_) ?_ ?_ rfl ?_; rotate_left 3; (solve | rfl | simp only [go_sem, c0', hixP, cp']); (solve | simp only [jaC, heavy, jaO, jar, go_sem, c0', hixP, cp']; try exact rfl)))
   simp only [dRun, jat, jai]
   refine jad ?_
   refine ⟨rfl, ?_⟩
   simp only [go_sem, Tryz.results8]
   exact ⟨_, rfl, rfl, hG.trans (jez μ4 7)⟩
 obtain ⟨r, μ', h1, rfl, h2⟩ := key
 exact ⟨μ', h1, h2⟩
theorem reff_out {x : Ins} {ps : List Prc} {ds : List Dat} {gs : List ByteArray} {cs : List Value} {X : XT} {g : Nat} {μ : Mem} (hop : x.op < 0 ∨ 21 < x.op) (hC : IsC μ ps ds gs cs) (hg : 100 ≤ g) :
  ∃ μ', aFun pZ (jaj pZ X S0 g) 8 [.agg #[.int .i64 x.op, .int .i64 x.a, .int .i64 x.b], .agg cs.toArray] μ = some (.tuple #[.int .i64 0, .int .i64 0], μ') ∧ Grow μ μ' := by
 obtain ⟨k, rfl⟩ := gle hg
 obtain ⟨op, a, b⟩ := x
 have hop : op < 0 ∨ 21 < op := hop
 obtain ⟨vp, vd, vg, rfl, hpl, _, h4, h5, h6⟩ := hC
 obtain ⟨h1, h2⟩ := jix μ 23 28 [.int .i64 op, .int .i64 a, .int .i64 b] [vp, vd, vg]
 have hG2 := jfl μ (obL 23 [.int .i64 op, .int .i64 a, .int .i64 b]) (obL 28 [vp, vd, vg])
 obtain ⟨μ2, hμ2⟩ := exq (⟨(μ.obs.set μ.next (obL 23 [.int .i64 op, .int .i64 a, .int .i64 b])).set (μ.next + 1) (obL 28 [vp, vd, vg]), μ.next + 1 + 1⟩ : Mem)
 rw [← hμ2] at h1 h2 hG2
 have n2 : μ2.next = μ.next + 1 + 1 := by rw [hμ2]
 obtain ⟨μ3, hμ3⟩ := exq (putL ⟨μ2.obs.set μ2.next ob22, μ2.next + 1⟩ μ2.next 0 tkL : Mem)
 have hst3 := st_22 (l := tkL) (jf6 (μ := μ2)) (by omega) rfl rfl
 have hG3 : Grow μ2 μ3 := by rw [hμ3]; exact (ja5 μ2 _).put_new (rzN _)
 have n3 : μ3.next = μ2.next + 1 := by rw [hμ3, jcd]
 rw [← hμ3] at hst3
 obtain ⟨μ4, hμ4⟩ := exq (putL ⟨μ3.obs.set μ3.next ob22, μ3.next + 1⟩ μ3.next 0 ptL : Mem)
 have hst4 := st_22 (l := ptL) (jf6 (μ := μ3)) (by omega) rfl rfl
 have hG4 : Grow μ3 μ4 := by rw [hμ4]; exact (ja5 μ3 _).put_new (rzN _)
 have n4 : μ4.next = μ3.next + 1 := by rw [hμ4, jcd]
 rw [← hμ4] at hst4
 have G24 := hG3.trans hG4
 obtain ⟨c0, c1, c2⟩ := Has.c3 (h1.keep (G24.2 _ (by omega)))
 obtain ⟨b0, e0⟩ := eqx (ilt op 0)
 obtain ⟨b1, e1⟩ := eqx (ilt 21 op)
 have cc : b0 = true ∨ (b0 = false ∧ b1 = true) := by
  rw [← e0, ← e1, jaZ, jaZ]
  simp only [decide_eq_true_eq, decide_eq_false_iff_not]
  omega
 have key : EndsF (aFun pZ (jaj pZ X S0 (k + 100)) 8 [.agg #[.int .i64 op, .int .i64 a, .int .i64 b], .agg #[vp, vd, vg]] μ) fun r μ' => r = .tuple #[.int .i64 0, .int .i64 0] ∧ Grow μ μ' := by
  rcases cc with rfl | ⟨rfl, rfl⟩
  all_goals
   refine jaf Tryz.func8 rfl rfl (nbl rfl) ?_
   simp only [go_sem, Tryz.ntmps8]
   refine jaa rfl ?_
   refine jaa rfl ?_
   simp only [go_sem, jfv, jed, ← hμ2]
   repeat ((first | refine jab rfl ?_ | refine jam rfl ?_); (try simp only [go_sem, bd_tk, bd_pt, hst3, hst4, c0, e0, e1]); fail_if_success refine stk ?_)
   refine jad ?_
   refine ⟨rfl, ?_⟩
   simp only [go_sem, Tryz.results8]
   exact ⟨_, rfl, rfl, hG2.trans G24⟩
 obtain ⟨r, μ', h1, rfl, h2⟩ := key
 exact ⟨μ', h1, h2⟩
theorem jbM {a b : Int} (h : a ≠ b) : ieq a b = false := by
 rw [jc5]
 exact beq_eq_false_iff_ne.2 h
theorem peff_out {x : Ins} {ps : List Prc} {ds : List Dat} {gs : List ByteArray} {cs : List Value} {X : XT} {g : Nat} {μ : Mem} (hop : x.op < 0 ∨ 21 < x.op) (hC : IsC μ ps ds gs cs) (hg : 100 ≤ g) :
  ∃ μ', aFun pZ (jaj pZ X S0 g) 7 [.agg #[.int .i64 x.op, .int .i64 x.a, .int .i64 x.b], .agg cs.toArray] μ = some (.tuple #[.int .i64 0, .int .i64 0], μ') ∧ Grow μ μ' := by
 obtain ⟨k, rfl⟩ := gle hg
 obtain ⟨op, a, b⟩ := x
 have hop : op < 0 ∨ 21 < op := hop
 obtain ⟨vp, vd, vg, rfl, hpl, _, h4, h5, h6⟩ := hC
 obtain ⟨h1, h2⟩ := jix μ 23 28 [.int .i64 op, .int .i64 a, .int .i64 b] [vp, vd, vg]
 have hG2 := jfl μ (obL 23 [.int .i64 op, .int .i64 a, .int .i64 b]) (obL 28 [vp, vd, vg])
 obtain ⟨μ2, hμ2⟩ := exq (⟨(μ.obs.set μ.next (obL 23 [.int .i64 op, .int .i64 a, .int .i64 b])).set (μ.next + 1) (obL 28 [vp, vd, vg]), μ.next + 1 + 1⟩ : Mem)
 rw [← hμ2] at h1 h2 hG2
 obtain ⟨c0, c1, c2⟩ := Has.c3 h1
 have e0 : ieq op 0 = false := jbM (by omega)
 have e1 : ieq op 1 = false := jbM (by omega)
 have e2 : ieq op 2 = false := jbM (by omega)
 have e3 : ieq op 3 = false := jbM (by omega)
 have e4 : ieq op 4 = false := jbM (by omega)
 have e5 : ieq op 5 = false := jbM (by omega)
 have e6 : ieq op 6 = false := jbM (by omega)
 have e7 : ieq op 7 = false := jbM (by omega)
 have e8 : ieq op 8 = false := jbM (by omega)
 have e9 : ieq op 9 = false := jbM (by omega)
 have e10 : ieq op 10 = false := jbM (by omega)
 have e11 : ieq op 11 = false := jbM (by omega)
 have e12 : ieq op 12 = false := jbM (by omega)
 have e13 : ieq op 13 = false := jbM (by omega)
 have e14 : ieq op 14 = false := jbM (by omega)
 have e15 : ieq op 15 = false := jbM (by omega)
 have e16 : ieq op 16 = false := jbM (by omega)
 have e17 : ieq op 17 = false := jbM (by omega)
 have e18 : ieq op 18 = false := jbM (by omega)
 have e19 : ieq op 19 = false := jbM (by omega)
 have e20 : ieq op 20 = false := jbM (by omega)
 have e21 : ieq op 21 = false := jbM (by omega)
 have key : EndsF (aFun pZ (jaj pZ X S0 (k + 100)) 7 [.agg #[.int .i64 op, .int .i64 a, .int .i64 b], .agg #[vp, vd, vg]] μ) fun r μ' => r = .tuple #[.int .i64 0, .int .i64 0] ∧ Grow μ μ' := by
  refine jaf Tryz.func7 rfl rfl (nbl rfl) ?_
  simp only [go_sem, Tryz.ntmps7]
  refine jaa rfl ?_
  refine jaa rfl ?_
  simp only [go_sem, jfv, jed, ← hμ2]
  repeat ((first | refine jab rfl ?_ | refine jam rfl ?_); (try simp only [go_sem, c0, e0, e1, e2, e3, e4, e5, e6, e7, e8, e9, e10, e11, e12, e13, e14, e15, e16, e17, e18, e19, e20, e21]); fail_if_success refine stk ?_)
  refine jad ?_
  refine ⟨rfl, ?_⟩
  simp only [go_sem, Tryz.results7]
  exact ⟨_, rfl, rfl, hG2⟩
 obtain ⟨r, μ', h1, rfl, h2⟩ := key
 exact ⟨μ', h1, h2⟩
theorem peff_eq {x : Ins} {q m : Nat} {ps : List Prc} {ds : List Dat} {gs : List ByteArray} {cs : List Value} {X : XT} {g : Nat} {μ : Mem} (hop : x.op = .ofNat q) (hq : q < 22) (ha : x.a = .ofNat m) (hm : m ≤ 16777215) (hC : IsC μ ps ds gs cs) (hg : 100 ≤ g) :
  ∃ μ', aFun pZ (jaj pZ X S0 g) 7 [.agg #[.int .i64 x.op, .int .i64 x.a, .int .i64 x.b], .agg cs.toArray] μ = some (.tuple #[.int .i64 (effT q m ps), .int .i64 (effP q)], μ') ∧ Grow μ μ' := by
 obtain ⟨k, rfl⟩ := gle hg
 obtain ⟨op, a, b⟩ := x
 have hop : op = .ofNat q := hop
 have ha : a = .ofNat m := ha
 subst hop ha
 obtain ⟨vp, vd, vg, rfl, hpl, _, h4, h5, h6⟩ := hC
 obtain ⟨h1, h2⟩ := jix μ 23 28 [.int .i64 (.ofNat q), .int .i64 (.ofNat m), .int .i64 b] [vp, vd, vg]
 have hG2 := jfl μ (obL 23 [.int .i64 (.ofNat q), .int .i64 (.ofNat m), .int .i64 b]) (obL 28 [vp, vd, vg])
 obtain ⟨μ2, hμ2⟩ := exq (⟨(μ.obs.set μ.next (obL 23 [.int .i64 (.ofNat q), .int .i64 (.ofNat m), .int .i64 b])).set (μ.next + 1) (obL 28 [vp, vd, vg]), μ.next + 1 + 1⟩ : Mem)
 rw [← hμ2] at h1 h2 hG2
 obtain ⟨c0, c1, c2⟩ := Has.c3 h1
 obtain ⟨d0, _, _⟩ := Has.c3 h2
 have l4 := Rw.len Tryz.underlying24 (h4.grow hG2 fun _ _ h => h.grow hG2)
 have e2 : ilt (.ofNat m) 0 = false := dF (jao m 0) (by omega)
 have s1 : jak .i64 (Int.add (.ofNat m) 1) = .ofNat (m + 1) := jaE m 1 (by omega)
 have s2 : jak .i64 (Int.mul 2 (.ofNat m)) = .ofNat (2 * m) := jip 2 m (by omega)
 have s3 : jak .i64 (Int.add (.ofNat (2 * m)) 2) = .ofNat (2 * m + 2) := jaE (2 * m) 2 (by omega)
 have e100 := jaB q 0 0 rfl
 have e101 := jaB q 1 1 rfl
 have e102 := jaB q 2 2 rfl
 have e103 := jaB q 3 3 rfl
 have e104 := jaB q 4 4 rfl
 have e105 := jaB q 5 5 rfl
 have e106 := jaB q 6 6 rfl
 have e107 := jaB q 7 7 rfl
 have e108 := jaB q 8 8 rfl
 have e109 := jaB q 9 9 rfl
 have e110 := jaB q 10 10 rfl
 have e111 := jaB q 11 11 rfl
 have e112 := jaB q 12 12 rfl
 have e113 := jaB q 13 13 rfl
 have e114 := jaB q 14 14 rfl
 have e115 := jaB q 15 15 rfl
 have e116 := jaB q 16 16 rfl
 have e117 := jaB q 17 17 rfl
 have e118 := jaB q 18 18 rfl
 have e119 := jaB q 19 19 rfl
 have e120 := jaB q 20 20 rfl
 have e121 := jaB q 21 21 rfl
 have key : EndsF (aFun pZ (jaj pZ X S0 (k + 100)) 7 [.agg #[.int .i64 (.ofNat q), .int .i64 (.ofNat m), .int .i64 b], .agg #[vp, vd, vg]] μ) fun r μ' => r = .tuple #[.int .i64 (effT q m ps), .int .i64 (effP q)] ∧ Grow μ μ' := by
  by_cases q10 : q = 10
  ·subst q10
   by_cases hlt : m < ps.length
   ·obtain ⟨bi, bo, bc, es, hv, hb, hH, hP⟩ := h4.at (rzK hlt)
    obtain ⟨p, hp⟩ := exq (ps[m]'hlt)
    rw [← hp] at hP
    obtain ⟨w, hes, _⟩ := hP
    have e3 : ilt (.ofNat m) (.ofNat ps.length) = true := dT (jao _ _) hlt
    have hix : ∀ r x y, aev pZ r x = vp → aev pZ r y = .int .i64 (.ofNat m) → jan pZ (aev pZ r) 24 x y = some (.pointer (some ⟨bi, bo + 7 * m, none⟩)) := fun r x y g1 g2 => ix_w Tryz.underlying24 i_Pr rfl hlt (g1.trans hv) g2
    have cf : jal μ2 bi (bo + 7 * m + 5) = some (.int .i64 p.fr) := by
     rw [hes] at hH
     exact Has.cell (hH.keep (hG2.2 _ hb)) 5 (by simp)
    have hT : effT 10 m ps = p.fr := by
     show frAt ps m = _
     unfold frAt
     rw [rzK hlt, ← hp]
    rw [hT, show effP 10 = 1 from rfl]
    refine jaf Tryz.func7 rfl rfl (nbl rfl) ?_
    simp only [go_sem, Tryz.ntmps7]
    refine jaa rfl ?_
    refine jaa rfl ?_
    simp only [go_sem, jfv, jed, ← hμ2]
    repeat ((first | refine jab rfl ?_ | refine jam rfl ?_); (try simp only [go_sem, c0, c1, d0, l4, jae, e2, e3, hix, cf, e100, e101, e102, e103, e104, e105, e106, e107, e108, e109, e110, e111, e112, e113, e114, e115, e116, e117, e118, e119, e120, e121]); fail_if_success refine stk ?_)
    refine jad ?_
    refine ⟨rfl, ?_⟩
    simp only [go_sem, Tryz.results7]
    exact ⟨_, rfl, rfl, hG2⟩
   ·have e3 : ilt (.ofNat m) (.ofNat ps.length) = false := dF (jao _ _) hlt
    have hT : effT 10 m ps = 0 := by
     show frAt ps m = _
     unfold frAt
     rw [List.getElem?_eq_none (by omega)]
    rw [hT, show effP 10 = 1 from rfl]
    refine jaf Tryz.func7 rfl rfl (nbl rfl) ?_
    simp only [go_sem, Tryz.ntmps7]
    refine jaa rfl ?_
    refine jaa rfl ?_
    simp only [go_sem, jfv, jed, ← hμ2]
    repeat ((first | refine jab rfl ?_ | refine jam rfl ?_); (try simp only [go_sem, c0, c1, d0, l4, jae, e2, e3, e100, e101, e102, e103, e104, e105, e106, e107, e108, e109, e110, e111, e112, e113, e114, e115, e116, e117, e118, e119, e120, e121]); fail_if_success refine stk ?_)
    refine jad ?_
    refine ⟨rfl, ?_⟩
    simp only [go_sem, Tryz.results7]
    exact ⟨_, rfl, rfl, hG2⟩
  ·obtain rfl | rfl | rfl | rfl | rfl | rfl | rfl | rfl | rfl | rfl | rfl | rfl | rfl | rfl | rfl | rfl | rfl | rfl | rfl | rfl | rfl : q = 0 ∨ q = 1 ∨ q = 2 ∨ q = 3 ∨ q = 4 ∨ q = 5 ∨ q = 6 ∨ q = 7 ∨ q = 8 ∨ q = 9 ∨ q = 11 ∨ q = 12 ∨ q = 13 ∨ q = 14 ∨ q = 15 ∨ q = 16 ∨ q = 17 ∨ q = 18 ∨ q = 19 ∨ q = 20 ∨ q = 21 := by omega
   all_goals
    refine jaf Tryz.func7 rfl rfl (nbl rfl) ?_
    simp only [go_sem, Tryz.ntmps7]
    refine jaa rfl ?_
    refine jaa rfl ?_
    simp only [go_sem, jfv, jed, ← hμ2]
    repeat ((first | refine jab rfl ?_ | refine jam rfl ?_); (try simp only [go_sem, c0, c1, e2, s1, s2, s3, e100, e101, e102, e103, e104, e105, e106, e107, e108, e109, e110, e111, e112, e113, e114, e115, e116, e117, e118, e119, e120, e121]); fail_if_success refine stk ?_)
    refine jad ?_
    refine ⟨rfl, ?_⟩
    simp only [go_sem, Tryz.results7]
    refine ⟨_, rfl, ?_, hG2⟩
    first
     | rfl
     | (show Value.tuple #[.int .i64 (.ofNat (2 * m + 2)), _] = Value.tuple #[.int .i64 (.ofNat (m + m + 2)), _]; rw [Nat.two_mul]; rfl)
 obtain ⟨r, μ', h1, rfl, h2⟩ := key
 exact ⟨μ', h1, h2⟩
end
end Go.Proofs.YtlkenchibdeinaaGreatDoor.ce
