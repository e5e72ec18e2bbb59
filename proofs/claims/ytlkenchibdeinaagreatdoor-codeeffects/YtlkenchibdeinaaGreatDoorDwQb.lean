/-
  distafflaw10.CodeEffects, part Qb: its walk and its law. No conditions.
-/
import Derived.Test.YtlkenchibdeinaaGreatDoorDwP
set_option linter.all false
set_option maxRecDepth 20000
set_option maxHeartbeats 8000000
namespace Go.Proofs.YtlkenchibdeinaaGreatDoor.ce
open YtlkenchibdeinaaGreatDoor.Ev
noncomputable section
open Go.Proofs.YtlkenchibdeinaaGreatDoor.NumText (dig isE isS ndig unsg expo jdP jgx jd0 jin)
theorem byte_lt {s : ByteArray} {c : Nat} (h : c ∈ bys s) : c < 256 := by
 obtain ⟨b, _, rfl⟩ := List.mem_map.1 h
 exact b.toNat_lt
def jeo (s : ByteArray) : ByteArray := match bys s with
 | [] => s
 | c :: _ => if isS c then jc6 s 1 else s
theorem unsgS_bys (s : ByteArray) : bys (jeo s) = unsg (bys s) := by
 unfold jeo
 cases h : bys s with
 | nil => simp only [h]; rfl
 | cons c l =>
   simp only
   cases hc : isS c with
   | true => rw [if_pos rfl, jeb, h, NumText.unsg_t hc]; rfl
   | false => rw [if_neg (by decide), h, NumText.unsg_f hc]
theorem unsg_len (l : List Nat) : (unsg l).length ≤ l.length := by
 cases l with
 | nil => exact rzN _
 | cons a l =>
   cases h : isS a with
   | true => rw [NumText.unsg_t h]; exact Nat.le_succ _
   | false => rw [NumText.unsg_f h]; exact rzN _
theorem at0 {s : ByteArray} {c : Nat} {l : List Nat} (h : bys s = c :: l) {ρ : Operand → Value} {x y : Operand} {kd : IntKind} (hx : ρ x = .string s) (hy : ρ y = .int kd 0) : jaX pZ ρ 9 x y = some (.int .u8 (.ofNat c)) := by
 have h0 : 0 < (bys s).length := by rw [h]; exact rzW _
 have := jbB (kd := kd) (i := 0) h0 hx hy
 rw [this]
 congr 4
 simp only [h, List.getElem_cons_zero]
end
noncomputable section
open Go.Proofs.YtlkenchibdeinaaGreatDoor.NumText (dig isE isS ndig unsg expo jdP jgx jd0 jin)
attribute [local irreducible] jaS
end
noncomputable section
open Go.Proofs.YtlkenchibdeinaaGreatDoor.NumText (form next more run jeM)
def blkC : Code → Code
 | .block _ c => c
 | c => c
theorem next_le : ∀ st, st ≤ 9 → ∀ f, f = 100 ∨ f = 115 ∨ f = 112 ∨ f = 101 ∨ f = 120 → next st f ≤ 9 ∧ more st f ≤ 1 := by
 intro st hst f hf
 have hst : st = 0 ∨ st = 1 ∨ st = 2 ∨ st = 3 ∨ st = 4 ∨ st = 5 ∨ st = 6 ∨ st = 7 ∨ st = 8 ∨ st = 9 := by omega
 rcases hst with rfl | rfl | rfl | rfl | rfl | rfl | rfl | rfl | rfl | rfl <;> rcases hf with rfl | rfl | rfl | rfl | rfl <;> decide
theorem form_five (c : Nat) : form c = 100 ∨ form c = 115 ∨ form c = 112 ∨ form c = 101 ∨ form c = 120 := by
 unfold form
 split
 ·exact .inl rfl
 ·split
  ·exact .inr (.inl rfl)
  ·split
   ·exact .inr (.inr (.inl rfl))
   ·split
    ·exact .inr (.inr (.inr (.inl rfl)))
    ·exact .inr (.inr (.inr (.inr rfl)))
def SwP (st f : Nat) : Prop := ∀ (p i : Nat) (hp : p ≤ 1000) (s : ByteArray) {X : XT} {k : Nat} {tm : T Value} {μ : Mem} (h0 : jac tm 0 = .string s) (h3 : jac tm 3 = .int .i64 (.ofNat st)) (h4 : jac tm 4 = .int .i64 (.ofNat p)) (h5 : jac tm 5 = .int .i64 (.ofNat i)) (h6 : jac tm 6 = .int .u8 (.ofNat f)) (h7 : jac tm 7 = .int .i64 9),
  EndsC (jaj pZ X S0 (k + 60) (jaM 2 (blkC (jaM 1 (jbk Tryz.f151 0)))) ⟨80, tm, [], none⟩ μ) fun x r μ' => x = .normal ∧ μ' = μ ∧ ∃ tm', r = ⟨80, tm', [], none⟩ ∧ jac tm' 0 = .string s ∧ jac tm' 4 = .int .i64 (.ofNat (p + more st f)) ∧ jac tm' 5 = .int .i64 (.ofNat i) ∧ jac tm' 7 = .int .i64 (.ofNat (next st f))
set_option maxHeartbeats 40000000 in
theorem sw_lo {st f : Nat} (hst : st = 0 ∨ st = 1 ∨ st = 2 ∨ st = 3 ∨ st = 4) (hf : f = 100 ∨ f = 115 ∨ f = 112 ∨ f = 101 ∨ f = 120) : SwP st f := by
 intro p i hp s X k tm μ h0 h3 h4 h5 h6 h7
 have a1 : jak .i64 (Int.add (.ofNat p) 1) = .ofNat (p + 1) := jaE p 1 (by omega)
 rcases hst with rfl | rfl | rfl | rfl | rfl
 all_goals rcases hf with rfl | rfl | rfl | rfl | rfl
 all_goals (
  repeat (refine jaa rfl ?_; (try simp only [go_sem, h0, h3, h4, h5, h6, h7, a1, decide_true, decide_false, (jaB · 0 0 rfl), (jaB · 1 1 rfl), (jaB · 2 2 rfl), (jaB · 3 3 rfl), (jaB · 4 4 rfl), (jaB · 5 5 rfl), (jaB · 6 6 rfl), (jaB · 7 7 rfl), (jaB · 8 8 rfl), (jaB · 100 100 rfl), (jaB · 101 101 rfl), (jaB · 112 112 rfl), (jaB · 115 115 rfl)]); fail_if_success refine stk ?_)
  try simp only [jbi, jai]
  exact ⟨by trivial, by trivial, _, rfl, by simp only [go_sem, h0], by (simp only [go_sem, h4]; try rfl), by simp only [go_sem, h5], by (simp only [go_sem, h7]; try rfl)⟩)
set_option maxHeartbeats 40000000 in
theorem sw_hi {st f : Nat} (hst : st = 5 ∨ st = 6 ∨ st = 7 ∨ st = 8 ∨ st = 9) (hf : f = 100 ∨ f = 115 ∨ f = 112 ∨ f = 101 ∨ f = 120) : SwP st f := by
 intro p i hp s X k tm μ h0 h3 h4 h5 h6 h7
 have a1 : jak .i64 (Int.add (.ofNat p) 1) = .ofNat (p + 1) := jaE p 1 (by omega)
 rcases hst with rfl | rfl | rfl | rfl | rfl
 all_goals rcases hf with rfl | rfl | rfl | rfl | rfl
 all_goals (
  repeat (refine jaa rfl ?_; (try simp only [go_sem, h0, h3, h4, h5, h6, h7, a1, decide_true, decide_false, (jaB · 0 0 rfl), (jaB · 1 1 rfl), (jaB · 2 2 rfl), (jaB · 3 3 rfl), (jaB · 4 4 rfl), (jaB · 5 5 rfl), (jaB · 6 6 rfl), (jaB · 7 7 rfl), (jaB · 8 8 rfl), (jaB · 100 100 rfl), (jaB · 101 101 rfl), (jaB · 112 112 rfl), (jaB · 115 115 rfl)]); fail_if_success refine stk ?_)
  try simp only [jbi, jai]
  exact ⟨by trivial, by trivial, _, rfl, by simp only [go_sem, h0], by (simp only [go_sem, h4]; try rfl), by simp only [go_sem, h5], by (simp only [go_sem, h7]; try rfl)⟩)
theorem sw_ex (st f : Nat) (hst : st ≤ 9) (hf : f = 100 ∨ f = 115 ∨ f = 112 ∨ f = 101 ∨ f = 120) : SwP st f := by
 by_cases h : st ≤ 4
 ·exact sw_lo (by omega) hf
 ·exact sw_hi (by omega) hf
end
noncomputable section
open Go.Proofs.YtlkenchibdeinaaGreatDoor.NumText (form next more run jeM)
theorem g_form {c : Nat} (hc : c < 256) {X : XT} {ev : ET} (μ : Mem) : aGo pZ X (jbj pZ ev S0) 196 [.int .u8 (.ofNat c)] μ = some (.int .u8 (.ofNat (form c)), μ) :=
 (jeB Tryz.func196 rfl).trans (jf2 (f := fF) rfl (by show (if c < 256 then _ else _) = _; rw [if_pos hc]) rfl rfl)
theorem swC_ex : ∃ c : Code, c = (jaM 2 (blkC (jaM 1 (jbk Tryz.f151 0)))) := ⟨_, rfl⟩
def swC : Code := Classical.choose swC_ex
theorem swC_eq : swC = (jaM 2 (blkC (jaM 1 (jbk Tryz.f151 0)))) := Classical.choose_spec swC_ex
theorem sw_ex' (st f : Nat) (hst : st ≤ 9) (hf : f = 100 ∨ f = 115 ∨ f = 112 ∨ f = 101 ∨ f = 120) (p i : Nat) (hp : p ≤ 1000) (s : ByteArray) {X : XT} {k : Nat} {tm : T Value} {μ : Mem} (h0 : jac tm 0 = .string s) (h3 : jac tm 3 = .int .i64 (.ofNat st)) (h4 : jac tm 4 = .int .i64 (.ofNat p)) (h5 : jac tm 5 = .int .i64 (.ofNat i)) (h6 : jac tm 6 = .int .u8 (.ofNat f)) (h7 : jac tm 7 = .int .i64 9) :
  EndsC (jaj pZ X S0 (k + 60) swC ⟨80, tm, [], none⟩ μ) fun x r μ' => x = .normal ∧ μ' = μ ∧ ∃ tm', r = ⟨80, tm', [], none⟩ ∧ jac tm' 0 = .string s ∧ jac tm' 4 = .int .i64 (.ofNat (p + more st f)) ∧ jac tm' 5 = .int .i64 (.ofNat i) ∧ jac tm' 7 = .int .i64 (.ofNat (next st f)) := by
 rw [swC_eq]
 exact sw_ex st f hst hf p i hp s h0 h3 h4 h5 h6 h7
theorem rb0 : (jbk Tryz.f151 0) = .seq (jaM 0 (jbk Tryz.f151 0)) (.seq (.block 1 (.seq (jaM 0 (blkC (jaM 1 (jbk Tryz.f151 0)))) (.seq (jaM 1 (blkC (jaM 1 (jbk Tryz.f151 0)))) (.seq swC (jaS 3 (blkC (jaM 1 (jbk Tryz.f151 0)))))))) (jaS 2 (jbk Tryz.f151 0))) := by rw [swC_eq]; kernel_rfl
theorem rr_loop {s : ByteArray} (hl : (bys s).length ≤ 1000) : ∀ (m i st p : Nat), i + m = (bys s).length → st ≤ 9 → p ≤ i → ∃ st' p', st' ≤ 9 ∧ p' ≤ 1000 ∧ run st p ((bys s).drop i) = run st' p' [] ∧ ∀ {X : XT} {e : Nat} {tm : T Value} {μ : Mem}, jac tm 0 = .string s → jac tm 3 = .int .i64 (.ofNat st) → jac tm 4 = .int .i64 (.ofNat p) → jac tm 5 = .int .i64 (.ofNat i) →
  LpC X (e + m + 90) Tryz.f151 0 80 tm μ fun x r μ' => x = .exit 0 ∧ μ' = μ ∧ ∃ tm', r = ⟨80, tm', [], none⟩ ∧ jac tm' 3 = .int .i64 (.ofNat st') ∧ jac tm' 4 = .int .i64 (.ofNat p') := by
 have ls := jaU s
 intro m
 induction m with
 | zero =>
   intro i st p hi hst hp
   have hi : i = (bys s).length := hi
   have e1 : ilt (.ofNat i) (.ofNat (bys s).length) = false := dF (jao _ _) (by omega)
   refine ⟨st, p, hst, by omega, by rw [hi, List.drop_length], fun {X e tm μ} h0 h3 h4 h5 => ?_⟩
   refine jah ?_
   repeat (refine jaa rfl ?_; (try simp only [go_sem, h0, h3, h4, h5, ls, jae, e1]); fail_if_success refine stk ?_)
   exact ⟨by trivial, by trivial, _, rfl, by simp only [go_sem, h3], by simp only [go_sem, h4]⟩
 | succ m ih =>
   intro i st p hi hst hp
   have hlt : i < (bys s).length := by omega
   have hdr : (bys s).drop i = (bys s)[i]'hlt :: (bys s).drop (i + 1) := List.drop_eq_getElem_cons hlt
   obtain ⟨c, hc⟩ := exq ((bys s)[i]'hlt)
   have hc256 : c < 256 := by rw [hc]; exact byte_lt (List.getElem_mem hlt)
   rw [← hc] at hdr
   have hx : ∀ r x y, aev pZ r x = .string s → aev pZ r y = .int .i64 (.ofNat i) → jaX pZ (aev pZ r) 9 x y = some (.int .u8 (.ofNat c)) := fun r x y h1 h2 => by rw [hc]; exact jbB hlt h1 h2
   have e1 : ilt (.ofNat i) (.ofNat (bys s).length) = true := dT (jao _ _) hlt
   have a1 : jak .i64 (Int.add (.ofNat i) 1) = .ofNat (i + 1) := jaE i 1 (by omega)
   clear hc
   have gf := fun (X : XT) (ev : ET) (μ : Mem) => g_form hc256 (X := X) (ev := ev) μ
   have h5f := form_five c
   obtain ⟨n1, n2⟩ := next_le st hst (form c) h5f
   obtain ⟨st', p', b1, b2, b3, hih⟩ := ih (i + 1) (next st (form c)) (p + more st (form c)) (by omega) n1 (by omega)
   refine ⟨st', p', b1, b2, by rw [hdr, run]; exact b3, fun {X e tm μ} h0 h3 h4 h5 => ?_⟩
   refine jah ?_
   rw [rb0]
   repeat (refine jaa rfl ?_; (try simp only [go_sem, h0, h3, h4, h5, ls, jae, e1, hx, gf]); fail_if_success refine stk ?_)
   rw [(by omega : e + (m + 1) + 83 = (e + m + 24) + 60)]
   refine rzM (sw_ex' st (form c) hst h5f p i (by omega) s (by simp only [go_sem, h0]) (by simp only [go_sem, h3]) (by simp only [go_sem, h4]) (by simp only [go_sem, h5]) (by simp only [go_sem]) (by simp only [go_sem])) ?_
   rintro x r μ' ⟨rfl, rfl, tm', rfl, h0, h4, h5, h7⟩
   simp only [jai]
   repeat (refine jaa rfl ?_; (try simp only [go_sem, h0, h4, h5, h7, a1]); fail_if_success refine stk ?_)
   rw [← rb0, (by omega : e + (m + 1) + 89 = e + m + 90)]
   exact hih (by simp only [go_sem, h0]) (by simp only [go_sem]) (by simp only [go_sem, h4]) (by simp only [go_sem])
theorem jif {X : XT} {g : Nat} {s : ByteArray} {μ : Mem} (hl : (bys s).length ≤ 1000) (hg : 1200 ≤ g) : aFun pZ (jaj pZ X S0 g) 151 [.string s] μ = some (.bool (jeM (bys s)), μ) := by
 obtain ⟨k, rfl⟩ := gle hg
 obtain ⟨st, p, b1, b2, b3, hlp⟩ := rr_loop hl (bys s).length 0 0 0 (rzT _) (by decide) (rzN _)
 have hr : jeM (bys s) = run st p [] := by rw [← b3, List.drop_zero]; rfl
 rw [hr]
 refine jaF ?_
 refine jaf Tryz.func151 rfl rfl (nbl rfl) ?_
 simp only [go_sem, Tryz.ntmps151]
 repeat (refine jaa rfl ?_; (try simp only [go_sem]); fail_if_success refine stk ?_)
 rw [(by omega : k + 1195 = (k + 1105 - (bys s).length) + (bys s).length + 90)]
 refine rzM (hlp (by simp only [go_sem]) (by simp only [go_sem]; try rfl) (by simp only [go_sem]; try rfl) (by simp only [go_sem]; try rfl)) ?_
 rintro x r μ' ⟨rfl, rfl, tm', rfl, h3, h4⟩
 simp only [go_sem]
 have c1 : ieq (.ofNat st) 3 = decide (st = 3) := jaB _ 3 3 rfl
 have c2 : ieq (.ofNat st) 5 = decide (st = 5) := jaB _ 5 5 rfl
 have c3 : ieq (.ofNat st) 8 = decide (st = 8) := jaB _ 8 8 rfl
 have c4 : ilt 4 (.ofNat p) = decide (4 < p) := jao 4 p
 have hrun : run st p [] = (decide (st = 3) || decide (st = 5) || (decide (st = 8) && decide (p ≤ 4))) := rfl
 rw [hrun]
 have c5 : (!decide (4 < p)) = decide (p ≤ 4) := by by_cases h : p ≤ 4 <;> simp [h] <;> omega
 by_cases e3 : st = 3
 ·rw [rzU e3] at c1 ⊢
  refine jag ?_
  refine jab rfl ?_
  repeat (refine jam rfl ?_; (try simp only [go_sem, h3, h4, c1]); fail_if_success refine stk ?_)
  refine jad ?_
  refine ⟨rfl, _, ?_, rfl, rfl⟩
  simp only [go_sem, Tryz.results151]
  rfl
 rw [rzV e3] at c1 ⊢
 by_cases e5 : st = 5
 ·rw [rzU e5] at c2 ⊢
  refine jag ?_
  refine jab rfl ?_
  repeat (refine jam rfl ?_; (try simp only [go_sem, h3, h4, c1, c2]); fail_if_success refine stk ?_)
  refine jad ?_
  refine ⟨rfl, _, ?_, rfl, rfl⟩
  simp only [go_sem, Tryz.results151]
  rfl
 rw [rzV e5] at c2 ⊢
 by_cases e8 : st = 8
 ·rw [rzU e8] at c3 ⊢
  refine jag ?_
  refine jab rfl ?_
  repeat (refine jam rfl ?_; (try simp only [go_sem, h3, h4, c1, c2, c3, c4, c5]); fail_if_success refine stk ?_)
  refine jad ?_
  refine ⟨rfl, _, ?_, rfl, rfl⟩
  simp only [go_sem, Tryz.results151]
  rfl
 ·rw [rzV e8] at c3 ⊢
  refine jag ?_
  refine jab rfl ?_
  repeat (refine jam rfl ?_; (try simp only [go_sem, h3, h4, c1, c2, c3]); fail_if_success refine stk ?_)
  refine jad ?_
  refine ⟨rfl, _, ?_, rfl, rfl⟩
  simp only [go_sem, Tryz.results151]
  rfl
end
noncomputable section
@[go_sem] def gg65 {X ev} := gC X ev Tryz.func65 rfl rfl
@[go_sem] def gg86 {X ev} := gC X ev Tryz.func86 rfl rfl
theorem g_plain2 {c : Nat} (hc : c < 256) {X : XT} {ev : ET} (μ : Mem) : aGo pZ X (jbj pZ ev S0) 85 [.int .u8 (.ofNat c)] μ = some (.bool (plainL.contains c), μ) :=
 (jeB Tryz.func85 rfl).trans (jf2 (f := fP) rfl (by show (if c < 256 then _ else _) = _; rw [if_pos hc]) rfl rfl)
def dotS : ByteArray := ⟨List.toArray [46]⟩
def Head (s : ByteArray) : Prop := 1 ≤ (bys s).length ∧ (bys s).length ≤ 40 ∧ s ≠ dotS
def jem (s : ByteArray) : Prop := ∀ c ∈ bys s, plainL.contains c = true
theorem str_eq (a b : ByteArray) : aStr .eql a b = some (.bool (decide (a = b))) := by
 unfold aStr
 simp only [jgG]
theorem rn_loop {s : ByteArray} (hl : (bys s).length ≤ 1000) : ∀ (m i : Nat), i + m = (bys s).length → ∀ {X : XT} {e : Nat} {tm : T Value} {μ : Mem}, jac tm 0 = .string s → jac tm 2 = .bool false → jac tm 3 = .int .i64 (.ofNat i) →
  LpC X (e + m + 30) Tryz.f65 0 36 tm μ fun x r μ' => μ' = μ ∧ ∃ tm', r = ⟨36, tm', [], none⟩ ∧ jac tm' 0 = .string s ∧ jac tm' 2 = .bool false ∧ (((∀ c ∈ (bys s).drop i, plainL.contains c = true) ∧ x = .exit 0) ∨ ((∃ c ∈ (bys s).drop i, plainL.contains c = false) ∧ x = .ret)) := by
 have ls := jaU s
 intro m
 induction m with
 | zero =>
   intro i hi X e tm μ h0 h2 h3
   have hi : i = (bys s).length := hi
   have e1 : ilt (.ofNat i) (.ofNat (bys s).length) = false := dF (jao _ _) (by omega)
   refine jah ?_
   repeat (refine jaa rfl ?_; (try simp only [go_sem, h0, h2, h3, ls, jae, e1]); fail_if_success refine stk ?_)
   exact ⟨by trivial, _, rfl, by simp only [go_sem, h0], by simp only [go_sem, h2],   .inl ⟨(by rw [hi, List.drop_length]; intro c hc; cases hc), by trivial⟩⟩
 | succ m ih =>
   intro i hi X e tm μ h0 h2 h3
   have hlt : i < (bys s).length := by omega
   have hdr : (bys s).drop i = (bys s)[i]'hlt :: (bys s).drop (i + 1) := List.drop_eq_getElem_cons hlt
   obtain ⟨c, hc⟩ := exq ((bys s)[i]'hlt)
   have hc256 : c < 256 := by rw [hc]; exact byte_lt (List.getElem_mem hlt)
   rw [← hc] at hdr
   have hx : ∀ r x y, aev pZ r x = .string s → aev pZ r y = .int .i64 (.ofNat i) → jaX pZ (aev pZ r) 9 x y = some (.int .u8 (.ofNat c)) := fun r x y h1 h2 => by rw [hc]; exact jbB hlt h1 h2
   have e1 : ilt (.ofNat i) (.ofNat (bys s).length) = true := dT (jao _ _) hlt
   have a1 : jak .i64 (Int.add (.ofNat i) 1) = .ofNat (i + 1) := jaE i 1 (by omega)
   have gp := fun (X : XT) (ev : ET) (μ : Mem) => g_plain2 hc256 (X := X) (ev := ev) μ
   clear hc
   rw [hdr]
   cases hp : plainL.contains c with
   | false =>
     rw [hp] at gp
     refine jah ?_
     repeat (refine jaa rfl ?_; (try simp only [go_sem, h0, h2, h3, ls, jae, e1, hx, gp]); fail_if_success refine stk ?_)
     refine jad ?_
     exact ⟨by trivial, _, rfl, by simp only [go_sem, h0], by simp only [go_sem, h2], .inr ⟨⟨c, List.mem_cons_self, hp⟩, by trivial⟩⟩
   | true =>
     rw [hp] at gp
     refine jah ?_
     repeat (refine jaa rfl ?_; (try simp only [go_sem, h0, h2, h3, ls, jae, e1, hx, gp, a1]); fail_if_success refine stk ?_)
     rw [(by omega : e + (m + 1) + 29 = e + m + 30)]
     refine rzM (ih (i + 1) (by omega) (by simp only [go_sem, h0]) (by simp only [go_sem, h2]) (by simp only [go_sem])) ?_
     rintro x r μ' ⟨g1, tm', g2, g3, g4, g5⟩
     refine ⟨g1, tm', g2, g3, g4, ?_⟩
     rcases g5 with ⟨g5, g6⟩ | ⟨⟨d, g5, g6⟩, g7⟩
     ·exact .inl ⟨fun d hd => by
       rcases List.mem_cons.1 hd with rfl | hd
       ·exact hp
       ·exact g5 d hd, g6⟩
     ·exact .inr ⟨⟨d, List.mem_cons_of_mem _ g5, g6⟩, g7⟩
theorem rn_no {s : ByteArray} (h : ¬ (Head s ∧ jem s)) {X : XT} {g : Nat} {μ : Mem} (hg : 200 ≤ g) : aFun pZ (jaj pZ X S0 g) 65 [.string s] μ = some (.bool false, μ) := by
 obtain ⟨k, rfl⟩ := gle hg
 have ls := jaU s
 refine jaF ?_
 by_cases z : (bys s).length = 0
 ·have e1 : ilt (.ofNat (bys s).length) 1 = true := dT (jbn _ 1 1 rfl) (by omega)
  refine jaf Tryz.func65 rfl rfl (nbl rfl) ?_
  simp only [go_sem, Tryz.ntmps65]
  refine jag ?_
  refine jaD ?_ ?_
  ·rfl
  simp only [go_sem]
  refine jag ?_
  refine jag ?_
  refine jab rfl ?_
  repeat (refine jam rfl ?_; (try simp only [go_sem, ls, jae, e1]); fail_if_success refine stk ?_)
  repeat (refine jaa rfl ?_; (try simp only [go_sem]); fail_if_success refine stk ?_)
  exact jad ⟨rfl, _, by simp only [go_sem, Tryz.results65], rfl, rfl⟩
 have e1 : ilt (.ofNat (bys s).length) 1 = false := dF (jbn _ 1 1 rfl) (by omega)
 by_cases z2 : 40 < (bys s).length
 ·have e2 : ilt 40 (.ofNat (bys s).length) = true := dT (jao 40 _) z2
  refine jaf Tryz.func65 rfl rfl (nbl rfl) ?_
  simp only [go_sem, Tryz.ntmps65]
  refine jag ?_
  refine jaD ?_ ?_
  ·rfl
  simp only [go_sem]
  refine jag ?_
  refine jag ?_
  refine jab rfl ?_
  repeat (refine jam rfl ?_; (try simp only [go_sem, ls, jae, e1, e2]); fail_if_success refine stk ?_)
  repeat (refine jaa rfl ?_; (try simp only [go_sem]); fail_if_success refine stk ?_)
  exact jad ⟨rfl, _, by simp only [go_sem, Tryz.results65], rfl, rfl⟩
 have e2 : ilt 40 (.ofNat (bys s).length) = false := dF (jao 40 _) z2
 by_cases z3 : s = dotS
 ·have e3 : aStr .eql s ⟨List.toArray [46]⟩ = some (.bool true) := (str_eq s dotS).trans (by rw [rzU z3])
  refine jaf Tryz.func65 rfl rfl (nbl rfl) ?_
  simp only [go_sem, Tryz.ntmps65]
  refine jag ?_
  refine jaD ?_ ?_
  ·rfl
  simp only [go_sem]
  refine jag ?_
  refine jag ?_
  refine jab rfl ?_
  repeat (refine jam rfl ?_; (try simp only [go_sem, ls, jae, e1, e2, e3]); fail_if_success refine stk ?_)
  repeat (refine jaa rfl ?_; (try simp only [go_sem]); fail_if_success refine stk ?_)
  exact jad ⟨rfl, _, by simp only [go_sem, Tryz.results65], rfl, rfl⟩
 have e3 : aStr .eql s ⟨List.toArray [46]⟩ = some (.bool false) := (str_eq s dotS).trans (by rw [rzV z3])
 have hp : ¬ jem s := fun hp => h ⟨⟨by omega, by omega, z3⟩, hp⟩
 refine jaf Tryz.func65 rfl rfl (nbl rfl) ?_
 simp only [go_sem, Tryz.ntmps65]
 refine jag ?_
 refine jaD ?_ ?_
 ·rfl
 simp only [go_sem]
 refine jag ?_
 refine jag ?_
 refine jab rfl ?_
 repeat (refine jam rfl ?_; (try simp only [go_sem, ls, jae, e1, e2, e3]); fail_if_success refine stk ?_)
 repeat (refine jaa rfl ?_; (try simp only [go_sem, ls, jae]); fail_if_success refine stk ?_)
 rw [(by omega : k + 195 = (k + 165 - (bys s).length) + (bys s).length + 30)]
 refine rzM (rn_loop (by omega) (bys s).length 0 (rzT _) (by simp only [go_sem]) (by simp only [go_sem]) (by simp only [go_sem]; try rfl)) ?_
 rintro x r μ' ⟨rfl, tm', rfl, h0, h2, h5⟩
 rcases h5 with ⟨h5, -⟩ | ⟨-, rfl⟩
 ·exact absurd h5 hp
 ·simp only [jbi]
  refine ⟨rfl, _, ?_, rfl, rfl⟩
  simp only [go_sem, Tryz.results65]
  rw [h2]
end
end Go.Proofs.YtlkenchibdeinaaGreatDoor.ce
