/-
  distafflaw18.ValueNums, part Qm: its walk and its law. No conditions.
-/
import Derived.Test.YtdmfakpngnlokaaGreatDoorDwQl
set_option linter.all false
set_option maxRecDepth 20000
set_option maxHeartbeats 8000000
namespace Go.Proofs.YtdmfakpngnlokaaGreatDoor.nu
open YtdmfakpngnlokaaGreatDoor.Ev
noncomputable section
@[go_sem] def gg20 {X ev} := gC X ev Tryz.func20 rfl rfl
@[go_sem] def gg5 {X ev} := gC X ev Tryz.func5 rfl rfl
def jcr (neg : Bool) (ls : List Nat) : Bool := !ilt 64 (.ofNat ls.length) && (decide (ja6 ls = ls) && !(neg && ieq (.ofNat ls.length) 0))
theorem right2_eq {ls : List Nat} {v : Value} {neg : Bool} {X : XT} {g : Nat} {μ : Mem} (hU : IsU μ ls v) (hl : ls.length ≤ 2000000) (hg : 2000400 ≤ g) : ∃ μ', aFun pZ (jai pZ X S0 g) 20 [.agg #[.bool neg, v]] μ = some (.bool (jcr neg ls), μ') ∧ Grow μ μ' := by
 obtain ⟨k, hk, rfl⟩ : ∃ k, 2000000 ≤ k ∧ g = k + 400 := ⟨g - 400, by omega, by omega⟩
 have h1 := jdP μ 25 [.bool neg, v]
 obtain ⟨μ1, hμ1⟩ := exq (⟨μ.obs.set μ.next (obL 25 [.bool neg, v]), μ.next + 1⟩ : Mem)
 have hG1 : Grow μ μ1 := by rw [hμ1]; exact jbc _ _
 have n1 : μ1.next = μ.next + 1 := by rw [hμ1]
 have hG2 : Grow μ1 ⟨μ1.obs, μ1.next + 24⟩ := jcu μ1 24
 rw [← hμ1] at h1
 have hU1 := (hU.grow hG1).grow hG2
 obtain ⟨v', μ2, r1, hT, G3, _⟩ := jdV (X := X) (g := k + 397) hU1 (by omega) (by omega)
 have htl : (ja6 ls).length ≤ ls.length := by unfold ja6; rw [List.length_take]; omega
 have hlm : ls.length ≤ maxLen := hU.2.1
 obtain ⟨μ3, r2, G4⟩ := jjn (X := X) (g := k + 397) (hT.isU (by omega)) (hU1.grow G3) (by omega) (by omega)
 have hq : μ.next < (⟨μ1.obs, μ1.next + 24⟩ : Mem).next := by show μ.next < μ1.next + 24; omega
 have h2 : Has μ2 μ.next 0 [.bool neg, v] := Has.keep (μ := ⟨μ1.obs, μ1.next + 24⟩) h1 (G3.2 _ hq)
 have h3 : Has μ3 μ.next 0 [.bool neg, v] := h2.keep (G4.2 _ (rzO hq G3.1))
 have c0 : ∀ m, jad ⟨μ1.obs, m⟩ μ.next 0 = some (.bool neg) := fun m => (Has.c2 (μ := ⟨μ1.obs, m⟩) h1).1
 have c1 : ∀ m, jad ⟨μ1.obs, m⟩ μ.next 1 = some v := fun m => (Has.c2 (μ := ⟨μ1.obs, m⟩) h1).2
 obtain ⟨d0, d1⟩ := Has.c2 h2
 obtain ⟨f0, f1⟩ := Has.c2 h3
 have lU := hU1.len
 obtain ⟨b0, e0⟩ := eqx (ilt 64 (.ofNat ls.length))
 obtain ⟨b1, e1⟩ : ∃ b, decide (ja6 ls = ls) = b := ⟨_, rfl⟩
 obtain ⟨l0, e2⟩ := eqx (ieq (.ofNat ls.length) 0)
 rw [e1] at r2
 have hGa := ((hG1.trans hG2).trans G3).trans G4
 have key : EndsF (aFun pZ (jai pZ X S0 (k + 400)) 20 [.agg #[.bool neg, v]] μ) fun r μ' => r = .bool (jcr neg ls) ∧ Grow μ μ' := by
  unfold jcr
  rw [e0, e1, e2]
  cases b0
  ·cases b1 <;> cases neg
   all_goals
    refine jac Tryz.func20 rfl rfl (nbl rfl) ?_
    simp only [go_sem, Tryz.ntmps20]
    repeat ((first | refine jaa rfl ?_ | refine jaj rfl ?_); (try simp only [go_sem, jcH]); fail_if_success refine stk ?_)
    rw [← hμ1]
    skip
    have zz := (⟨@c0, @c1, @d0, @d1, @f0, @f1, @lU, @jao, @e0, @e2, @r1, @r2⟩ : _ ∧ _ ∧ _ ∧ _ ∧ _ ∧ _ ∧ _ ∧ _ ∧ _ ∧ _ ∧ _ ∧ _)
    refine jaY (n := 24) (ms := [0, 1, 3, 7, 15, 31, 63, 127, 31, 287, 1023, 2047, 4095, 8191, 16383, 32767, 65535, 131071, 262143, 524287, 1048575, 2097151, 4194303, 8388607]) (ord := [0, 1, 2, 3, 4, 5, 6, 7, 8, 9, 10, 11, 12, 13, 14, 15, 16, 17, 18, 19, 20, 21, 22, 23]) (ds := ?_) ?_ ?_ ?_ ?_ ?_ ?_
    rotate_left
    ·kernel_rfl
    ·kernel_rfl
    ·kernel_rfl
    ·rfl
    ·rfl
    repeat (first | (refine ja0 ?_ rfl ?_; (solve | simp only [go_sem, zz])) | (refine ja5 (v := ?_) (μ' := ?_) (sn' := ?_) ?_ ?_ rfl ?_; rotate_left 3; (solve | rfl | simp only [go_sem, zz]); (solve | simp only [jaV, heavy, jbg, jaQ, go_sem, zz]; try exact rfl)))
    clear zz
    simp only [dRun, jaK, jag]
    refine jae ?_
    refine ⟨rfl, .bool _, ?_, rfl, hGa⟩
    simp only [go_sem, Tryz.results20]
    try rfl
  ·skip
   refine jac Tryz.func20 rfl rfl (nbl rfl) ?_
   simp only [go_sem, Tryz.ntmps20]
   repeat ((first | refine jaa rfl ?_ | refine jaj rfl ?_); (try simp only [go_sem, jcH]); fail_if_success refine stk ?_)
   rw [← hμ1]
   skip
   have zz := (⟨@c0, @c1, @d0, @d1, @f0, @f1, @lU, @jao, @e0, @e2, @r1, @r2⟩ : _ ∧ _ ∧ _ ∧ _ ∧ _ ∧ _ ∧ _ ∧ _ ∧ _ ∧ _ ∧ _ ∧ _)
   refine jaY (n := 24) (ms := [0, 1, 3, 7, 15, 31, 63, 127, 31, 287, 1023, 2047, 4095, 8191, 16383, 32767, 65535, 131071, 262143, 524287, 1048575, 2097151, 4194303, 8388607]) (ord := [0, 1, 2, 3, 4, 5, 6, 7, 8, 9, 10, 11, 12, 13, 14, 15, 16, 17, 18, 19, 20, 21, 22, 23]) (ds := ?_) ?_ ?_ ?_ ?_ ?_ ?_
   rotate_left
   ·kernel_rfl
   ·kernel_rfl
   ·kernel_rfl
   ·rfl
   ·rfl
   repeat (first | (refine ja0 ?_ rfl ?_; (solve | simp only [go_sem, zz])) | (refine ja5 (v := ?_) (μ' := ?_) (sn' := ?_) ?_ ?_ rfl ?_; rotate_left 3; (solve | rfl | simp only [go_sem, zz]); (solve | simp only [jaV, heavy, jbg, jaQ, go_sem, zz]; try exact rfl)))
   clear zz
   simp only [dRun, jaK, jag]
   exact jae ⟨rfl, .bool false, by simp only [go_sem, Tryz.results20], by simp, hG1.trans hG2⟩
 obtain ⟨r, μ', h1, rfl, h2⟩ := key
 exact ⟨μ', h1, h2⟩
def jc6 (fl : Bool) (f : Nat) (neg : Bool) (ls : List Nat) : Bool := if fl then !neg && ieq (.ofNat ls.length) 0 else ieq (.ofNat (W f)) 0 && jcr neg ls
def obQ (q : Nat) : Ob := .cells 1 73 #[.int .u32 (.ofNat q)] .e 0 0 false false
theorem consU {μ : Mem} {v : Value} {ls : List Nat} {q : Nat} (hq : q < 4294967296) (h : IsU μ ls v) (hn : ls.length ≤ 100000) : ∃ v' μ', jaM pZ ⟨μ.obs.set μ.next (obQ q), Nat.add μ.next 1⟩ 23 23 (.slice (some ⟨μ.next, 0, none⟩) 1 2) v = some (v', μ') ∧ Lv μ' v' (q :: ls) ∧ Grow μ μ' ∧ New μ v' := by
 have hg1 : Grow μ ⟨μ.obs.set μ.next (obQ q), Nat.add μ.next 1⟩ := jbc μ _
 have h1 := h.grow hg1
 have hs := h1.src
 have hlt := h.1
 obtain ⟨xs, hxs⟩ := exq (ls.map fun x => .int .u32 (.ofNat x) : List Value)
 rw [← hxs] at hs
 have hl : xs.length = ls.length := by rw [hxs, List.length_map]
 have hlen : lenV v = some ls.length := by
  rcases h with ⟨_, _, ⟨rfl, rfl⟩ | ⟨i, o, c, rfl, _⟩⟩ <;> rfl
 obtain ⟨ys, hys⟩ := exq (.int .u32 (.ofNat q) :: xs : List Value)
 have hyl : ys.length = ls.length + 1 := by rw [hys, List.length_cons, hl]
 have hat : ∀ (k : Nat) x, (q :: ls)[k]? = some x → x < 4294967296 ∧ cellAt ys.toArray .e k = .int .u32 (.ofNat x) := fun k x hk => by
  obtain ⟨hk', rfl⟩ := List.getElem?_eq_some_iff.1 hk
  refine ⟨?_, ?_⟩
  ·rcases List.mem_cons.1 (List.getElem_mem hk') with e | e
   ·rw [e]; exact hq
   ·exact hlt _ e
  ·rw [ja3 ys k (by rw [hyl]; simpa using hk')]
   have e : ys = (q :: ls).map fun x => .int .u32 (.ofNat x) := by rw [hys, hxs]; rfl
   simp only [e, List.getElem_map]
 have e1 : Nat.ble Tryz.t73.bytes 4096 = true := by kernel_rfl
 have e2 : Nat.beq (jaS (.int .u32 0)).length 1 = true := by kernel_rfl
 have e3 : Nat.ble ls.length 67108864 = true := rzP (by omega)
 have e4 : Tryz.t73.size = 1 := by kernel_rfl
 have e5 : Nat.beq xs.length (Nat.mul ls.length 1) = true := by rw [hl, show Nat.mul ls.length 1 = ls.length from Nat.mul_one _]; exact Nat.beq_refl _
 obtain ⟨n, hn'⟩ := exq (ls.length)
 rw [← hn'] at hs hlen e3 e5 hn hl hyl
 have hap : jaM pZ ⟨μ.obs.set μ.next (obQ q), Nat.add μ.next 1⟩ 23 23 (.slice (some ⟨μ.next, 0, none⟩) 1 2) v = ja8 pZ ⟨μ.obs.set μ.next (obQ q), Nat.add μ.next 1⟩ 73 1 n xs (.slice (some ⟨μ.next, 0, none⟩) 1 2) := by
  unfold jaM
  simp only [Tryz.underlying23, jci, e1, jg5, e4, e2, hlen, e3, hs, e5]
 rw [hap]
 unfold ja8
 have e6 : Nat.ble (Nat.add 1 n) 67108864 = true := rzP (by show 1 + n ≤ _; omega)
 have hgq : T.get (μ.obs.set μ.next (obQ q)) μ.next = some (obQ q) := by rw [T.get_set, if_pos rfl]
 simp only [e6]
 cases n with
 | zero =>
   obtain rfl : ls = [] := List.eq_nil_of_length_eq_zero hn'.symm
   obtain rfl : xs = [] := List.eq_nil_of_length_eq_zero hl
   have e7 : Nat.ble (Nat.add 1 0) (Nat.div 2 2) = true := rfl
   simp only [show Nat.beq (Nat.mod 2 2) 0 = true from rfl, e7, hgq, obQ]
   refine ⟨_, _, rfl, .inr ⟨μ.next, 2, 1, #[.int .u32 (.ofNat q)], .e, false, false, rfl, ?_, rzN _, rzQ _, fun k x hk => ?_, .inl ⟨rfl, rzN _⟩⟩, ?_, New.mk (rzN _)⟩
   ·show T.get (T.set _ _ _) _ = _
    rw [T.get_set, if_pos rfl]
   ·have := hat k x hk
    rw [hys] at this
    exact this
   ·exact hg1
 | succ n =>
   have e7 : Nat.ble (Nat.add 1 (n + 1)) (Nat.div 2 2) = false := by
    cases hb : Nat.ble (Nat.add 1 (n + 1)) (Nat.div 2 2) with
    | false => rfl
    | true => have := rzE hb; have h0 : Nat.div 2 2 = 1 := rfl; rw [h0] at this; have : 1 + (n + 1) ≤ 1 := this; omega
   have e8 : jaU ⟨μ.obs.set μ.next (obQ q), Nat.add μ.next 1⟩ 1 1 (.slice (some ⟨μ.next, 0, none⟩) 1 2) = some [.int .u32 (.ofNat q)] := by
    unfold jaU
    simp only [show Nat.mul 1 1 = 0 + 1 from rfl, hgq]
    rfl
   simp only [show Nat.beq (Nat.mod 2 2) 0 = true from rfl, e7, e8]
   refine ⟨_, _, rfl, .inr ⟨μ.next + 1, 3, ys.length, ys.toArray, .e, true, false, ?_, ?_, ?_, ?_, hat, .inr ⟨rfl, rfl⟩⟩, ?_, New.mk (Nat.le_succ _)⟩
   ·show Value.slice (some ⟨Nat.add μ.next 1, 0, none⟩) (Nat.add 1 (n + 1)) _ = _
    rw [show Nat.add 1 (n + 1) = (q :: ls).length from by rw [List.length_cons, ← hn']; exact Nat.add_comm _ _]
   ·show T.get (T.set _ (Nat.add μ.next 1) _) _ = _
    rw [T.get_set, if_pos rfl, hys]
    rfl
   ·rw [hyl, List.length_cons, ← hn']; exact rzN _
   ·show μ.next + 1 < μ.next + 1 + 1; omega
   ·refine ⟨?_, fun i hi => ?_⟩
    ·show μ.next ≤ μ.next + 1 + 1; omega
    ·show T.get (T.set (T.set _ _ _) (Nat.add μ.next 1) _) i = _
     rw [T.get_set, if_neg (by show i ≠ μ.next + 1; omega), T.get_set, if_neg (by omega)]
def vU : List Nat → Nat
 | [] => 0
 | x :: l => x + 4294967296 * vU l
def ixm : Nat → Int
 | 0 => -1
 | j + 1 => .ofNat j
theorem conv_3264 (n : Int) : jay pZ 73 32 (.int .u32 n) = some (.int .u64 (jak .u64 n)) := by
 simp only [jay, Tryz.underlying73, Tryz.underlying32]
theorem bsQ {q : Nat} (r : Rg) (y : Operand) (h : aev pZ r y = .int .u32 (.ofNat q)) : jas pZ (aev pZ r) 23 1 #[(0, y)] = some (obQ q, fun id => .slice (some ⟨id, 0, none⟩) 1 2) := jcM Tryz.underlying23 jci rfl jg5 rfl h rfl
theorem drop_val {ls : List Nat} {j x : Nat} (h : ls[j]? = some x) : vU (ls.drop j) = x + 4294967296 * vU (ls.drop (j + 1)) := by
 obtain ⟨hj, rfl⟩ := List.getElem?_eq_some_iff.1 h
 rw [List.drop_eq_getElem_cons hj]
 rfl
theorem tx_in {ls : List Nat} (hl : ls.length ≤ 100000) {v s3 : Value} : ∀ (j : Nat), j ≤ ls.length → ∀ {X : XT} {e : Nat} {tm : T Value} {μ : Mem} {w : Value} {nx : List Nat} {r : Nat}, IsU μ ls v → Lv μ w nx → nx.length + j = ls.length → r < 10 → vU (ls.drop j) = 10 * vU nx + r → jah tm 0 = v → jah tm 3 = s3 → jah tm 4 = w → jah tm 5 = .int .u64 (.ofNat r) → jah tm 6 = .int .i64 (ixm j) →
  LpC X (e + j + 40) Tryz.f74 1 51 tm μ fun x rr m => x = .exit 2 ∧ Grow μ m ∧ ∃ tm' w' nx' r', rr = ⟨51, tm', [], none⟩ ∧ Lv m w' nx' ∧ nx'.length = ls.length ∧ r' < 10 ∧ vU ls = 10 * vU nx' + r' ∧ jah tm' 3 = s3 ∧ jah tm' 4 = w' ∧ jah tm' 5 = .int .u64 (.ofNat r') := by
 intro j
 induction j with
 | zero =>
   intro hj X e tm μ w nx r hv hw hn hr hval h0 h3 h4 h5 h6
   have h6 : jah tm 6 = .int .i64 (-1) := h6
   have e1 : ilt (-1) 0 = true := rfl
   refine jam ?_
   repeat ((first | refine jaa rfl ?_ | refine jaj rfl ?_); (try simp only [go_sem, h6, e1]); fail_if_success refine stk ?_)
   exact ⟨by trivial, Grow.refl _, _, w, nx, r, rfl, hw, by omega, hr, hval, by simp only [go_sem, h3], by simp only [go_sem, h4], by simp only [go_sem, h5]⟩
 | succ j ih =>
   intro hj X e tm μ w nx r hv hw hn hr hval h0 h3 h4 h5 h6
   have h6 : jah tm 6 = .int .i64 (.ofNat j) := h6
   have e1 : ilt (.ofNat j) 0 = false := dF (jcV _ 0 0 rfl) (by omega)
   obtain ⟨x, hx⟩ : ∃ x, ls[j]? = some x := ⟨_, rzK (by omega)⟩
   obtain ⟨hx32, bi, bo, bc, hbv, hbi, hbc⟩ := hv.at hx
   have hix : ∀ r x y, aev pZ r x = v → aev pZ r y = .int .i64 (.ofNat j) → jal pZ (aev pZ r) 23 x y = some (.pointer (some ⟨bi, bo + j, none⟩)) := fun r x y g1 g2 => ix_U (by omega) (g1.trans hbv) g2
   have m1 : jak .u64 (Int.mul (.ofNat r) 4294967296) = .ofNat (r * 4294967296) := by
    have h := w_mul r 4294967296
    rw [W_of (by omega)] at h
    exact h
   have m2 : jak .u64 (.ofNat x) = .ofNat x := by rw [jcn, W_of (by omega)]
   have m3 : jak .u64 (Int.add (.ofNat (r * 4294967296)) (.ofNat x)) = .ofNat (r * 4294967296 + x) := by
    have h := jie (r * 4294967296) x
    rw [W_of (by omega)] at h
    exact h
   obtain ⟨t, ht⟩ := exq (r * 4294967296 + x)
   rw [← ht] at m3
   have d1 : aDiv false .u64 .u64 (.ofNat t) 10 = some (.int .u64 (.ofNat (t / 10))) := jiv (by omega)
   have d2 : aDiv true .u64 .u64 (.ofNat t) 10 = some (.int .u64 (.ofNat (t % 10))) := d64r t 9
   have m4 : jak .u32 (.ofNat (t / 10)) = .ofNat (t / 10) := q32s (by omega)
   obtain ⟨w', μ', hap, hw', g', _⟩ := consU (q := t / 10) (by omega) (hw.isU (by unfold maxLen; omega)) (by omega)
   have hbs : ∀ r y, aev pZ r y = .int .u32 (.ofNat (t / 10)) → jas pZ (aev pZ r) 23 1 #[(0, y)] = some (obQ (t / 10), fun id => .slice (some ⟨id, 0, none⟩) 1 2) := fun r y h => bsQ r y h
   have m5 : jak .i64 (Int.sub (.ofNat j) 1) = ixm j := by
    cases j with
    | zero => rfl
    | succ j => exact jaZ (j + 1) 1 (by omega) (by omega)
   refine jam ?_
   repeat ((first | refine jaa rfl ?_ | refine jaj rfl ?_); (try simp only [go_sem, h0, h4, h5, h6, e1, m1, hix, hbc, conv_3264, m2, m3, d1, d2, jgM, m4, hbs, hap, m5]); fail_if_success refine stk ?_)
   rw [(by omega : e + (j + 1) + 39 = e + j + 40)]
   have hval' : vU (ls.drop j) = 10 * vU (t / 10 :: nx) + t % 10 := by
    rw [drop_val hx, hval]
    show _ = 10 * (t / 10 + 4294967296 * vU nx) + t % 10
    omega
   refine rzM (ih (by omega) (hv.grow g') hw' (by rw [List.length_cons]; omega) (by omega) hval' (by simp only [go_sem, h0]) (by simp only [go_sem, h3]) (by simp only [go_sem]) (by simp only [go_sem]) (by simp only [go_sem])) ?_
   rintro x' rr m ⟨y1, y2, y3⟩
   exact ⟨y1, g'.trans y2, y3⟩
@[go_sem] def gg74 {X ev} := gC X ev Tryz.func74 rfl rfl
@[go_sem] def gg38 {X ev} := gC X ev Tryz.func38 rfl rfl
@[go_sem] def gg12 {X ev} := gC X ev Tryz.func12 rfl rfl
theorem vU_zero : ∀ {ls : List Nat}, vU ls = 0 → ∀ (n : Nat), ls.getD n 0 = 0
 | [], _, n => by simp
 | x :: l, h, n => by
   have h : x + 4294967296 * vU l = 0 := h
   cases n with
   | zero => show x = 0; omega
   | succ n => exact vU_zero (ls := l) (by omega) n
theorem jjg {ls : List Nat} (h : vU ls = 0) : ∀ n, trN ls n = 0
 | 0 => rfl
 | n + 1 => by rw [trN, if_pos (vU_zero h n)]; exact jjg h n
theorem jel {ls : List Nat} (h : vU ls = 0) : (ja6 ls).length = 0 := by unfold ja6; rw [jjg h]; rfl
theorem vU_lt : ∀ {ls : List Nat}, (∀ x ∈ ls, x < 4294967296) → vU ls < 4294967296 ^ ls.length
 | [], _ => by decide
 | x :: l, h => by
   have h1 := h x (List.mem_cons_self)
   have h2 := vU_lt (ls := l) fun y hy => h y (List.mem_cons_of_mem _ hy)
   show x + 4294967296 * vU l < _
   rw [List.length_cons, Nat.pow_succ]
   omega
theorem conv_64b (n : Int) : jay pZ 32 5 (.int .u64 n) = some (.int .u8 (jak .u8 n)) := by
 simp only [jay, Tryz.underlying32, Tryz.underlying5]
theorem byte_str (μ : Mem) (b : Nat) : jbd pZ ⟨μ.obs.set μ.next (.cells 1 5 #[.int .u8 (.ofNat b)] .e 0 0 false false), Nat.add μ.next 1⟩ 54 9 (.slice (some ⟨μ.next, 0, none⟩) 1 2) = some (.string (strOf [b])) := by
 have h : Bf ⟨μ.obs.set μ.next (.cells 1 5 #[.int .u8 (.ofNat b)] .e 0 0 false false), Nat.add μ.next 1⟩ (.slice (some ⟨μ.next, 0, none⟩) 1 2) [b] :=
  ⟨μ.next, 1, _, _, _, _, 2, rfl, by show T.get _ _ = _; rw [T.get_set, if_pos rfl], rzN _, rzQ _, fun k h => by
   have : k = 0 := by simpa [vB] using h
   subst this
   rfl, .inl ⟨rfl, rzN 1, rzN 1⟩⟩
 obtain ⟨i, l, c, e, h⟩ := h.str
 injection e with e1 e2 e3
 injection e1 with e1
 injection e1 with e1
 subst e1 e2 e3
 exact h
theorem jjd {ls : List Nat} (h : ∀ x ∈ ls, x < 4294967296) : vU ls < 10 ^ (10 * ls.length) := by
 have h1 := vU_lt h
 have h2 : 4294967296 ^ ls.length ≤ (10 ^ 10) ^ ls.length := Nat.pow_le_pow_left (by decide) _
 rw [← Nat.pow_mul] at h2
 exact rzO h1 h2
theorem jkM {x : Option (Value × Mem)} {μ : Mem} {w : Value} (h : EndsF x fun v μ' => v = w ∧ Grow μ μ') : ∃ μ', x = some (w, μ') ∧ Grow μ μ' := by
 obtain ⟨v, μ', h1, rfl, h2⟩ := h
 exact ⟨μ', h1, h2⟩
theorem je8 : ∀ ls : List Nat, vU ls = lval ls
 | [] => rfl
 | x :: r => by
   show x + 4294967296 * vU r = x + 4294967296 * lval r
   rw [je8 r]
theorem ilt_lit0 (m : Nat) : ilt 0 (.ofNat m) = decide (0 < m) := jap 0 m
def dz (n : Nat) : List Nat := if n = 0 then [] else decT n
theorem dz_step {a r : Nat} (h : 0 < 10 * a + r) (hr : r < 10) : dz (10 * a + r) = dz a ++ [48 + r] := by
 unfold dz
 rw [if_neg (by omega)]
 by_cases ha : a = 0
 ·subst ha
  rw [if_pos rfl, jcv (by omega), Nat.mul_zero, rzT]
  rfl
 ·rw [if_neg ha, jdr (by omega), show (10 * a + r) / 10 = a from by omega, (by omega : (10 * a + r) % 10 = r)]
theorem jfz (a b : ByteArray) (h : (bys a).length + (bys b).length < 4294967296) : ∃ c, aStr .add a b = some (.string c) ∧ (bys c).length = (bys a).length + (bys b).length ∧ bys c = bys a ++ bys b := ⟨_, jc2 h, jfy a b, jeA a b⟩
theorem big1_no {X : XT} {g : Nat} {ls : List Nat} {v : Value} {μ : Mem} (h : IsU μ ls v) (hn : ls.length ≤ 64) (hg : 1200 ≤ g) : ∃ μ', aFun pZ (jai pZ X S0 g) 112 [v] μ = some (.bool false, μ') ∧ Grow μ μ' := by
 obtain ⟨k, rfl⟩ := gle hg
 obtain ⟨w, μ', r1, L1, g1, _⟩ := jdV (X := X) (g := k + 1197) h (by omega) (by omega)
 have ll := L1.rd.len
 have hlt : (ja6 ls).length ≤ ls.length := by unfold ja6; rw [List.length_take]; omega
 have e1 : ilt 64 (.ofNat (ja6 ls).length) = false := dF (jap 64 _) (by omega)
 refine jkM ?_
 refine jac Tryz.func112 rfl rfl (nbl rfl) ?_
 simp only [go_sem, Tryz.ntmps112]
 repeat ((first | refine jaa rfl ?_ | refine jaj rfl ?_); (try simp only [go_sem, r1, ll, jao, e1]); fail_if_success refine stk ?_)
 exact jae ⟨rfl, .bool false, by simp only [go_sem, Tryz.results112], rfl, g1⟩
theorem tx_outV {n : Nat} (hn : n ≤ 1000) : ∀ (m : Nat), m ≤ 2000 → ∀ {X : XT} {e : Nat} {tm : T Value} {μ : Mem} {v : Value} {ls : List Nat} {out : ByteArray}, IsU μ ls v → ls.length = n → vU ls < 10 ^ m → (bys out).length + m ≤ 3000 → jah tm 0 = v → jah tm 3 = .string out →
  LpC X (e + m + n + 200) Tryz.f74 0 51 tm μ fun x r m' => x = .exit 0 ∧ Grow μ m' ∧ ∃ tm' s, r = ⟨51, tm', [], none⟩ ∧ jah tm' 3 = .string s ∧ bys s = dz (vU ls) ++ bys out := by
 intro m
 induction m with
 | zero =>
   intro hm X e tm μ v ls out hv hl hval ho h0 h3
   have hz : vU ls = 0 := by rw [Nat.pow_zero] at hval; omega
   obtain ⟨v', μ', r1, L1, g1, _⟩ := jdV (X := X) (g := e + 0 + n + 196) hv (by omega) (by omega)
   have ll := L1.rd.len
   rw [jel hz] at ll
   have e1 : ilt 0 (.ofNat 0) = false := rfl
   refine jam ?_
   repeat ((first | refine jaa rfl ?_ | refine jaj rfl ?_); (try simp only [go_sem, h0, r1, ll, jao, e1]); fail_if_success refine stk ?_)
   exact ⟨by trivial, g1, _, out, rfl, by simp only [go_sem, h3], by rw [hz]; rfl⟩
 | succ m ih =>
   intro hm X e tm μ v ls out hv hl hval ho h0 h3
   obtain ⟨v', μ', r1, L1, g1, _⟩ := jdV (X := X) (g := e + (m + 1) + n + 196) hv (by omega) (by omega)
   have ll := L1.rd.len
   obtain ⟨t, ht⟩ := eqx (ilt 0 (.ofNat (ja6 ls).length))
   cases t with
   | false =>
     have hz : vU ls = 0 := by
      have h0 := jct ls
      have h1 : ¬ 0 < (ja6 ls).length := fun h => by rw [ilt_lit0 (ja6 ls).length, rzU h] at ht; cases ht
      rw [show ja6 ls = [] from List.eq_nil_of_length_eq_zero (by omega)] at h0
      rw [je8]
      exact h0.symm
     refine jam ?_
     repeat ((first | refine jaa rfl ?_ | refine jaj rfl ?_); (try simp only [go_sem, h0, r1, ll, jao, ht]); fail_if_success refine stk ?_)
     exact ⟨by trivial, g1, _, out, rfl, by simp only [go_sem, h3], by rw [hz]; rfl⟩
   | true =>
     have hv1 := hv.grow g1
     have lv := hv1.len
     have g2 := jbc μ' ob0
     have L2 : Lv ⟨μ'.obs.set μ'.next ob0, Nat.add μ'.next 1⟩ (.slice (some ⟨μ'.next, 0, none⟩) 0 0) [] := .inr ⟨μ'.next, 0, 0, _, _, _, _, rfl, by show T.get _ _ = _; rw [T.get_set, if_pos rfl]; rfl, rzN _, rzQ _, fun k x hk => by simp at hk, .inl ⟨rfl, rzN _⟩⟩
     have a1 : jak .i64 (Int.sub (.ofNat ls.length) 1) = ixm ls.length := by
      cases h : ls.length with
      | zero => rfl
      | succ j => exact jaZ (j + 1) 1 (by omega) (by omega)
     refine jam ?_
     repeat ((first | refine jaa rfl ?_ | refine jaj rfl ?_); (try simp only [go_sem, h0, h3, r1, ll, lv, jao, ht, bs0, a1]); fail_if_success refine stk ?_)
     rw [(by omega : e + (m + 1) + n + 192 = (e + m + 153) + ls.length + 40)]
     refine rzM (tx_in (ls := ls) (v := v) (s3 := .string out) (by omega) ls.length (rzN _) (hv1.grow g2) L2 (by simp) (by decide) (r := 0) (by rw [List.drop_length]; rfl) (by simp only [go_sem, h0]) (by simp only [go_sem, h3]) (by simp only [go_sem]) (by simp only [go_sem]; try rfl) (by simp only [go_sem])) ?_
     rintro x rr m3 ⟨rfl, g3, tm3, w', nx, r', rfl, L3, ln, hr, hval', y3, y4, y5⟩
     simp only [go_sem]
     have q1 : jak .u64 (Int.add 48 (.ofNat r')) = .ofNat (48 + r') := by
      have h := jie 48 r'
      rw [W_of (by omega)] at h
      exact h
     have q2 : jak .u8 (.ofNat (48 + r')) = .ofNat (48 + r') := qu8 _ (by omega)
     have hbs : ∀ r y, aev pZ r y = .int .u8 (.ofNat (48 + r')) → jas pZ (aev pZ r) 54 1 #[(0, y)] = some (.cells 1 5 #[.int .u8 (.ofNat (48 + r'))] .e 0 0 false false, fun id => .slice (some ⟨id, 0, none⟩) 1 2) := fun r y h => bsB r y h
     have hst := byte_str m3 (48 + r')
     have plb : ∀ (ρ : Operand → Value) (d : Option Tmp) (ty : TypeId) (x : Operand) (ps : String) (af : Array Edge) (gd : Option (Nat × Bool)), ρ x = .slice (some ⟨m3.next, 0, none⟩) 1 2 → jaC pZ ρ ⟨d, .convert 54 9 x, ty, ps, af, gd⟩ = none := fun ρ d ty x ps af gd h => pl_b ρ d ty x ps af gd h
     have l1 : (bys (strOf [48 + r'])).length = 1 := by rw [jcf]; rfl
     obtain ⟨s2, hs2, ls2, bs2'⟩ := jfz (strOf [48 + r']) out (by omega)
     repeat ((first | refine jaa rfl ?_ | refine jaj rfl ?_); (try simp only [go_sem, y3, y4, y5, q1, conv_64b, q2, hbs, cv_b1, cv_b2, plb, hst, hs2]); fail_if_success refine stk ?_)
     rw [(by omega : e + (m + 1) + n + 199 = e + m + n + 200)]
     have g4 := jbc m3 (.cells 1 5 #[.int .u8 (.ofNat (48 + r'))] .e 0 0 false false)
     refine rzM (ih (by omega) (v := w') (ls := nx) (out := s2) ((L3.isU (by unfold maxLen; omega)).grow g4) (ln.trans hl) (by rw [Nat.pow_succ] at hval; generalize 10 ^ m = P at hval ⊢; omega) (by omega) (by simp only [go_sem]) (by simp only [go_sem])) ?_
     rintro x r q ⟨z1, z2, z3⟩
     obtain ⟨tm', s, z4, z5, z6⟩ := z3
     refine ⟨z1, (((g1.trans g2).trans g3).trans g4).trans z2, tm', s, z4, z5, ?_⟩
     have hp : 0 < vU ls := by
      rcases Nat.eq_zero_or_pos (vU ls) with h | h
      ·have h1 := jel h
       rw [h1] at ht
       cases ht
      ·exact h
     rw [z6, bs2', jcf, hval', dz_step (by omega) hr, List.append_assoc]
     simp only [List.map_cons, List.map_nil]
     rw [Nat.mod_eq_of_lt (by omega)]
theorem text1_eq {X : XT} {g : Nat} {ls : List Nat} {v : Value} {μ : Mem} (hv : IsU μ ls v) (hn : ls.length ≤ 64) (htr : ja6 ls = ls) (hg : 3000 ≤ g) : ∃ s μ', aFun pZ (jai pZ X S0 g) 74 [v] μ = some (.string s, μ') ∧ bys s = decT (vU ls) ∧ Grow μ μ' := by
 obtain ⟨k, rfl⟩ := gle hg
 obtain ⟨μ1, r1, g1⟩ := big1_no (X := X) (g := k + 2996) hv (by omega) (by omega)
 obtain ⟨w, μ2, r2, L2, g2, _⟩ := jdV (X := X) (g := k + 2995) (hv.grow g1) (by omega) (by omega)
 have ll := L2.rd.len
 obtain ⟨t, ht⟩ := eqx (ieq (.ofNat (ja6 ls).length) 0)
 have hz : (ja6 ls).length = 0 → vU ls = 0 := fun h => by
  have h0 := jct ls
  rw [show ja6 ls = [] from List.eq_nil_of_length_eq_zero h] at h0
  rw [je8]
  exact h0.symm
 have key : EndsF (aFun pZ (jai pZ X S0 (k + 3000)) 74 [v] μ) fun w m => ∃ s, w = .string s ∧ bys s = decT (vU ls) ∧ Grow μ m := by
  refine jac Tryz.func74 rfl rfl (nbl rfl) ?_
  simp only [go_sem, Tryz.ntmps74]
  repeat ((first | refine jaa rfl ?_ | refine jaj rfl ?_); (try simp only [go_sem, r1, r2, ll, jao, ht]); fail_if_success refine stk ?_)
  cases t with
  | true =>
    repeat ((first | refine jaa rfl ?_ | refine jaj rfl ?_); (try simp only [go_sem]); fail_if_success refine stk ?_)
    refine jae ?_
    refine ⟨rfl, .string ⟨#[48]⟩, ?_, _, rfl, ?_, g1.trans g2⟩
    rotate_left
    ·rw [hz (by have := (jbo (ja6 ls).length 0 0 rfl).symm.trans ht; exact of_decide_eq_true this), jcv (by decide)]
     rfl
    simp only [go_sem, Tryz.results74]
  | false =>
  repeat ((first | refine jaa rfl ?_ | refine jaj rfl ?_); (try simp only [go_sem]); fail_if_success refine stk ?_)
  rw [(by omega : k + 2994 = (k + 2794 - 10 * ls.length - ls.length) + 10 * ls.length + ls.length + 200)]
  refine rzM (tx_outV (n := ls.length) (by omega) (10 * ls.length) (by omega) (v := v) (ls := ls) (out := ⟨#[]⟩) ((hv.grow g1).grow g2) rfl (jjd hv.1) (by show 0 + _ ≤ _; omega) (by simp only [go_sem]) (by simp only [go_sem])) ?_
  rintro x r m ⟨rfl, g3, tm3, s, rfl, y3, lS⟩
  simp only [go_sem]
  repeat ((first | refine jaa rfl ?_ | refine jaj rfl ?_); (try simp only [go_sem, y3]); fail_if_success refine stk ?_)
  refine jae ?_
  refine ⟨rfl, .string s, ?_, _, rfl, ?_, (g1.trans g2).trans g3⟩
  rotate_left
  ·rw [lS]
   unfold dz
   rw [if_neg fun h => by rw [jel h] at ht; cases ht]
   exact List.append_nil _
  simp only [go_sem, Tryz.results74]
 obtain ⟨w, m, h1, s, rfl, h2⟩ := key
 exact ⟨s, m, h1, h2⟩
end
noncomputable section
variable {X : XT}
def shD (d : Nat) : List Nat → List Nat × Nat
 | [] => ([], 0)
 | x :: r => (((shD d r).2 * 4294967296 + x) / d :: (shD d r).1, ((shD d r).2 * 4294967296 + x) % d)
theorem jgs (d : Nat) : ∀ ls, (shD d ls).1.length = ls.length
 | [] => rfl
 | x :: r => by simp [shD, jgs d r]
theorem shD_val {d : Nat} (hd : 0 < d) : ∀ ls : List Nat, lval (shD d ls).1 = lval ls / d ∧ (shD d ls).2 = lval ls % d
 | [] => by simp [shD, lval]
 | x :: r => by
   obtain ⟨h1, h2⟩ := shD_val hd r
   have h3 := Nat.div_add_mod (lval r) d
   have e : lval (x :: r) = ((shD d r).2 * 4294967296 + x) + d * (4294967296 * lval (shD d r).1) := by
    show x + 4294967296 * lval r = _
    rw [h1, h2]
    generalize lval r / d = Q at *
    generalize lval r % d = T at *
    rw [← h3, Nat.mul_add, Nat.mul_left_comm]
    omega
   constructor
   ·show ((shD d r).2 * 4294967296 + x) / d + 4294967296 * lval (shD d r).1 = _
    rw [e, Nat.add_mul_div_left _ _ hd]
   ·show ((shD d r).2 * 4294967296 + x) % d = _
    rw [e, Nat.add_mul_mod_self_left]
theorem jjl {d : Nat} (hd : 0 < d) (hd2 : d < 4294967296) : ∀ {ls : List Nat}, (∀ x ∈ ls, x < 4294967296) → (∀ x ∈ (shD d ls).1, x < 4294967296) ∧ (shD d ls).2 < d
 | [], _ => ⟨fun x h => (by cases h), hd⟩
 | x :: r, h => by
   obtain ⟨h1, h2⟩ := jjl hd hd2 (ls := r) fun y hy => h y (List.mem_cons_of_mem _ hy)
   have hx := h x (List.mem_cons_self ..)
   refine ⟨fun y hy => ?_, Nat.mod_lt _ hd⟩
   rcases List.mem_cons.1 hy with rfl | hy
   ·refine Nat.div_lt_of_lt_mul ?_
    have : ((shD d r).2 + 1) * 4294967296 ≤ d * 4294967296 := Nat.mul_le_mul_right _ h2
    omega
   ·exact h1 y hy
theorem n_divg {a b : Nat} (hb : 0 < b) (ha : a < 18446744073709551616) : aDiv false .u64 .u64 (.ofNat a) (.ofNat b) = some (.int .u64 (.ofNat (a / b))) := by
 obtain ⟨c, rfl⟩ : ∃ c, b = c + 1 := ⟨b - 1, by omega⟩
 show some (Value.int .u64 (jak .u64 (.ofNat (a / (c + 1))))) = _
 rw [nw (Nat.lt_of_le_of_lt (Nat.div_le_self _ _) ha)]
theorem n_remg {a b : Nat} (hb : 0 < b) : aDiv true .u64 .u64 (.ofNat a) (.ofNat b) = some (.int .u64 (.ofNat (a % b))) := by
 obtain ⟨c, rfl⟩ : ∃ c, b = c + 1 := ⟨b - 1, by omega⟩
 rfl
def obU (n : Nat) : Ob := .cells n 73 #[.int .u32 0] .e 0 0 false false
theorem msU (n : Nat) (h : n < 1000000) : jbh pZ 23 (.int .i64 (.ofNat n)) (.int .i64 (.ofNat n)) = some (obU n, fun id => .slice (some ⟨id, 0, none⟩) n (2 * n)) := by
 have e1 : Nat.ble n n = true := rzP (rzN _)
 have e2 : Nat.ble n 1073741824 = true := rzP (by omega)
 have e3 : Nat.ble (Nat.mul n Tryz.t73.bytes) 1099511627776 = true := rzP (by show n * 4 ≤ 1099511627776; omega)
 have e4 : Nat.mul n Tryz.t73.size = n := Nat.mul_one n
 have e5 : Nat.beq (jaS (.int .u32 0)).length Tryz.t73.size = true := rfl
 unfold jbh
 try simp only [Tryz.underlying23, jci, e1, e2, e3, jg5, e5, e4]
 rfl
theorem lv_cells {μ : Mem} {b : Nat} {ls : List Nat} (hb : Blk μ b ls.length 73) (hn : b < μ.next) (hc : ∀ (k : Nat) x, ls[k]? = some x → x < 4294967296 ∧ jad μ b k = some (.int .u32 (.ofNat x))) : Lv μ (.slice (some ⟨b, 0, none⟩) ls.length (2 * ls.length)) ls := by
 obtain ⟨z, ov, fx, sh, h⟩ := hb
 refine .inr ⟨b, _, _, z, ov, fx, sh, rfl, h, rzN _, hn, fun k x hk => ?_, .inl ⟨by omega, by omega⟩⟩
 obtain ⟨h1, h2⟩ := hc k x hk
 refine ⟨h1, ?_⟩
 have hlt : k < ls.length := (List.getElem?_eq_some_iff.1 hk).1
 unfold jad at h2
 rw [h] at h2
 have h2 : (if k < ls.length then some (cellAt z ov k) else none) = some (.int .u32 (.ofNat x)) := h2
 rw [if_pos hlt] at h2
 exact Option.some.inj h2
def ixj : Nat → Int
 | 0 => -1
 | j + 1 => .ofNat j
theorem jkg {ls : List Nat} {v : Value} {d b : Nat} {μ0 : Mem} (hU : IsU μ0 ls v) (hl : ls.length ≤ 2000) (hd : 0 < d) (hd2 : d < 4294967296) (hb : μ0.next ≤ b) : ∀ (j : Nat), j ≤ ls.length → ∀ {e : Nat} {tm : T Value} {m : Mem}, Grow μ0 m → b < m.next → Blk m b ls.length 73 →
  (∀ (k : Nat) x, (shD d (ls.drop j)).1[k]? = some x → jad m b (j + k) = some (.int .u32 (.ofNat x))) → jah tm 0 = v → jah tm 1 = .int .u32 (.ofNat d) → jah tm 6 = .slice (some ⟨b, 0, none⟩) ls.length (2 * ls.length) → jah tm 7 = .int .u64 (.ofNat (shD d (ls.drop j)).2) → jah tm 8 = .int .i64 (ixj j) →
  EndsC (jai pZ X S0 (e + j + 40) (.loop (jjD Tryz.f205 0)) ⟨43, tm, [], none⟩ m) fun x r m' => x = .exit 0 ∧ ∃ tm', r = ⟨43, tm', [], none⟩ ∧ Grow μ0 m' ∧ b < m'.next ∧ Blk m' b ls.length 73 ∧ (∀ (k : Nat) x, (shD d ls).1[k]? = some x → jad m' b k = some (.int .u32 (.ofNat x))) ∧ jah tm' 6 = .slice (some ⟨b, 0, none⟩) ls.length (2 * ls.length) ∧ jah tm' 7 = .int .u64 (.ofNat (shD d ls).2) := by
 intro j
 induction j with
 | zero =>
   intro hj e tm m hG hbn hB hc h0 h1 h6 h7 h8
   have e1 : ilt (ixj 0) 0 = true := rfl
   refine jam ?_
   repeat ((first | refine jaa rfl ?_ | refine jaj rfl ?_); (try simp only [go_sem, h8, e1]); fail_if_success refine stk ?_)
   refine ⟨by trivial, _, rfl, hG, hbn, hB, fun k x hk => ?_, by simp only [go_sem, h6], by simp only [go_sem, h7]; rfl⟩
   have := hc k x hk
   rw [rzT] at this
   exact this
 | succ j ih =>
   intro hj e tm m hG hbn hB hc h0 h1 h6 h7 h8
   have hlt : j < ls.length := by omega
   obtain ⟨ha, bi, bo, c, hv, hbi, hca⟩ := hU.at (rzK hlt)
   obtain ⟨a, haj⟩ := exq (ls[j]'hlt)
   rw [← haj] at ha hca
   have hca' : jad m bi (bo + j) = some (.int .u32 (.ofNat a)) := by rw [← hca]; unfold jad; rw [hG.2 bi hbi]
   have hdr : ls.drop j = a :: ls.drop (j + 1) := by rw [haj]; exact List.drop_eq_getElem_cons hlt
   have hr := (jjl hd hd2 (ls := ls.drop (j + 1)) fun x hx => hU.1 x (List.mem_of_mem_drop hx)).2
   obtain ⟨r, hre⟩ := exq ((shD d (ls.drop (j + 1))).2)
   rw [← hre] at h7 hr
   obtain ⟨s, hs⟩ := exq (r * 4294967296)
   obtain ⟨t, ht⟩ := exq (s + a)
   obtain ⟨q, hq⟩ := exq (t / d)
   obtain ⟨w, hw⟩ := exq (t % d)
   have hsd : shD d (ls.drop j) = (q :: (shD d (ls.drop (j + 1))).1, w) := by
    rw [hdr, hq, hw, ht, hs, hre]
    rfl
   have ht64 : t < 18446744073709551616 := by omega
   have hq32 : q < 4294967296 := by
    rw [hq]
    refine Nat.div_lt_of_lt_mul ?_
    have : (r + 1) * 4294967296 ≤ d * 4294967296 := Nat.mul_le_mul_right _ hr
    omega
   have hor : t = s ||| a := by
    have := jf5 r a 32 (by rw [p32]; exact ha)
    rw [p32, ← hs] at this
    rw [this, ht]
   have e1 : ilt (ixj (j + 1)) 0 = false := rfl
   have q0 : jak .i64 (Int.sub (.ofNat j) 1) = ixj j := by
    cases j with
    | zero => rfl
    | succ j => exact jaZ (j + 1) 1 (by omega) (by omega)
   have q1 : jaH true .u64 (.ofNat r) 32 = some (.int .u64 (.ofNat s)) := shl_u r 32 s (by decide) (by rw [p32]; exact hs) (by omega)
   have q2 : jak .u64 (.ofNat a) = .ofNat a := nw (by omega)
   have q3 : jbm Nat.lor .u64 .u64 (.ofNat s) (.ofNat a) = some (.int .u64 (.ofNat t)) := jkC _ _ _ hor (by omega) (by omega)
   have q4' : jak .u64 (.ofNat d) = .ofNat d := nw (by omega)
   have q5 : aDiv false .u64 .u64 (.ofNat t) (.ofNat d) = some (.int .u64 (.ofNat q)) := by rw [hq]; exact n_divg hd ht64
   have q6 : jak .u32 (.ofNat q) = .ofNat q := by rw [q4]; congr 1; omega
   have q7 : aDiv true .u64 .u64 (.ofNat t) (.ofNat d) = some (.int .u64 (.ofNat w)) := by rw [hw]; exact n_remg hd
   have hix : ∀ rg x y, aev pZ rg x = v → aev pZ rg y = .int .i64 (ixj (j + 1)) → jal pZ (aev pZ rg) 23 x y = some (.pointer (some ⟨bi, bo + j, none⟩)) := fun rg x y g1 g2 => ix_U hlt (g1.trans hv) g2
   have hix2 : ∀ rg x y, aev pZ rg x = .slice (some ⟨b, 0, none⟩) ls.length (2 * ls.length) → aev pZ rg y = .int .i64 (ixj (j + 1)) → jal pZ (aev pZ rg) 23 x y = some (.pointer (some ⟨b, j, none⟩)) := fun rg x y g1 g2 => by
    rw [ix_U hlt g1 g2, rzT]
   have hst := jaW (t := 73) (v := .int .u32 (.ofNat q)) jci rfl rfl hB hlt
   have hB' : Blk (putL m b j [.int .u32 (.ofNat q)]) b ls.length 73 := hB.put _ _
   have hc' : ∀ (k : Nat) x, (shD d (ls.drop j)).1[k]? = some x → jad (putL m b j [.int .u32 (.ofNat q)]) b (j + k) = some (.int .u32 (.ofNat x)) := fun k x hk => by
    rw [hsd] at hk
    rw [jaP hB (by show j + 1 ≤ ls.length; omega)]
    match k with
    | 0 =>
      rw [dif_pos ⟨rfl, by omega, by show j + 0 < j + 1; omega⟩]
      have : q = x := by simpa using hk
      subst this
      simp
    | k + 1 =>
      rw [dif_neg (fun h => by have : j + (k + 1) < j + 1 := h.2.2; omega)]
      have := hc k x (by simpa using hk)
      rw [(by omega : j + (k + 1) = j + 1 + k)]
      exact this
   obtain ⟨ri, hri⟩ := exq (.ofNat r : Int)
   obtain ⟨si, hsi⟩ := exq (.ofNat s : Int)
   obtain ⟨ti, hti⟩ := exq (.ofNat t : Int)
   obtain ⟨ai, hai⟩ := exq (.ofNat a : Int)
   obtain ⟨di, hdi⟩ := exq (.ofNat d : Int)
   obtain ⟨ji, hji⟩ := exq (ixj (j + 1) : Int)
   have q0 : jak .i64 (Int.sub ji 1) = ixj j := by rw [hji]; exact q0
   rw [← hri] at h7 q1
   rw [← hsi] at q1 q3
   rw [← hti] at q3 q5 q7
   rw [← hai] at hca' q2 q3
   rw [← hdi] at h1 q4' q5 q7
   rw [← hji] at h8 e1 hix hix2
   refine jam ?_
   repeat ((first | refine jaa rfl ?_ | refine jaj rfl ?_); (try simp only [go_sem, h0, h1, h6, h7, h8, e1, q1, hix, hca', conv_4u, q2, q3, q4', q5, jiR, q6, hix2, hst, q7, q0]); fail_if_success refine stk ?_)
   rw [(by omega : e + (j + 1) + 39 = e + j + 40)]
   rw [hdi] at h1
   have hs2 : (shD d (ls.drop j)).2 = w := by rw [hsd]
   refine ih (by omega) (hG.put_new hb) (by rw [jaE]; exact hbn) hB' hc' ?_ ?_ ?_ ?_ ?_
   ·simp only [go_sem, h0]
   ·simp only [go_sem, h1]
   ·simp only [go_sem, h6]
   ·simp only [go_sem, hs2]
   ·simp only [go_sem]
end
noncomputable section
variable {X : XT}
theorem lshort_ex {ls : List Nat} {v : Value} {d : Nat} {μ : Mem} (hU : IsU μ ls v) (hl : ls.length ≤ 2000) (hd : 0 < d) (hd2 : d < 4294967296) {g : Nat} (hg : 100 + ls.length ≤ g) :
  ∃ w μ', aFun pZ (jai pZ X S0 g) 205 [v, .int .u32 (.ofNat d)] μ = some (.tuple #[w, .int .u32 (.ofNat (shD d ls).2)], μ') ∧ Lv μ' w (shD d ls).1 ∧ Grow μ μ' ∧ w = .slice (some ⟨μ.next, 0, none⟩) ls.length (2 * ls.length) := by
 obtain ⟨k, hk, rfl⟩ : ∃ k, ls.length ≤ k ∧ g = k + 100 := ⟨g - 100, by omega, by omega⟩
 have lv := hU.len
 have hG1 := jbc μ (obU ls.length)
 obtain ⟨μ1, hμ1⟩ := exq (⟨μ.obs.set μ.next (obU ls.length), μ.next + 1⟩ : Mem)
 rw [← hμ1] at hG1
 have hB1 : Blk μ1 μ.next ls.length 73 := by rw [hμ1]; exact ⟨_, _, _, _, by show T.get _ _ = _; rw [T.get_set, if_pos rfl]; rfl⟩
 have hn1 : μ.next < μ1.next := by rw [hμ1]; exact rzQ _
 have ms := msU ls.length (by omega)
 obtain ⟨hlt, hrd⟩ := jjl hd hd2 hU.1
 have q0 : jak .i64 (Int.sub (.ofNat ls.length) 1) = ixj ls.length := by
  cases h : ls.length with
  | zero => rfl
  | succ j => exact jaZ (j + 1) 1 (by omega) (by omega)
 obtain ⟨rr, hrr⟩ := exq ((shD d ls).2)
 rw [← hrr] at hrd ⊢
 have q1 : jak .u32 (.ofNat rr) = .ofNat rr := by rw [q4]; congr 1; omega
 have key : EndsF (aFun pZ (jai pZ X S0 (k + 100)) 205 [v, .int .u32 (.ofNat d)] μ) fun r μ' => ∃ w, r = .tuple #[w, .int .u32 (.ofNat rr)] ∧ Lv μ' w (shD d ls).1 ∧ Grow μ μ' ∧ w = .slice (some ⟨μ.next, 0, none⟩) ls.length (2 * ls.length) := by
  refine jac Tryz.func205 rfl rfl (nbl rfl) ?_
  simp only [go_sem, Tryz.ntmps205]
  repeat ((first | refine jaa rfl ?_ | refine jaj rfl ?_); (try simp only [go_sem, lv, jao, ms, ← hμ1, q0]); fail_if_success refine stk ?_)
  rw [(by omega : k + 94 = (k + 54 - ls.length) + ls.length + 40)]
  refine rzM (jkg hU hl hd hd2 (rzN _) ls.length (rzN _) hG1 hn1 hB1 (fun k x hk => by rw [List.drop_length] at hk; simp [shD] at hk) (by simp only [go_sem]) (by simp only [go_sem]) (by simp only [go_sem]) (by simp only [go_sem, List.drop_length]; try rfl) (by simp only [go_sem])) ?_
  rintro x r m ⟨rfl, tm', rfl, hG, hbn, hB, hc, y6, y7⟩
  rw [← hrr] at y7
  simp only [go_sem]
  repeat ((first | refine jaa rfl ?_ | refine jaj rfl ?_); (try simp only [go_sem, y6, y7, jiR, q1]); fail_if_success refine stk ?_)
  refine jae ?_
  refine ⟨rfl, .tuple #[.slice (some ⟨μ.next, 0, none⟩) ls.length (2 * ls.length), .int .u32 (.ofNat rr)], ?_, _, rfl, ?_, hG, rfl⟩
  ·skip
   simp only [go_sem, Tryz.results205]
  ·have hL := jgs d ls
   rw [← hL] at hB ⊢
   exact lv_cells hB hbn fun k x hk => ⟨hlt x (List.mem_of_getElem? hk), hc k x hk⟩
 obtain ⟨r, μ', h1, w, rfl, h2⟩ := key
 exact ⟨w, μ', h1, h2⟩
end
noncomputable section
def padk : Nat → Nat → List Nat
 | 0, _ => []
 | k + 1, p => padk k (p / 10) ++ [48 + p % 10]
theorem jgv : ∀ k p, (padk k p).length = k
 | 0, _ => rfl
 | k + 1, p => by simp [padk, jgv k]
theorem jjs (k : Nat) : (10 : Nat) ^ (k + 1) = 10 * 10 ^ k := by rw [Nat.pow_succ, Nat.mul_comm]
theorem dec_pad {n : Nat} (hn : 0 < n) : ∀ k p, p < 10 ^ k → decT (n * 10 ^ k + p) = decT n ++ padk k p
 | 0, p, h => by
   rw [Nat.pow_zero] at h ⊢
   rw [show p = 0 from by omega, Nat.mul_one, Nat.add_zero]
   simp [padk]
 | k + 1, p, h => by
   rw [jjs] at h ⊢
   have hp : 0 < 10 ^ k := Nat.pow_pos (by decide)
   have e : n * (10 * 10 ^ k) = 10 * (n * 10 ^ k) := Nat.mul_left_comm _ _ _
   have h1 : 1 * 10 ^ k ≤ n * 10 ^ k := Nat.mul_le_mul_right _ hn
   rw [e, jdr (by omega), show (10 * (n * 10 ^ k) + p) / 10 = n * 10 ^ k + p / 10 from by omega, show (10 * (n * 10 ^ k) + p) % 10 = p % 10 from by omega, dec_pad hn k (p / 10) (by omega), padk, List.append_assoc]
theorem jjv : ∀ k, padk k 0 = List.replicate k 48
 | 0 => rfl
 | k + 1 => by
   rw [padk, Nat.zero_div, jjv k, List.replicate_succ']
theorem jit : ∀ k p, 1 ≤ k → p < 10 ^ k → (decT p).length ≤ k ∧ List.replicate (k - (decT p).length) 48 ++ decT p = padk k p
 | 0, p, h, _ => by omega
 | k + 1, p, _, h => by
   by_cases hp : p < 10
   ·rw [jcv hp]
    refine ⟨by simp, ?_⟩
    rw [padk, show p / 10 = 0 from by omega, jjv, (by omega : p % 10 = p)]
    rfl
   ·rw [jjs] at h
    have hk : 1 ≤ k := by
     rcases Nat.eq_zero_or_pos k with h0 | h0
     ·subst h0
      rw [Nat.pow_zero] at h
      omega
     ·exact h0
    obtain ⟨h1, h2⟩ := jit k (p / 10) hk (by omega)
    rw [jdr hp]
    refine ⟨by rw [rzX]; show _ + 1 ≤ _; omega, ?_⟩
    rw [padk, ← h2, rzX]
    show List.replicate (k + 1 - ((decT (p / 10)).length + 1)) 48 ++ _ = _
    rw [show k + 1 - ((decT (p / 10)).length + 1) = k - (decT (p / 10)).length from by omega, List.append_assoc]
def ptF : Nat → Nat → List Nat
 | 0, _ => []
 | m + 1, n => if n = 0 then [] else n % 1000000000 :: ptF m (n / 1000000000)
def full : List Nat → List Nat
 | [] => []
 | [p] => decT p
 | p :: q :: r => full (q :: r) ++ padk 9 p
theorem ptF_lt : ∀ m n x, x ∈ ptF m n → x < 1000000000
 | 0, n, x, h => by cases h
 | m + 1, n, x, h => by
   unfold ptF at h
   split at h
   ·cases h
   ·rcases List.mem_cons.1 h with rfl | h
    ·omega
    ·exact ptF_lt m _ x h
theorem jiJ : ∀ m n, 0 < n → n < 1000000000 ^ m → full (ptF m n) = decT n
 | 0, n, h, h2 => by rw [Nat.pow_zero] at h2; omega
 | m + 1, n, h, h2 => by
   rw [Nat.pow_succ, Nat.mul_comm] at h2
   have h3 : n / 1000000000 < 1000000000 ^ m := Nat.div_lt_of_lt_mul h2
   have ih := jiJ m (n / 1000000000)
   unfold ptF
   rw [if_neg (by omega)]
   by_cases h0 : n / 1000000000 = 0
   ·have e : ptF m (n / 1000000000) = [] := by
     cases m with
     | zero => rfl
     | succ m => unfold ptF; rw [if_pos h0]
    rw [e]
    show decT (n % 1000000000) = _
    rw [Nat.mod_eq_of_lt (by omega)]
   ·have ih := ih (by omega) h3
    cases hp : ptF m (n / 1000000000) with
    | nil =>
      rw [hp] at ih
      exfalso
      cases m with
      | zero => rw [Nat.pow_zero] at h3; omega
      | succ m => unfold ptF at hp; rw [if_neg h0] at hp; cases hp
    | cons q r =>
      rw [hp] at ih
      show full (q :: r) ++ padk 9 (n % 1000000000) = _
      rw [ih]
      have := dec_pad (n := n / 1000000000) (by omega) 9 (n % 1000000000) (by show _ < 10 ^ 9; omega)
      rw [← this]
      congr 1
      show n / 1000000000 * 10 ^ 9 + _ = n
      omega
end
end Go.Proofs.YtdmfakpngnlokaaGreatDoor.nu
