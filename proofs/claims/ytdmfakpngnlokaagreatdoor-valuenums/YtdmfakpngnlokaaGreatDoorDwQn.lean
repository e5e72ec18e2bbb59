/-
  distafflaw18.ValueNums, part Qn: its walk and its law. No conditions.
-/
import Derived.Test.YtdmfakpngnlokaaGreatDoorDwQm
set_option linter.all false
set_option maxRecDepth 20000
set_option maxHeartbeats 8000000
namespace Go.Proofs.YtdmfakpngnlokaaGreatDoor.nu
open YtdmfakpngnlokaaGreatDoor.Ev
noncomputable section
variable {X : XT}
def retQM (P : Program) (fn : Func) (Q : Value → Mem → Prop) : Ax → Rg → Mem → Prop
 | .exit _, _, _ => False
 | .goto _, _, _ => False
 | _, r, μ => ∃ μ2, jdI μ r.ds = some μ2 ∧ ∃ v, jcI P μ2 r fn = some v ∧ Q v μ2
theorem jkG {P : Program} {ev : ET} {g : FuncId} {args : List Value} {μ : Mem} {fn : Func} {c : Code} {n : Nat} {Q : Value → Mem → Prop} (hf : P.funcs[g]? = some fn) (hb : fn.body = some c) (hn : fn.ntmps = n) (ha : args.length ≤ n)
  (h : EndsC (ev c ⟨n, T.e.lay 0 args, [], none⟩ μ) (retQM P fn Q)) : EndsF (aFun P ev g args μ) Q := by
 obtain ⟨x, r, μ1, h1, h2⟩ := h
 have hle : Nat.ble args.length n = true := rzP ha
 cases x with
 | exit id => exact h2.elim
 | goto l => exact h2.elim
 | normal =>
   obtain ⟨μ2, hd, v, hv, hq⟩ := h2
   refine ⟨v, μ2, ?_, hq⟩
   unfold aFun
   simp only [hf, hb, hn, hle, h1, hd, hv]
 | ret =>
   obtain ⟨μ2, hd, v, hv, hq⟩ := h2
   refine ⟨v, μ2, ?_, hq⟩
   unfold aFun
   simp only [hf, hb, hn, hle, h1, hd, hv]
theorem jkk {ev : ET} {l n d : Nat} {ps : Array Nat} {asg body : Code} {tm tm' : T Value} {args : List Value} {μ : Mem} {Q : Mem → Prop}
  (hl : μ.obs.get l = some (.loop .ready none ps asg body n tm d)) (hp : jcy n ps.toList args tm = some tm')
  (h : EndsC (ev asg ⟨n, tm', [], some l⟩ μ) fun a r1 μ1 => a = .normal ∧ μ1.obs.get l = some (.loop .ready none ps asg body n tm d) ∧
   EndsC (ev body r1 ⟨μ1.obs.set l (.loop .busy none ps asg body n tm d), μ1.next⟩) fun x r2 μ3 => x = .normal ∧ r2.ds = [] ∧ μ3.obs.get l = some (.loop .busy none ps asg body n tm d) ∧ Q ⟨μ3.obs.set l (.loop .ready none ps asg body n tm d), μ3.next⟩) :
  ∃ μ', jcm ev l args μ = some (.bool true, μ') ∧ Q μ' := by
 obtain ⟨a, r1, μ1, h1, rfl, h2, x, r2, μ3, h3, rfl, h4, h5, hq⟩ := h
 refine ⟨_, ?_, hq⟩
 unfold jcm
 simp only [hl, hp, h1, h2, jcc, h3, h4, h5]
theorem jkQ {P : Program} {S : List (FuncId × LK)} {k g n : Nat} {f : Operand} {ps : Array Nat} {asg body : Code} {fi ca : Array Value} {tm : T Value} {ds : List Nat} {fn : Func} {μ : Mem} {Q : Ax → Rg → Mem → Prop} (hf : aev P ⟨n, tm, ds, none⟩ f = .func (.func g) fi ca) (hfn : P.funcs[g]? = some fn) (hb : fn.body.isSome = true)
  (h : EndsF (aFun P (jai P X S k) g (fi.toList ++ (.func (.yield (μ.next + 1)) #[] #[] :: ca.toList)) ⟨(μ.obs.set μ.next .deferred).set (μ.next + 1) (.loop .ready none ps asg body n tm μ.next), μ.next + 2⟩) fun v μ2 =>
   μ2.obs.get (μ.next + 1) = some (.loop .ready none ps asg body n tm μ.next) ∧ Q .normal ⟨n, tm, μ.next :: ds, none⟩ ⟨μ2.obs.set (μ.next + 1) (.loop .exhausted none ps asg body n tm μ.next), μ2.next⟩) :
  EndsC (jai P X S (k + 1) (.rangeFunc f ps asg body) ⟨n, tm, ds, none⟩ μ) Q := by
 obtain ⟨v, μ2, h1, h2, hq⟩ := h
 refine ⟨.normal, _, _, ?_, hq⟩
 obtain ⟨c, hc⟩ : ∃ c, fn.body = some c := Option.isSome_iff_exists.1 hb
 simp only [jaA, jbB, jde]
 rw [show aev P ⟨n, tm, ds, none⟩ f = _ from hf]
 simp only [hfn, hc, h1, h2, jcc, Nat.add_eq]
set_option maxHeartbeats 4000000 in
theorem back_loop {l bx i c N G : Nat} {x : Nat → Nat} {Inv : Nat → Mem → Prop} (hN : N ≤ 2000) (hI : ∀ j μ, Inv j μ → jad μ bx 0 = some (.slice (some ⟨i, 0, none⟩) N c) ∧ ∀ k, k < N → jad μ i k = some (.int .u32 (.ofNat (x k))))
  (hr : ∀ (j : Nat) (μ : Mem) (g : Nat), G ≤ g → j < N → Inv (j + 1) μ → ∃ μ', jcm (jai pZ X S0 g) l [.int .i64 (.ofNat j), .int .u32 (.ofNat (x j))] μ = some (.bool true, μ') ∧ Inv j μ') :
  ∀ (j : Nat), j ≤ N → ∀ {e : Nat} {tm : T Value} {μ : Mem}, G ≤ e → Inv j μ → jah tm 0 = .func (.yield l) #[] #[] → jah tm 1 = .pointer (some ⟨bx, 0, none⟩) → jah tm 3 = .int .i64 (ixj j) →
   LpC X (e + j + 20) Tryz.f248 0 19 tm μ fun x r μ' => x = .exit 0 ∧ Inv 0 μ' ∧ ∃ tm', r = ⟨19, tm', [], none⟩ := by
 intro j
 induction j with
 | zero =>
   intro hj e tm μ he hi h0 h1 h3
   have e1 : ilt (ixj 0) 0 = true := rfl
   refine jam ?_
   repeat ((first | refine jaa rfl ?_ | refine jaj rfl ?_); (try simp only [go_sem, h3, e1]); fail_if_success refine stk ?_)
   exact ⟨by trivial, hi, _, rfl⟩
 | succ j ih =>
   intro hj e tm μ he hi h0 h1 h3
   obtain ⟨hb, hc⟩ := hI _ _ hi
   have hcj := hc j (by omega)
   obtain ⟨μ', r1, hi'⟩ := hr j μ (e + (j + 1) + 14) (by omega) (by omega) hi
   have e1 : ilt (ixj (j + 1)) 0 = false := rfl
   have q0 : jak .i64 (Int.sub (.ofNat j) 1) = ixj j := by
    cases j with
    | zero => rfl
    | succ j => exact jaZ (j + 1) 1 (by omega) (by omega)
   have hix : ∀ rg a b, aev pZ rg a = .slice (some ⟨i, 0, none⟩) N c → aev pZ rg b = .int .i64 (ixj (j + 1)) → jal pZ (aev pZ rg) 23 a b = some (.pointer (some ⟨i, j, none⟩)) := fun rg a b g1 g2 => by
    rw [ix_U (by omega) g1 g2, rzT]
   obtain ⟨ji, hji⟩ := exq (ixj (j + 1) : Int)
   have hji' : ji = .ofNat j := hji
   rw [← hji'] at r1 q0
   rw [← hji] at h3 e1 hix
   have e5 : (#[] : Array Value).toList = [] := rfl
   refine jam ?_
   repeat ((first | refine jaa rfl ?_ | refine jaj rfl ?_); (try simp only [go_sem, h0, h1, h3, e1, hb, hix, hcj, r1, e5, q0]); fail_if_success refine stk ?_)
   rw [(by omega : e + (j + 1) + 19 = e + j + 20)]
   exact ih (by omega) he hi' (by simp only [go_sem, h0]) (by simp only [go_sem, h1]) (by simp only [go_sem])
set_option maxHeartbeats 4000000 in
theorem back_ex {l bx i c N G g : Nat} {x : Nat → Nat} {Inv : Nat → Mem → Prop} {μ : Mem} (hN : N ≤ 2000) (hI : ∀ j μ, Inv j μ → jad μ bx 0 = some (.slice (some ⟨i, 0, none⟩) N c) ∧ ∀ k, k < N → jad μ i k = some (.int .u32 (.ofNat (x k))))
  (hr : ∀ (j : Nat) (μ : Mem) (g : Nat), G ≤ g → j < N → Inv (j + 1) μ → ∃ μ', jcm (jai pZ X S0 g) l [.int .i64 (.ofNat j), .int .u32 (.ofNat (x j))] μ = some (.bool true, μ') ∧ Inv j μ') (hi : Inv N μ) (hg : G + N + 40 ≤ g) :
  ∃ v μ', aFun pZ (jai pZ X S0 g) 248 [.func (.yield l) #[] #[], .pointer (some ⟨bx, 0, none⟩)] μ = some (v, μ') ∧ Inv 0 μ' := by
 obtain ⟨k, hk, rfl⟩ : ∃ k, G + N ≤ k ∧ g = k + 40 := ⟨g - 40, by omega, by omega⟩
 obtain ⟨hb, _⟩ := hI _ _ hi
 have q0 : jak .i64 (Int.sub (.ofNat N) 1) = ixj N := by
  cases h : N with
  | zero => rfl
  | succ j => exact jaZ (j + 1) 1 (by omega) (by omega)
 have lv : aLen pZ 23 (.slice (some ⟨i, 0, none⟩) N c) = some N := by
  unfold aLen
  simp only [Tryz.underlying23]
 have key : EndsF (aFun pZ (jai pZ X S0 (k + 40)) 248 [.func (.yield l) #[] #[], .pointer (some ⟨bx, 0, none⟩)] μ) fun v μ' => Inv 0 μ' := by
  refine jac Tryz.func248 rfl rfl (nbl rfl) ?_
  simp only [go_sem, Tryz.ntmps248]
  repeat ((first | refine jaa rfl ?_ | refine jaj rfl ?_); (try simp only [go_sem, hb, lv, jao, q0]); fail_if_success refine stk ?_)
  rw [(by omega : k + 38 = (k + 18 - N) + N + 20)]
  refine rzM (back_loop hN hI hr N (rzN _) (by omega) hi (by simp only [go_sem]) (by simp only [go_sem]) (by simp only [go_sem])) ?_
  rintro x r m ⟨rfl, hi0, tm', rfl⟩
  simp only [go_sem]
  exact ⟨rfl, _, rfl, hi0⟩
 obtain ⟨v, μ', h1, h2⟩ := key
 exact ⟨v, μ', h1, h2⟩
end
noncomputable section
variable {X : XT}
def obLs : Ob := .cells 1 23 #[.slice none 0 0] .e 0 0 false false
@[go_sem] theorem al_Lst : jb4 pZ 23 = some (obLs, fun id => .pointer (some ⟨id, 0, none⟩)) := by kernel_rfl
theorem Lv.keepAt {μ μ' : Mem} {v : Value} {ls : List Nat} (h : Lv μ v ls) (hk : ∀ i, SlAt v i → μ'.obs.get i = μ.obs.get i ∧ i < μ'.next) : Lv μ' v ls := by
 rcases h with h | ⟨i, c, m, z, ov, fx, sh, h1, h2, h3, h4, h5, h6⟩
 ·exact .inl h
 ·obtain ⟨k1, k2⟩ := hk i ⟨_, _, h1⟩
  exact .inr ⟨i, c, m, z, ov, fx, sh, h1, k1.trans h2, h3, k2, h5, h6⟩
theorem slAt_eq {v : Value} {i j l c : Nat} (h : SlAt v i) (g : v = .slice (some ⟨j, 0, none⟩) l c) : i = j := by
 obtain ⟨l', c', h⟩ := h
 rw [g] at h
 injection h with g1
 injection g1 with g2
 injection g2 with g3
 exact g3.symm
theorem jg9 (ls : List Nat) : (ja6 ls).length ≤ ls.length := by unfold ja6; rw [List.length_take]; omega
theorem jj9 (ls : List Nat) (h : ∀ x ∈ ls, x < 4294967296) : ja6 (ja6 ls) = ja6 ls := by
 refine je0 (fun x hx => h x (jeT (jeT hx))) (fun x hx => h x (jeT hx)) (jcD _) (jcD _) ?_
 rw [jct]
theorem jkr {P : Nat} {μ0 : Mem} (hP : μ0.next ≤ P) : ∀ (m : Nat), m ≤ 100 → ∀ {e : Nat} {tm : T Value} {μ : Mem} {v w : Value} {ls acc : List Nat}, IsU μ ls v → ls.length ≤ 64 → ja6 ls = ls → lval ls < 1000000000 ^ m → acc.length + m ≤ 200 → OwnK 73 1 none μ0 μ w acc.length (uc acc) → Blk μ P 1 23 → jad μ P 0 = some w → P < μ.next → ¬ SlAt w P → jah tm 0 = v → jah tm 3 = .pointer (some ⟨P, 0, none⟩) →
  LpC X (e + m + 300) Tryz.f167 0 53 tm μ fun x r μ' => x = .exit 0 ∧ ∃ tm' w', r = ⟨53, tm', [], none⟩ ∧ OwnK 73 1 none μ0 μ' w' (acc ++ ptF m (lval ls)).length (uc (acc ++ ptF m (lval ls))) ∧ Blk μ' P 1 23 ∧ jad μ' P 0 = some w' ∧ P < μ'.next ∧ ¬ SlAt w' P ∧ jah tm' 3 = .pointer (some ⟨P, 0, none⟩) := by
 have fin : ∀ (m e : Nat) {tm : T Value} {μ : Mem} {v w : Value} {ls acc : List Nat}, IsU μ ls v → lval ls = 0 → ja6 ls = ls → OwnK 73 1 none μ0 μ w acc.length (uc acc) → Blk μ P 1 23 → jad μ P 0 = some w → P < μ.next → ¬ SlAt w P → jah tm 0 = v → jah tm 3 = .pointer (some ⟨P, 0, none⟩) →
   LpC X (e + 300) Tryz.f167 0 53 tm μ fun x r μ' => x = .exit 0 ∧ ∃ tm' w', r = ⟨53, tm', [], none⟩ ∧ OwnK 73 1 none μ0 μ' w' (acc ++ ptF m (lval ls)).length (uc (acc ++ ptF m (lval ls))) ∧ Blk μ' P 1 23 ∧ jad μ' P 0 = some w' ∧ P < μ'.next ∧ ¬ SlAt w' P ∧ jah tm' 3 = .pointer (some ⟨P, 0, none⟩) := by
  intro m e tm μ v w ls acc hU hz ht hO hB hc hPn hns h0 h3
  have hl0 := jhE hU.1 ht hz
  have lv := hU.len
  rw [hl0] at lv
  have lv : aLen pZ 23 v = some 0 := lv
  have e1 : ilt 0 (.ofNat 0) = false := rfl
  have hp : ptF m (lval ls) = [] := by
   rw [hz]
   cases m with
   | zero => rfl
   | succ m => unfold ptF; rw [if_pos rfl]
  refine jam ?_
  repeat ((first | refine jaa rfl ?_ | refine jaj rfl ?_); (try simp only [go_sem, h0, lv, jao, e1]); fail_if_success refine stk ?_)
  refine ⟨by trivial, _, w, rfl, ?_, hB, hc, hPn, hns, by simp only [go_sem, h3]⟩
  rw [hp, List.append_nil]
  exact hO
 intro m
 induction m with
 | zero =>
   intro hm e tm μ v w ls acc hU hl ht hv hacc hO hB hc hPn hns h0 h3
   exact fin 0 e hU (by rw [Nat.pow_zero] at hv; omega) ht hO hB hc hPn hns h0 h3
 | succ m ih =>
   intro hm e tm μ v w ls acc hU hl ht hv hacc hO hB hc hPn hns h0 h3
   by_cases hz : lval ls = 0
   ·exact fin (m + 1) (e + (m + 1)) hU hz ht hO hB hc hPn hns h0 h3
   ·have hlp : 0 < ls.length := by
     rcases Nat.eq_zero_or_pos ls.length with h | h
     ·rw [List.eq_nil_of_length_eq_zero h] at hz
      exact absurd rfl hz
     ·exact h
    have lv := hU.len
    have e1 : ilt 0 (.ofNat ls.length) = true := dT (jap 0 _) hlp
    obtain ⟨q, μ1, r1, hL1, G1, hqv⟩ := lshort_ex (X := X) (d := 1000000000) (g := e + (m + 1) + 295) hU (by omega) (by decide) (by decide) (by omega)
    have hUq := hL1.isU (by rw [jgs]; exact hU.2.1)
    obtain ⟨hvq, hvr⟩ := shD_val (d := 1000000000) (by decide) ls
    rw [hvr] at r1
    obtain ⟨rr, hrr⟩ := exq (lval ls % 1000000000)
    rw [← hrr] at r1
    have r1 : aFun pZ (jai pZ X S0 (e + (m + 1) + 295)) 205 [v, .int .u32 1000000000] μ = some (.tuple #[q, .int .u32 (.ofNat rr)], μ1) := r1
    have hO1 := hO.keep G1
    have hB1 : Blk μ1 P 1 23 := hB.of_get (G1.2 P hPn)
    have hc1 : jad μ1 P 0 = some w := by rw [← hc]; unfold jad; rw [G1.2 P hPn]
    have hP1 := rzO hPn G1.1
    have hbs := fun (r : Rg) (y : Operand) (h : aev pZ r y = .int .u32 (.ofNat rr)) => bsQ r y h
    have hG2 := jbc μ1 (obQ rr)
    obtain ⟨w', μ2, hap, hO2, hat, hnx, hkp⟩ := (hO1.keep hG2).app (st := 23) (xt := 23) (x := .slice (some ⟨μ1.next, 0, none⟩) 1 2) (n := 1) (ys := uc [rr]) Tryz.underlying23 jci rfl (by decide) rfl jg5 rfl (by rw [Tryz.underlying23]) rfl ((GoodK.fresh μ1 μ1.next (μ1.next + 1) (ys := uc [rr]) rfl).src (by decide)) rfl (by omega) rfl (by decide) (fun d' h => by cases h)
    have hnx' : μ2.next = μ1.next + 1 + 1 := hnx
    have hPk : μ2.obs.get P = μ1.obs.get P := by
     rw [hkp P (by show P ≠ μ1.next + 1; omega) hns]
     exact hG2.2 P hP1
    obtain ⟨l', c', hv'⟩ := hat
    have hns' : ¬ SlAt w' P := fun h => by
     have := slAt_eq h hv'
     have : P = μ1.next + 1 := this
     omega
    have ov' : one w' = true := by rw [hv']; rfl
    have hB2 := hB1.of_get hPk
    have hst := jaW (t := 23) (v := w') (o := 0) i_Ls rfl ov' hB2 (by decide)
    have hB3 : Blk (putL μ2 P 0 [w']) P 1 23 := hB2.put _ _
    have hc3 : jad (putL μ2 P 0 [w']) P 0 = some w' := by
     rw [jaP hB2 (by show 0 + 1 ≤ 1; omega), dif_pos ⟨rfl, by omega, by show 0 < 0 + 1; omega⟩]
     rfl
    have hO3 : OwnK 73 1 none μ0 (putL μ2 P 0 [w']) w' (acc.length + 1) (uc acc ++ uc [rr]) := OwnK.poke hO2 (q := P) hP hns' (jaE _ _ _ _) (fun i hi => jaX _ _ _ _ hi)
    obtain ⟨μ3, hμ3⟩ := exq (putL μ2 P 0 [w'] : Mem)
    have n3 : μ3.next = μ1.next + 1 + 1 := by rw [hμ3, jaE]; exact hnx'
    have hgr := G1.1
    have hlq : μ.next < μ1.next := by
     rcases hL1 with ⟨h, _⟩ | ⟨i, c, mm, z, ov, fx, sh, h1, _, _, h4, _⟩
     ·rw [hqv] at h; cases h
     ·rw [hqv] at h1
      injection h1 with g1
      injection g1 with g2
      injection g2 with g3
      omega
    have hL3 : Lv μ3 q (shD 1000000000 ls).1 := hL1.keepAt fun i hi => by
     have hi := slAt_eq hi hqv
     subst hi
     refine ⟨?_, by omega⟩
     rw [hμ3, jaX _ _ _ _ (by omega), hkp μ.next (by show μ.next ≠ μ1.next + 1; omega) (fun h => by have := (hO.above _ h).2; omega)]
     exact hG2.2 μ.next hlq
    rw [← hμ3] at hst hB3 hc3 hO3
    have hlen : (shD 1000000000 ls).1.length = ls.length := jgs _ _
    obtain ⟨v4, μ4, r4, hL4, G4⟩ := jjf (X := X) (g := e + (m + 1) + 294) hL3 (by omega) (by omega)
    have hx4 : ∀ x ∈ (shD 1000000000 ls).1, x < 4294967296 := (jjl (by decide) (by decide) hU.1).1
    refine jam ?_
    repeat ((first | refine jaa rfl ?_ | refine jaj rfl ?_); (try simp only [go_sem, h0, h3, lv, jao, e1, r1, hc1, hbs, hap, hst, r4]); fail_if_success refine stk ?_)
    rw [(by omega : e + (m + 1) + 299 = e + m + 300)]
    have hP3 : P < μ3.next := by omega
    refine rzM (ih (by omega) (v := v4) (w := w') (ls := ja6 (shD 1000000000 ls).1) (acc := acc ++ [rr]) (hL4.isU (by have := jg9 (shD 1000000000 ls).1; have := hU.2.1; omega)) (by have := jg9 (shD 1000000000 ls).1; omega) (jj9 _ hx4) (by rw [jct, hvq]; rw [Nat.pow_succ, Nat.mul_comm] at hv; exact Nat.div_lt_of_lt_mul hv) (by rw [rzX]; show acc.length + 1 + m ≤ 200; omega) (by
     have := hO3.keep G4
     unfold uc at this ⊢
     rw [rzX, List.map_append]
     exact this) (hB3.of_get (G4.2 P hP3)) (by rw [← hc3]; unfold jad; rw [G4.2 P hP3]) (rzO hP3 G4.1) hns' ?_ ?_) ?_
    ·simp only [go_sem]
    ·simp only [go_sem, h3]
    rintro x r μf ⟨hx, tm', wf, hr, z1, z2⟩
    refine ⟨hx, tm', wf, hr, ?_, z2⟩
    have hpt : acc ++ ptF (m + 1) (lval ls) = acc ++ [rr] ++ ptF m (lval (ja6 (shD 1000000000 ls).1)) := by
     rw [jct, hvq, hrr]
     conv => lhs; unfold ptF
     rw [if_neg hz, List.append_assoc]
     rfl
    rw [hpt]
    exact z1
end
noncomputable section
@[go_sem] def gg249 {X ev} := gC X ev Tryz.func249 rfl rfl
@[go_sem] def gg250 {X ev} := gC X ev Tryz.func250 rfl rfl
@[go_sem] def gg269 {X ev} := gC X ev Tryz.func269 rfl rfl
variable {X : XT}
set_option maxHeartbeats 4000000 in
theorem mul64_one {n : Nat} (hn : n < 4294967296) {g : Nat} {μ : Mem} (hg : 30 ≤ g) : aFun pZ (jai pZ X S0 g) 256 [.int .u64 1, .int .u64 (.ofNat n)] μ = some (.tuple #[.int .u64 0, .int .u64 (.ofNat n)], μ) := by
 obtain ⟨k, rfl⟩ := gle hg
 have a1 : jbm Nat.land .u64 .u64 1 4294967295 = some (.int .u64 1) := rfl
 have a2 : jaH false .u64 1 32 = some (.int .u64 0) := rfl
 have a3 : jbm Nat.land .u64 .u64 (.ofNat n) 4294967295 = some (.int .u64 (.ofNat n)) := by
  have := land_u n 32 (by decide) (by omega)
  rw [p32, Nat.mod_eq_of_lt hn] at this
  exact this
 have a4 : jaH false .u64 (.ofNat n) 32 = some (.int .u64 0) := by
  have := shr_u n 32 (by decide)
  rw [p32, Nat.div_eq_of_lt hn] at this
  exact this
 have a5 : jak .u64 (Int.mul 1 (.ofNat n)) = .ofNat n := by
  have := nw (a := n) (by omega)
  rw [show Int.mul 1 (.ofNat n) = .ofNat n from Int.one_mul _]
  exact this
 have a6 : jak .u64 (Int.mul 0 (.ofNat n)) = 0 := by
  rw [show Int.mul 0 (.ofNat n) = 0 from Int.zero_mul _]
  rfl
 have a7 : jak .u64 (Int.add 0 0) = 0 := rfl
 have a8 : jbm Nat.land .u64 .u64 0 4294967295 = some (.int .u64 0) := rfl
 have a9 : jaH false .u64 0 32 = some (.int .u64 0) := rfl
 have a10 : jak .u64 (Int.mul 1 0) = 0 := rfl
 have a11 : jak .u64 (Int.mul 0 0) = 0 := rfl
 obtain ⟨ni, hni⟩ := exq (.ofNat n : Int)
 rw [← hni] at a3 a4 a5 a6 ⊢
 refine jau ?_
 refine jac Tryz.func256 rfl rfl (nbl rfl) ?_
 simp only [go_sem, Tryz.ntmps256]
 repeat ((first | refine jaa rfl ?_ | refine jaj rfl ?_); (try simp only [go_sem, a1, a2, a3, a4, a5, a6, a7, a8, a9, a10, a11]); fail_if_success refine stk ?_)
 exact jae ⟨rfl, .tuple #[.int .u64 0, .int .u64 ni], by simp only [go_sem, Tryz.results256], rfl, rfl⟩
set_option maxHeartbeats 4000000 in
theorem jkA {n : Nat} (hn : n < 4294967296) {g : Nat} {μ : Mem} (hg : 60 ≤ g) : aFun pZ (jai pZ X S0 g) 249 [.int .u64 1, .int .u64 (.ofNat n)] μ = some (.tuple #[.int .u64 0, .int .u64 (.ofNat n)], μ) := by
 obtain ⟨k, rfl⟩ := gle hg
 have r1 := mul64_one (X := X) hn (g := k + 56) (μ := μ) (by omega)
 obtain ⟨ni, hni⟩ := exq (.ofNat n : Int)
 rw [← hni] at r1 ⊢
 refine jau ?_
 refine jac Tryz.func249 rfl rfl (nbl rfl) ?_
 simp only [go_sem, Tryz.ntmps249]
 repeat ((first | refine jaa rfl ?_ | refine jaj rfl ?_); (try simp only [go_sem, r1]); fail_if_success refine stk ?_)
 exact jae ⟨rfl, .tuple #[.int .u64 0, .int .u64 ni], by simp only [go_sem, Tryz.results249], rfl, rfl⟩
set_option maxHeartbeats 4000000 in
theorem slHas_ex {s p : ByteArray} (h : (bys p).length ≤ (bys s).length) {g : Nat} {μ : Mem} (hg : 20 ≤ g) : aFun pZ (jai pZ X S0 g) 269 [.string s, .string p] μ = some (.bool (decide (jbV s (bys p).length = p)), μ) := by
 obtain ⟨k, rfl⟩ := gle hg
 have ls := jbU s
 have lp := jbU p
 have e1 : ilt (.ofNat (bys s).length) (.ofNat (bys p).length) = false := dF (jap _ _) (by omega)
 have hsl : ∀ r x y, aev pZ r x = .string s → aev pZ r y = .int .i64 (.ofNat (bys p).length) → jaJ pZ (aev pZ r) 9 x none (some y) none = some (.string (jbV s (bys p).length)) := fun r x y g1 g2 => jeU g1 g2 h
 have he := str_eq (jbV s (bys p).length) p
 refine jau ?_
 refine jac Tryz.func269 rfl rfl (nbl rfl) ?_
 simp only [go_sem, Tryz.ntmps269]
 repeat ((first | refine jaa rfl ?_ | refine jaj rfl ?_); (try simp only [go_sem, ls, lp, jao, e1, hsl, he]); fail_if_success refine stk ?_)
 exact jae ⟨rfl, .bool (decide (jbV s (bys p).length = p)), by simp only [go_sem, Tryz.results269], rfl, rfl⟩
set_option maxHeartbeats 4000000 in
theorem has_ex {s p : ByteArray} (h : (bys p).length ≤ (bys s).length) {g : Nat} {μ : Mem} (hg : 40 ≤ g) : aFun pZ (jai pZ X S0 g) 250 [.string s, .string p] μ = some (.bool (decide (jbV s (bys p).length = p)), μ) := by
 obtain ⟨k, rfl⟩ := gle hg
 have r1 := slHas_ex (X := X) h (g := k + 37) (μ := μ) (by omega)
 refine jau ?_
 refine jac Tryz.func250 rfl rfl (nbl rfl) ?_
 simp only [go_sem, Tryz.ntmps250]
 repeat ((first | refine jaa rfl ?_ | refine jaj rfl ?_); (try simp only [go_sem, r1]); fail_if_success refine stk ?_)
 exact jae ⟨rfl, .bool (decide (jbV s (bys p).length = p)), by simp only [go_sem, Tryz.results250], rfl, rfl⟩
end
noncomputable section
@[go_sem] def gg207 {X ev} := gC X ev Tryz.func207 rfl rfl
variable {X : XT}
theorem cvIU (n : Int) : jay pZ 3 79 (.int .i64 n) = some (.int .u64 (jak .u64 n)) := by
 simp only [jay, Tryz.underlying3, Tryz.underlying79]
theorem cvUI (n : Int) : jay pZ 79 3 (.int .u64 n) = some (.int .i64 (jak .i64 n)) := by
 simp only [jay, Tryz.underlying3, Tryz.underlying79]
def spS : ByteArray := ⟨List.toArray (List.append [32, 32, 32, 32, 32, 32, 32, 32, 32, 32, 32, 32, 32, 32, 32, 32, 32, 32, 32, 32, 32, 32, 32, 32, 32, 32, 32, 32, 32, 32, 32, 32, 32, 32, 32, 32, 32, 32, 32, 32, 32, 32, 32, 32, 32, 32, 32, 32, 32, 32, 32, 32, 32, 32, 32, 32, 32, 32, 32, 32, 32, 32, 32, 32] [32, 32, 32, 32, 32, 32, 32, 32, 32, 32, 32, 32, 32, 32, 32, 32, 32, 32, 32, 32, 32, 32, 32, 32, 32, 32, 32, 32, 32, 32, 32, 32, 32, 32, 32, 32, 32, 32, 32, 32, 32, 32, 32, 32, 32, 32, 32, 32, 32, 32, 32, 32, 32, 32, 32, 32, 32, 32, 32, 32, 32, 32, 32, 32])⟩
def daS : ByteArray := ⟨List.toArray (List.append [45, 45, 45, 45, 45, 45, 45, 45, 45, 45, 45, 45, 45, 45, 45, 45, 45, 45, 45, 45, 45, 45, 45, 45, 45, 45, 45, 45, 45, 45, 45, 45, 45, 45, 45, 45, 45, 45, 45, 45, 45, 45, 45, 45, 45, 45, 45, 45, 45, 45, 45, 45, 45, 45, 45, 45, 45, 45, 45, 45, 45, 45, 45, 45] [45, 45, 45, 45, 45, 45, 45, 45, 45, 45, 45, 45, 45, 45, 45, 45, 45, 45, 45, 45, 45, 45, 45, 45, 45, 45, 45, 45, 45, 45, 45, 45, 45, 45, 45, 45, 45, 45, 45, 45, 45, 45, 45, 45, 45, 45, 45, 45, 45, 45, 45, 45, 45, 45, 45, 45, 45, 45, 45, 45, 45, 45, 45, 45])⟩
def zeS : ByteArray := ⟨List.toArray [48, 48, 48, 48, 48, 48, 48, 48, 48, 48, 48, 48, 48, 48, 48, 48, 48, 48, 48, 48, 48, 48, 48, 48, 48, 48, 48, 48, 48, 48, 48, 48, 48, 48, 48, 48, 48, 48, 48, 48, 48, 48, 48, 48, 48, 48, 48, 48, 48, 48, 48, 48, 48, 48, 48, 48, 48, 48, 48, 48, 48, 48, 48, 48]⟩
theorem has_sp : decide (jbV spS (bys ⟨List.toArray [48]⟩).length = ⟨List.toArray [48]⟩) = false ∧ (bys ⟨List.toArray [48]⟩).length ≤ (bys spS).length ∧ decide (jbV daS (bys ⟨List.toArray [48]⟩).length = ⟨List.toArray [48]⟩) = false ∧ (bys ⟨List.toArray [48]⟩).length ≤ (bys daS).length ∧ decide (jbV zeS (bys ⟨List.toArray [48]⟩).length = ⟨List.toArray [48]⟩) = true ∧ (bys ⟨List.toArray [48]⟩).length ≤ (bys zeS).length := by decide +kernel
theorem rep_str : ∀ n, n ≤ 8 → jbV ⟨List.toArray [48, 48, 48, 48, 48, 48, 48, 48, 48, 48, 48, 48, 48, 48, 48, 48, 48, 48, 48, 48, 48, 48, 48, 48, 48, 48, 48, 48, 48, 48, 48, 48, 48, 48, 48, 48, 48, 48, 48, 48, 48, 48, 48, 48, 48, 48, 48, 48, 48, 48, 48, 48, 48, 48, 48, 48, 48, 48, 48, 48, 48, 48, 48, 48]⟩ n = strOf (List.replicate n 48) := by decide +kernel
theorem repeat_ex {n : Nat} (h2 : n ≤ 8) {g : Nat} {μ : Mem} (hg : 100 ≤ g) : aFun pZ (jai pZ X S0 g) 207 [.string ⟨List.toArray [48]⟩, .int .i64 (.ofNat n)] μ = some (.string (strOf (List.replicate n 48)), μ) := by
 obtain ⟨k, rfl⟩ := gle hg
 have e0 : ieq (.ofNat n) 0 = decide (n = 0) := jbo n 0 0 rfl
 have e1 : ieq (.ofNat n) 1 = decide (n = 1) := jbo n 1 1 rfl
 refine jau ?_
 by_cases n0 : n = 0
 ·rw [rzU n0] at e0
  subst n0
  refine jac Tryz.func207 rfl rfl (nbl rfl) ?_
  simp only [go_sem, Tryz.ntmps207]
  repeat ((first | refine jaa rfl ?_ | refine jaj rfl ?_); (try simp only [go_sem, e0]); fail_if_success refine stk ?_)
  exact jae ⟨rfl, .string ⟨#[]⟩, by simp only [go_sem, Tryz.results207], rfl, rfl⟩
 ·rw [rzV n0] at e0
  by_cases n1 : n = 1
  ·rw [rzU n1] at e1
   subst n1
   refine jac Tryz.func207 rfl rfl (nbl rfl) ?_
   simp only [go_sem, Tryz.ntmps207]
   repeat ((first | refine jaa rfl ?_ | refine jaj rfl ?_); (try simp only [go_sem, e0, e1]); fail_if_success refine stk ?_)
   refine jae ?_
   refine ⟨rfl, .string ⟨List.toArray [48]⟩, ?_, by rw [show strOf (List.replicate 1 48) = ⟨List.toArray [48]⟩ from by decide +kernel], rfl⟩
   simp only [go_sem, Tryz.results207]
  ·rw [rzV n1] at e1
   have e2 : ilt (.ofNat n) 0 = false := rfl
   have l1 : aLen pZ 9 (.string ⟨List.toArray [48]⟩) = some 1 := jbU _
   have q1 : jak .u64 (.ofNat 1) = 1 := rfl
   have q2 : jak .u64 (.ofNat n) = .ofNat n := nw (by omega)
   have r1 := jkA (X := X) (n := n) (by omega) (g := k + 95) (μ := μ) (by omega)
   have e3 : ilt 0 0 = false := rfl
   have e4 : ilt 9223372036854775807 (.ofNat n) = false := dF (jap 9223372036854775807 n) (by omega)
   have q3 : jak .i64 (.ofNat n) = .ofNat n := q64 n (by omega)
   have e5 : ieq (.ofNat 1) 0 = false := rfl
   have hl0 : 0 < (bys ⟨List.toArray [48]⟩).length := by decide
   have hx : ∀ r x, aev pZ r x = .string ⟨List.toArray [48]⟩ → jb0 pZ (aev pZ r) 9 x (.const (.int .i64 0)) = some (.int .u8 48) := fun r x h => jhh hl0 h rfl
   have c1 : ieq 48 32 = false := rfl
   have c2 : ieq 48 45 = false := rfl
   have c3 : ieq 48 48 = true := rfl
   have e6 : ilt 128 (.ofNat n) = false := dF (jap 128 n) (by omega)
   have e7 : ilt 64 (.ofNat n) = false := dF (jap 64 n) (by omega)
   obtain ⟨s1, s2, s3, s4, s5, s6⟩ := has_sp
   have p1 : aFun pZ (jai pZ X S0 (k + 85)) 250 [.string ⟨List.toArray (List.append [32, 32, 32, 32, 32, 32, 32, 32, 32, 32, 32, 32, 32, 32, 32, 32, 32, 32, 32, 32, 32, 32, 32, 32, 32, 32, 32, 32, 32, 32, 32, 32, 32, 32, 32, 32, 32, 32, 32, 32, 32, 32, 32, 32, 32, 32, 32, 32, 32, 32, 32, 32, 32, 32, 32, 32, 32, 32, 32, 32, 32, 32, 32, 32] [32, 32, 32, 32, 32, 32, 32, 32, 32, 32, 32, 32, 32, 32, 32, 32, 32, 32, 32, 32, 32, 32, 32, 32, 32, 32, 32, 32, 32, 32, 32, 32, 32, 32, 32, 32, 32, 32, 32, 32, 32, 32, 32, 32, 32, 32, 32, 32, 32, 32, 32, 32, 32, 32, 32, 32, 32, 32, 32, 32, 32, 32, 32, 32])⟩, .string ⟨List.toArray [48]⟩] μ = some (.bool false, μ) := by rw [← s1]; exact has_ex s2 (by omega)
   have p2 : aFun pZ (jai pZ X S0 (k + 83)) 250 [.string ⟨List.toArray (List.append [45, 45, 45, 45, 45, 45, 45, 45, 45, 45, 45, 45, 45, 45, 45, 45, 45, 45, 45, 45, 45, 45, 45, 45, 45, 45, 45, 45, 45, 45, 45, 45, 45, 45, 45, 45, 45, 45, 45, 45, 45, 45, 45, 45, 45, 45, 45, 45, 45, 45, 45, 45, 45, 45, 45, 45, 45, 45, 45, 45, 45, 45, 45, 45] [45, 45, 45, 45, 45, 45, 45, 45, 45, 45, 45, 45, 45, 45, 45, 45, 45, 45, 45, 45, 45, 45, 45, 45, 45, 45, 45, 45, 45, 45, 45, 45, 45, 45, 45, 45, 45, 45, 45, 45, 45, 45, 45, 45, 45, 45, 45, 45, 45, 45, 45, 45, 45, 45, 45, 45, 45, 45, 45, 45, 45, 45, 45, 45])⟩, .string ⟨List.toArray [48]⟩] μ = some (.bool false, μ) := by rw [← s3]; exact has_ex s4 (by omega)
   have p3 : aFun pZ (jai pZ X S0 (k + 81)) 250 [.string ⟨List.toArray [48, 48, 48, 48, 48, 48, 48, 48, 48, 48, 48, 48, 48, 48, 48, 48, 48, 48, 48, 48, 48, 48, 48, 48, 48, 48, 48, 48, 48, 48, 48, 48, 48, 48, 48, 48, 48, 48, 48, 48, 48, 48, 48, 48, 48, 48, 48, 48, 48, 48, 48, 48, 48, 48, 48, 48, 48, 48, 48, 48, 48, 48, 48, 48]⟩, .string ⟨List.toArray [48]⟩] μ = some (.bool true, μ) := by rw [← s5]; exact has_ex s6 (by omega)
   have hsl : ∀ r y, aev pZ r y = .int .i64 (.ofNat n) → jaJ pZ (aev pZ r) 9 (.const (.string ⟨List.toArray [48, 48, 48, 48, 48, 48, 48, 48, 48, 48, 48, 48, 48, 48, 48, 48, 48, 48, 48, 48, 48, 48, 48, 48, 48, 48, 48, 48, 48, 48, 48, 48, 48, 48, 48, 48, 48, 48, 48, 48, 48, 48, 48, 48, 48, 48, 48, 48, 48, 48, 48, 48, 48, 48, 48, 48, 48, 48, 48, 48, 48, 48, 48, 48]⟩)) none (some y) none = some (.string (strOf (List.replicate n 48))) := fun r y g => by
    rw [← rep_str n h2]
    exact jeU (s := ⟨List.toArray [48, 48, 48, 48, 48, 48, 48, 48, 48, 48, 48, 48, 48, 48, 48, 48, 48, 48, 48, 48, 48, 48, 48, 48, 48, 48, 48, 48, 48, 48, 48, 48, 48, 48, 48, 48, 48, 48, 48, 48, 48, 48, 48, 48, 48, 48, 48, 48, 48, 48, 48, 48, 48, 48, 48, 48, 48, 48, 48, 48, 48, 48, 48, 48]⟩) rfl g (by show n ≤ 64; omega)
   obtain ⟨ni, hni⟩ := exq (.ofNat n : Int)
   rw [← hni] at e0 e1 e2 q2 r1 e4 q3 e6 e7 hsl ⊢
   refine jac Tryz.func207 rfl rfl (nbl rfl) ?_
   simp only [go_sem, Tryz.ntmps207]
   repeat ((first | refine jaa rfl ?_ | refine jaj rfl ?_); (try simp only [go_sem, e0, e1, e2, l1, jao, cvIU, q1, q2, r1, e3, e4, cvUI, q3, e5, hx, c1, c2, c3, e6, e7, p1, p2, p3, hsl]); fail_if_success refine stk ?_)
   exact jae ⟨rfl, .string (strOf (List.replicate n 48)), by simp only [go_sem, Tryz.results207], rfl, rfl⟩
end
noncomputable section
variable {X : XT}
theorem iStr : pZ.info? 9 = some Tryz.t9 := by kernel_rfl
structure RK (M : Mem) (R : Ob) (l oi : Nat) (ps : List Nat) (j : Nat) (μ : Mem) : Prop where
 nx : M.next ≤ μ.next
 keep : ∀ i, i < M.next → i ≠ oi → i ≠ l → μ.obs.get i = M.obs.get i
 loop : μ.obs.get l = some R
 blk : Blk μ oi 1 9
 out : ∃ s, jad μ oi 0 = some (.string s) ∧ bys s = full (ps.drop j)
section
variable {M μ μ' μ0 : Mem} {R R' : Ob} {l oi j : Nat} {ps : List Nat}
theorem RK.grow (h : RK M R l oi ps j μ) (g : Grow μ0 M) (h1 : μ0.next ≤ oi) (h2 : μ0.next ≤ l) : Grow μ0 μ :=
 ⟨rzS g.1 h.nx, fun i hi => (h.keep i (rzO hi g.1) (by omega) (by omega)).trans (g.2 i hi)⟩
theorem RK.cell (h : RK M R l oi ps j μ) {i : Nat} (h1 : i < M.next) (h2 : i ≠ oi) (h3 : i ≠ l) (k : Nat) : jad μ i k = jad M i k := by
 unfold jad
 rw [h.keep i h1 h2 h3]
theorem RK.up (h : RK M R l oi ps j μ) (g : Grow μ μ') (hl : l < M.next) (ho : oi < M.next) : RK M R l oi ps j μ' := by
 have e : ∀ i, i < M.next → μ'.obs.get i = μ.obs.get i := fun i hi => g.2 i (rzO hi h.nx)
 refine ⟨rzS h.nx g.1, fun i hi h1 h2 => (e i hi).trans (h.keep i hi h1 h2), (e l hl).trans h.loop, h.blk.of_get (e oi ho), ?_⟩
 obtain ⟨s, h1, h2⟩ := h.out
 exact ⟨s, by rw [← h1]; unfold jad; rw [e oi ho], h2⟩
theorem RK.reloop (h : RK M R l oi ps j μ) (hn : oi ≠ l) : RK M R' l oi ps j ⟨μ.obs.set l R', μ.next⟩ := by
 have e : ∀ i, i ≠ l → (⟨μ.obs.set l R', μ.next⟩ : Mem).obs.get i = μ.obs.get i := fun i hi => by show T.get _ _ = _; rw [T.get_set, if_neg hi]
 refine ⟨h.nx, fun i hi h1 h2 => (e i h2).trans (h.keep i hi h1 h2), by show T.get _ _ = _; rw [T.get_set, if_pos rfl], h.blk.of_get (e oi hn), ?_⟩
 obtain ⟨s, h1, h2⟩ := h.out
 exact ⟨s, by rw [← h1]; unfold jad; rw [e oi hn], h2⟩
theorem RK.poke (h : RK M R l oi ps (j + 1) μ) {s : ByteArray} (hs : bys s = full (ps.drop j)) (hn : oi ≠ l) : RK M R l oi ps j (putL μ oi 0 [.string s]) := by
 have e : ∀ i, i ≠ oi → (putL μ oi 0 [.string s]).obs.get i = μ.obs.get i := fun i hi => jaX _ _ _ _ hi
 exact ⟨by rw [jaE]; exact h.nx, fun i hi h1 h2 => (e i h1).trans (h.keep i hi h1 h2), (e l (Ne.symm hn)).trans h.loop, h.blk.put _ _, s, by rw [jc0 h.blk (by decide), if_pos rfl], hs⟩
end
theorem big_no {ls : List Nat} {v : Value} {μ : Mem} (h : IsU μ ls v) (hl : ls.length ≤ 64) {g : Nat} (hg : 20 ≤ g) : aFun pZ (jai pZ X S0 g) 204 [v] μ = some (.bool false, μ) := by
 obtain ⟨k, rfl⟩ := gle hg
 have lv := h.len
 have e1 : ilt 64 (.ofNat ls.length) = false := dF (jap 64 _) (by omega)
 refine jau ?_
 refine jac Tryz.func204 rfl rfl (nbl rfl) ?_
 simp only [go_sem, Tryz.ntmps204]
 repeat ((first | refine jaa rfl ?_ | refine jaj rfl ?_); (try simp only [go_sem, lv, jao, e1]); fail_if_success refine stk ?_)
 exact jae ⟨rfl, .bool false, by simp only [go_sem, Tryz.results204], rfl, rfl⟩
theorem backfn {v : Value} (hv : Ev.one v = true) {g : Nat} {μ : Mem} (hg : 20 ≤ g) : aFun pZ (jai pZ X S0 g) 206 [v] μ =
  some (.func (.func 248) #[] #[.pointer (some ⟨μ.next, 0, none⟩)], ⟨μ.obs.set μ.next (.cells 1 23 #[v] .e 0 0 false false), μ.next + 1⟩) := by
 obtain ⟨k, rfl⟩ := gle hg
 have bx := box_one 23 hv
 refine jau ?_
 refine jac Tryz.func206 rfl rfl (nbl rfl) ?_
 simp only [go_sem, Tryz.ntmps206]
 repeat ((first | refine jaa rfl ?_ | refine jaj rfl ?_); (try simp only [go_sem, bx, jdu]); fail_if_success refine stk ?_)
 exact jae ⟨rfl, .func (.func 248) #[] #[.pointer (some ⟨μ.next, 0, none⟩)], by simp only [go_sem, Tryz.results206], rfl, rfl⟩
theorem jkb {k n G a b : Nat} {asg body : Code} {tm : T Value} {ds : List Nat} {f : Operand} {μ : Mem} {bx oi i c : Nat} {ps : List Nat} {Q : Ax → Rg → Mem → Prop} (hf : aev pZ ⟨n, tm, ds, none⟩ f = .func (.func 248) #[] #[.pointer (some ⟨bx, 0, none⟩)])
  (hN : ps.length ≤ 69) (hk : G + ps.length + 40 ≤ k) (ha : a < n) (hb : b < n) (hoi : oi < μ.next) (hbx : bx < μ.next) (hin : i < μ.next) (hbo : bx ≠ oi) (hio : i ≠ oi) (hB : Blk μ oi 1 9) (hs : ∃ s, jad μ oi 0 = some (.string s) ∧ bys s = [])
  (hbc : jad μ bx 0 = some (.slice (some ⟨i, 0, none⟩) ps.length c)) (hic : ∀ (k : Nat), k < ps.length → jad μ i k = some (.int .u32 (.ofNat (ps.getD k 0))))
  (hr : ∀ (M : Mem) (R B : Ob) (j g : Nat) (m : Mem), M.next = μ.next + 2 → (∀ i, i < μ.next → M.obs.get i = μ.obs.get i) → G ≤ g → j < ps.length → RK M R (μ.next + 1) oi ps (j + 1) m →
   EndsC (jai pZ X S0 g asg ⟨n, (tm.set a (.int .i64 (.ofNat j))).set b (.int .u32 (.ofNat (ps.getD j 0))), [], some (μ.next + 1)⟩ m) fun x r1 m1 => x = .normal ∧ m1 = m ∧
    ∀ m' : Mem, RK M B (μ.next + 1) oi ps (j + 1) m' → EndsC (jai pZ X S0 g body r1 m') fun x r2 m3 => x = .normal ∧ r2.ds = [] ∧ RK M B (μ.next + 1) oi ps j m3)
  (hq : ∀ (M : Mem) (R : Ob) (m : Mem), M.next = μ.next + 2 → (∀ i, i < μ.next → M.obs.get i = μ.obs.get i) → M.obs.get μ.next = some .deferred → RK M R (μ.next + 1) oi ps 0 m → Q .normal ⟨n, tm, μ.next :: ds, none⟩ m) :
  EndsC (jai pZ X S0 (k + 1) (.rangeFunc f #[a, b] asg body) ⟨n, tm, ds, none⟩ μ) Q := by
 refine jkQ hf Tryz.func248 rfl ?_
 obtain ⟨R, hR⟩ := exq (.loop .ready none #[a, b] asg body n tm μ.next : Ob)
 obtain ⟨B, hBu⟩ := exq (.loop .busy none #[a, b] asg body n tm μ.next : Ob)
 obtain ⟨M, hM⟩ := exq (⟨(μ.obs.set μ.next .deferred).set (μ.next + 1) R, μ.next + 2⟩ : Mem)
 have m1 : ∀ j, j < μ.next → M.obs.get j = μ.obs.get j := fun j hj => by rw [hM]; show T.get _ j = _; rw [T.get_set, if_neg (by omega), T.get_set, if_neg (by omega)]
 have m2 : M.obs.get μ.next = some .deferred := by rw [hM]; show T.get _ _ = _; rw [T.get_set, if_neg (by omega), T.get_set, if_pos rfl]
 have m3 : M.obs.get (μ.next + 1) = some R := by rw [hM]; show T.get _ _ = _; rw [T.get_set, if_pos rfl]
 have mn : M.next = μ.next + 2 := by rw [hM]
 have cM : ∀ j p, j < μ.next → jad M j p = jad μ j p := fun j p hj => by unfold jad; rw [m1 j hj]
 have i0 : RK M R (μ.next + 1) oi ps ps.length M := by
  obtain ⟨s, s1, s2⟩ := hs
  exact ⟨rzN _, fun _ _ _ _ => rfl, m3, hB.of_get (m1 oi hoi), s, (cM oi 0 hoi).trans s1, by rw [s2, List.drop_length]; rfl⟩
 have hp : ∀ u v, jcy n (#[a, b] : Array Nat).toList [u, v] tm = some ((tm.set a u).set b v) := fun u v => by
  show jcy n [a, b] _ tm = _
  simp only [jcy]
  rw [show Nat.blt a n = true from by simpa using ha, show Nat.blt b n = true from by simpa using hb]
 obtain ⟨v, μ', h3, h4⟩ := back_ex (X := X) (l := μ.next + 1) (bx := bx) (i := i) (c := c) (N := ps.length) (G := G) (g := k) (x := fun k => ps.getD k 0) (Inv := fun j m => RK M R (μ.next + 1) oi ps j m) (μ := M) (by omega)
  (fun j m h => ⟨by rw [h.cell (by omega) hbo (by omega), cM bx 0 hbx]; exact hbc, fun k hk => by rw [h.cell (by omega) hio (by omega), cM i k hin]; exact hic k hk⟩)
  (fun j m g hg hj h => by
   refine jkk (ps := #[a, b]) (asg := asg) (body := body) (n := n) (tm := tm) (d := μ.next) (by rw [h.loop, hR]) (hp _ _) ?_
   refine (hr M R B j g m mn m1 hg hj h).mono fun x r1 μ1 hh => ?_
   obtain ⟨g1, rfl, g3⟩ := hh
   refine ⟨g1, by rw [h.loop, hR], ?_⟩
   rw [← hBu]
   refine (g3 _ (h.reloop (by omega))).mono fun x r2 μ3 hh => ?_
   obtain ⟨f1, f2, f3⟩ := hh
   refine ⟨f1, f2, f3.loop, ?_⟩
   rw [← hR]
   exact f3.reloop (by omega)) i0 hk
 refine ⟨v, μ', ?_, by rw [h4.loop, hR], ?_⟩
 ·rw [← hR, ← hM]; exact h3
 ·exact hq M _ _ mn m1 m2 (h4.reloop (by omega))
end
noncomputable section
variable {X : XT}
def obStr : Ob := .cells 1 9 #[.string ⟨#[]⟩] .e 0 0 false false
@[go_sem] theorem al_Str : jb4 pZ 9 = some (obStr, fun id => .pointer (some ⟨id, 0, none⟩)) := by kernel_rfl
theorem ptF_len : ∀ m n, (ptF m n).length ≤ m
 | 0, _ => rzN _
 | m + 1, n => by
   unfold ptF
   split
   ·exact rzY _
   ·have := ptF_len m (n / 1000000000)
    show _ + 1 ≤ _
    omega
theorem jgL (n : Nat) : 0 < (decT n).length := by
 by_cases h : n < 10
 ·rw [jcv h]; exact Nat.zero_lt_one
 ·rw [jdr h, rzX]; show 0 < _ + 1; omega
theorem jgB {ls : List Nat} (hx : ∀ x ∈ ls, x < 4294967296) (hl : ls.length ≤ 64) : lval ls < 1000000000 ^ 69 := by
 have h1 := vU_lt hx
 rw [je8] at h1
 have h2 : 4294967296 ^ ls.length ≤ 4294967296 ^ 64 := Nat.pow_le_pow_right (by decide) hl
 have h3 : 4294967296 ^ 64 ≤ 1000000000 ^ 69 := by decide +kernel
 exact rzO h1 (rzS h2 h3)
theorem jjM : ∀ ps : List Nat, (∀ x ∈ ps, x < 1000000000) → (full ps).length ≤ 9 * ps.length
 | [], _ => rzN _
 | [p], h => (jit 9 p (by decide) (h p (List.mem_cons_self ..))).1
 | p :: q :: r, h => by
   have ih := jjM (q :: r) fun x hx => h x (List.mem_cons_of_mem _ hx)
   unfold full
   rw [rzX, jgv]
   simp only [List.length_cons] at ih ⊢
   omega
theorem full_drop {ps : List Nat} {j : Nat} (h : j < ps.length) : full (ps.drop j) = full (ps.drop (j + 1)) ++ (if j + 1 < ps.length then padk 9 (ps.getD j 0) else decT (ps.getD j 0)) := by
 rw [List.drop_eq_getElem_cons h]
 have hg : ps.getD j 0 = ps[j] := by rw [List.getD_eq_getElem?_getD, rzK h]; rfl
 rw [hg]
 split
 ·cases hd : ps.drop (j + 1) with
  | nil => have := congrArg List.length hd; rw [List.length_drop] at this; simp at this; omega
  | cons q r => rfl
 ·rw [List.drop_eq_nil_of_le (by omega : ps.length ≤ j + 1)]
  rfl
theorem bys_lt {l : List Nat} (h : ∀ x ∈ l, x < 256) : bys (strOf l) = l := by
 rw [jcf]
 conv => rhs; rw [← List.map_id l]
 exact List.map_congr_left fun x hx => Nat.mod_eq_of_lt (h x hx)
theorem jez (n : Nat) : bys (strOf (decT n)) = decT n := bys_lt fun x hx => by have := jew n x hx; omega
theorem jeb (x : Nat) : bys (jcK (.ofNat x)) = decT x := by
 unfold jcK
 rw [if_neg (by exact Int.not_lt.mpr (Int.natCast_nonneg x)), List.nil_append]
 exact jez x
theorem cv_u32i (n : Int) : jay pZ 73 3 (.int .u32 n) = some (.int .i64 (jak .i64 n)) := by
 simp only [jay, Tryz.underlying73, Tryz.underlying3]
theorem jfi {ls : List Nat} {v : Value} {μ : Mem} (hU : IsU μ ls v) (hl : ls.length ≤ 64) (ht : ja6 ls = ls) (hP : LayP μ) {g : Nat} (hg : 3000 ≤ g) :
  ∃ μ', aFun pZ (jai pZ X S0 g) 167 [v] μ = some (.string (strOf (decT (lval ls))), μ') ∧ Grow μ μ' := by
 obtain ⟨k, rfl⟩ := gle hg
 have hmx : 64 ≤ maxLen := by decide
 obtain ⟨v1, μ1, r1, hL1, G1⟩ := jje (X := X) (g := k + 2997) hU (by omega) (by omega)
 rw [ht] at hL1
 have hU1 := hL1.isU (by omega)
 have r2 := big_no (X := X) hU1 hl (g := k + 2995) (by omega)
 have hG2 := jbc μ1 obLs
 obtain ⟨μ2, hμ2⟩ := exq (⟨μ1.obs.set μ1.next obLs, μ1.next + 1⟩ : Mem)
 rw [← hμ2] at hG2
 have hB2 : Blk μ2 μ1.next 1 23 := by rw [hμ2]; exact ⟨_, _, _, _, by show T.get _ _ = _; rw [T.get_set, if_pos rfl]; rfl⟩
 have hc2 : jad μ2 μ1.next 0 = some (.slice none 0 0) := by rw [hμ2]; exact (jbw (n := 1) (z := #[.slice none 0 0]) (ov := .e) (by show jbk (T.get _ _) = _; rw [T.get_set, if_pos rfl]; rfl) (by decide))
 have hn2 : μ1.next < μ2.next := by rw [hμ2]; exact rzQ _
 have key : EndsF (aFun pZ (jai pZ X S0 (k + 3000)) 167 [v] μ) fun r μ' => r = .string (strOf (decT (lval ls))) ∧ Grow μ μ' := by
  refine jkG Tryz.func167 rfl rfl (nbl rfl) ?_
  simp only [go_sem, Tryz.ntmps167]
  repeat ((first | refine jaa rfl ?_ | refine jaj rfl ?_); (try simp only [go_sem, r1, r2, ← hμ2]); fail_if_success refine stk ?_)
  rw [(by omega : k + 2994 = (k + 2625) + 69 + 300)]
  refine rzM (jkr (P := μ1.next) (μ0 := μ1) (rzN _) 69 (by decide) (v := v1) (w := .slice none 0 0) (ls := ls) (acc := []) (hU1.grow hG2) hl ht (jgB hU.1 hl) (by decide) ⟨.nil _ _ _ _, hG2, fun i h => by obtain ⟨l, c, h⟩ := h; cases h⟩ hB2 hc2 hn2 (fun h => by obtain ⟨l, c, h⟩ := h; cases h) (by simp only [go_sem]) (by simp only [go_sem])) ?_
  rintro x r μ3 ⟨rfl, tm3, w, rfl, hO, hB3, hc3, hn3, hns, y3⟩
  rw [List.nil_append] at hO
  obtain ⟨ps, hps⟩ := exq (ptF 69 (lval ls))
  rw [← hps] at hO
  have hpl : ∀ x ∈ ps, x < 1000000000 := fun x hx => by rw [hps] at hx; exact ptF_lt _ _ x hx
  have hpn : ps.length ≤ 69 := by rw [hps]; exact ptF_len _ _
  have hUp := jeX hO (fun x hx => Nat.lt_trans (hpl x hx) (by decide)) (by omega)
  have lp := hUp.len
  have G3 : Grow μ μ3 := G1.trans hO.grow
  have ow := jiB hUp
  simp only [go_sem]
  by_cases h0 : ps.length = 0
  ·have e1 : ieq (.ofNat ps.length) 0 = true := dT (jbo _ 0 0 rfl) h0
   have hz : lval ls = 0 := by
    rcases Nat.eq_zero_or_pos (lval ls) with h | h
    ·exact h
    ·have h1 := jiJ 69 (lval ls) h (jgB hU.1 hl)
     rw [← hps, List.eq_nil_of_length_eq_zero h0] at h1
     have h2 := jgL (lval ls)
     rw [← h1] at h2
     exact absurd h2 (by decide)
   repeat ((first | refine jaa rfl ?_ | refine jaj rfl ?_); (try simp only [go_sem, y3, hc3, lp, jao, e1]); fail_if_success refine stk ?_)
   refine jae ?_
   refine ⟨_, rfl, .string ⟨List.toArray [48]⟩, ?_, ?_, G3⟩
   ·skip
    simp only [go_sem, Tryz.results167]
   ·rw [hz, jcv (by decide)]
    rfl
  ·have e1 : ieq (.ofNat ps.length) 0 = false := dF (jbo _ 0 0 rfl) h0
   have hG4 := jbc μ3 obStr
   have hBS : Blk ⟨μ3.obs.set μ3.next obStr, μ3.next + 1⟩ μ3.next 1 9 := ⟨_, _, _, _, by show T.get _ _ = _; rw [T.get_set, if_pos rfl]; rfl⟩
   have hst := jaW (t := 9) (v := .string ⟨#[]⟩) (o := 0) iStr rfl rfl hBS (by decide)
   obtain ⟨μ4, hμ4⟩ := exq (putL ⟨μ3.obs.set μ3.next obStr, μ3.next + 1⟩ μ3.next 0 [.string ⟨#[]⟩] : Mem)
   have G4 : Grow μ3 μ4 := by rw [hμ4]; exact hG4.put_new (rzN _)
   rw [← hμ4] at hst
   have hc4 : jad μ4 μ1.next 0 = some w := by rw [← hc3]; unfold jad; rw [G4.2 _ hn3]
   have r5 := backfn (X := X) ow (g := k + 2990) (μ := μ4) (by omega)
   obtain ⟨μ5, hμ5⟩ := exq (⟨μ4.obs.set μ4.next (.cells 1 23 #[w] .e 0 0 false false), μ4.next + 1⟩ : Mem)
   rw [← hμ5] at r5
   repeat ((first | refine jaa rfl ?_ | refine jaj rfl ?_); (try simp only [go_sem, y3, hc3, lp, jao, e1, hst, hc4, r5]); fail_if_success refine stk ?_)
   have hbb : Blk μ4 μ3.next 1 9 := by rw [hμ4]; exact hBS.put _ _
   have hbc : ∃ s, jad μ4 μ3.next 0 = some (.string s) ∧ bys s = [] := ⟨⟨#[]⟩, by rw [hμ4, jc0 hBS (by decide), if_pos rfl], rfl⟩
   have G5 : Grow μ4 μ5 := by rw [hμ5]; exact jbc μ4 _
   have n4 : μ3.next < μ4.next := by rw [hμ4, jaE]; exact rzQ _
   have n5 : μ4.next < μ5.next := by rw [hμ5]; exact rzQ _
   obtain ⟨hl2, ⟨hv, hm⟩ | ⟨i, MM, z, ov, fx, sh, c, hv, hob, hM, hcell, hc⟩⟩ := hO.good
   ·exact absurd hm h0
   have hi3 : i < μ3.next := (hO.above i ⟨_, _, hv⟩).2
   have hiP : i ≠ μ1.next := fun e => hns (by rw [← e]; exact ⟨_, _, hv⟩)
   have hul : (uc ps).length = ps.length := List.length_map _
   have c5 : ∀ q o, q < μ3.next → jad μ5 q o = jad μ3 q o := fun q o hq => by unfold jad; rw [G5.2 _ (by omega), G4.2 _ hq]
   have hic : ∀ (k : Nat), k < ps.length → jad μ5 i k = some (.int .u32 (.ofNat (ps.getD k 0))) := fun k hk => by
    rw [c5 i k hi3, jbw (by rw [hob]; rfl) (by omega), hcell k (by omega)]
    unfold uc
    rw [List.getElem_map, List.getD_eq_getElem?_getD, rzK hk]
    rfl
   have hbx5 : jad μ5 μ4.next 0 = some (.slice (some ⟨i, 0, none⟩) ps.length c) := by
    rw [← hv, hμ5]
    exact jbw (n := 1) (z := #[w]) (ov := .e) (by show jbk (T.get _ _) = _; rw [T.get_set, if_pos rfl]; rfl) (by decide)
   have hG15 : Grow μ1 μ5 := (hO.grow.trans G4).trans G5
   refine jkb (X := X) (G := 700) (bx := μ4.next) (oi := μ3.next) (i := i) (c := c) (ps := ps) ?_ hpn (by omega) (by decide) (by decide) (by omega) n5 (by omega) (by omega) (by omega) (hbb.of_get (G5.2 _ n4)) (by obtain ⟨s, s1, s2⟩ := hbc; exact ⟨s, by rw [← s1]; unfold jad; rw [G5.2 _ n4], s2⟩) hbx5 hic ?_ ?_
   ·simp only [go_sem]
   ·intro M R B j g m hMn hMg hgg hj hrk
    obtain ⟨e, rfl⟩ := gle hgg
    obtain ⟨x, hx⟩ := exq (ps.getD j 0)
    rw [← hx]
    have hxl : x < 1000000000 := by
     rw [hx, List.getD_eq_getElem?_getD, rzK hj]
     exact hpl _ (List.getElem_mem hj)
    have GM : Grow μ1 M := ⟨by omega, fun i hi => (hMg i (by have := hG15.1; omega)).trans (hG15.2 i hi)⟩
    have n15 : μ1.next ≤ μ5.next := hG15.1
    have cP : ∀ m' R', RK M R' (μ5.next + 1) μ3.next ps (j + 1) m' → jad m' μ1.next 0 = some w := fun m' R' h => by
     rw [h.cell (by omega) (by omega) (by omega)]
     unfold jad
     rw [hMg _ (by omega)]
     exact (c5 μ1.next 0 hn3).trans hc3
    repeat ((first | refine jaa rfl ?_ | refine jaj rfl ?_); (try simp only [go_sem]); fail_if_success refine stk ?_)
    refine ⟨True.intro, True.intro, fun m' hm => ?_⟩
    have LP := (hP.grow G1).grow (hm.grow GM (by omega) (by omega))
    obtain ⟨m1, r6, G6⟩ := itoa_ex (n := .ofNat x) (X := X) (g := e + 697) (μ := m') (by show _ < (x : Int); omega) (by show (x : Int) < _; omega) LP (by omega)
    have hm1 := hm.up G6 (by omega) (by omega)
    obtain ⟨s0, o1, o2⟩ := hm1.out
    have ld1 := cP m1 _ hm1
    have q1 : jak .i64 (.ofNat x) = .ofNat x := q64 x (by omega)
    have q2 : jak .i64 (Int.sub (.ofNat ps.length) 1) = .ofNat (ps.length - 1) := jaZ ps.length 1 (by omega) (by omega)
    have q3 : ilt (.ofNat j) (.ofNat (ps.length - 1)) = decide (j < ps.length - 1) := jap j _
    obtain ⟨p1, p2⟩ := jit 9 x (by decide) hxl
    have ls0 : aLen pZ 9 (.string (jcK (.ofNat x))) = some (decT x).length := by rw [jbU, jeb]
    have q4 : jak .i64 (Int.sub 9 (.ofNat (decT x).length)) = .ofNat (9 - (decT x).length) := jaZ 9 _ p1 (by omega)
    have r7 := repeat_ex (X := X) (n := 9 - (decT x).length) (g := e + 694) (μ := m1) (by have := jgL x; omega) (by omega)
    have bz : bys (strOf (List.replicate (9 - (decT x).length) 48)) = List.replicate (9 - (decT x).length) 48 := bys_lt fun y hy => by rw [(List.mem_replicate.1 hy).2]; decide
    obtain ⟨c1, a1, l1, b1⟩ := jfz (strOf (List.replicate (9 - (decT x).length) 48)) (jcK (.ofNat x)) (by rw [bz, jeb, List.length_replicate]; omega)
    rw [bz, jeb, p2] at b1
    have lf := jjM (ps.drop (j + 1)) fun x hx => hpl x (List.mem_of_mem_drop hx)
    have ldr : (ps.drop (j + 1)).length ≤ 69 := by rw [List.length_drop]; omega
    have fd := full_drop hj
    rw [← hx] at fd
    by_cases hj1 : j + 1 < ps.length
    ·rw [rzU (by omega)] at q3
     rw [if_pos hj1] at fd
     obtain ⟨c2, a2, l2, b2⟩ := jfz s0 c1 (by rw [o2, b1, jgv]; omega)
     have hst2 := jaW (t := 9) (v := .string c2) (o := 0) iStr rfl rfl hm1.blk (by decide)
     have hm2 := hm1.poke (s := c2) (by rw [b2, o2, b1, fd]) (by omega)
     repeat ((first | refine jaa rfl ?_ | refine jaj rfl ?_); (try simp only [go_sem, cv_u32i, q1, r6, ld1, lp, jao, q2, q3, ls0, q4, r7, a1, o1, a2, hst2, y3]); fail_if_success refine stk ?_)
     exact ⟨True.intro, True.intro, hm2⟩
    ·rw [rzV (by omega)] at q3
     rw [if_neg hj1] at fd
     obtain ⟨c2, a2, l2, b2⟩ := jfz s0 (jcK (.ofNat x)) (by rw [o2, jeb]; omega)
     have hst2 := jaW (t := 9) (v := .string c2) (o := 0) iStr rfl rfl hm1.blk (by decide)
     have hm2 := hm1.poke (s := c2) (by rw [b2, o2, jeb, fd]) (by omega)
     repeat ((first | refine jaa rfl ?_ | refine jaj rfl ?_); (try simp only [go_sem, cv_u32i, q1, r6, ld1, lp, jao, q2, q3, ls0, q4, r7, a1, o1, a2, hst2, y3]); fail_if_success refine stk ?_)
     exact ⟨True.intro, True.intro, hm2⟩
   ·intro M R m hMn hMg hMd hrk
    have GM : Grow μ1 M := ⟨by have := hG15.1; omega, fun i hi => (hMg i (by have := hG15.1; omega)).trans (hG15.2 i hi)⟩
    have n15 : μ1.next ≤ μ5.next := hG15.1
    have Gm := G1.trans (hrk.grow GM (by omega) (by omega))
    obtain ⟨s, o1, o2⟩ := hrk.out
    have hs : s = strOf (decT (lval ls)) := jfB (by
     rw [o2, List.drop_zero, jez, hps]
     refine jiJ 69 _ ?_ (jgB hU.1 hl)
     rcases Nat.eq_zero_or_pos (lval ls) with h | h
     ·rw [h] at hps
      exact absurd (by rw [hps]; rfl) h0
     ·exact h)
    rw [hs] at o1
    have hd : m.obs.get μ5.next = some .deferred := (hrk.keep _ (by omega) (by omega) (by omega)).trans hMd
    simp only [go_sem]
    repeat ((first | refine jaa rfl ?_ | refine jaj rfl ?_); (try simp only [go_sem, o1]); fail_if_success refine stk ?_)
    refine jae ?_
    refine ⟨⟨m.obs.set μ5.next .dead, m.next⟩, by show jdI m [μ5.next] = _; simp only [jdI, hd], .string (strOf (decT (lval ls))), ?_, rfl, ⟨Gm.1, fun i hi => ?_⟩⟩
    ·skip
     simp only [go_sem, Tryz.results167]
    ·show T.get _ _ = _
     rw [T.get_set, if_neg (by have := G1.1; omega)]
     exact Gm.2 i hi
 obtain ⟨r, μ', h1, rfl, h2⟩ := key
 exact ⟨μ', h1, h2⟩
end
noncomputable section
variable {X : XT}
def sgT (neg : Bool) (ls : List Nat) : ByteArray := if neg = true then strOf (45 :: decT (lval ls)) else strOf (decT (lval ls))
def numT (fl : Bool) (f : Nat) (neg : Bool) (ls : List Nat) : ByteArray := if fl = true then floT f else sgT neg ls
theorem jiQ {ls : List Nat} (hx : ∀ x ∈ ls, x < 4294967296) (hl : ls.length ≤ 64) : (decT (lval ls)).length ≤ 621 :=
 je5 621 _ (by decide) (Nat.lt_of_lt_of_eq (jgB hx hl) (by decide +kernel))
theorem sg_neg (n : Nat) (h : (decT n).length ≤ 621) : aStr .add ⟨List.toArray [45]⟩ (strOf (decT n)) = some (.string (strOf (45 :: decT n))) := by
 have h1 : (bys (strOf (decT n))).length ≤ 621 := by rw [jez]; exact h
 obtain ⟨c, r, _, hc⟩ := jfz ⟨List.toArray [45]⟩ (strOf (decT n)) (by show 1 + _ < _; omega)
 rw [r]
 refine congrArg (fun c => some (Value.string c)) (jfB ?_)
 rw [hc, jez, bys_lt (l := 45 :: decT n) fun x hx => by
  rcases List.mem_cons.1 hx with rfl | hx
  ·decide
  ·have := jew n x hx; omega]
 rfl
theorem sgT_len {neg : Bool} {ls : List Nat} (hx : ∀ x ∈ ls, x < 4294967296) (hl : ls.length ≤ 64) : 0 < (bys (sgT neg ls)).length ∧ (bys (sgT neg ls)).length ≤ 10000 := by
 have h1 := jiQ hx hl
 have h2 := jgL (lval ls)
 unfold sgT
 split
 ·rw [jcf, List.length_map, List.length_cons]; omega
 ·rw [jez]; omega
theorem len_pos {s : ByteArray} (h : s ≠ ⟨#[]⟩) : 0 < (bys s).length := by
 rcases Nat.eq_zero_or_pos (bys s).length with h0 | h0
 ·exact absurd (jfB ((List.eq_nil_of_length_eq_zero h0).trans rfl)) h
 ·exact h0
theorem ptT_pos (s : ByteArray) : 0 < (bys (ptT s)).length := by
 by_cases h : s = ⟨#[]⟩
 ·subst h
  decide +kernel
 ·have := len_pos h
  unfold ptT
  split
  ·exact this
  ·rw [jfy]; omega
theorem floT_pos (f : Nat) : 0 < (bys (floT f)).length := by
 unfold floT
 split
 ·rename_i h; exact len_pos h
 ·split
  ·exact ptT_pos _
  ·unfold eT
   rw [jdc, jdc]
   have := ptT_pos (jbV (strOf (feT f)) (feP f))
   omega
set_option maxHeartbeats 4000000 in
theorem exText_ex {neg : Bool} {ls : List Nat} {v : Value} {μ : Mem} (hU : IsU μ ls v) (hl : ls.length ≤ 64) (ht : ja6 ls = ls) (hP : LayP μ) {g : Nat} (hg : 3100 ≤ g) :
  ∃ μ', aFun pZ (jai pZ X S0 g) 142 [.agg #[.bool neg, v]] μ = some (.string (sgT neg ls), μ') ∧ Grow μ μ' := by
 obtain ⟨k, rfl⟩ := gle hg
 have h1 := jdP μ 25 [.bool neg, v]
 have hG1 := jbc μ (obL 25 [.bool neg, v])
 obtain ⟨c0, c1⟩ := Has.c2 h1
 have hd := sg_neg _ (jiQ hU.1 hl)
 refine jbt ?_
 unfold sgT
 cases neg
 ·obtain ⟨μ2, r1, G1⟩ := jfi (X := X) (hU.grow hG1) hl ht (hP.grow hG1) (g := k + 3096) (by omega)
  rw [if_neg (by decide)]
  refine jac Tryz.func142 rfl rfl (nbl rfl) ?_
  simp only [go_sem, Tryz.ntmps142]
  repeat ((first | refine jaa rfl ?_ | refine jaj rfl ?_); (try simp only [go_sem, jcH, c0, c1, r1]); fail_if_success refine stk ?_)
  exact jae ⟨rfl, .string (strOf (decT (lval ls))), by simp only [go_sem, Tryz.results142], rfl, hG1.trans G1⟩
 ·obtain ⟨μ2, r1, G1⟩ := jfi (X := X) (hU.grow hG1) hl ht (hP.grow hG1) (g := k + 3094) (by omega)
  rw [if_pos rfl]
  refine jac Tryz.func142 rfl rfl (nbl rfl) ?_
  simp only [go_sem, Tryz.ntmps142]
  repeat ((first | refine jaa rfl ?_ | refine jaj rfl ?_); (try simp only [go_sem, jcH, c0, c1, r1, hd]); fail_if_success refine stk ?_)
  exact jae ⟨rfl, .string (strOf (45 :: decT (lval ls))), by simp only [go_sem, Tryz.results142], rfl, hG1.trans G1⟩
theorem jha {ls : List Nat} {v : Value} {μ : Mem} (hU : IsU μ ls v) (hl : ls.length ≤ 64) (ht : ja6 ls = ls) {g : Nat} (hg : 3000 ≤ g) :
  ∃ μ', aFun pZ (jai pZ X S0 g) 74 [v] μ = some (.string (strOf (decT (lval ls))), μ') ∧ Grow μ μ' := by
 obtain ⟨s, μ', r, hs, G⟩ := text1_eq (X := X) hU hl ht hg
 have e : s = strOf (decT (lval ls)) := jfB (by rw [hs, jez, je8])
 exact ⟨μ', by rw [r, e], G⟩
set_option maxHeartbeats 4000000 in
theorem text2_eq {neg : Bool} {ls : List Nat} {v : Value} {μ : Mem} (hU : IsU μ ls v) (hl : ls.length ≤ 64) (ht : ja6 ls = ls) {g : Nat} (hg : 3100 ≤ g) :
  ∃ μ', aFun pZ (jai pZ X S0 g) 38 [.agg #[.bool neg, v]] μ = some (.string (sgT neg ls), μ') ∧ Grow μ μ' := by
 obtain ⟨k, rfl⟩ := gle hg
 have h1 := jdP μ 25 [.bool neg, v]
 have hG1 := jbc μ (obL 25 [.bool neg, v])
 obtain ⟨c0, c1⟩ := Has.c2 h1
 have hd := sg_neg _ (jiQ hU.1 hl)
 refine jbt ?_
 unfold sgT
 cases neg
 ·obtain ⟨μ2, r1, G1⟩ := jha (X := X) (hU.grow hG1) hl ht (g := k + 3096) (by omega)
  rw [if_neg (by decide)]
  refine jac Tryz.func38 rfl rfl (nbl rfl) ?_
  simp only [go_sem, Tryz.ntmps38]
  repeat ((first | refine jaa rfl ?_ | refine jaj rfl ?_); (try simp only [go_sem, jcH, c0, c1, r1]); fail_if_success refine stk ?_)
  exact jae ⟨rfl, .string (strOf (decT (lval ls))), by simp only [go_sem, Tryz.results38], rfl, hG1.trans G1⟩
 ·obtain ⟨μ2, r1, G1⟩ := jha (X := X) (hU.grow hG1) hl ht (g := k + 3094) (by omega)
  rw [if_pos rfl]
  refine jac Tryz.func38 rfl rfl (nbl rfl) ?_
  simp only [go_sem, Tryz.ntmps38]
  repeat ((first | refine jaa rfl ?_ | refine jaj rfl ?_); (try simp only [go_sem, jcH, c0, c1, r1, hd]); fail_if_success refine stk ?_)
  exact jae ⟨rfl, .string (strOf (45 :: decT (lval ls))), by simp only [go_sem, Tryz.results38], rfl, hG1.trans G1⟩
set_option maxHeartbeats 4000000 in
theorem jka {fl neg : Bool} {f : Nat} {ls : List Nat} {v : Value} {μ : Mem} (hX : jcB X) (hX2 : jbC X) (hX3 : jcA X) (hI : IxOk X) (hL : Lay μ) (hP : LayP μ) (hf : f < 18446744073709551616) (hU : IsU μ ls v) (hl : ls.length ≤ 64) (ht : ja6 ls = ls) {g : Nat} (hg : 31000 ≤ g) :
  ∃ μ', aFun pZ (jai pZ X S0 g) 106 [.agg #[.bool fl, .float .f64 f, .bool neg, v]] μ = some (.string (numT fl f neg ls), μ') ∧ Grow μ μ' := by
 obtain ⟨k, rfl⟩ := gle hg
 have h1 := jdP μ 27 [.bool fl, .float .f64 f, .bool neg, v]
 have hG := jbc μ (obL 27 [.bool fl, .float .f64 f, .bool neg, v])
 obtain ⟨c0, c1, c2, c3⟩ := Has.c4 h1
 have hI2 := jiG h1
 refine jbt ?_
 unfold numT
 cases fl
 ·obtain ⟨μ2, r1, G1⟩ := exText_ex (X := X) (neg := neg) (hU.grow hG) hl ht (hP.grow hG) (g := k + 30996) (by omega)
  rw [if_neg (by decide)]
  refine jac Tryz.func106 rfl rfl (nbl rfl) ?_
  simp only [go_sem, Tryz.ntmps106]
  repeat ((first | refine jaa rfl ?_ | refine jaj rfl ?_); (try simp only [go_sem, jbW, c0, hI2, r1]); fail_if_success refine stk ?_)
  exact jae ⟨rfl, .string (sgT neg ls), by simp only [go_sem, Tryz.results106], rfl, hG.trans G1⟩
 ·obtain ⟨_, μ2, r1, G1⟩ := jga (X := X) hf hX hX2 hX3 hI (hL.grow hG) (hP.grow hG) (g := k + 30994) (by omega)
  rw [if_pos rfl]
  refine jac Tryz.func106 rfl rfl (nbl rfl) ?_
  simp only [go_sem, Tryz.ntmps106]
  repeat ((first | refine jaa rfl ?_ | refine jaj rfl ?_); (try simp only [go_sem, jbW, c0, c1, r1]); fail_if_success refine stk ?_)
  exact jae ⟨rfl, .string (floT f), by simp only [go_sem, Tryz.results106], rfl, hG.trans G1⟩
set_option maxHeartbeats 4000000 in
theorem text4_eq {fl neg : Bool} {f : Nat} {ls : List Nat} {v : Value} {μ : Mem} (hX : jcB X) (hX2 : jbC X) (hX3 : jcA X) (hL : Lay μ) (hP : LayP μ) (hf : f < 18446744073709551616) (hU : IsU μ ls v) (hl : ls.length ≤ 64) (ht : ja6 ls = ls) {g : Nat} (hg : 31000 ≤ g) :
  ∃ μ', aFun pZ (jai pZ X S0 g) 12 [.agg #[.bool fl, .float .f64 f, .bool neg, v]] μ = some (.string (numT fl f neg ls), μ') ∧ Grow μ μ' := by
 obtain ⟨k, rfl⟩ := gle hg
 have h1 := jdP μ 27 [.bool fl, .float .f64 f, .bool neg, v]
 have hG := jbc μ (obL 27 [.bool fl, .float .f64 f, .bool neg, v])
 obtain ⟨c0, c1, c2, c3⟩ := Has.c4 h1
 have hI2 := jiG h1
 refine jbt ?_
 unfold numT
 cases fl
 ·obtain ⟨μ2, r1, G1⟩ := text2_eq (X := X) (neg := neg) (hU.grow hG) hl ht (g := k + 30996) (by omega)
  rw [if_neg (by decide)]
  refine jac Tryz.func12 rfl rfl (nbl rfl) ?_
  simp only [go_sem, Tryz.ntmps12]
  repeat ((first | refine jaa rfl ?_ | refine jaj rfl ?_); (try simp only [go_sem, jbW, c0, hI2, r1]); fail_if_success refine stk ?_)
  exact jae ⟨rfl, .string (sgT neg ls), by simp only [go_sem, Tryz.results12], rfl, hG.trans G1⟩
 ·obtain ⟨μ2, r1, G1⟩ := text3_eq (X := X) hf hX hX2 hX3 (hL.grow hG) (hP.grow hG) (g := k + 30994) (by omega)
  rw [if_pos rfl]
  refine jac Tryz.func12 rfl rfl (nbl rfl) ?_
  simp only [go_sem, Tryz.ntmps12]
  repeat ((first | refine jaa rfl ?_ | refine jaj rfl ?_); (try simp only [go_sem, jbW, c0, c1, r1]); fail_if_success refine stk ?_)
  exact jae ⟨rfl, .string (floT f), by simp only [go_sem, Tryz.results12], rfl, hG.trans G1⟩
end
noncomputable section
theorem jkm {ls : List Nat} {v : Value} {neg : Bool} {X : XT} {g : Nat} {μ : Mem} (hU : IsU μ ls v) (hl : 64 < ls.length) (hg : 400 ≤ g) : ∃ μ', aFun pZ (jai pZ X S0 g) 20 [.agg #[.bool neg, v]] μ = some (.bool (jcr neg ls), μ') ∧ Grow μ μ' := by
 obtain ⟨k, rfl⟩ := gle hg
 have h1 := jdP μ 25 [.bool neg, v]
 obtain ⟨μ1, hμ1⟩ := exq (⟨μ.obs.set μ.next (obL 25 [.bool neg, v]), μ.next + 1⟩ : Mem)
 have hG1 : Grow μ μ1 := by rw [hμ1]; exact jbc _ _
 have hG2 : Grow μ1 ⟨μ1.obs, μ1.next + 24⟩ := jcu μ1 24
 rw [← hμ1] at h1
 have lU := ((hU.grow hG1).grow hG2).len
 have c1 : ∀ m, jad ⟨μ1.obs, m⟩ μ.next 1 = some v := fun m => (Has.c2 (μ := ⟨μ1.obs, m⟩) h1).2
 have e0 : ilt 64 (.ofNat ls.length) = true := dT (jap 64 _) hl
 have key : EndsF (aFun pZ (jai pZ X S0 (k + 400)) 20 [.agg #[.bool neg, v]] μ) fun r μ' => r = .bool (jcr neg ls) ∧ Grow μ μ' := by
  unfold jcr
  rw [e0]
  refine jac Tryz.func20 rfl rfl (nbl rfl) ?_
  simp only [go_sem, Tryz.ntmps20]
  repeat ((first | refine jaa rfl ?_ | refine jaj rfl ?_); (try simp only [go_sem, jcH]); fail_if_success refine stk ?_)
  rw [← hμ1]
  skip
  refine jaY (n := 24) (ms := [0, 1, 3, 7, 15, 31, 63, 127, 31, 287, 1023, 2047, 4095, 8191, 16383, 32767, 65535, 131071, 262143, 524287, 1048575, 2097151, 4194303, 8388607]) (ord := [0, 1, 2, 3, 4, 5, 6, 7, 8, 9, 10, 11, 12, 13, 14, 15, 16, 17, 18, 19, 20, 21, 22, 23]) (ds := ?_) ?_ ?_ ?_ ?_ ?_ ?_
  rotate_left
  ·kernel_rfl
  ·kernel_rfl
  ·kernel_rfl
  ·rfl
  ·rfl
  repeat (first | (refine ja0 ?_ rfl ?_; (solve | simp only [go_sem, c1, lU, jao, e0])) | (refine ja5 (v := ?_) (μ' := ?_) (sn' := ?_) ?_ ?_ rfl ?_; rotate_left 3; (solve | rfl | simp only [go_sem, c1, lU, jao, e0]); (solve | simp only [jaV, heavy, jbg, jaQ, go_sem, c1, lU, jao, e0]; try exact rfl)))
  simp only [dRun, jaK, jag]
  exact jae ⟨rfl, .bool false, by simp only [go_sem, Tryz.results20], by simp, hG1.trans hG2⟩
 obtain ⟨r, μ', h1, rfl, h2⟩ := key
 exact ⟨μ', h1, h2⟩
theorem jkn {ls : List Nat} {v : Value} {neg : Bool} {X : XT} {g : Nat} {μ : Mem} (hU : IsU μ ls v) (hg : 2000400 ≤ g) : ∃ μ', aFun pZ (jai pZ X S0 g) 20 [.agg #[.bool neg, v]] μ = some (.bool (jcr neg ls), μ') ∧ Grow μ μ' := by
 by_cases h : ls.length ≤ 64
 ·exact right2_eq hU (by omega) hg
 ·exact jkm hU (by omega) (by omega)
theorem jf3 {ls : List Nat} {v : Value} {fl neg : Bool} {f : Nat} {X : XT} {g : Nat} {μ : Mem} (hX : jcB X) (hf : f < 18446744073709551616) (hU : IsU μ ls v) (hg : 2000500 ≤ g) :
  ∃ μ', aFun pZ (jai pZ X S0 g) 5 [.agg #[.bool fl, .float .f64 f, .bool neg, v]] μ = some (.bool (jc6 fl f neg ls), μ') ∧ Grow μ μ' := by
 obtain ⟨k, hk, rfl⟩ : ∃ k, 2000000 ≤ k ∧ g = k + 500 := ⟨g - 500, by omega, by omega⟩
 have h1 := jdP μ 27 [.bool fl, .float .f64 f, .bool neg, v]
 have hG := jbc μ (obL 27 [.bool fl, .float .f64 f, .bool neg, v])
 obtain ⟨μ2, r1, G1⟩ := jkn (X := X) (neg := neg) (g := k + 496) (hU.grow hG) (by omega)
 have hb : ∀ μ', aGo pZ X (jbs pZ (jai pZ X S0 (k + 496)) S0) 19 [.float .f64 f] μ' = some (u f, μ') := fun μ' => (go_bits _ _).trans ((hX f μ').trans (by rw [u_of hf]))
 have lI := jiG h1
 have lU := (hU.grow hG).len
 obtain ⟨c0, c1, c2, c3⟩ := Has.c4 h1
 obtain ⟨l0, e0⟩ := eqx (ieq (.ofNat ls.length) 0)
 obtain ⟨f0, e1⟩ := eqx (ieq (.ofNat (W f)) 0)
 have key : EndsF (aFun pZ (jai pZ X S0 (k + 500)) 5 [.agg #[.bool fl, .float .f64 f, .bool neg, v]] μ) fun r μ' => r = .bool (jc6 fl f neg ls) ∧ Grow μ μ' := by
  unfold jc6
  rw [e0, e1]
  cases fl
  ·cases f0
   ·skip
    refine jac Tryz.func5 rfl rfl (nbl rfl) ?_
    simp only [go_sem, Tryz.ntmps5]
    repeat ((first | refine jaa rfl ?_ | refine jaj rfl ?_); (try simp only [go_sem, jbW, c0, c1, c2, c3, lI, hb, e1, r1]); fail_if_success refine stk ?_)
    exact jae ⟨rfl, .bool false, by simp only [go_sem, Tryz.results5], by simp, hG⟩
   ·skip
    refine jac Tryz.func5 rfl rfl (nbl rfl) ?_
    simp only [go_sem, Tryz.ntmps5]
    repeat ((first | refine jaa rfl ?_ | refine jaj rfl ?_); (try simp only [go_sem, jbW, c0, c1, c2, c3, lI, hb, e1, r1]); fail_if_success refine stk ?_)
    exact jae ⟨rfl, .bool (jcr neg ls), by simp only [go_sem, Tryz.results5], by simp, hG.trans G1⟩
  ·cases neg
   ·skip
    refine jac Tryz.func5 rfl rfl (nbl rfl) ?_
    simp only [go_sem, Tryz.ntmps5]
    repeat ((first | refine jaa rfl ?_ | refine jaj rfl ?_); (try simp only [go_sem, jbW, c0, c1, c2, c3, lU, jao, e0]); fail_if_success refine stk ?_)
    exact jae ⟨rfl, .bool l0, by simp only [go_sem, Tryz.results5], by simp, hG⟩
   ·skip
    refine jac Tryz.func5 rfl rfl (nbl rfl) ?_
    simp only [go_sem, Tryz.ntmps5]
    repeat ((first | refine jaa rfl ?_ | refine jaj rfl ?_); (try simp only [go_sem, jbW, c0, c1, c2, c3, lU, jao, e0]); fail_if_success refine stk ?_)
    exact jae ⟨rfl, .bool false, by simp only [go_sem, Tryz.results5], by simp, hG⟩
 obtain ⟨r, μ', h1, rfl, h2⟩ := key
 exact ⟨μ', h1, h2⟩
theorem right4_N {fl neg : Bool} {f : Nat} {ls : List Nat} (hf : f < 18446744073709551616) (h : jc6 fl f neg ls = true) : (fl = true → neg = false ∧ ls = []) ∧ (fl = false → f = 0 ∧ ls.length ≤ 64 ∧ ja6 ls = ls ∧ (neg = true → ls ≠ [])) := by
 have i0 : ∀ n : Nat, ieq (.ofNat n) 0 = decide (n = 0) := fun n => jbo n 0 0 rfl
 unfold jc6 jcr at h
 rw [i0, i0, show ilt 64 (.ofNat ls.length) = decide (64 < ls.length) from jap 64 _] at h
 constructor
 ·rintro rfl
  rw [if_pos rfl] at h
  simp at h
  exact ⟨h.1, h.2⟩
 ·rintro rfl
  rw [if_neg (by decide)] at h
  simp at h
  obtain ⟨h1, h2, h3, h4⟩ := h
  refine ⟨?_, h2, h3, fun hn => ?_⟩
  ·exact (W_of hf).symm.trans h1
  ·rcases h4 with h4 | h4
   ·rw [hn] at h4; cases h4
   ·exact h4
end
noncomputable section
variable {X : XT}
structure RightF (fl : Bool) (f : Nat) (neg : Bool) (ls : List Nat) : Prop where
 l : ls.length ≤ 64
 t : ja6 ls = ls
 n : neg = true → ls ≠ []
 a : fl = true → neg = false ∧ ls = []
 b : fl = false → f = 0
theorem right4_F {fl neg : Bool} {f : Nat} {ls : List Nat} (hf : f < 18446744073709551616) (h : jc6 fl f neg ls = true) : RightF fl f neg ls := by
 obtain ⟨h1, h2⟩ := right4_N hf h
 cases fl with
 | true =>
   obtain ⟨rfl, rfl⟩ := h1 rfl
   exact ⟨rzY _, rfl, fun h => (by cases h), h1, fun h => (by cases h)⟩
 | false =>
   obtain ⟨rfl, a, b, c⟩ := h2 rfl
   exact ⟨a, b, c, h1, fun _ => rfl⟩
theorem right4_T {fl neg : Bool} {f : Nat} {ls : List Nat} (hf : f < 18446744073709551616) (h : RightF fl f neg ls) : jc6 fl f neg ls = true := by
 have i0 : ∀ n : Nat, ieq (.ofNat n) 0 = decide (n = 0) := fun n => jbo n 0 0 rfl
 unfold jc6 jcr
 rw [i0, i0, show ilt 64 (.ofNat ls.length) = decide (64 < ls.length) from jap 64 _]
 cases fl with
 | true =>
   obtain ⟨rfl, rfl⟩ := h.a rfl
   rfl
 | false =>
   rw [if_neg (by decide), W_of hf, h.b rfl]
   have h1 := h.l
   have h2 := h.t
   have h3 := h.n
   cases neg
   ·simp [h1, h2]
   ·simp [h1, h2, h3 rfl]
theorem str_same (s : ByteArray) : aStr .eql s s = some (.bool true) := (str_eq s s).trans (by rw [rzU rfl])
theorem heap_ofV {g sp hp : Nat} {μ : Mem} (hg : 10 ≤ g) (h : jad μ sp 0 = some (.pointer (some ⟨hp, 0, none⟩))) : aFun pZ (jai pZ X S0 g) 13 [.pointer (some ⟨sp, 0, none⟩)] μ = some (.pointer (some ⟨hp, 0, none⟩), μ) := by
 obtain ⟨k, rfl⟩ := gle hg
 refine jau ?_
 refine jac Tryz.func13 rfl rfl (nbl rfl) ?_
 simp only [go_sem, Tryz.ntmps13]
 repeat ((first | refine jaa rfl ?_ | refine jaj rfl ?_); (try simp only [go_sem, faS0, Nat.add_zero, ldHp, h]); fail_if_success refine stk ?_)
 exact jae ⟨rfl, .pointer (some ⟨hp, 0, none⟩), by simp only [go_sem, Tryz.results13], rfl, rfl⟩
theorem num_ex {sp hp ap wb lb f : Nat} {fl neg : Bool} {ls : List Nat} {ws : Nat → Nat} {v : Value} {μ : Mem} (hX : jcB X) (hX2 : jbC X) (hf : f < 18446744073709551616) (hr : RightF fl f neg ls) (hU : IsU μ ls v) (h : SP μ sp hp ap wb lb 256 16 ws P0) {g : Nat} (hg : 6300 ≤ g) :
  ∃ f' w κ μ', aFun pZ (jai pZ X S0 g) 7 [.pointer (some ⟨sp, 0, none⟩), .agg #[.bool fl, .float .f64 f, .bool neg, v]] μ = some (.tuple #[.int .u64 (.ofNat w), .bool true], μ') ∧ NumR X μ' sp hp w κ fl f' neg ls ∧ Keeps μ μ' ap wb lb ∧
   f' < 18446744073709551616 ∧ nb f' = nb f ∧ numT fl f' neg ls = numT fl f neg ls ∧ RightF fl f' neg ls := by
 cases fl with
 | true =>
   obtain ⟨rfl, rfl⟩ := hr.a rfl
   obtain ⟨w, κ, μ', r, hn, hk⟩ := num_float (X := X) (v := v) hX hX2 hf h hg
   exact ⟨nb f, w, κ, μ', r, hn, hk, nb_lt hf, nb_nb hf, floT_nb hf, ⟨rzY _, rfl, fun h => (by cases h), fun _ => ⟨rfl, rfl⟩, fun h => (by cases h)⟩⟩
 | false =>
   obtain rfl := hr.b rfl
   by_cases hk : ∃ kk, jdh neg ls = some kk ∧ jcq kk = true
   ·obtain ⟨kk, h1, h2⟩ := hk
    obtain ⟨w, κ, μ', r, hn, hk⟩ := num_small (X := X) hU hr.l hr.t hr.n h1 h2 h hg
    exact ⟨0, w, κ, μ', r, hn, hk, hf, rfl, rfl, hr⟩
   ·obtain ⟨w, κ, μ', r, hn, hk⟩ := num_big (X := X) (neg := neg) hU hr.l hr.t (fun kk e => by
     cases hb : jcq kk with
     | false => rfl
     | true => exact absurd ⟨kk, e, hb⟩ hk) h hg
    exact ⟨0, w, κ, μ', r, hn, hk, hf, rfl, rfl, hr⟩
theorem jfq {μ : Mem} {i : Nat} {a b c d : Value} (h : Has μ i 0 [a, b, c, d]) : jbZ pZ μ 27 (.pointer (some ⟨i, 0, none⟩)) = some (.agg #[a, b, c, d]) := h.load Tryz.underlying27 i_Num rfl
theorem jkh {fl neg : Bool} {f f' : Nat} {ls : List Nat} (h : nb f' = nb f) : jeI fl fl f' f neg neg ls ls = true := by
 unfold jeI
 rw [h]
 cases fl <;> simp
theorem nums_ex {fl neg : Bool} {f : Nat} {ls : List Nat} {v : Value} {μ : Mem} (hX : jcB X) (hX2 : jbC X) (hX3 : jcA X) (hI : IxOk X) (hE : Esc X) (hL : Lay μ) (hP : LayP μ) (hf : f < 18446744073709551616) (hU : IsU μ ls v) {g : Nat} (hg : 2100000 ≤ g)
  (hal : ∀ k μ, jbs pZ (jai pZ X S0 k) S0 4 [] μ = some (.bool true, μ)) :
  ∃ μ', aFun pZ (jai pZ X S0 g) 3 [.agg #[.bool fl, .float .f64 f, .bool neg, v]] μ = some (.bool true, μ') ∧ Grow μ μ' := by
 obtain ⟨k, hk, rfl⟩ : ∃ k, 2099900 ≤ k ∧ g = k + 100 := ⟨g - 100, by omega, by omega⟩
 obtain ⟨N, hN⟩ := exq ([Value.bool fl, .float .f64 f, .bool neg, v])
 have H1 := jdP μ 27 [.bool fl, .float .f64 f, .bool neg, v]
 have G1 := jbc μ (obL 27 [.bool fl, .float .f64 f, .bool neg, v])
 obtain ⟨μ1, hμ1⟩ := exq (⟨μ.obs.set μ.next (obL 27 [.bool fl, .float .f64 f, .bool neg, v]), μ.next + 1⟩ : Mem)
 rw [← hμ1] at H1 G1
 have n1 : μ.next < μ1.next := by rw [hμ1]; exact rzQ _
 have ld1 := jfq H1
 obtain ⟨μ2, rR, G2⟩ := jf3 (X := X) (g := k + 95) hX hf (hU.grow G1) (neg := neg) (fl := fl) (by omega)
 have n2 := G2.1
 have keep : ∀ μ', Grow μ1 μ' → Has μ' μ.next 0 [.bool fl, .float .f64 f, .bool neg, v] := fun μ' g => H1.keep (g.2 _ n1)
 have ld2 := jfq (keep _ G2)
 obtain ⟨b, hb⟩ := eqx (jc6 fl f neg ls)
 rw [hb] at rR
 refine jbt ?_
 cases b with
 | false =>
   refine jac Tryz.func3 rfl rfl (nbl rfl) ?_
   simp only [go_sem, Tryz.ntmps3]
   repeat ((first | refine jaa rfl ?_ | refine jaj rfl ?_); (try simp only [go_sem, jbW, ← hμ1, jfs (P := pZ) Tryz.func4 rfl, hal, ld1, rR]); fail_if_success refine stk ?_)
   exact jae ⟨rfl, .bool true, by simp only [go_sem, Tryz.results3], rfl, G1.trans G2⟩
 | true =>
   have hr := right4_F hf hb
   have r2 := jif (X := X) (μ := μ2) (g := k + 95) (by omega)
   have S0' := space_new μ2
   have G3 := memN_grow μ2
   obtain ⟨f', w, κ, μ3, r3, hR, hK, hf', hnb, hT, hr'⟩ := num_ex (X := X) (g := k + 94) (neg := neg) (fl := fl) hX hX2 hf hr (((hU.grow G1).grow G2).grow G3) S0' (by omega)
   have G23 := jkD hK G3 (by omega) (by omega) (by omega)
   have G13 := G2.trans G23
   have ldN := jfq (keep _ (G2.trans G3))
   obtain ⟨v', μ4, r4, hU4, G4⟩ := hR.an (k + 93) μ3 (by omega) (Grow.refl _)
   have o4 := jiB hU4
   have GA := jbc μ4 obN
   have BA : Blk ⟨μ4.obs.set μ4.next obN, μ4.next + 1⟩ μ4.next 4 27 := ⟨_, _, _, _, by show T.get _ _ = _; rw [T.get_set, if_pos rfl]; rfl⟩
   have hst := st_N (a := .bool fl) (b := .float .f64 f') (x := .bool neg) (y := v') BA rfl rfl rfl o4
   have HM := Has.of_put (o := 0) (vs := [.bool fl, .float .f64 f', .bool neg, v']) BA (by simp)
   have G5 : Grow μ4 (putL ⟨μ4.obs.set μ4.next obN, μ4.next + 1⟩ μ4.next 0 [.bool fl, .float .f64 f', .bool neg, v']) := GA.put_new (rzN _)
   obtain ⟨μ5, hμ5⟩ := exq (putL ⟨μ4.obs.set μ4.next obN, μ4.next + 1⟩ μ4.next 0 [.bool fl, .float .f64 f', .bool neg, v'])
   rw [← hμ5] at hst HM G5
   have n5 : μ4.next < μ5.next := by rw [hμ5, jaE]; exact rzQ _
   have G35 := G4.trans G5
   have hTx : TxtOk X μ3 31000 fl f' neg ls (numT fl f' neg ls) := fun g μ' v2 h1 h2 h3 => jka hX hX2 hX3 hI (hL.grow ((G1.trans G13).trans h2)) (hP.grow ((G1.trans G13).trans h2)) hf' h3 hr'.l hr'.t h1
   have hpos : 0 < (bys (numT fl f' neg ls)).length ∧ (bys (numT fl f' neg ls)).length ≤ 10000 := by
    unfold numT
    split
    ·exact ⟨floT_pos _, (jga (X := X) (g := 10000) hf' hX hX2 hX3 hI hL hP (rzN _)).1⟩
    ·exact sgT_len hU.1 hr.l
   obtain ⟨μ6, r6, G6⟩ := Show_ex (X := X) (g := k + 92) hE hR hTx G35 hpos.1 (by omega) (by omega)
   have G36 := G35.trans G6
   obtain ⟨μ7, r7, G7⟩ := asText_nk (X := X) (g := k + 91) hR.kd G36 (sp := μ2.next + 11) (by rw [← hR.sp0]; unfold jad; rw [G36.2 _ hR.spn]) hR.k18 (by omega)
   have G37 := G36.trans G7
   have G17 := G13.trans G37
   have U7 : IsU μ7 ls v' := ((hU4.grow G5).grow G6).grow G7
   have V7 : IsU μ7 ls v := (hU.grow G1).grow G17
   have keepM : ∀ μ', Grow μ5 μ' → Has μ' μ4.next 0 [.bool fl, .float .f64 f', .bool neg, v'] := fun μ' g => HM.keep (g.2 _ n5)
   have G57 := G6.trans G7
   obtain ⟨μ8, r8, G8⟩ := same4_eq (X := X) (g := k + 89) (p := neg) (q := neg) (fl := fl) (f2 := fl) hX hf' hf U7 V7 (by have := hr.l; omega) (by have := hr.l; omega)
   rw [jkh hnb] at r8
   obtain ⟨μ9, r9, G9⟩ := jf3 (X := X) (g := k + 89) hX hf' (U7.grow G8) (neg := neg) (fl := fl) (by omega)
   rw [right4_T hf' hr'] at r9
   have G79 := G8.trans G9
   obtain ⟨μA, rA, GA'⟩ := text4_eq (X := X) (g := k + 89) (neg := neg) (fl := fl) hX hX2 hX3 (hL.grow (G1.trans (G17.trans G79))) (hP.grow (G1.trans (G17.trans G79))) hf (V7.grow G79) hr.l hr.t (by omega)
   have G7A := G79.trans GA'
   have G3A := G37.trans G7A
   have rH := heap_ofV (X := X) (g := k + 89) (sp := μ2.next + 11) (hp := μ2.next + 9) (μ := μA) (by omega) (by rw [← hR.sp0]; unfold jad; rw [G3A.2 _ hR.spn])
   obtain ⟨μB, rB, GB⟩ := hR.kd (k + 89) μA (by omega) G3A
   have ld7 := jfq (keep _ G17)
   have ldA := jfq (keep _ (G17.trans G79))
   have lm7 := jfq (keepM _ G57)
   have lm8 := jfq (keepM _ (G57.trans G8))
   obtain ⟨c0, c1, c2, c3⟩ := Has.c4 (keep _ G17)
   have lU := V7.len
   obtain ⟨wi, hwi⟩ := exq (.ofNat w : Int)
   rw [← hwi] at r3 r4 r6 r7 rB
   have e0 : ieq 0 0 = true := rfl
   have se : aStr .eql (numT fl f' neg ls) (numT fl f neg ls) = some (.bool true) := by rw [hT]; exact str_same _
   have GE := G1.trans (G17.trans G7A)
   by_cases hs : fl = false ∧ ls.length ≤ 1
   ·obtain ⟨rfl, hs⟩ := hs
    have hκ := hR.sm rfl hs
    rw [hκ] at rB
    have e1 : ilt 1 (.ofNat ls.length) = false := dF (jap 1 _) (by omega)
    have e2 : ieq (-1) (-1) = true := rfl
    refine jac Tryz.func3 rfl rfl (nbl rfl) ?_
    simp only [go_sem, Tryz.ntmps3]
    repeat ((first | refine jaa rfl ?_ | refine jaj rfl ?_); (try simp only [go_sem, jbW, ← hμ1, jfs (P := pZ) Tryz.func4 rfl, hal, ld1, rR, ld2, r2, ldN, r3, r4, hst, r6, r7, c0, c3, lU, jao, e1, ld7, lm7, r8, lm8, r9, e0, ldA, rA, se, rH, rB, e2]); fail_if_success refine stk ?_)
    exact jae ⟨rfl, .bool true, by simp only [go_sem, Tryz.results3], rfl, GE.trans GB⟩
   ·have hs2 : fl = true ∨ (fl = false ∧ 1 < ls.length) := by
     cases fl
     ·exact .inr ⟨rfl, by rcases Nat.lt_or_ge 1 ls.length with h | h; exact h; exact absurd ⟨rfl, h⟩ hs⟩
     ·exact .inl rfl
    rcases hs2 with rfl | ⟨rfl, hs2⟩
    ·skip
     refine jac Tryz.func3 rfl rfl (nbl rfl) ?_
     simp only [go_sem, Tryz.ntmps3]
     repeat ((first | refine jaa rfl ?_ | refine jaj rfl ?_); (try simp only [go_sem, jbW, ← hμ1, jfs (P := pZ) Tryz.func4 rfl, hal, ld1, rR, ld2, r2, ldN, r3, r4, hst, r6, r7, c0, c3, lU, jao, ld7, lm7, r8, lm8, r9, e0, ldA, rA, se]); fail_if_success refine stk ?_)
     exact jae ⟨rfl, .bool true, by simp only [go_sem, Tryz.results3], rfl, GE⟩
    ·have e1 : ilt 1 (.ofNat ls.length) = true := dT (jap 1 _) hs2
     refine jac Tryz.func3 rfl rfl (nbl rfl) ?_
     simp only [go_sem, Tryz.ntmps3]
     repeat ((first | refine jaa rfl ?_ | refine jaj rfl ?_); (try simp only [go_sem, jbW, ← hμ1, jfs (P := pZ) Tryz.func4 rfl, hal, ld1, rR, ld2, r2, ldN, r3, r4, hst, r6, r7, c0, c3, lU, jao, e1, ld7, lm7, r8, lm8, r9, e0, ldA, rA, se]); fail_if_success refine stk ?_)
     exact jae ⟨rfl, .bool true, by simp only [go_sem, Tryz.results3], rfl, GE⟩
end
noncomputable section
theorem isNamed : jcQ pZ := named_of (by kernel_rfl)
theorem mixed : pZ.follows .mixedOrders = true := by kernel_rfl
def xs : List (FuncId × XK) := [(19, .f64bits), (31, .f64from), (140, .same), (173, .f64bits), (254, .noZero 5), (286, .f64from), (190, .indexByte), (260, .indexByte)]
theorem rows : ∀ x ∈ xs, ∃ fn, XRow pZ x.1 x.2 fn := by
 intro x hx
 simp only [xs, List.mem_cons, List.not_mem_nil, or_false] at hx
 rcases hx with rfl | rfl | rfl | rfl | rfl | rfl | rfl | rfl
 ·exact ⟨_, Tryz.func19, by kernel_rfl, by kernel_rfl, by kernel_rfl, by kernel_rfl, fun e h => by cases h⟩
 ·exact ⟨_, Tryz.func31, by kernel_rfl, by kernel_rfl, by kernel_rfl, by kernel_rfl, fun e h => by cases h⟩
 ·exact ⟨_, Tryz.func140, by kernel_rfl, by kernel_rfl, by kernel_rfl, by kernel_rfl, fun e h => by cases h⟩
 ·exact ⟨_, Tryz.func173, by kernel_rfl, by kernel_rfl, by kernel_rfl, by kernel_rfl, fun e h => by cases h⟩
 ·exact ⟨_, Tryz.func254, by kernel_rfl, by kernel_rfl, by kernel_rfl, by kernel_rfl, fun e h => by cases h; exact ⟨Tryz.f254.resultTypes.getD 0 0, by kernel_rfl, by kernel_rfl⟩⟩
 ·exact ⟨_, Tryz.func286, by kernel_rfl, by kernel_rfl, by kernel_rfl, by kernel_rfl, fun e h => by cases h⟩
 ·exact ⟨_, Tryz.func190, by kernel_rfl, by kernel_rfl, by kernel_rfl, by kernel_rfl, fun e h => by cases h⟩
 ·exact ⟨_, Tryz.func260, by kernel_rfl, by kernel_rfl, by kernel_rfl, by kernel_rfl, fun e h => by cases h⟩
theorem bits2 : jbC (aExt xs) := fun n μ _ => rfl
def domC : List (List Value) := (List.range 256).map fun q => [.int .u8 (.ofNat q)]
theorem domP : ∀ args v, fP args = some v → args ∈ domC := by
 intro args v h
 unfold fP at h
 split at h
 ·rename_i q
  split at h
  ·rename_i hq
   exact List.mem_map.2 ⟨q, List.mem_range.2 hq, rfl⟩
  ·cases h
 ·cases h
theorem tbP : domOk (fun args => aFun pZ (jai pZ (aExt xs) [] 100) 154 args ⟨.e, 900⟩) fP domC = true := by kernel_rfl
theorem ranAlive : jgD roms (aFun pZ (jai pZ (aExt xs) [] 4000) 4 [] ⟨jeL roms, 900⟩) = true := by kernel_rfl
theorem sums : SumsOk pZ S0 :=
 SumsOk.cons (sum_of isNamed (jja rows) mixed (SumsOk.none _) (by decide +kernel) roms (by kernel_rfl) ranAlive)
 (SumsOk.cons (plain_dom isNamed (jja rows) mixed (SumsOk.none _) (by decide +kernel) fP domC domP tbP) (SumsOk.none _))
structure LaidP (W : World) : Prop where
 pw : ∃ t, W.heap[(4 : Nat)]? = some (.cells ((List.range 20).map fun k => u (10 ^ k)).toArray t (0, 0))
theorem layP_hand {W : World} (hL : LaidP W) : LayP (memW W pZ.globals.size) := by
 obtain ⟨t, h⟩ := hL.pw
 have hz := gsz
 refine ⟨fun k hk => ?_, by show 20 < 900 + _; omega⟩
 have hc := jcX (k := k) (v := u (10 ^ k)) hz.2 h (by rw [List.getElem?_toArray, List.getElem?_map, List.getElem?_range hk]; rfl)
 rw [idB_low (rzO (by decide) hz.1)] at hc
 exact hc
theorem jk1 {X : XT} {μ : Mem} (h : jff μ roms = true) (k : Nat) : jbs pZ (jai pZ X S0 k) S0 4 [] μ = some (.bool true, μ) := by
 show (match jff μ roms with | true => some (Value.bool true, μ) | false => none) = _
 rw [h]
theorem toBits : jcB (aExt xs) := fun a μ => rfl
theorem toBits2 : jcA (aExt xs) := fun a μ => rfl
theorem escX : Esc (aExt xs) := fun v μ => rfl
theorem ixX : IxOk (aExt xs) := fun s c μ => by
 show (match jg1 μ (.string s) with | some l => some (jcz l ((c : Int).toNat.toUInt8), μ) | none => none) = _
 show some (jcz s.data.toList ((c : Int).toNat.toUInt8), μ) = _
 unfold jcz idxB
 split <;> rename_i h <;> rw [h]
theorem arel_1 {J : Nat → Ev.Loc} {a a' : Value} (h1 : VRel J a a') : ARel J [a].toArray #[a'] := ⟨rfl, fun i x y hx hy => by
 match i with
 | 0 => simp at hx hy; subst hx hy; exact h1
 | i + 1 => simp at hx⟩
theorem agg_hand {W : World} {gs : Nat} (hlt : gs < 870) (c : Array Value) : VRel (jW W gs) (.agg (c.toList.map (absV W gs)).toArray) (.agg c) := .agg (by simp) fun i a b ha hb => by
 simp only [List.getElem?_toArray, List.getElem?_map, Array.getElem?_toList, hb, Option.map_some, Option.some.injEq] at ha
 subst ha
 exact abs_rel hlt b
section
variable {H : Type} {enc : TypeId × Value → H} {W : World} {sp : Nat → Bool} {hd : Bool}
theorem ranN (hL : Laid W) (hLP : LaidP W) {fuel : Nat} {c : Array Value} {x : DataW H × List MemPlace} (h : DataW.trod enc pZ W 0 sp hd fuel 27 c.toList = some x) :
  Calls pZ 3 #[.agg c] W fun e W' => e = .returned (.bool true) ∧ Same W W' := by
 obtain ⟨fl, f, neg, vl, ls, hc, hw, hU⟩ := num_trod gsz.2 h
 obtain ⟨μ', hr, hG⟩ := nums_ex (X := aExt xs) (fl := fl) (neg := neg) (g := 2100000) toBits bits2 toBits2 ixX escX (lay_hand hL) (layP_hand hLP) (wf_f64 hw) hU (rzN _) (fun k μ => jk1 rfl k)
 have ha := agg_hand (W := W) gsz.2 c
 rw [hc] at ha
 exact jhK isNamed (jja rows) mixed sums (by have := gsz.2; show _ < 900 + _; omega) (handsW rfl gsz.2) (arel_1 ha) hr hG.2 rfl
end
end
end Go.Proofs.YtdmfakpngnlokaaGreatDoor.nu
