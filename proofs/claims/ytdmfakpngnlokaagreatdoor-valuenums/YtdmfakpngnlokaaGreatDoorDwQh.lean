/-
  distafflaw18.ValueNums, part Qh: its walk and its law. No conditions.
-/
import Derived.Test.YtdmfakpngnlokaaGreatDoorDwQg
set_option linter.all false
set_option maxRecDepth 20000
set_option maxHeartbeats 8000000
namespace Go.Proofs.YtdmfakpngnlokaaGreatDoor.nu
open YtdmfakpngnlokaaGreatDoor.Ev
noncomputable section
@[go_sem] def gg199 {X ev} := gC X ev Tryz.func199 rfl rfl
@[go_sem] def gg163 {X ev} := gC X ev Tryz.func163 rfl rfl
@[go_sem] def gg164 {X ev} := gC X ev Tryz.func164 rfl rfl
@[go_sem] def gg200 {X ev} := gC X ev Tryz.func200 rfl rfl
@[go_sem] def gg241 {X ev} := gC X ev Tryz.func241 rfl rfl
@[go_sem] def gg165 {X ev} := gC X ev Tryz.func165 rfl rfl
@[go_sem] def gg242 {X ev} := gC X ev Tryz.func242 rfl rfl
@[go_sem] def gg201 {X ev} := gC X ev Tryz.func201 rfl rfl
@[go_sem] def gg233 {X ev} := gC X ev Tryz.func233 rfl rfl
def fne (a b : Nat) : Bool := !(Ieee.double.order a b == some .eq)
theorem jhu {ρ : Operand → Value} {d : Option Tmp} {t yt ty : TypeId} {x y : Operand} {ps : String} {af : Array Edge} {gd : Option (Nat × Bool)} {a b : Nat} (hx : ρ x = .float .f64 a) (hy : ρ y = .float .f64 b) : jaC pZ ρ ⟨d, .binOp .neq t x y yt, ty, ps, af, gd⟩ = some (.bool (fne a b)) := by
 unfold jaC
 have e : pv pZ (execOp ρ ⟨d, .binOp .neq t x y yt, ty, ps, af, gd⟩) = some (.value (.bool (fne a b))) := by
  simp only [execOp, hx, hy]
  kernel_rfl
 simp only [opsOf, jbn, hx, hy, jaw, e]
theorem isInfP_ex (f : Nat) {X : XT} {g : Nat} {μ : Mem} (hg : 20 ≤ g) : aFun pZ (jai pZ X S0 g) 199 [.float .f64 f, .int .i64 1] μ = some (.bool (fgt f 9218868437227405311), μ) := by
 obtain ⟨k, rfl⟩ := gle hg
 have e0 : ieq 1 0 = false := rfl
 have e1 : ilt 1 0 = false := rfl
 have pl : ∀ (r : Rg) (d : Option Tmp) (t yt ty : TypeId) (x : Operand) (ps : String) (af : Array Edge) (gd : Option (Nat × Bool)), aev pZ r x = .float .f64 f → jaC pZ (aev pZ r) ⟨d, .binOp .gtr t x (.const (.float .f64 9218868437227405311)) yt, ty, ps, af, gd⟩ = some (.bool (fgt f 9218868437227405311)) := fun r d t yt ty x ps af gd h => jhw h rfl
 refine jau ?_
 refine jac Tryz.func199 rfl rfl (nbl rfl) ?_
 simp only [go_sem, Tryz.ntmps199]
 repeat ((first | refine jaa rfl ?_ | refine jaj rfl ?_); (try simp only [go_sem, e0, e1, anf, pl]); fail_if_success refine stk ?_)
 exact jae ⟨rfl, _, by simp only [go_sem, Tryz.results199], rfl, rfl⟩
theorem isInfN_ex (f : Nat) {X : XT} {g : Nat} {μ : Mem} (hg : 20 ≤ g) : aFun pZ (jai pZ X S0 g) 199 [.float .f64 f, .int .i64 (-1)] μ = some (.bool (fgt (Op.negFloat .f64 f) 9218868437227405311), μ) := by
 obtain ⟨k, rfl⟩ := gle hg
 have e0 : ieq (-1) 0 = false := rfl
 have e1 : ilt (-1) 0 = true := rfl
 obtain ⟨m, hm⟩ := exq (Op.negFloat .f64 f)
 rw [← hm]
 have pn : ∀ (r : Rg) (d : Option Tmp) (t ty : TypeId) (x : Operand) (ps : String) (af : Array Edge) (gd : Option (Nat × Bool)), aev pZ r x = .float .f64 f → jaC pZ (aev pZ r) ⟨d, .unOp .neg t x, ty, ps, af, gd⟩ = some (.float .f64 m) := fun r d t ty x ps af gd h => by rw [hm]; exact jkp h
 have pl : ∀ (r : Rg) (d : Option Tmp) (t yt ty : TypeId) (x : Operand) (ps : String) (af : Array Edge) (gd : Option (Nat × Bool)), aev pZ r x = .float .f64 m → jaC pZ (aev pZ r) ⟨d, .binOp .gtr t x (.const (.float .f64 9218868437227405311)) yt, ty, ps, af, gd⟩ = some (.bool (fgt m 9218868437227405311)) := fun r d t yt ty x ps af gd h => jhw h rfl
 refine jau ?_
 refine jac Tryz.func199 rfl rfl (nbl rfl) ?_
 simp only [go_sem, Tryz.ntmps199]
 repeat ((first | refine jaa rfl ?_ | refine jaj rfl ?_); (try simp only [go_sem, e0, e1, anf, pn, pl]); fail_if_success refine stk ?_)
 exact jae ⟨rfl, _, by simp only [go_sem, Tryz.results199], rfl, rfl⟩
def nameB3 (a b c : Bool) : ByteArray := if a then ⟨List.toArray [43, 110, 97, 110, 46, 48]⟩ else if b then ⟨List.toArray [43, 105, 110, 102, 46, 48]⟩ else if c then ⟨List.toArray [45, 105, 110, 102, 46, 48]⟩ else ⟨#[]⟩
def jco (f : Nat) : ByteArray := nameB3 (fne f f) (fgt f 9218868437227405311) (fgt (Op.negFloat .f64 f) 9218868437227405311)
theorem fname_ex (f : Nat) {X : XT} {g : Nat} {μ : Mem} (hg : 40 ≤ g) : aFun pZ (jai pZ X S0 g) 163 [.float .f64 f] μ = some (.string (jco f), μ) := by
 obtain ⟨k, rfl⟩ := gle hg
 unfold jco
 obtain ⟨a, ha⟩ := eqx (fne f f)
 obtain ⟨b, hb⟩ := eqx (fgt f 9218868437227405311)
 obtain ⟨c, hc⟩ := eqx (fgt (Op.negFloat .f64 f) 9218868437227405311)
 have pn : ∀ (r : Rg) (d : Option Tmp) (t yt ty : TypeId) (x y : Operand) (ps : String) (af : Array Edge) (gd : Option (Nat × Bool)), aev pZ r x = .float .f64 f → aev pZ r y = .float .f64 f → jaC pZ (aev pZ r) ⟨d, .binOp .neq t x y yt, ty, ps, af, gd⟩ = some (.bool a) := fun r d t yt ty x y ps af gd h h2 => by rw [← ha]; exact jhu h h2
 have r1 : ∀ m, aFun pZ (jai pZ X S0 (k + 33)) 199 [.float .f64 f, .int .i64 1] m = some (.bool b, m) := fun m => by rw [← hb]; exact isInfP_ex f (by omega)
 have r2 : ∀ m, aFun pZ (jai pZ X S0 (k + 31)) 199 [.float .f64 f, .int .i64 (-1)] m = some (.bool c, m) := fun m => by rw [← hc]; exact isInfN_ex f (by omega)
 rw [ha, hb, hc]
 refine jau ?_
 cases a with
 | true =>
   refine jac Tryz.func163 rfl rfl (nbl rfl) ?_
   simp only [go_sem, Tryz.ntmps163]
   repeat ((first | refine jaa rfl ?_ | refine jaj rfl ?_); (try simp only [go_sem, anf, pn]); fail_if_success refine stk ?_)
   refine jae ?_
   refine ⟨rfl, _, ?_, rfl, rfl⟩
   simp only [go_sem, Tryz.results163]
   rfl
 | false =>
   cases b with
   | true =>
     refine jac Tryz.func163 rfl rfl (nbl rfl) ?_
     simp only [go_sem, Tryz.ntmps163]
     repeat ((first | refine jaa rfl ?_ | refine jaj rfl ?_); (try simp only [go_sem, anf, pn, r1]); fail_if_success refine stk ?_)
     refine jae ?_
     refine ⟨rfl, _, ?_, rfl, rfl⟩
     simp only [go_sem, Tryz.results163]
     rfl
   | false =>
     cases c
     all_goals
      refine jac Tryz.func163 rfl rfl (nbl rfl) ?_
      simp only [go_sem, Tryz.ntmps163]
      repeat ((first | refine jaa rfl ?_ | refine jaj rfl ?_); (try simp only [go_sem, anf, pn, r1, r2]); fail_if_success refine stk ?_)
      refine jae ?_
      refine ⟨rfl, _, ?_, rfl, rfl⟩
      simp only [go_sem, Tryz.results163]
      rfl
theorem fin_name {f : Nat} (hf : f < 18446744073709551616) (h : jco f = ⟨#[]⟩) : Fin1 f := by
 intro hE
 have hW : W f = f := W_of hf
 have e1 : W (W f / 2 ^ 52) = f / 2 ^ 52 := by rw [W_of (by omega), hW]
 rw [e1, show (2047 : Nat) = 2 ^ 11 - 1 from rfl, Nat.and_two_pow_sub_one_eq_mod] at hE
 have hm : f % 9223372036854775808 / 4503599627370496 = 2047 := by omega
 have hread : ∀ x, x % 9223372036854775808 = f % 9223372036854775808 → Ieee.double.read x = if x % 9223372036854775808 = 9218868437227405312 then .infinity (x / 9223372036854775808 % 2 == 1) else .nan (x / 9223372036854775808 % 2 == 1) (x % 9223372036854775808 - 9218868437227405312) := fun x hx => by
  show (if x % 9223372036854775808 < 4503599627370496 then _ else if x % 9223372036854775808 < 9218868437227405312 then _ else _) = _
  rw [if_neg (by omega), if_neg (by omega)]
  rfl
 have rM : Ieee.double.read 9218868437227405311 = .number false 9007199254740991 971 := by decide
 unfold jco nameB3 at h
 by_cases hi : f % 9223372036854775808 = 9218868437227405312
 ·by_cases hs : f / 9223372036854775808 = 0
  ·have : fgt f 9218868437227405311 = true := by
    unfold fgt Ieee.Format.order
    rw [hread f rfl, if_pos hi, rM, hs]
    rfl
   rw [this] at h
   split at h <;> cases h
  ·have hn : Op.negFloat .f64 f = f - 9223372036854775808 := by
    show f ^^^ 2 ^ 63 = _
    refine Nat.eq_of_testBit_eq fun i => ?_
    obtain ⟨r, hr⟩ : ∃ r, f = 2 ^ 63 + r := ⟨f - 2 ^ 63, by omega⟩
    have hrl : r < 2 ^ 63 := by omega
    rw [show f - 9223372036854775808 = r from by omega, Nat.testBit_xor, Nat.testBit_two_pow, hr]
    by_cases e : i = 63
    ·subst e
     rw [Nat.testBit_two_pow_add_eq, Nat.testBit_lt_two_pow hrl]; rfl
    ·by_cases l : i < 63
     ·rw [Nat.testBit_two_pow_add_gt l, rzV (by omega), Bool.xor_false]
     ·rw [Nat.testBit_lt_two_pow (show 2 ^ 63 + r < 2 ^ i from rzO (by omega) (Nat.pow_le_pow_right (by decide) (show 64 ≤ i by omega))), Nat.testBit_lt_two_pow (rzO hrl (Nat.pow_le_pow_right (by decide) (by omega))), rzV (by omega)]; rfl
   have : fgt (Op.negFloat .f64 f) 9218868437227405311 = true := by
    unfold fgt Ieee.Format.order
    rw [hn, hread (f - 9223372036854775808) (by omega), if_pos (by omega), rM, (by omega : (f - 9223372036854775808) / 9223372036854775808 = 0)]
    rfl
   rw [this] at h
   split at h
   ·cases h
   ·split at h <;> cases h
 ·have : fne f f = true := by
   unfold fne Ieee.Format.order
   rw [hread f rfl, if_neg hi]
   rfl
  rw [this] at h
  cases h
def idxB (s : ByteArray) (c : Nat) : Int := match (List.range s.data.toList.length).find? fun i => (ByteArray.mk s.data.toList.toArray)[i]! == ((c : Int).toNat.toUInt8) with
 | some i => .ofNat i
 | none => -1
def IxOk (X : XT) : Prop := ∀ (s : ByteArray) (c : Nat) (μ : Mem), X 260 [.string s, .int .u8 (.ofNat c)] μ = some (.int .i64 (idxB s c), μ)
theorem go_ixs {X : XT} {ev : ET} (args : List Value) (μ : Mem) : aGo pZ X (jbs pZ ev S0) 260 args μ = X 260 args μ := by
 unfold aGo
 rw [Tryz.func260]
 rfl
def ix1 (s p : ByteArray) (c : Nat) : Int := if p = s then 0 else idxB s c
theorem jfZ {s p : ByteArray} {c : Nat} (hp : (bys p).length = 1) (hc : (bys p)[0]? = some c) {X : XT} {g : Nat} {μ : Mem} (hX : IxOk X) (hg : 40 ≤ g) : aFun pZ (jai pZ X S0 g) 242 [.string s, .string p] μ = some (.int .i64 (ix1 s p c), μ) := by
 obtain ⟨k, rfl⟩ := gle hg
 have lp := jbU p
 rw [hp] at lp
 have e0 : ieq (.ofNat 1) 0 = false := rfl
 have e1 : ieq (.ofNat 1) 1 = true := rfl
 have hs := str_eq p s
 have hx : ∀ r x, aev pZ r x = .string p → jb0 pZ (aev pZ r) 9 x (.const (.int .i64 0)) = some (.int .u8 (.ofNat c)) := fun r x h => by
  have h0 : 0 < (bys p).length := by omega
  rw [rzK h0] at hc
  rw [← Option.some.inj hc]
  exact jhh h0 h rfl
 have r0 : ∀ g m, 20 ≤ g → aFun pZ (jai pZ X S0 g) 233 [.string s, .int .u8 (.ofNat c)] m = some (.int .i64 (idxB s c), m) := fun g m hg => by
  obtain ⟨k, rfl⟩ := gle hg
  have hi := (go_ixs (X := X) (ev := jai pZ X S0 (k + 17)) [.string s, .int .u8 (.ofNat c)] m).trans (hX s c m)
  refine jau ?_
  refine jac Tryz.func233 rfl rfl (nbl rfl) ?_
  simp only [go_sem, Tryz.ntmps233]
  repeat ((first | refine jaa rfl ?_ | refine jaj rfl ?_); (try simp only [go_sem, hi]); fail_if_success refine stk ?_)
  exact jae ⟨rfl, _, by simp only [go_sem, Tryz.results233], rfl, rfl⟩
 unfold ix1
 by_cases h : p = s
 ·rw [rzU h] at hs
  rw [if_pos h]
  refine jau ?_
  refine jac Tryz.func242 rfl rfl (nbl rfl) ?_
  simp only [go_sem, Tryz.ntmps242]
  repeat ((first | refine jaa rfl ?_ | refine jaj rfl ?_); (try simp only [go_sem, lp, jao, e0, hs]); fail_if_success refine stk ?_)
  exact jae ⟨rfl, _, by simp only [go_sem, Tryz.results242], rfl, rfl⟩
 ·rw [rzV h] at hs
  rw [if_neg h]
  have r1 := fun m => r0 (k + 30) m (by omega)
  refine jau ?_
  refine jac Tryz.func242 rfl rfl (nbl rfl) ?_
  simp only [go_sem, Tryz.ntmps242]
  repeat ((first | refine jaa rfl ?_ | refine jaj rfl ?_); (try simp only [go_sem, lp, jao, e0, e1, hs, hx, r1]); fail_if_success refine stk ?_)
  exact jae ⟨rfl, _, by simp only [go_sem, Tryz.results242], rfl, rfl⟩
def ptT (s : ByteArray) : ByteArray := if 0 ≤ ix1 s ⟨List.toArray [46]⟩ 46 then s else ⟨(s.data.toList ++ (⟨List.toArray [46, 48]⟩ : ByteArray).data.toList).toArray⟩
theorem jir (s : ByteArray) : (bys (ptT s)).length ≤ (bys s).length + 2 := by
 unfold ptT
 split
 ·omega
 ·rw [jfy]; exact rzN _
theorem jjt {s : ByteArray} (hl : (bys s).length ≤ 100000) {X : XT} {g : Nat} {μ : Mem} (hX : IxOk X) (hg : 80 ≤ g) : aFun pZ (jai pZ X S0 g) 164 [.string s] μ = some (.string (ptT s), μ) := by
 obtain ⟨k, rfl⟩ := gle hg
 have r0 : ∀ g m, 40 ≤ g → aFun pZ (jai pZ X S0 g) 242 [.string s, .string ⟨List.toArray [46]⟩] m = some (.int .i64 (ix1 s ⟨List.toArray [46]⟩ 46), m) := fun g m hg => jfZ (p := ⟨List.toArray [46]⟩) (c := 46) rfl rfl hX hg
 obtain ⟨n, hn⟩ := exq (ix1 s ⟨List.toArray [46]⟩ 46)
 unfold ptT
 rw [← hn] at r0 ⊢
 have r1 : ∀ g m, 50 ≤ g → aFun pZ (jai pZ X S0 g) 241 [.string s, .string ⟨List.toArray [46]⟩] m = some (.int .i64 n, m) := fun g m hg => by
  obtain ⟨k, rfl⟩ := gle hg
  have r := fun m => r0 (k + 47) m (by omega)
  refine jau ?_
  refine jac Tryz.func241 rfl rfl (nbl rfl) ?_
  simp only [go_sem, Tryz.ntmps241]
  repeat ((first | refine jaa rfl ?_ | refine jaj rfl ?_); (try simp only [go_sem, r]); fail_if_success refine stk ?_)
  exact jae ⟨rfl, _, by simp only [go_sem, Tryz.results241], rfl, rfl⟩
 obtain ⟨t, ht⟩ := eqx (ilt n 0)
 have r2 : ∀ g m, 60 ≤ g → aFun pZ (jai pZ X S0 g) 200 [.string s, .string ⟨List.toArray [46]⟩] m = some (.bool (!t), m) := fun g m hg => by
  obtain ⟨k, rfl⟩ := gle hg
  have r := fun m => r1 (k + 57) m (by omega)
  refine jau ?_
  refine jac Tryz.func200 rfl rfl (nbl rfl) ?_
  simp only [go_sem, Tryz.ntmps200]
  repeat ((first | refine jaa rfl ?_ | refine jaj rfl ?_); (try simp only [go_sem, r, ht]); fail_if_success refine stk ?_)
  exact jae ⟨rfl, _, by simp only [go_sem, Tryz.results200], rfl, rfl⟩
 have r3 := fun m => r2 (k + 76) m (by omega)
 have ha := jc2 (a := s) (b := ⟨List.toArray [46, 48]⟩) (by show _ + 2 < _; omega)
 rw [jfo] at ht
 refine jau ?_
 cases t with
 | true =>
   rw [if_neg (by have := of_decide_eq_true ht; omega)]
   refine jac Tryz.func164 rfl rfl (nbl rfl) ?_
   simp only [go_sem, Tryz.ntmps164]
   repeat ((first | refine jaa rfl ?_ | refine jaj rfl ?_); (try simp only [go_sem, r3, ha]); fail_if_success refine stk ?_)
   exact jae ⟨rfl, _, by simp only [go_sem, Tryz.results164], rfl, rfl⟩
 | false =>
   rw [if_pos (by have := of_decide_eq_false ht; omega)]
   refine jac Tryz.func164 rfl rfl (nbl rfl) ?_
   simp only [go_sem, Tryz.ntmps164]
   repeat ((first | refine jaa rfl ?_ | refine jaj rfl ?_); (try simp only [go_sem, r3]); fail_if_success refine stk ?_)
   exact jae ⟨rfl, _, by simp only [go_sem, Tryz.results164], rfl, rfl⟩
@[go_sem] def gg166 {X ev} := gC X ev Tryz.func166 rfl rfl
@[go_sem] def gg202 {X ev} := gC X ev Tryz.func202 rfl rfl
theorem jhI {s : ByteArray} {a b : List Nat} {c : Nat} (h : bys s = a ++ c :: b) (ha : ∀ x ∈ a, x ≠ c) : idxB s c = .ofNat a.length := by
 have hb : ∀ i (hi : i < s.data.toList.length), ((ByteArray.mk s.data.toList.toArray)[i]! : UInt8).toNat = (a ++ c :: b)[i]'(by rw [← h, jcx]; exact hi) := fun i hi => by
  have e1 : (ByteArray.mk s.data.toList.toArray)[i]! = s.data.toList[i] := by
   rw [getElem!_pos (ByteArray.mk s.data.toList.toArray) i (by show i < s.data.toList.toArray.size; simpa using hi)]
   show s.data.toList.toArray[i] = _
   simp
  rw [e1]
  have e2 : (bys s)[i]? = some (s.data.toList[i]).toNat := by unfold bys; rw [List.getElem?_map, rzK hi]; rfl
  have e3 : (a ++ c :: b)[i]? = some (s.data.toList[i]).toNat := by rw [← h]; exact e2
  exact (Option.some.inj ((rzK _).symm.trans e3)).symm
 have hl : s.data.toList.length = a.length + b.length + 1 := by rw [← jcx, h, rzX, List.length_cons]; omega
 have hc : c < 256 := by
  have := hb a.length (by omega)
  rw [List.getElem_append_right (rzN _)] at this
  simp only [Nat.sub_self, List.getElem_cons_zero] at this
  rw [← this]; exact UInt8.toNat_lt _
 have hcu : (((c : Int).toNat).toUInt8).toNat = c := by
  rw [Int.toNat_natCast]
  show (UInt8.ofNat c).toNat = c
  rw [UInt8.toNat_ofNat']; omega
 have hf : (List.range s.data.toList.length).find? (fun i => (ByteArray.mk s.data.toList.toArray)[i]! == ((c : Int).toNat.toUInt8)) = some a.length := by
  rw [List.find?_range_eq_some]
  refine ⟨?_, by rw [List.mem_range]; omega, fun j hj => ?_⟩
  ·rw [beq_iff_eq]
   refine UInt8.toNat_inj.1 ?_
   rw [hcu, hb _ (by omega), List.getElem_append_right (rzN _)]
   simp
  ·have h1 := hb j (by omega)
   rw [List.getElem_append_left (by omega)] at h1
   have h2 := ha _ (List.getElem_mem (show j < a.length by omega))
   simp only [Bool.not_eq_true', beq_eq_false_iff_ne, ne_eq]
   intro e
   rw [e, hcu] at h1
   exact h2 h1.symm
 unfold idxB
 rw [hf]
theorem cutE_ex {s : ByteArray} {p : Nat} (hl : (bys s).length ≤ 100000) (hp : p < (bys s).length) (h1 : 1 < (bys s).length) (hi : idxB s 101 = .ofNat p) {X : XT} {g : Nat} {μ : Mem} (hX : IxOk X) (hg : 80 ≤ g) :
  ∃ μ', aFun pZ (jai pZ X S0 g) 165 [.string s, .string ⟨List.toArray [101]⟩] μ = some (.tuple #[.string (jbV s p), .string (jch s (p + 1)), .bool true], μ') ∧ Grow μ μ' := by
 obtain ⟨k, rfl⟩ := gle hg
 have r0 : ∀ m, aFun pZ (jai pZ X S0 (k + 73)) 242 [.string s, .string ⟨List.toArray [101]⟩] m = some (.int .i64 (.ofNat p), m) := fun m => by
  have h := jfZ (s := s) (p := ⟨List.toArray [101]⟩) (c := 101) (X := X) (g := k + 73) (μ := m) rfl rfl hX (by omega)
  rw [show ix1 s ⟨List.toArray [101]⟩ 101 = .ofNat p from by
   unfold ix1
   rw [if_neg (fun h => by rw [← h] at h1; exact absurd h1 (by decide)), hi]] at h
  exact h
 have e0 : ilt (.ofNat p) 0 = false := dF (jcV _ 0 0 rfl) (by omega)
 have a1 : jak .i64 (Int.add (.ofNat p) (.ofNat 1)) = .ofNat (p + 1) := jaT p 1 (by omega)
 have l1 : aLen pZ 9 (.string ⟨List.toArray [101]⟩) = some 1 := jbU ⟨List.toArray [101]⟩
 have hs1 : ∀ r x y, aev pZ r x = .string s → aev pZ r y = .int .i64 (.ofNat p) → jaJ pZ (aev pZ r) 9 x none (some y) none = some (.string (jbV s p)) := fun r x y g1 g2 => jeU g1 g2 (by omega)
 have hs2 : ∀ r x y, aev pZ r x = .string s → aev pZ r y = .int .i64 (.ofNat (p + 1)) → jaJ pZ (aev pZ r) 9 x (some y) none none = some (.string (jch s (p + 1))) := fun r x y g1 g2 => jeo g1 g2 (by omega)
 have in1 : ∃ μ', aFun pZ (jai pZ X S0 (k + 77)) 201 [.string s, .string ⟨List.toArray [101]⟩] μ = some (.tuple #[.string (jbV s p), .string (jch s (p + 1)), .bool true], μ') ∧ Grow μ μ' := by
  have key : EndsF (aFun pZ (jai pZ X S0 (k + 77)) 201 [.string s, .string ⟨List.toArray [101]⟩] μ) fun v μ' => v = .tuple #[.string (jbV s p), .string (jch s (p + 1)), .bool true] ∧ Grow μ μ' := by
   refine jac Tryz.func201 rfl rfl (nbl rfl) ?_
   simp only [go_sem, Tryz.ntmps201]
   repeat ((first | refine jaa rfl ?_ | refine jaj rfl ?_); (try simp only [go_sem, r0, e0]); fail_if_success refine stk ?_)
   refine jaY (n := 12) (ms := [0, 0, 3, 0, 0, 0, 32, 112, 248, 7, 1023, 2047]) (ord := [0, 1, 2, 3, 4, 5, 6, 7, 8, 9, 10, 11]) (ds := ?_) ?_ ?_ ?_ ?_ ?_ ?_
   rotate_left
   ·kernel_rfl
   ·kernel_rfl
   ·kernel_rfl
   ·rfl
   ·rfl
   repeat (first | (refine ja0 ?_ rfl ?_; (solve | simp only [go_sem, hs1, l1, jao, a1, hs2])) | (refine ja5 (v := ?_) (μ' := ?_) (sn' := ?_) ?_ ?_ rfl ?_; rotate_left 3; (solve | rfl | simp only [go_sem, hs1, l1, jao, a1, hs2]); (solve | simp only [jaV, heavy, jbg, jaQ, go_sem, hs1, l1, jao, a1, hs2]; try exact rfl)))
   simp only [dRun, jaK, jag]
   repeat ((first | refine jaa rfl ?_ | refine jaj rfl ?_); (try simp only [go_sem]); fail_if_success refine stk ?_)
   exact jae ⟨rfl, _, by simp only [go_sem, Tryz.results201], rfl, jcu _ _⟩
  obtain ⟨v, m, h1, rfl, h2⟩ := key
  exact ⟨m, h1, h2⟩
 obtain ⟨μ1, r1, G1⟩ := in1
 have key : EndsF (aFun pZ (jai pZ X S0 (k + 80)) 165 [.string s, .string ⟨List.toArray [101]⟩] μ) fun v μ' => v = .tuple #[.string (jbV s p), .string (jch s (p + 1)), .bool true] ∧ Grow μ μ' := by
  refine jac Tryz.func165 rfl rfl (nbl rfl) ?_
  simp only [go_sem, Tryz.ntmps165]
  repeat ((first | refine jaa rfl ?_ | refine jaj rfl ?_); (try simp only [go_sem, r1]); fail_if_success refine stk ?_)
  exact jae ⟨rfl, _, by simp only [go_sem, Tryz.results165], rfl, G1⟩
 obtain ⟨v, m, h1, rfl, h2⟩ := key
 exact ⟨m, h1, h2⟩
theorem sub48 {d : Nat} (h1 : 48 ≤ d) (h2 : d ≤ 57) : jak .u8 (Int.sub (.ofNat d) 48) = .ofNat (d - 48) := by
 rw [show Int.sub (.ofNat d) 48 = Int.ofNat (d - 48) from by show (d : Int) - 48 = ((d - 48 : Nat) : Int); omega]
 exact qu8 _ (by omega)
def obSB (s : ByteArray) : Ob := .cells s.data.toList.length 5 (s.data.toList.map fun b => Value.int .u8 b.toNat).toArray .e 0 0 true true
theorem sb_plain {ρ : Operand → Value} {d : Option Tmp} {ty : TypeId} {y : Operand} {ps : String} {af : Array Edge} {gd : Option (Nat × Bool)} {s : ByteArray} (h : ρ y = .string s) : jaC pZ ρ ⟨d, .convert 9 54 y, ty, ps, af, gd⟩ = none := by
 unfold jaC
 simp only [opsOf, jbn, h, execOp]
 kernel_rfl
theorem sb_conv (s : ByteArray) : jay pZ 9 54 (.string s) = none := rfl
theorem jhm (μ : Mem) (s : ByteArray) : jcN pZ μ 9 54 (.string s) = none := rfl
theorem sb_b2s (μ : Mem) (s : ByteArray) : jbd pZ μ 9 54 (.string s) = none := rfl
theorem sb_make (s : ByteArray) : jbJ pZ 9 54 (.string s) = some (obSB s, fun id => .slice (some ⟨id, 0, none⟩) (bys s).length 3) := by
 rw [jcx]
 unfold jbJ
 simp only [Tryz.underlying9, Tryz.underlying54, Tryz.underlying5]
 rfl
theorem vB_bys (s : ByteArray) : vB (bys s) = s.data.toList.map fun b => Value.int .u8 b.toNat := by
 unfold vB bys
 rw [List.map_map]
 rfl
theorem has_SB (μ : Mem) (s : ByteArray) : Has ⟨μ.obs.set μ.next (obSB s), μ.next + 1⟩ μ.next 0 (vB (bys s)) := by
 rw [vB_bys]
 refine ⟨s.data.toList.length, (s.data.toList.map fun b => Value.int .u8 b.toNat).toArray, .e, ?_, ?_, fun k hk => ?_⟩
 ·show jbk (T.get _ _) = _
  rw [T.get_set, if_pos rfl]
  rfl
 ·simp
 ·have h := ja3 (s.data.toList.map fun b => Value.int .u8 b.toNat) (0 + k) (by simpa using hk)
  simpa using h
def dval (a : Nat) (l : List Nat) : Nat := l.foldl (fun a d => a * 10 + (d - 48)) a
theorem dval_lt : ∀ (l : List Nat) (a : Nat), (∀ x ∈ l, x ≤ 57) → dval a l < (a + 1) * 10 ^ l.length
 | [], a, _ => by show a < (a + 1) * 1; omega
 | d :: l, a, h => by
   have h1 := dval_lt l (a * 10 + (d - 48)) fun x hx => h x (List.mem_cons_of_mem _ hx)
   have h2 := h d (List.mem_cons_self)
   refine rzO h1 ?_
   rw [List.length_cons, Nat.pow_succ, Nat.mul_comm (10 ^ l.length) 10, ← Nat.mul_assoc]
   exact Nat.mul_le_mul_right _ (by omega)
theorem at_loop {l : List Nat} {q c : Nat} (hl : l.length ≤ 3) (hd : ∀ x ∈ l, 48 ≤ x ∧ x ≤ 57) : ∀ (j i : Nat), i + j = l.length → ∀ {X : XT} {e a : Nat} {tm : T Value} {μ : Mem}, Has μ q 0 (vB l) → a < 10 ^ i →
  jah tm 6 = .int .i64 (.ofNat a) → jah tm 47 = .slice (some ⟨q, 0, none⟩) l.length c → jah tm 48 = .int .i64 (.ofNat l.length) → jah tm 49 = .int .i64 (.ofNat i) →
  LpC X (e + j + 30) Tryz.f202 0 77 tm μ fun x r m => m = μ ∧ x = .exit 0 ∧ ∃ tm', r = ⟨77, tm', [], none⟩ ∧ jah tm' 5 = jah tm 5 ∧ jah tm' 6 = .int .i64 (.ofNat (dval a (l.drop i))) := by
 intro j
 induction j with
 | zero =>
   intro i hi X e a tm μ hH ha h6 h47 h48 h49
   have hi : i = l.length := hi
   have e1 : ilt (.ofNat i) (.ofNat l.length) = false := dF (jap _ _) (by omega)
   refine jam ?_
   repeat ((first | refine jaa rfl ?_ | refine jaj rfl ?_); (try simp only [go_sem, h48, h49, e1]); fail_if_success refine stk ?_)
   refine ⟨by trivial, by trivial, _, rfl, by simp only [go_sem], ?_⟩
   rw [hi, List.drop_length]
   simp only [go_sem, h6, dval, List.foldl]
 | succ j ih =>
   intro i hi X e a tm μ hH ha h6 h47 h48 h49
   have hlt : i < l.length := by omega
   have e1 : ilt (.ofNat i) (.ofNat l.length) = true := dT (jap _ _) hlt
   have a1 : jak .i64 (Int.add (.ofNat i) 1) = .ofNat (i + 1) := jaT i 1 (by omega)
   obtain ⟨d, hdd⟩ := exq (l[i]'hlt)
   obtain ⟨d1, d2⟩ := hd d (by rw [hdd]; exact List.getElem_mem hlt)
   have hc : jad μ q i = some (.int .u8 (.ofNat d)) := by
    have := hH.cell i (by rw [jby]; exact hlt)
    rw [rzT] at this
    rw [this, hdd]
    simp only [vB, List.getElem_map]
   have hix : ∀ r x y, aev pZ r x = .slice (some ⟨q, 0, none⟩) l.length c → aev pZ r y = .int .i64 (.ofNat i) → jal pZ (aev pZ r) 54 x y = some (.pointer (some ⟨q, i, none⟩)) := fun r x y g h => ixBs hlt g h
   have s1 := sub48 d1 d2
   have e2 : ilt 9 (.ofNat (d - 48)) = false := dF (jiC _ 9 9 rfl) (by omega)
   have hp : 10 ^ i ≤ 10 ^ 3 := Nat.pow_le_pow_right (by decide) (by omega)
   have m1 : jak .i64 (Int.mul (.ofNat a) 10) = .ofNat (a * 10) := jc7 a 10 (by omega)
   have c1 := q64 (d - 48) (by omega)
   have a2 : jak .i64 (Int.add (.ofNat (a * 10)) (.ofNat (d - 48))) = .ofNat (a * 10 + (d - 48)) := jaT _ _ (by omega)
   refine jam ?_
   repeat ((first | refine jaa rfl ?_ | refine jaj rfl ?_); (try simp only [go_sem, h6, h47, h48, h49, e1, hix, hc, s1, e2, m1, jdb, c1, a2, a1]); fail_if_success refine stk ?_)
   rw [(by omega : e + (j + 1) + 29 = e + j + 30)]
   refine rzM (ih (i + 1) (by omega) (a := a * 10 + (d - 48)) hH (by rw [Nat.pow_succ]; omega) (by simp only [go_sem]) (by simp only [go_sem, h47]) (by simp only [go_sem, h48]) (by simp only [go_sem])) ?_
   simp only [go_sem]
   rintro x r m ⟨g1, g2, tm', g3, g4, g5⟩
   refine ⟨g1, g2, tm', g3, g4, ?_⟩
   rw [g5, List.drop_eq_getElem_cons hlt, ← hdd]
   rfl
theorem atoi_ex {s : ByteArray} {sgn : Nat} {ds : List Nat} (hb : bys s = sgn :: ds) (hs : sgn = 43 ∨ sgn = 45) (hl1 : 1 ≤ ds.length) (hl : ds.length ≤ 3) (hd : ∀ x ∈ ds, 48 ≤ x ∧ x ≤ 57) {X : XT} {g : Nat} {μ : Mem} (hg : 100 ≤ g) :
  ∃ μ', aFun pZ (jai pZ X S0 g) 166 [.string s] μ = some (.tuple #[.int .i64 (if sgn = 45 then -(dval 0 ds : Int) else (dval 0 ds : Int)), .nilIface], μ') ∧ Grow μ μ' := by
 obtain ⟨k, rfl⟩ := gle hg
 have hv : dval 0 ds < 1000 := rzO (dval_lt ds 0 fun x hx => (hd x hx).2) (by rw [rzT, Nat.one_mul]; show 10 ^ ds.length ≤ 10 ^ 3; exact Nat.pow_le_pow_right (by decide) hl)
 obtain ⟨v, hvd⟩ := exq (dval 0 ds)
 rw [← hvd] at hv ⊢
 obtain ⟨w, hw⟩ := exq (if sgn = 45 then -(v : Int) else (v : Int) : Int)
 rw [← hw]
 have lb : (bys s).length = ds.length + 1 := by rw [hb]; rfl
 have ls := jbU s
 have e1 : ilt 0 (.ofNat (bys s).length) = true := dT (jiC _ 0 0 rfl) (by omega)
 have e2 : ilt (.ofNat (bys s).length) 19 = true := dT (jcV _ 19 19 rfl) (by omega)
 have i0 : ∀ r x, aev pZ r x = .string s → jb0 pZ (aev pZ r) 9 x (.const (.int .i64 0)) = some (.int .u8 (.ofNat sgn)) := fun r x h => at0 hb h rfl
 obtain ⟨t, ht⟩ := exq (jch s 1)
 have bt : bys t = ds := by rw [ht, jdB, hb]; rfl
 have tl : ∀ r x, aev pZ r x = .string s → jaJ pZ (aev pZ r) 9 x (some (.const (.int .i64 1))) none none = some (.string t) := fun r x h => by rw [ht]; exact sl_at s (by omega) r x _ h rfl
 have lt := jbU t
 have e3 : ilt (.ofNat (bys t).length) 1 = false := dF (jcV _ 1 1 rfl) (by rw [bt]; omega)
 have mk := sb_make t
 have mp : ∀ (r : Rg) (d : Option Tmp) (ty : TypeId) (y : Operand) (ps : String) (af : Array Edge) (gd : Option (Nat × Bool)), aev pZ r y = .string t → jaC pZ (aev pZ r) ⟨d, .convert 9 54 y, ty, ps, af, gd⟩ = none := fun r d ty y ps af gd h => sb_plain h
 have hH := has_SB μ t
 have g1 := jbc μ (obSB t)
 have ln : aLen pZ 54 (.slice (some ⟨μ.next, 0, none⟩) (bys t).length 3) = some (bys t).length := lenBs
 obtain ⟨μ1, hμ1⟩ := exq (⟨μ.obs.set μ.next (obSB t), μ.next + 1⟩ : Mem)
 rw [← hμ1] at hH g1
 obtain ⟨c1, hc1⟩ := eqx (ieq (.ofNat sgn) 45)
 obtain ⟨c2, hc2⟩ := eqx (ieq (.ofNat sgn) 43)
 have hc1' : c1 = decide (sgn = 45) := hc1.symm.trans (jbo _ 45 45 rfl)
 have hc2' : c2 = decide (sgn = 43) := hc2.symm.trans (jbo _ 43 43 rfl)
 have in1 : aFun pZ (jai pZ X S0 (k + 97)) 202 [.string s] μ = some (.tuple #[.int .i64 w, .nilIface], μ1) := by
  refine jau ?_
  have e4 : (!(false && false) && true) = true := rfl
  have fin : ∀ (tm : T Value), jah tm 6 = .int .i64 (.ofNat v) → jah tm 5 = .string s → True := fun _ _ _ => trivial
  cases c1 with
  | true =>
    have hs45 : sgn = 45 := of_decide_eq_true hc1'.symm
    rw [if_pos hs45] at hw
    have pn : ∀ (r : Rg) (d : Option Tmp) (t ty : TypeId) (x : Operand) (ps : String) (af : Array Edge) (gd : Option (Nat × Bool)), aev pZ r x = .int .i64 (.ofNat v) → jaC pZ (aev pZ r) ⟨d, .unOp .neg t x, ty, ps, af, gd⟩ = some (.int .i64 w) := fun r d t ty x ps af gd h => by rw [hw]; exact jce (n := (v : Int)) h (by omega) (by omega)
    refine jac Tryz.func202 rfl rfl (nbl rfl) ?_
    simp only [go_sem, Tryz.ntmps202]
    repeat ((first | refine jaa rfl ?_ | refine jaj rfl ?_); (try simp only [go_sem, ls, jao, e1, e2, i0, hc1, tl, lt, e3, sb_conv, mp, jhm, sb_b2s, mk, ln, ← hμ1]); fail_if_success refine stk ?_)
    rw [(by omega : k + 86 = (k + 56 - ds.length) + ds.length + 30)]
    refine rzM (at_loop (q := μ.next) (c := 3) hl hd ds.length 0 (rzT _) (a := 0) (by rw [← bt]; exact hH) (by decide) (by simp only [go_sem]; try rfl) (by simp only [go_sem, bt]) (by simp only [go_sem, bt]) (by simp only [go_sem]; try rfl)) ?_
    simp only [go_sem]
    rintro x r m ⟨rfl, rfl, tm', rfl, z5, z6⟩
    rw [List.drop_zero, ← hvd] at z6
    simp only [go_sem]
    repeat ((first | refine jaa rfl ?_ | refine jaj rfl ?_); (try simp only [go_sem, z5, z6, i0, hc1, anf, pn]); fail_if_success refine stk ?_)
    exact jae ⟨rfl, _, by simp only [go_sem, Tryz.results202], rfl, rfl⟩
  | false =>
    have hs43 : sgn = 43 := hs.resolve_right (of_decide_eq_false hc1'.symm)
    rw [if_neg (of_decide_eq_false hc1'.symm)] at hw
    rw [rzU hs43] at hc2'
    subst hc2'
    refine jac Tryz.func202 rfl rfl (nbl rfl) ?_
    simp only [go_sem, Tryz.ntmps202]
    repeat ((first | refine jaa rfl ?_ | refine jaj rfl ?_); (try simp only [go_sem, ls, jao, e1, e2, i0, hc1, hc2, tl, lt, e3, sb_conv, mp, jhm, sb_b2s, mk, ln, ← hμ1]); fail_if_success refine stk ?_)
    rw [(by omega : k + 86 = (k + 56 - ds.length) + ds.length + 30)]
    refine rzM (at_loop (q := μ.next) (c := 3) hl hd ds.length 0 (rzT _) (a := 0) (by rw [← bt]; exact hH) (by decide) (by simp only [go_sem]; try rfl) (by simp only [go_sem, bt]) (by simp only [go_sem, bt]) (by simp only [go_sem]; try rfl)) ?_
    simp only [go_sem]
    rintro x r m ⟨rfl, rfl, tm', rfl, z5, z6⟩
    rw [List.drop_zero, ← hvd] at z6
    simp only [go_sem]
    repeat ((first | refine jaa rfl ?_ | refine jaj rfl ?_); (try simp only [go_sem, z5, z6, i0, hc1]); fail_if_success refine stk ?_)
    refine jae ?_
    refine ⟨rfl, _, ?_, rfl, rfl⟩
    simp only [go_sem, Tryz.results202]
    rw [hw]
    rfl
 have key : EndsF (aFun pZ (jai pZ X S0 (k + 100)) 166 [.string s] μ) fun v μ' => v = .tuple #[.int .i64 w, .nilIface] ∧ Grow μ μ' := by
  refine jac Tryz.func166 rfl rfl (nbl rfl) ?_
  simp only [go_sem, Tryz.ntmps166]
  repeat ((first | refine jaa rfl ?_ | refine jaj rfl ?_); (try simp only [go_sem, in1, an2, p_nn]); fail_if_success refine stk ?_)
  exact jae ⟨rfl, _, by simp only [go_sem, Tryz.results166], rfl, g1⟩
 obtain ⟨v, m, h1, rfl, h2⟩ := key
 exact ⟨m, h1, h2⟩
@[go_sem] def gg143 {X ev} := gC X ev Tryz.func143 rfl rfl
@[go_sem] def gg168 {X ev} := gC X ev Tryz.func168 rfl rfl
@[go_sem] def gg208 {X ev} := gC X ev Tryz.func208 rfl rfl
@[go_sem] def gg252 {X ev} := gC X ev Tryz.func252 rfl rfl
def decF : Nat → Nat → List Nat
 | 0, w => [48 + w % 10]
 | f + 1, w => if w < 10 then [48 + w] else decF f (w / 10) ++ [48 + w % 10]
theorem decF_eq : ∀ (f f' w : Nat), w ≤ f → w ≤ f' → decF f w = decF f' w
 | 0, 0, w, h, h' => rfl
 | 0, f' + 1, w, h, h' => by
   obtain rfl : w = 0 := by omega
   rfl
 | f + 1, 0, w, h, h' => by
   obtain rfl : w = 0 := by omega
   rfl
 | f + 1, f' + 1, w, h, h' => by
   unfold decF
   by_cases hw : w < 10
   ·rw [if_pos hw, if_pos hw]
   ·rw [if_neg hw, if_neg hw, decF_eq f f' (w / 10) (by omega) (by omega)]
def decT (w : Nat) : List Nat := decF w w
theorem jcv {w : Nat} (h : w < 10) : decT w = [48 + w] := by
 unfold decT
 cases w with
 | zero => rfl
 | succ w => unfold decF; rw [if_pos h]
theorem jdr {w : Nat} (h : ¬ w < 10) : decT w = decT (w / 10) ++ [48 + w % 10] := by
 unfold decT
 obtain ⟨f, rfl⟩ : ∃ f, w = f + 1 := ⟨w - 1, by omega⟩
 rw [decF, if_neg h, decF_eq f ((f + 1) / 10) _ (by omega) (rzN _)]
theorem jew (w : Nat) : ∀ x ∈ decT w, 48 ≤ x ∧ x ≤ 57 := by
 induction w using Nat.strongRecOn with
 | ind w ih =>
   intro x hx
   by_cases h : w < 10
   ·rw [jcv h] at hx; simp at hx; omega
   ·rw [jdr h] at hx
    rcases List.mem_append.1 hx with hx | hx
    ·exact ih _ (by omega) x hx
    ·simp at hx; omega
theorem jjm (F : Nat → Nat) : ∀ (n i : Nat), seg F i (n + 1) = seg F i n ++ [F (i + n)]
 | 0, i => rfl
 | n + 1, i => by rw [seg, jjm F n (i + 1), seg, (by omega : i + 1 + n = i + (n + 1))]; rfl
theorem seg_dec {F : Nat → Nat} : ∀ (nd w i : Nat), 1 ≤ nd → w < 10 ^ nd → (nd = 1 ∨ 10 ^ (nd - 1) ≤ w) → (∀ j, j < nd → F (i + j) = 48 + w / 10 ^ (nd - 1 - j) % 10) → seg F i nd = decT w
 | 0, w, i, h, _, _, _ => absurd h (by omega)
 | 1, w, i, _, h, _, hF => by
   have h0 := hF 0 (by omega)
   rw [show 1 - 1 - 0 = 0 from rfl, Nat.pow_zero, Nat.div_one, Nat.add_zero] at h0
   rw [jcv (by omega), seg, h0, Nat.mod_eq_of_lt (by omega)]
   rfl
 | nd + 2, w, i, _, h, h2, hF => by
   have h2 : 10 ^ (nd + 1) ≤ w := h2.resolve_left (by omega)
   have hp : 10 ≤ 10 ^ (nd + 1) := by rw [Nat.pow_succ]; exact Nat.le_mul_of_pos_left 10 (Nat.pow_pos (by decide))
   rw [jdr (by omega), jjm, seg_dec (nd + 1) (w / 10) i (by omega) (Nat.div_lt_of_lt_mul (by rw [Nat.pow_succ] at h; omega)) (by
    rcases Nat.eq_zero_or_pos nd with e | e
    ·exact .inl (by omega)
    ·refine .inr ?_
     rw [Nat.add_sub_cancel]
     rw [Nat.pow_succ] at h2
     omega) fun j hj => by
     rw [hF j (by omega), Nat.div_div_eq_div_mul, Nat.mul_comm 10, ← Nat.pow_succ, (by omega : nd + 2 - 1 - j = nd + 1 - 1 - j + 1)]]
   rw [hF (nd + 1) (by omega), show nd + 2 - 1 - (nd + 1) = 0 from by omega, Nat.pow_zero, Nat.div_one]
def jcK (n : Int) : ByteArray := strOf ((if n < 0 then [45] else []) ++ decT n.natAbs)
theorem je5 : ∀ (nd w : Nat), 1 ≤ nd → w < 10 ^ nd → (decT w).length ≤ nd
 | 0, w, h, _ => absurd h (by omega)
 | 1, w, _, h => by rw [jcv (by omega)]; exact rzN _
 | nd + 2, w, _, h => by
   by_cases hw : w < 10
   ·rw [jcv hw]; simp
   ·rw [jdr hw, rzX]
    have := je5 (nd + 1) (w / 10) (by omega) (Nat.div_lt_of_lt_mul (by rw [Nat.pow_succ] at h; omega))
    simp only [List.length_cons, List.length_nil]
    omega
theorem itoa_len {n : Int} (h1 : -1000000000000000000 < n) (h2 : n < 1000000000000000000) : (bys (jcK n)).length ≤ 20 := by
 unfold jcK
 rw [jcf, List.length_map, rzX]
 have := je5 18 n.natAbs (by decide) (by have : (10 : Nat) ^ 18 = 1000000000000000000 := (by decide); omega)
 split
 ·simp only [List.length_cons, List.length_nil]; omega
 ·simp only [List.length_nil]; omega
theorem jjQ (n : Int) : jay pZ 2 32 (.int .i64 n) = some (.int .u64 (jak .u64 n)) := by
 simp only [jay, Tryz.underlying2, Tryz.underlying32]
def zB24 : List Value := List.replicate 24 (.int .u8 0)
def obY : Ob := .cells 24 244 zB24.toArray .e 0 0 false false
set_option maxRecDepth 100000 in
@[go_sem] theorem al_24 : jb4 pZ 244 = some (obY, fun id => .pointer (some ⟨id, 0, none⟩)) := by kernel_rfl
set_option maxRecDepth 100000 in
theorem zY_all : ((List.range 24).all fun k => isZ (cellAt zB24.toArray .e k)) = true := by kernel_rfl
theorem Bv.new (μ : Mem) : Bv ⟨μ.obs.set μ.next obY, μ.next + 1⟩ μ.next 23 244 1 (fun _ => 0) := by
 have hg : (μ.obs.set μ.next obY).get μ.next = some obY := by rw [T.get_set, if_pos rfl]
 refine ⟨⟨_, _, _, _, hg⟩, fun j hj => ?_⟩
 unfold jad
 show (match jbk ((μ.obs.set μ.next obY).get μ.next) with | some (n, zero, over) => if 1 + j < n then some (cellAt zero over (1 + j)) else none | none => none) = _
 rw [hg]
 show (if 1 + j < 24 then some (cellAt zB24.toArray .e (1 + j)) else none) = _
 rw [if_pos (by omega), isZ_eq (List.all_eq_true.1 zY_all (1 + j) (List.mem_range.2 (by omega)))]
 rfl
theorem sl24 (r : Rg) (x y : Operand) {i n : Nat} (hn : n ≤ 23) (h : aev pZ r x = .pointer (some ⟨i, 0, none⟩)) (hy : aev pZ r y = .int .i64 (.ofNat (1 + n))) : jaJ pZ (aev pZ r) 244 x (some (.const (.int .i64 1))) (some y) none = some (.slice (some ⟨i, 1, none⟩) n 46) := by
 have h1 : aev pZ r (.const (.int .i64 1)) = .int .i64 (.ofNat 1) := rfl
 have t1 : Nat.ble 1 (1 + n) = true := rzP (by omega)
 have t2 : Nat.ble (1 + n) 24 = true := rzP (by omega)
 unfold jaJ
 simp only [h, Tryz.underlying244, i_u8, ja2, jbl, hy, h1, t1, t2]
 rw [show Nat.sub (1 + n) 1 = n from by show 1 + n - 1 = n; omega]
 rfl
theorem sl24' (r : Rg) (x y : Operand) {i n : Nat} (hn : n ≤ 23) (h : aev pZ r x = .pointer (some ⟨i, 0, none⟩)) (hy : aev pZ r y = .int .i64 (.ofNat (1 + n))) : jaJ pZ (aev pZ r) 244 x none (some y) none = some (.slice (some ⟨i, 0, none⟩) (1 + n) 48) := by
 have t2 : Nat.ble (1 + n) 24 = true := rzP (by omega)
 unfold jaJ
 simp only [h, Tryz.underlying244, i_u8, ja2, jbl, hy, t2]
 rfl
theorem Bv.str {μ : Mem} {i M t o a n c : Nat} {F : Nat → Nat} {ys : List Nat} (h : Bv μ i M t a F) (hn : n = ys.length) (hb : o + n ≤ a + M) (hy : ∀ k (hk : k < ys.length), jad μ i (o + k) = some (.int .u8 (.ofNat ys[k]))) : jbd pZ μ 54 9 (.slice (some ⟨i, o, none⟩) n c) = some (.string (strOf ys)) := by
 obtain ⟨⟨z, ov, fx, sh, hg⟩, _⟩ := h
 subst hn
 unfold jbd
 have e1 : Nat.ble (Nat.add o ys.length) (a + M) = true := rzP hb
 have e2 : jat z ov o ys.length = vB ys := jbe _ _ _ (jby ys) fun k hk => by
  have hk' : k < ys.length := by rw [← jby]; exact hk
  have := hy k hk'
  unfold jad at this
  rw [hg] at this
  have this : (if o + k < a + M then some (cellAt z ov (o + k)) else none) = some (Value.int .u8 (.ofNat ys[k])) := this
  rw [if_pos (by omega)] at this
  rw [Option.some.inj this]
  simp only [vB, List.getElem_map]
 simp only [Tryz.underlying54, Tryz.underlying9, Tryz.underlying5, hg, e1, e2, jey]
 rfl
abbrev digits36 : ByteArray := ⟨List.toArray [48, 49, 50, 51, 52, 53, 54, 55, 56, 57, 97, 98, 99, 100, 101, 102, 103, 104, 105, 106, 107, 108, 109, 110, 111, 112, 113, 114, 115, 116, 117, 118, 119, 120, 121, 122]⟩
theorem jhj {ρ : Operand → Value} {x y z : Operand} {s : ByteArray} {a b : Nat} {kd : IntKind} (hx : ρ x = .string s) (hy : ρ y = .int kd (.ofNat a)) (hz : ρ z = .int kd (.ofNat b)) (h1 : a ≤ b) (h2 : b ≤ (bys s).length) : jaJ pZ ρ 9 x (some y) (some z) none = some (.string ⟨((s.data.toList.drop a).take (b - a)).toArray⟩) := by
 unfold jaJ
 rw [jcx] at h2
 have e1 : Nat.ble a b = true := rzP h1
 have e2 : Nat.ble b s.data.toList.length = true := rzP h2
 simp only [hx, Tryz.underlying9, ja2, jbl, hy, hz, e1, e2]
 rfl
theorem dig36 : ∀ n, n < 10 → ((digits36.data.toList.drop n).take (n + 1 - n)).toArray = (strOf [48 + n]).data := by decide +kernel
theorem small2 : ∀ n, n < 100 → ¬ n < 10 → ((smalls.data.toList.drop (n * 2)).take (n * 2 + 2 - n * 2)).toArray = (strOf [48 + n / 10, 48 + n % 10]).data := by decide +kernel
theorem smallI_ex {n : Nat} (hn : n < 100) {X : XT} {g : Nat} {μ : Mem} (hg : 20 ≤ g) : aFun pZ (jai pZ X S0 g) 252 [.int .i64 (.ofNat n)] μ = some (.string (strOf (decT n)), μ) := by
 obtain ⟨k, rfl⟩ := gle hg
 by_cases h : n < 10
 ·have e1 : ilt (.ofNat n) 10 = true := dT (jcV _ 10 10 rfl) h
  have a1 : jak .i64 (Int.add (.ofNat n) 1) = .ofNat (n + 1) := jaT n 1 (by omega)
  have hs : ∀ r y z, aev pZ r y = .int .i64 (.ofNat n) → aev pZ r z = .int .i64 (.ofNat (n + 1)) → jaJ pZ (aev pZ r) 9 (.const (.string digits36)) (some y) (some z) none = some (.string (strOf (decT n))) := fun r y z h1 h2 => by
   rw [jhj (s := digits36) rfl h1 h2 (by omega) (by show n + 1 ≤ 36; omega), jcv h]
   exact congrArg (fun d => some (Value.string ⟨d⟩)) (dig36 n h)
  refine jau ?_
  refine jac Tryz.func252 rfl rfl (nbl rfl) ?_
  simp only [go_sem, Tryz.ntmps252]
  repeat ((first | refine jaa rfl ?_ | refine jaj rfl ?_); (try simp only [go_sem, e1, a1, hs]); fail_if_success refine stk ?_)
  exact jae ⟨rfl, _, by simp only [go_sem, Tryz.results252], rfl, rfl⟩
 ·have e1 : ilt (.ofNat n) 10 = false := dF (jcV _ 10 10 rfl) h
  have m1 : jak .i64 (Int.mul (.ofNat n) 2) = .ofNat (n * 2) := jc7 n 2 (by omega)
  have a1 : jak .i64 (Int.add (.ofNat (n * 2)) 2) = .ofNat (n * 2 + 2) := jaT _ 2 (by omega)
  have hs : ∀ r y z, aev pZ r y = .int .i64 (.ofNat (n * 2)) → aev pZ r z = .int .i64 (.ofNat (n * 2 + 2)) → jaJ pZ (aev pZ r) 9 (.const (.string smalls)) (some y) (some z) none = some (.string (strOf (decT n))) := fun r y z h1 h2 => by
   rw [jhj (s := smalls) rfl h1 h2 (by omega) (by show n * 2 + 2 ≤ 200; omega), jdr h, jcv (by omega)]
   exact congrArg (fun d => some (Value.string ⟨d⟩)) (small2 n hn h)
  refine jau ?_
  refine jac Tryz.func252 rfl rfl (nbl rfl) ?_
  simp only [go_sem, Tryz.ntmps252]
  repeat ((first | refine jaa rfl ?_ | refine jaj rfl ?_); (try simp only [go_sem, e1, m1, a1, hs]); fail_if_success refine stk ?_)
  exact jae ⟨rfl, _, by simp only [go_sem, Tryz.results252], rfl, rfl⟩
theorem jio (F : Nat → Nat) : ∀ (n i k : Nat) (h : k < (seg F i n).length), (seg F i n)[k] = F (i + k)
 | 0, i, k, h => absurd h (by rw [jbA]; omega)
 | n + 1, i, 0, h => rfl
 | n + 1, i, k + 1, h => by
   have e : seg F i (n + 1) = F i :: seg F (i + 1) n := rfl
   have := jio F n (i + 1) k (by rw [e, List.length_cons] at h; omega)
   rw [show i + (k + 1) = i + 1 + k from by omega, ← this]
   rfl
theorem pl_bo {a : Addr} {l c : Nat} (ρ : Operand → Value) (d : Option Tmp) (ty : TypeId) (x : Operand) (ps : String) (af : Array Edge) (gd : Option (Nat × Bool)) (h : ρ x = .slice (some a) l c) : jaC pZ ρ ⟨d, .convert 54 9 x, ty, ps, af, gd⟩ = none := by
 unfold jaC
 show (match jbn ρ [x] with | true => _ | false => none) = _
 have e : jbn ρ [x] = false := by
  unfold jbn
  rw [h]
  rfl
 rw [e]
theorem jkz {ρ : Operand → Value} {d : Option Tmp} {t ty : TypeId} {x : Operand} {ps : String} {af : Array Edge} {gd : Option (Nat × Bool)} {a m : Nat} (hx : ρ x = .int .u64 (.ofNat a)) (h : a + m = 18446744073709551616) (h0 : 0 < a) : jaC pZ ρ ⟨d, .unOp .neg t x, ty, ps, af, gd⟩ = some (u m) := by
 unfold jaC
 have e : pv pZ (execOp ρ ⟨d, .unOp .neg t x, ty, ps, af, gd⟩) = some (.value (u m)) := by
  simp only [execOp, hx]
  show some (Next.value (.int .u64 (IntKind.u64.wrap (0 - (a : Int))))) = _
  have : IntKind.u64.wrap (0 - (a : Int)) = .ofNat (W m) := by
   rw [← jbq, wrap_u64, W_of (by omega)]
   exact congrArg Int.ofNat (by omega)
  rw [this]
 simp only [opsOf, jbn, hx, jaw, e]
theorem ix24 (r : Rg) (x : Operand) {i : Nat} (h : aev pZ r x = .pointer (some ⟨i, 0, none⟩)) : jal pZ (aev pZ r) 244 x (.const (.int .i64 0)) = some (.pointer (some ⟨i, 0, none⟩)) := by
 have h0 : aev pZ r (.const (.int .i64 0)) = .int .i64 (.ofNat 0) := rfl
 unfold jal
 simp only [h, h0, Tryz.underlying244, aIdx, i_u8]
 rfl
theorem fint_ex {n : Int} (h1 : -1000000000000000000 < n) (h2 : n < 1000000000000000000) {X : XT} {g : Nat} {μ : Mem} (hP : LayP μ) (hg : 500 ≤ g) :
  ∃ μ', aFun pZ (jai pZ X S0 g) 208 [.int .i64 n, .int .i64 10] μ = some (.string (jcK n), μ') ∧ Grow μ μ' := by
 obtain ⟨k, rfl⟩ := gle hg
 have e10 : ieq 10 10 = true := rfl
 by_cases hs : 0 ≤ n ∧ n < 100
 ·obtain ⟨m, rfl⟩ : ∃ m : Nat, n = .ofNat m := ⟨n.toNat, by show n = ((n.toNat : Nat) : Int); omega⟩
  have hm : m < 100 := by have h : (m : Int) < 100 := hs.2; omega
  have e1 : ilt (.ofNat m) 0 = false := dF (jcV _ 0 0 rfl) (by omega)
  have e2 : ilt (.ofNat m) 100 = true := dT (jcV _ 100 100 rfl) hm
  have r1 : ∀ μ', aFun pZ (jai pZ X S0 (k + 491)) 252 [.int .i64 (.ofNat m)] μ' = some (.string (strOf (decT m)), μ') := fun μ' => smallI_ex hm (by omega)
  have hI : jcK (.ofNat m) = strOf (decT m) := by
   unfold jcK
   rw [if_neg (by show ¬ ((m : Int) < 0); omega)]
   rfl
  rw [hI]
  refine ⟨μ, ?_, Grow.refl _⟩
  refine jau ?_
  refine jac Tryz.func208 rfl rfl (nbl rfl) ?_
  simp only [go_sem, Tryz.ntmps208]
  repeat ((first | refine jaa rfl ?_ | refine jaj rfl ?_); (try simp only [go_sem, e10, e1, e2, r1]); fail_if_success refine stk ?_)
  exact jae ⟨rfl, _, by simp only [go_sem, Tryz.results208], rfl, rfl⟩
 obtain ⟨m, hm⟩ := exq (n.natAbs : Nat)
 have hm0 : 0 < m := by omega
 have hml : m < 1000000000000000000 := by omega
 have hW : W m = m := W_of (by omega)
 obtain ⟨nd, hnd, ⟨hlt, hge⟩, hn⟩ := ndig_ex m
 rw [hW] at hlt hge
 obtain ⟨hnd1, hnd2⟩ := hge hm0
 obtain ⟨G, hD, hfb⟩ := fb10_ex m nd (by omega) (by rw [hW]; exact hlt)
 rw [hW] at hD
 have hseg : seg (rg 0 nd G fun _ => 0) 0 nd = decT m := seg_dec nd m 0 hnd1 hlt (.inr hnd2) fun j hj => by
  rw [rzT]
  unfold rg
  rw [if_pos ⟨rzY _, hj⟩]
  exact hD j (rzY _) hj
 have g1 := jbc μ obY
 have hB := Bv.new μ
 obtain ⟨μ1, hμ1⟩ := exq (⟨μ.obs.set μ.next obY, μ.next + 1⟩ : Mem)
 rw [← hμ1] at g1 hB
 obtain ⟨μ2, r2, B2, O2⟩ := hfb (X := X) (g := k + 489) (c := 46) (show nd ≤ 23 by omega) hB (by omega)
 have r1 := hn (X := X) (g := k + 490) (hP.grow g1) (by omega)
 have a1 : jak .i64 (Int.add 1 (.ofNat nd)) = .ofNat (1 + nd) := jaT 1 nd (by omega)
 have s1 : ∀ r x y, aev pZ r x = .pointer (some ⟨μ.next, 0, none⟩) → aev pZ r y = .int .i64 (.ofNat (1 + nd)) → jaJ pZ (aev pZ r) 244 x (some (.const (.int .i64 1))) (some y) none = some (.slice (some ⟨μ.next, 1, none⟩) nd 46) := fun r x y h hy => sl24 r x y (by omega) h hy
 have s2 : ∀ r x y, aev pZ r x = .pointer (some ⟨μ.next, 0, none⟩) → aev pZ r y = .int .i64 (.ofNat (1 + nd)) → jaJ pZ (aev pZ r) 244 x none (some y) none = some (.slice (some ⟨μ.next, 0, none⟩) (1 + nd) 48) := fun r x y h hy => sl24' r x y (by omega) h hy
 have G2 : Grow μ μ2 := ⟨rzS g1.1 O2.1, fun j hj => (O2.2 j (rzO hj g1.1) (by omega)).trans (g1.2 j hj)⟩
 by_cases hneg : n < 0
 ·have e1 : ilt n 0 = true := dT (jfo _ _) hneg
  obtain ⟨a, ha⟩ : ∃ a : Nat, a + m = 18446744073709551616 := ⟨18446744073709551616 - m, by omega⟩
  have q1 : jak .u64 n = .ofNat a := by
   rw [wrap_u64]
   exact congrArg Int.ofNat (by omega)
  have pn : ∀ (r : Rg) (d : Option Tmp) (t ty : TypeId) (x : Operand) (ps : String) (af : Array Edge) (gd : Option (Nat × Bool)), aev pZ r x = .int .u64 (.ofNat a) → jaC pZ (aev pZ r) ⟨d, .unOp .neg t x, ty, ps, af, gd⟩ = some (u m) := fun r d t ty x ps af gd h => jkz h ha (by omega)
  have hix := fun (r : Rg) (x : Operand) (h : aev pZ r x = .pointer (some ⟨μ.next, 0, none⟩)) => ix24 r x h
  have hst : jbu pZ μ2 5 (.pointer (some ⟨μ.next, 0, none⟩)) (.int .u8 45) = some (undef, putL μ2 μ.next 0 [.int .u8 45]) := jaW i_u8 rfl rfl B2.blk (by decide)
  obtain ⟨μ3, hμ3⟩ := exq (putL μ2 μ.next 0 [.int .u8 45] : Mem)
  rw [← hμ3] at hst
  have G3 : Grow μ μ3 := by rw [hμ3]; exact G2.put_new (rzN _)
  have B3 : Bv μ3 μ.next 23 244 1 (rg 0 nd G fun _ => 0) := by
   rw [hμ3]
   refine ⟨B2.blk.put _ _, fun j hj => ?_⟩
   rw [jc0 (k := 1 + j) (v := .int .u8 45) B2.blk (by decide), if_neg (by omega)]
   exact B2.d j hj
  have c0 : jad μ3 μ.next 0 = some (.int .u8 45) := by
   rw [hμ3, jc0 (k := 0) (v := .int .u8 45) B2.blk (by decide), if_pos rfl]
  have hstr := B3.str (ys := 45 :: seg (rg 0 nd G fun _ => 0) 0 nd) (o := 0) (n := 1 + nd) (c := 48) (by rw [List.length_cons, jbA]; omega) (by omega) fun k hk => by
   cases k with
   | zero => exact c0
   | succ k =>
     rw [List.getElem_cons_succ, jio, rzT, rzT, Nat.add_comm k 1]
     exact B3.d k (by rw [List.length_cons, jbA] at hk; omega)
  rw [hseg] at hstr
  have hI : jcK n = strOf (45 :: decT m) := by
   unfold jcK
   rw [if_pos hneg, ← hm]
   rfl
  rw [hI]
  have plb := fun (r : Rg) (d : Option Tmp) (ty : TypeId) (x : Operand) (ps : String) (af : Array Edge) (gd : Option (Nat × Bool)) (h : aev pZ r x = .slice (some ⟨μ.next, 0, none⟩) (1 + nd) 48) => pl_bo (aev pZ r) d ty x ps af gd h
  refine ⟨μ3, ?_, G3⟩
  refine jau ?_
  refine jac Tryz.func208 rfl rfl (nbl rfl) ?_
  simp only [go_sem, Tryz.ntmps208]
  repeat ((first | refine jaa rfl ?_ | refine jaj rfl ?_); (try simp only [go_sem, e10, e1, ← hμ1, jjQ, q1, anf, pn, r1, a1, s1, r2, hix, hst, s2, cv_b1, cv_b2, plb, hstr]); fail_if_success refine stk ?_)
  exact jae ⟨rfl, _, by simp only [go_sem, Tryz.results208], rfl, rfl⟩
 ·obtain rfl : n = .ofNat m := by show n = (m : Int); omega
  have e1 : ilt (.ofNat m) 0 = false := dF (jcV _ 0 0 rfl) (by omega)
  have e2 : ilt (.ofNat m) 100 = false := dF (jcV _ 100 100 rfl) (by have : ¬ ((0 : Int) ≤ m ∧ (m : Int) < 100) := hs; omega)
  have q1 := jcn m
  have hstr := B2.str (ys := seg (rg 0 nd G fun _ => 0) 0 nd) (o := 1) (n := nd) (c := 46) (by rw [jbA]) (by omega) fun k hk => by
   rw [jio, rzT]
   exact B2.d k (by rw [jbA] at hk; omega)
  rw [hseg] at hstr
  have hI : jcK (.ofNat m) = strOf (decT m) := by
   unfold jcK
   rw [if_neg hneg, ← hm]
   rfl
  rw [hI]
  have plb := fun (r : Rg) (d : Option Tmp) (ty : TypeId) (x : Operand) (ps : String) (af : Array Edge) (gd : Option (Nat × Bool)) (h : aev pZ r x = .slice (some ⟨μ.next, 1, none⟩) nd 46) => pl_bo (aev pZ r) d ty x ps af gd h
  refine ⟨μ2, ?_, G2⟩
  refine jau ?_
  refine jac Tryz.func208 rfl rfl (nbl rfl) ?_
  simp only [go_sem, Tryz.ntmps208]
  repeat ((first | refine jaa rfl ?_ | refine jaj rfl ?_); (try simp only [go_sem, e10, e1, e2, ← hμ1, jjQ, q1, r1, a1, s1, r2, cv_b1, cv_b2, plb, hstr]); fail_if_success refine stk ?_)
  exact jae ⟨rfl, _, by simp only [go_sem, Tryz.results208], rfl, rfl⟩
theorem itoa_ex {n : Int} (h1 : -1000000000000000000 < n) (h2 : n < 1000000000000000000) {X : XT} {g : Nat} {μ : Mem} (hP : LayP μ) (hg : 520 ≤ g) :
  ∃ μ', aFun pZ (jai pZ X S0 g) 143 [.int .i64 n] μ = some (.string (jcK n), μ') ∧ Grow μ μ' := by
 obtain ⟨k, rfl⟩ := gle hg
 obtain ⟨μ', r1, g1⟩ := fint_ex h1 h2 (X := X) (g := k + 514) hP (by omega)
 refine ⟨μ', ?_, g1⟩
 have r2 : aFun pZ (jai pZ X S0 (k + 517)) 168 [.int .i64 n] μ = some (.string (jcK n), μ') := by
  refine jau ?_
  refine jac Tryz.func168 rfl rfl (nbl rfl) ?_
  simp only [go_sem, Tryz.ntmps168]
  repeat ((first | refine jaa rfl ?_ | refine jaj rfl ?_); (try simp only [go_sem, r1]); fail_if_success refine stk ?_)
  exact jae ⟨rfl, _, by simp only [go_sem, Tryz.results168], rfl, rfl⟩
 refine jau ?_
 refine jac Tryz.func143 rfl rfl (nbl rfl) ?_
 simp only [go_sem, Tryz.ntmps143]
 repeat ((first | refine jaa rfl ?_ | refine jaj rfl ?_); (try simp only [go_sem, r2]); fail_if_success refine stk ?_)
 exact jae ⟨rfl, _, by simp only [go_sem, Tryz.results143], rfl, rfl⟩
@[go_sem] def gg141 {X ev} := gC X ev Tryz.func141 rfl rfl
def AbsOk (f a : Nat) : Prop := ∀ {X : XT} {g : Nat} {μ : Mem}, jcB X → jbC X → 20 ≤ g → aFun pZ (jai pZ X S0 g) 72 [.float .f64 f] μ = some (.float .f64 a, μ)
theorem ji1 (f : Nat) : ∃ a, f < 18446744073709551616 → AbsOk f a := by
 by_cases hf : f < 18446744073709551616
 ·obtain ⟨a, ha⟩ := abs_ex hf
  exact ⟨a, fun _ => ha⟩
 ·exact ⟨0, fun h => absurd h hf⟩
def absF (f : Nat) : Nat := Classical.choose (ji1 f)
theorem ffT_ex (f : Nat) : ∃ l, f < 18446744073709551616 → Fin1 f → l.length ≤ 9000 ∧ FfOk f 102 l := by
 by_cases hf : f < 18446744073709551616 ∧ Fin1 f
 ·obtain ⟨l, h1, h2⟩ := ffF_ex f hf.1 hf.2
  exact ⟨l, fun _ _ => ⟨h1, h2⟩⟩
 ·exact ⟨[], fun h g => absurd ⟨h, g⟩ hf⟩
def ffT (f : Nat) : List Nat := Classical.choose (ffT_ex f)
def ExpP (l : List Nat) (p : Nat) (n : Int) : Prop := ∃ (front : List Nat) (sgn en : Nat), l = front ++ [101, sgn] ++ edig en ∧ (sgn = 43 ∨ (sgn = 45 ∧ 1 ≤ en)) ∧ en ≤ 901 ∧ (∀ x ∈ front, x ≤ 57) ∧ front.length ≤ 100 ∧ p = front.length ∧ n = if sgn = 45 then -(en : Int) else (en : Int)
theorem jjN (f : Nat) : ∃ (l : List Nat) (p : Nat) (n : Int), f < 18446744073709551616 → Fin1 f → ExpP l p n ∧ FfOk f 101 l := by
 by_cases hf : f < 18446744073709551616 ∧ Fin1 f
 ·obtain ⟨l, ⟨front, ds, sgn, en, h1, h2, h3, h4, h5, h6⟩, hok⟩ := ffE_ex f hf.1 hf.2
  subst h4
  exact ⟨l, _, _, fun _ _ => ⟨⟨front, sgn, en, h1, h2, h3, h5, h6, rfl, rfl⟩, hok⟩⟩
 ·exact ⟨[], 0, 0, fun h g => absurd ⟨h, g⟩ hf⟩
def feT (f : Nat) : List Nat := Classical.choose (jjN f)
def feP (f : Nat) : Nat := Classical.choose (Classical.choose_spec (jjN f))
def feN (f : Nat) : Int := Classical.choose (Classical.choose_spec (Classical.choose_spec (jjN f)))
theorem fe_spec (f : Nat) (hf : f < 18446744073709551616) (h : Fin1 f) : ExpP (feT f) (feP f) (feN f) ∧ FfOk f 101 (feT f) := Classical.choose_spec (Classical.choose_spec (Classical.choose_spec (jjN f))) hf h
def catB (a b : ByteArray) : ByteArray := ⟨(a.data.toList ++ b.data.toList).toArray⟩
theorem jdc (a b : ByteArray) : (bys (catB a b)).length = (bys a).length + (bys b).length := jfy a b
def ptB (a : Nat) : Bool := feq a 0 || (fge a 4562254508917369340 && flt a 4921056587992461136)
def eT (f : Nat) : ByteArray := catB (catB (ptT (jbV (strOf (feT f)) (feP f))) ⟨List.toArray [101]⟩) (jcK (feN f))
def floT (f : Nat) : ByteArray := by
 classical exact if jco f ≠ ⟨#[]⟩ then jco f else if ptB (absF f) = true then ptT (strOf (ffT f)) else eT f
theorem nameT_len (f : Nat) : (bys (jco f)).length ≤ 6 := by
 unfold jco nameB3
 split
 ·decide
 ·split
  ·decide
  ·split
   ·decide
   ·decide
theorem dval_edig : ∀ n, n ≤ 901 → dval 0 (edig n) = n := by decide +kernel
theorem bys_id {l : List Nat} (h : ∀ x ∈ l, x < 256) : bys (strOf l) = l := by
 rw [jcf]
 exact (List.map_congr_left fun x hx => Nat.mod_eq_of_lt (h x hx)).trans (List.map_id _)
theorem jga {f : Nat} (hf : f < 18446744073709551616) {X : XT} {g : Nat} {μ : Mem} (hX : jcB X) (hX2 : jbC X) (hX3 : jcA X) (hI : IxOk X) (hL : Lay μ) (hP : LayP μ) (hg : 10000 ≤ g) :
  (bys (floT f)).length ≤ 10000 ∧ ∃ μ', aFun pZ (jai pZ X S0 g) 141 [.float .f64 f] μ = some (.string (floT f), μ') ∧ Grow μ μ' := by
 obtain ⟨k, rfl⟩ := gle hg
 have r1 := fname_ex f (X := X) (g := k + 9996) (μ := μ) (by omega)
 have hs := str_eq (jco f) ⟨#[]⟩
 unfold floT
 by_cases hn : jco f = ⟨#[]⟩
 ·rw [rzU hn] at hs
  rw [if_neg (fun h => h hn)]
  have hfin := fin_name hf hn
  have hs : aStr .neq (jco f) ⟨#[]⟩ = some (.bool false) := by rw [hn]; rfl
  have ra := Classical.choose_spec (ji1 f) hf (X := X) (g := k + 9995) (μ := μ) hX hX2 (by omega)
  obtain ⟨a, ha⟩ := exq (absF f)
  have ra : aFun pZ (jai pZ X S0 (k + 9995)) 72 [.float .f64 f] μ = some (.float .f64 a, μ) := by rw [ha]; exact ra
  rw [← ha]
  obtain ⟨t1, ht1⟩ := eqx (feq a 0)
  obtain ⟨t2, ht2⟩ := eqx (fge a 4562254508917369340)
  obtain ⟨t3, ht3⟩ := eqx (flt a 4921056587992461136)
  have pf1 : ∀ (r : Rg) (d : Option Tmp) (t yt ty : TypeId) (x : Operand) (ps : String) (af : Array Edge) (gd : Option (Nat × Bool)), aev pZ r x = .float .f64 a → jaC pZ (aev pZ r) ⟨d, .binOp .eql t x (.const (.float .f64 0)) yt, ty, ps, af, gd⟩ = some (.bool t1) := fun r d t yt ty x ps af gd h => by rw [← ht1]; exact jhy h rfl
  have pf2 : ∀ (r : Rg) (d : Option Tmp) (t yt ty : TypeId) (x : Operand) (ps : String) (af : Array Edge) (gd : Option (Nat × Bool)), aev pZ r x = .float .f64 a → jaC pZ (aev pZ r) ⟨d, .binOp .geq t x (.const (.float .f64 4562254508917369340)) yt, ty, ps, af, gd⟩ = some (.bool t2) := fun r d t yt ty x ps af gd h => by rw [← ht2]; exact jhx h rfl
  have pf3 : ∀ (r : Rg) (d : Option Tmp) (t yt ty : TypeId) (x : Operand) (ps : String) (af : Array Edge) (gd : Option (Nat × Bool)), aev pZ r x = .float .f64 a → jaC pZ (aev pZ r) ⟨d, .binOp .lss t x (.const (.float .f64 4921056587992461136)) yt, ty, ps, af, gd⟩ = some (.bool t3) := fun r d t yt ty x ps af gd h => by rw [← ht3]; exact jhv h rfl
  have hpb : ptB a = (t1 || (t2 && t3)) := by unfold ptB; rw [ht1, ht2, ht3]
  rw [hpb]
  obtain ⟨lF, hF⟩ := Classical.choose_spec (ffT_ex f) hf hfin
  have lF : (ffT f).length ≤ 9000 := lF
  have hF : FfOk f 102 (ffT f) := hF
  obtain ⟨⟨front, sgn, en, he1, he2, he3, he4, he5, hp, hnn⟩, hE⟩ := fe_spec f hf hfin
  have wayF : (bys (ptT (strOf (ffT f)))).length ≤ 10000 ∧ ∃ m1, aFun pZ (jai pZ X S0 (k + 9992)) 73 [.float .f64 f, .int .u8 102, .int .i64 (-1), .int .i64 64] μ = some (.string (strOf (ffT f)), m1) ∧ aFun pZ (jai pZ X S0 (k + 9992)) 164 [.string (strOf (ffT f))] m1 = some (.string (ptT (strOf (ffT f))), m1) ∧ Grow μ m1 := by
   have ll : (bys (strOf (ffT f))).length ≤ 9000 := by rw [jcf, List.length_map]; exact lF
   obtain ⟨m1, q1, G1⟩ := hF (X := X) (g := k + 9992) (μ := μ) hX3 hL hP (by omega)
   exact ⟨rzS (jir _) (by omega), m1, q1, jjt (by omega) hI (by omega), G1⟩
  obtain ⟨l1, m1, q1, q2, G1⟩ := wayF
  obtain ⟨ed1, ed2, ed3⟩ := edig_p en he3
  have hsg : sgn < 256 := by omega
  obtain ⟨s, hs0⟩ := exq (strOf (feT f))
  have hb : bys s = front ++ 101 :: (sgn :: edig en) := by
   rw [hs0, he1, bys_id]
   ·simp
   ·intro x hx
    simp only [List.mem_append, List.mem_cons, List.not_mem_nil, or_false] at hx
    rcases hx with (hx | rfl | rfl) | hx
    ·have := he4 x hx; omega
    ·decide
    ·exact hsg
    ·have := (ed3 x hx).2; omega
  have lb : (bys s).length = front.length + 2 + (edig en).length := by rw [hb]; simp; omega
  have hidx : idxB s 101 = .ofNat front.length := jhI hb fun x hx => by have := he4 x hx; omega
  obtain ⟨h1, hh1⟩ := exq (jbV s (feP f))
  have lh1 : (bys h1).length ≤ 100 := by rw [hh1, jjT, List.length_take, hp]; omega
  obtain ⟨t, ht⟩ := exq (jch s (feP f + 1))
  have bt : bys t = sgn :: edig en := by
   rw [ht, jdB, hb, hp, show front.length + 1 = (front ++ [101]).length from by simp, show front ++ 101 :: (sgn :: edig en) = (front ++ [101]) ++ (sgn :: edig en) from by simp]
   exact List.drop_left
  have hdv := dval_edig en he3
  obtain ⟨n, hn0⟩ := exq (feN f)
  have hnr : -901 ≤ n ∧ n ≤ 901 := by rw [hn0, hnn]; split <;> omega
  have lI := itoa_len (n := n) (by omega) (by omega)
  have lpt := jir h1
  obtain ⟨c1, hc1⟩ := exq (catB (ptT h1) ⟨List.toArray [101]⟩)
  have lc1 : (bys c1).length = (bys (ptT h1)).length + 1 := by rw [hc1, jdc]; rfl
  have ac1 : aStr .add (ptT h1) ⟨List.toArray [101]⟩ = some (.string c1) := by rw [hc1]; exact jc2 (by show _ + 1 < _; omega)
  obtain ⟨c2, hc2⟩ := exq (catB c1 (jcK n))
  have lc2 : (bys c2).length = (bys c1).length + (bys (jcK n)).length := by rw [hc2, jdc]
  have ac2 : aStr .add c1 (jcK n) = some (.string c2) := by rw [hc2]; exact jc2 (by omega)
  have heT : eT f = c2 := by unfold eT; rw [hc2, hc1, hh1, hs0, hn0]
  obtain ⟨m2, p1, K1⟩ := hE (X := X) (g := k + 9995) (μ := μ) hX3 hL hP (by omega)
  rw [← hs0] at p1
  obtain ⟨m3, p2, K2⟩ := cutE_ex (s := s) (p := feP f) (by omega) (by rw [hp]; omega) (by omega) (by rw [hp]; exact hidx) (X := X) (g := k + 9995) (μ := m2) hI (by omega)
  rw [← hh1, ← ht] at p2
  obtain ⟨m4, p3, K3⟩ := atoi_ex (s := t) bt (he2.imp id And.left) (by omega) ed2 ed3 (X := X) (g := k + 9994) (μ := m3) (by omega)
  rw [hdv, ← hnn, ← hn0] at p3
  have p4 := jjt (s := h1) (by omega) (X := X) (g := k + 9993) (μ := m4) hI (by omega)
  have K13 := (K1.trans K2).trans K3
  obtain ⟨m5, p5, K4⟩ := itoa_ex (n := n) (by omega) (by omega) (X := X) (g := k + 9993) (μ := m4) (hP.grow K13) (by omega)
  cases t1 with
  | true =>
    rw [if_pos (show (true || (t2 && t3)) = true from rfl)]
    refine ⟨l1, m1, ?_, G1⟩
    refine jau ?_
    refine jac Tryz.func141 rfl rfl (nbl rfl) ?_
    simp only [go_sem, Tryz.ntmps141]
    repeat ((first | refine jaa rfl ?_ | refine jaj rfl ?_); (try simp only [go_sem, r1, hs, ra, anf, pf1, q1, q2]); fail_if_success refine stk ?_)
    exact jae ⟨rfl, _, by simp only [go_sem, Tryz.results141], rfl, rfl⟩
  | false =>
    cases t2 with
    | true =>
      cases t3 with
      | true =>
        rw [if_pos (show (false || (true && true)) = true from rfl)]
        refine ⟨l1, m1, ?_, G1⟩
        refine jau ?_
        refine jac Tryz.func141 rfl rfl (nbl rfl) ?_
        simp only [go_sem, Tryz.ntmps141]
        repeat ((first | refine jaa rfl ?_ | refine jaj rfl ?_); (try simp only [go_sem, r1, hs, ra, anf, pf1, pf2, pf3, q1, q2]); fail_if_success refine stk ?_)
        exact jae ⟨rfl, _, by simp only [go_sem, Tryz.results141], rfl, rfl⟩
      | false =>
        rw [if_neg (show ¬ (false || (true && false)) = true from by decide), heT]
        refine ⟨by omega, m5, ?_, K13.trans K4⟩
        refine jau ?_
        refine jac Tryz.func141 rfl rfl (nbl rfl) ?_
        simp only [go_sem, Tryz.ntmps141]
        repeat ((first | refine jaa rfl ?_ | refine jaj rfl ?_); (try simp only [go_sem, r1, hs, ra, anf, pf1, pf2, pf3, p1, p2, p3, p4, ac1, p5, ac2]); fail_if_success refine stk ?_)
        exact jae ⟨rfl, _, by simp only [go_sem, Tryz.results141], rfl, rfl⟩
    | false =>
      rw [if_neg (show ¬ (false || (false && t3)) = true from fun h => by cases h), heT]
      refine ⟨by omega, m5, ?_, K13.trans K4⟩
      refine jau ?_
      refine jac Tryz.func141 rfl rfl (nbl rfl) ?_
      simp only [go_sem, Tryz.ntmps141]
      repeat ((first | refine jaa rfl ?_ | refine jaj rfl ?_); (try simp only [go_sem, r1, hs, ra, anf, pf1, pf2, p1, p2, p3, p4, ac1, p5, ac2]); fail_if_success refine stk ?_)
      exact jae ⟨rfl, _, by simp only [go_sem, Tryz.results141], rfl, rfl⟩
 ·rw [if_pos hn]
  have hs : aStr .neq (jco f) ⟨#[]⟩ = some (.bool true) := by
   unfold aStr
   rw [jjS, rzV hn]
   rfl
  have ln := nameT_len f
  refine ⟨by omega, μ, ?_, Grow.refl _⟩
  refine jau ?_
  refine jac Tryz.func141 rfl rfl (nbl rfl) ?_
  simp only [go_sem, Tryz.ntmps141]
  repeat ((first | refine jaa rfl ?_ | refine jaj rfl ?_); (try simp only [go_sem, r1, hs]); fail_if_success refine stk ?_)
  exact jae ⟨rfl, _, by simp only [go_sem, Tryz.results141], rfl, rfl⟩
end
end Go.Proofs.YtdmfakpngnlokaaGreatDoor.nu
