/-
  distafflaw18.ValueNums, part P: its walk and its law. No conditions.
-/
import Derived.Test.YtdmfakpngnlokaaGreatDoorEvSk
import Derived.Test.YtdmfakpngnlokaaGreatDoorRows
import Derived.Test.YtdmfakpngnlokaaGreatDoorDwO
import Derived.LaidLaws
import GoSem.PinnedTables
set_option linter.all false
set_option maxRecDepth 20000
set_option maxHeartbeats 8000000
namespace Go.Proofs.YtdmfakpngnlokaaGreatDoor.nu
open YtdmfakpngnlokaaGreatDoor.Ev
noncomputable section
def rzN := @Nat.le_refl
def rzO := @Nat.lt_of_lt_of_le
def rzP := @Nat.ble_eq_true_of_le
def rzQ := @Nat.lt_succ_self
def rzS := @Nat.le_trans
def rzT := @Nat.zero_add
def rzU := @decide_eq_true
def rzV := @decide_eq_false
def rzW := @Nat.succ_pos
def rzX := @List.length_append
def rzY := @Nat.zero_le
def rzM {x : Option (Ax × Rg × Mem)} {Q R : Ax → Rg → Mem → Prop} := @EndsC.mono x Q R
theorem gle {m n : Nat} (h : m ≤ n) : ∃ k, n = k + m := Nat.exists_eq_add_of_le' h
theorem nbl {a b : Nat} (h : Nat.ble a b = true) : a ≤ b := rzE h
attribute [go_sem] Nat.reduceLT Nat.reduceAdd Nat.reduceEqDiff reduceIte reduceCtorEq run1 run2 wanted jcp jbI jcI aRes T.lay aOne aP aR aA aT jb2 jbz aev jaq jaN jbX jaw jbj jb1 aBin aInt Addr.add rzT jaB if_true jag if_false decide_true decide_false Bool.not_true Bool.not_false beq_self_eq_true jge jgf jfQ List.map_cons List.map_nil List.nil_append List.append_nil List.getElem?_cons_zero List.getElem?_cons_succ
section
variable {P : Program} {X : XT} {S : List (FuncId × LK)}
noncomputable abbrev pZ : Program := Tryz.prog
noncomputable def inA (k : Nat) (P : Program) (X : XT) (S : List (FuncId × LK)) : Code → Option (Code × ((Ax → Rg → Mem → Prop) → Ax → Rg → Mem → Prop))
 | .seq a b => some (a, jik k P X S b)
 | .block id c => some (c, jbI id)
 | _ => none
theorem code_in {k : Nat} {c c' : Code} {f : (Ax → Rg → Mem → Prop) → Ax → Rg → Mem → Prop} {r : Rg} {μ : Mem} {Q : Ax → Rg → Mem → Prop} (hx : inA k P X S c = some (c', f)) (h : EndsC (jai P X S k c' r μ) (f Q)) : EndsC (jai P X S (k + 1) c r μ) Q := by
 unfold inA at hx
 split at hx
 ·cases hx; exact jaf h
 ·cases hx; exact jaR h
 ·cases hx
theorem exq {α : Sort _} (a : α) : ∃ b, b = a := ⟨a, rfl⟩
theorem eqx {α : Sort _} (a : α) : ∃ b, a = b := ⟨a, rfl⟩
theorem dT {b : Bool} {p : Prop} [Decidable p] (h : b = decide p) (hp : p) : b = true := h.trans (rzU hp)
theorem dF {b : Bool} {p : Prop} [Decidable p] (h : b = decide p) (hp : ¬ p) : b = false := h.trans (rzV hp)
def IfC (v : Value) (p q : Prop) : Prop := (v = .bool true ∧ p) ∨ (v = .bool false ∧ q)
theorem ifC_congr {v w : Value} {p q : Prop} (h : v = w) : IfC v p q = IfC w p q := by rw [h]
theorem ifC_true {p q : Prop} : IfC (.bool true) p q = p := propext ⟨fun h => h.elim And.right (fun h => nomatch h.1), fun h => .inl ⟨rfl, h⟩⟩
theorem ifC_false {p q : Prop} : IfC (.bool false) p q = q := propext ⟨fun h => h.elim (fun h => nomatch h.1) And.right, fun h => .inr ⟨rfl, h⟩⟩
attribute [congr] ifC_congr
attribute [go_sem] ifC_true ifC_false undef jbE Nat.add_eq
def StC (w : Option Bool) (x : Option (Value × Mem)) (f : Prop) (k : Value → Mem → Prop) : Prop := (w = some false ∧ f) ∨ (w = some true ∧ ∃ v μ', x = some (v, μ') ∧ k v μ')
def RnC (x : Option (Value × Mem)) (k : Value → Mem → Prop) : Prop := ∃ v μ', x = some (v, μ') ∧ k v μ'
def PtC (x : Option Rg) (k : Rg → Prop) : Prop := ∃ r, x = some r ∧ k r
theorem stC_congr {w w' : Option Bool} {x : Option (Value × Mem)} {f : Prop} {k : Value → Mem → Prop} (h : w = w') : StC w x f k = StC w' x f k := by rw [h]
theorem rnC_congr {x x' : Option (Value × Mem)} {k : Value → Mem → Prop} (h : x = x') : RnC x k = RnC x' k := by rw [h]
theorem ptC_congr {x x' : Option Rg} {k : Rg → Prop} (h : x = x') : PtC x k = PtC x' k := by rw [h]
theorem stC_false {x : Option (Value × Mem)} {f : Prop} {k : Value → Mem → Prop} : StC (some false) x f k = f := propext ⟨fun h => h.elim And.right (fun h => nomatch h.1), fun h => .inl ⟨rfl, h⟩⟩
theorem stC_true {x : Option (Value × Mem)} {f : Prop} {k : Value → Mem → Prop} : StC (some true) x f k = RnC x k := propext ⟨fun h => h.elim (fun h => nomatch h.1) And.right, fun h => .inr ⟨rfl, h⟩⟩
theorem rnC_some {v : Value} {μ : Mem} {k : Value → Mem → Prop} : RnC (some (v, μ)) k = k v μ := propext ⟨fun ⟨_, _, h1, h2⟩ => by cases h1; exact h2, fun h => ⟨_, _, rfl, h⟩⟩
theorem ptC_some {r : Rg} {k : Rg → Prop} : PtC (some r) k = k r := propext ⟨fun ⟨_, h1, h2⟩ => by cases h1; exact h2, fun h => ⟨_, rfl, h⟩⟩
attribute [congr] stC_congr rnC_congr ptC_congr
attribute [go_sem] stC_false stC_true rnC_some ptC_some
theorem nil_b {P : Program} {t : TypeId} {p q : Bool} : aNil P t (.bool p) (.bool q) = false := rfl
theorem nil_f {P : Program} {t : TypeId} {k l : FloatKind} {p q : Nat} : aNil P t (.float k p) (.float l q) = false := rfl
theorem ptr_b {P : Program} {μ : Mem} {t : TypeId} {p q : Bool} : jgk P μ t (.bool p) (.bool q) = none := rfl
theorem ptr_f {P : Program} {μ : Mem} {t : TypeId} {k l : FloatKind} {p q : Nat} : jgk P μ t (.float k p) (.float l q) = none := rfl
attribute [go_sem] nil_b nil_f ptr_b ptr_f
class Stk (p : Prop) : Prop where
instance {v : Value} {p q : Prop} : Stk (IfC v p q) := ⟨⟩
instance {w : Option Bool} {x : Option (Value × Mem)} {f : Prop} {k : Value → Mem → Prop} : Stk (StC w x f k) := ⟨⟩
instance {x : Option (Value × Mem)} {k : Value → Mem → Prop} : Stk (RnC x k) := ⟨⟩
instance {x : Option Rg} {k : Rg → Prop} : Stk (PtC x k) := ⟨⟩
theorem stk {p : Prop} [Stk p] (h : p) : p := h
section
variable {P : Program} {X F : XT} {R : NT} {gs : List (Oper × Option (Nat × Bool))} {r : Rg} {μ : Mem} {Q : Rg → Mem → Prop}
def E2 (P : Program) (X F : XT) (R : NT) (gs : List (Oper × Option (Nat × Bool))) (r : Rg) (μ : Mem) (Q : Rg → Mem → Prop) : Prop := Go.Proofs.YtdmfakpngnlokaaGreatDoor.Ev.Ends (run2 P X F R gs r μ) Q
theorem e2_nil : E2 P X F R [] r μ Q = Q r μ := propext ⟨fun ⟨_, _, h1, h2⟩ => by cases h1; exact h2, fun h => ⟨r, μ, rfl, h⟩⟩
theorem e2_congr : E2 P X F R gs r μ Q = E2 P X F R gs r μ Q := rfl
attribute [congr] e2_congr
attribute [go_sem] e2_nil
def nx2 (P : Program) (X F : XT) (R : NT) (gs : List (Oper × Option (Nat × Bool))) (r : Rg) (μ : Mem) (Q : Rg → Mem → Prop) : Option Prop := match gs with
 | [] => none
 | (o, g) :: rest => some (StC (wanted r g) (aOne P X F R r μ o) (PtC (aput r o.dst undef) fun r' => E2 P X F R rest r' μ Q) fun v μ' => PtC (aput r o.dst v) fun r' => E2 P X F R rest r' μ' Q)
theorem jaj {p : Prop} (hx : nx2 P X F R gs r μ Q = some p) (h : p) : E2 P X F R gs r μ Q := by
 unfold nx2 at hx
 split at hx
 ·cases hx
 ·cases hx
  unfold E2
  rcases h with ⟨h1, r', h2, h3⟩ | ⟨h1, v, μ', h2, r', h3, h4⟩
  ·simp only [run2, h1, h2]
   exact h3
  ·simp only [run2, h1, h2, h3]
   exact h4
end
noncomputable def goA (k : Nat) (P : Program) (X : XT) (S : List (FuncId × LK)) (gd : Bool) (c : Code) (r : Rg) (μ : Mem) (Q : Ax → Rg → Mem → Prop) : Option Prop := match c with
 | .skip => some (Q .normal r μ)
 | .label _ => some (Q .normal r μ)
 | .exit id => some (Q (.exit id) r μ)
 | .seq a b => some (EndsC (jai P X S k a r μ) (jik k P X S b Q))
 | .block id c => some (EndsC (jai P X S k c r μ) (jbI id Q))
 | .cond c a b => some (IfC (aev P r c) (EndsC (jai P X S k a r μ) Q) (EndsC (jai P X S k b r μ) Q))
 | .region _ ops false => match ops.toList.all (fun o => o.guard.isNone) with
   | true => some (Go.Proofs.YtdmfakpngnlokaaGreatDoor.Ev.Ends (run1 P X (jbs P (jai P X S k) S) (jcm (jai P X S k)) ops.toList r μ) (Q .normal))
   | false => match gd with
     | true => (gsOf ops.toList ops.toList).map fun gs => Go.Proofs.YtdmfakpngnlokaaGreatDoor.Ev.Ends (run2 P X (jbs P (jai P X S k) S) (jcm (jai P X S k)) gs r μ) (Q .normal)
     | false => (gsOf ops.toList ops.toList).map fun gs => E2 P X (jbs P (jai P X S k) S) (jcm (jai P X S k)) gs r μ (Q .normal)
 | _ => none
theorem code_go {gd : Bool} {k : Nat} {c : Code} {p : Prop} {r : Rg} {μ : Mem} {Q : Ax → Rg → Mem → Prop} (hx : goA k P X S gd c r μ Q = some p) (h : p) : EndsC (jai P X S (k + 1) c r μ) Q := by
 unfold goA at hx
 split at hx
 ·cases hx; exact jaD h
 ·cases hx; exact jkR h
 ·cases hx; exact jcZ h
 ·cases hx; exact jaf h
 ·cases hx; exact jaR h
 ·cases hx
  rcases h with ⟨h1, h2⟩ | ⟨h1, h2⟩
  ·exact jaG h1 h2
  ·exact jan h1 h2
 ·split at hx
  ·rename_i hg
   cases hx; exact jab hg h
  ·split at hx
   ·cases hg : gsOf _ _ with
    | none => rw [hg] at hx; cases hx
    | some gs => rw [hg] at hx; cases hx; exact jbP hg h
   ·cases hg : gsOf _ _ with
    | none => rw [hg] at hx; cases hx
    | some gs => rw [hg] at hx; cases hx; exact jbP hg h
 ·cases hx
theorem jiO {x : Option (Ax × Rg × Mem)} {Q : Ax → Rg → Mem → Prop} : EndsC x Q = EndsC x Q := rfl
attribute [congr] jiO
theorem jaz {k : Nat} {c : Code} {p : Prop} {r : Rg} {μ : Mem} {Q : Ax → Rg → Mem → Prop} (hx : goA k P X S true c r μ Q = some p) (h : p) : EndsC (jai P X S (k + 1) c r μ) Q := code_go hx h
theorem jaa {k : Nat} {c : Code} {p : Prop} {r : Rg} {μ : Mem} {Q : Ax → Rg → Mem → Prop} (hx : goA k P X S false c r μ Q = some p) (h : p) : EndsC (jai P X S (k + 1) c r μ) Q := code_go hx h
end
def roms : List (Nat × List Value × TypeId) := []
def plainL : List Nat := [97, 98, 99, 100, 101, 102, 103, 104, 105, 106, 107, 108, 109, 110, 111, 112, 113, 114, 115, 116, 117, 118, 119, 120, 121, 122, 65, 66, 67, 68, 69, 70, 71, 72, 73, 74, 75, 76, 77, 78, 79, 80, 81, 82, 83, 84, 85, 86, 87, 88, 89, 90, 48, 49, 50, 51, 52, 53, 54, 55, 56, 57, 33, 36, 37, 38, 42, 47, 58, 60, 61, 62, 63, 94, 95, 126, 43, 45, 46, 64]
def fP : List Value → Option Value
 | [.int .u8 (.ofNat c)] => if c < 256 then some (.bool (plainL.contains c)) else none
 | _ => none
abbrev S0 : List (FuncId × LK) := [(4, .alive roms), (154, .plain fP)]
abbrev LpC (X : XT) (n : Nat) (f : Func) (i w : Nat) (tm : T Value) (μ : Mem) (Q : Ax → Rg → Mem → Prop) : Prop := EndsC (jai Tryz.prog X S0 n (.loop (jjD f i)) ⟨w, tm, [], none⟩ μ) Q
theorem gC (X : XT) (ev : ET) {g : FuncId} {fn : Func} (hf : pZ.funcs[g]? = some fn) (hb : fn.body.isSome = true) (hS : lkOf S0 g = none) (args : List Value) (μ : Mem) : aGo pZ X (jbs pZ ev S0) g args μ = aFun pZ ev g args μ := go_call hf hb hS args μ
@[go_sem] def gg222 {X ev} := gC X ev Tryz.func222 rfl rfl
@[go_sem] def gg224 {X ev} := gC X ev Tryz.func224 rfl rfl
@[go_sem] def gg257 {X ev} := gC X ev Tryz.func257 rfl rfl
@[go_sem] def gg217 {X ev} := gC X ev Tryz.func217 rfl rfl
@[go_sem] def gg216 {X ev} := gC X ev Tryz.func216 rfl rfl
@[go_sem] def gg218 {X ev} := gC X ev Tryz.func218 rfl rfl
@[go_sem] def gg177 {X ev} := gC X ev Tryz.func177 rfl rfl
@[go_sem] def gg256 {X ev} := gC X ev Tryz.func256 rfl rfl
theorem i_int : pZ.info? 3 = some Tryz.t3 := by kernel_rfl
theorem i_bool : pZ.info? 4 = some Tryz.t4 := by kernel_rfl
theorem i_u8 : pZ.info? 5 = some Tryz.t5 := by kernel_rfl
theorem i_f64 : pZ.info? 22 = some Tryz.t22 := by kernel_rfl
theorem i_Ls : pZ.info? 23 = some Tryz.t23 := by kernel_rfl
theorem jiD : pZ.info? 32 = some Tryz.t32 := by kernel_rfl
theorem jci : pZ.info? 73 = some Tryz.t73 := by kernel_rfl
theorem jiE : pZ.info? 25 = some Tryz.t25 := by kernel_rfl
theorem i_Num : pZ.info? 27 = some Tryz.t27 := by kernel_rfl
theorem i_sc : pZ.info? 279 = some Tryz.t279 := by kernel_rfl
theorem i_pm : pZ.info? 310 = some Tryz.t310 := by kernel_rfl
theorem i_a800 : pZ.info? 247 = some Tryz.t247 := by kernel_rfl
@[go_sem] def ld_int := jbx (P := pZ) Tryz.underlying3 rfl
@[go_sem] def ld_bool := jbx (P := pZ) Tryz.underlying4 rfl
@[go_sem] def ld_u8 := jbx (P := pZ) Tryz.underlying5 rfl
@[go_sem] def ld_str := jbx (P := pZ) Tryz.underlying9 rfl
@[go_sem] def ld_f64 := jbx (P := pZ) Tryz.underlying22 rfl
@[go_sem] def ld_Ls := jbx (P := pZ) Tryz.underlying23 rfl
@[go_sem] def ld_u64 := jbx (P := pZ) Tryz.underlying32 rfl
@[go_sem] def ld_u32 := jbx (P := pZ) Tryz.underlying73 rfl
@[go_sem] def fa_Int0 := jax (P := pZ) (f := 0) (ft := 4) (off := 0) Tryz.underlying25 rfl i_bool rfl
@[go_sem] def fa_Int1 := jax (P := pZ) (f := 1) (ft := 23) (off := 1) Tryz.underlying25 rfl i_Ls rfl
@[go_sem] def fa_Num0 := jax (P := pZ) (f := 0) (ft := 4) (off := 0) Tryz.underlying27 rfl i_bool rfl
@[go_sem] def fa_Num1 := jax (P := pZ) (f := 1) (ft := 22) (off := 1) Tryz.underlying27 rfl i_f64 rfl
@[go_sem] def fa_Num2 := jax (P := pZ) (f := 2) (ft := 25) (off := 2) Tryz.underlying27 rfl jiE rfl
@[go_sem] def fa_dec0 := jax (P := pZ) (f := 0) (ft := 247) (off := 0) Tryz.underlying249 rfl i_a800 rfl
@[go_sem] def fa_sc0 := jax (P := pZ) (f := 0) (ft := 32) (off := 0) Tryz.underlying279 rfl jiD rfl
@[go_sem] def fa_sc1 := jax (P := pZ) (f := 1) (ft := 32) (off := 1) Tryz.underlying279 rfl jiD rfl
@[go_sem] def fa_sc2 := jax (P := pZ) (f := 2) (ft := 3) (off := 2) Tryz.underlying279 rfl i_int rfl
@[go_sem] def fa_pm0 := jax (P := pZ) (f := 0) (ft := 32) (off := 0) Tryz.underlying310 rfl jiD rfl
@[go_sem] def fa_pm1 := jax (P := pZ) (f := 1) (ft := 32) (off := 1) Tryz.underlying310 rfl jiD rfl
theorem W_ex : ∃ f : Nat → Nat, ∀ a, f a = a % 18446744073709551616 := ⟨_, fun _ => rfl⟩
def W : Nat → Nat := Classical.choose W_ex
theorem W_def (a : Nat) : W a = a % 18446744073709551616 := Classical.choose_spec W_ex a
theorem W_lt (a : Nat) : W a < 18446744073709551616 := by rw [W_def]; exact Nat.mod_lt _ (by decide)
theorem W_of {a : Nat} (h : a < 18446744073709551616) : W a = a := by rw [W_def]; exact Nat.mod_eq_of_lt h
theorem W_W (a : Nat) : W (W a) = W a := W_of (W_lt a)
theorem wrap_u64 (n : Int) : jak .u64 n = .ofNat (n % 18446744073709551616).toNat := by
 rw [jbq]
 show IntKind.wrap .u64 n = _
 unfold IntKind.wrap
 simp only [IntKind.bits, IntKind.signed]
 simp
 omega
theorem jcn (n : Nat) : jak .u64 (.ofNat n) = .ofNat (W n) := by
 rw [wrap_u64]
 rw [W_def]
 show Int.ofNat (((n : Int) % 18446744073709551616).toNat) = Int.ofNat (n % 18446744073709551616)
 exact congrArg Int.ofNat (by omega)
theorem jie (a b : Nat) : jak .u64 (Int.add (.ofNat a) (.ofNat b)) = .ofNat (W (a + b)) := jcn (a + b)
theorem w_mul (a b : Nat) : jak .u64 (Int.mul (.ofNat a) (.ofNat b)) = .ofNat (W (a * b)) := jcn (a * b)
theorem w_sub (a b : Nat) (h : b < 18446744073709551616) : jak .u64 (Int.sub (.ofNat a) (.ofNat b)) = .ofNat (W (a + (18446744073709551616 - b))) := by
 rw [wrap_u64]
 rw [W_def]
 show Int.ofNat (((a : Int) - (b : Int)) % 18446744073709551616).toNat = Int.ofNat ((a + (18446744073709551616 - b)) % 18446744073709551616)
 exact congrArg Int.ofNat (by omega)
theorem jj6 (a b : Nat) (ha : a < 18446744073709551616) (hb : b < 18446744073709551616) : jbm Nat.land .u64 .u64 (.ofNat a) (.ofNat b) = some (.int .u64 (.ofNat (W (a &&& b)))) := by
 unfold jbm
 simp only [decide_true, jbH]
 rw [show Nat.blt a 18446744073709551616 = true from by simpa using ha, show Nat.blt b 18446744073709551616 = true from by simpa using hb]
 simp only
 rw [jcn]; rfl
theorem w_or (a b : Nat) (ha : a < 18446744073709551616) (hb : b < 18446744073709551616) : jbm Nat.lor .u64 .u64 (.ofNat a) (.ofNat b) = some (.int .u64 (.ofNat (W (a ||| b)))) := by
 unfold jbm
 simp only [decide_true, jbH]
 rw [show Nat.blt a 18446744073709551616 = true from by simpa using ha, show Nat.blt b 18446744073709551616 = true from by simpa using hb]
 simp only
 rw [jcn]; rfl
theorem w_shr (a y : Nat) (hy : y ≤ 64) (ha : a < 18446744073709551616) : jaH false .u64 (.ofNat a) (.ofNat y) = some (.int .u64 (.ofNat (W (a / 2 ^ y)))) := by
 unfold jaH
 simp only [jbH]
 rw [rzP hy]
 simp only
 rw [W_of (Nat.lt_of_le_of_lt (Nat.div_le_self _ _) ha)]; rfl
theorem w_shl (a y : Nat) (hy : y ≤ 64) : jaH true .u64 (.ofNat a) (.ofNat y) = some (.int .u64 (.ofNat (W (a * 2 ^ y)))) := by
 unfold jaH
 simp only [jbH]
 rw [rzP hy]
 simp only
 rw [jcn]; rfl
theorem Sh_ex : ∃ f : Nat → Nat → Nat, ∀ a y, f a y = W (a * 2 ^ y) := ⟨_, fun _ _ => rfl⟩
def Sh : Nat → Nat → Nat := Classical.choose Sh_ex
theorem Sh_def (a y : Nat) : Sh a y = W (a * 2 ^ y) := Classical.choose_spec Sh_ex a y
theorem wAdd (a b : Nat) : jak .u64 (Int.add (.ofNat (W a)) (.ofNat (W b))) = .ofNat (W (W a + W b)) := jie _ _
theorem wMul (a b : Nat) : jak .u64 (Int.mul (.ofNat (W a)) (.ofNat (W b))) = .ofNat (W (W a * W b)) := w_mul _ _
theorem wSub (a b : Nat) : jak .u64 (Int.sub (.ofNat (W a)) (.ofNat (W b))) = .ofNat (W (W a + (18446744073709551616 - W b))) := w_sub _ _ (W_lt b)
theorem wAnd (a b : Nat) : jbm Nat.land .u64 .u64 (.ofNat (W a)) (.ofNat (W b)) = some (.int .u64 (.ofNat (W (W a &&& W b)))) := jj6 _ _ (W_lt a) (W_lt b)
theorem wOr (a b : Nat) : jbm Nat.lor .u64 .u64 (.ofNat (W a)) (.ofNat (W b)) = some (.int .u64 (.ofNat (W (W a ||| W b)))) := w_or _ _ (W_lt a) (W_lt b)
theorem wShr (a y : Nat) (hy : y ≤ 64) : jaH false .u64 (.ofNat (W a)) (.ofNat y) = some (.int .u64 (.ofNat (W (W a / 2 ^ y)))) := w_shr _ _ hy (W_lt a)
theorem wShl (a y : Nat) (hy : y ≤ 64) : jaH true .u64 (.ofNat (W a)) (.ofNat y) = some (.int .u64 (.ofNat (W (Sh (W a) y)))) := by rw [Sh_def, W_W]; exact w_shl (W a) y hy
theorem wShr2 (a : Nat) : jaH false .u64 (.ofNat (W a)) 2 = some (.int .u64 (.ofNat (W (W a / 2 ^ 2)))) := wShr a 2 (by decide)
theorem wShr32 (a : Nat) : jaH false .u64 (.ofNat (W a)) 32 = some (.int .u64 (.ofNat (W (W a / 2 ^ 32)))) := wShr a 32 (by decide)
theorem wAndM (a : Nat) : jbm Nat.land .u64 .u64 (.ofNat (W a)) 4294967295 = some (.int .u64 (.ofNat (W (W a &&& 4294967295)))) := jj6 _ 4294967295 (W_lt a) (by decide)
theorem wAnd1 (a : Nat) : jbm Nat.land .u64 .u64 (.ofNat (W a)) 1 = some (.int .u64 (.ofNat (W (W a &&& 1)))) := jj6 _ 1 (W_lt a) (by decide)
theorem wOr1 (a : Nat) : jbm Nat.lor .u64 .u64 (.ofNat (W a)) 1 = some (.int .u64 (.ofNat (W (W a ||| 1)))) := w_or _ 1 (W_lt a) (by decide)
theorem wAdd1 (a : Nat) : jak .u64 (Int.add (.ofNat (W a)) 1) = .ofNat (W (W a + 1)) := jie _ 1
theorem jg7 (a : Nat) : jak .u64 (Int.mul (.ofNat (W a)) 10) = .ofNat (W (W a * 10)) := w_mul _ 10
theorem jbo (a : Nat) (c : Int) (b : Nat) (h : c = .ofNat b) : ieq (.ofNat a) c = decide (a = b) := by rw [h]; exact jbG a b
theorem jcV (a : Nat) (c : Int) (b : Nat) (h : c = .ofNat b) : ilt (.ofNat a) c = decide (a < b) := by rw [h]; exact jap a b
theorem jiC (a : Nat) (c : Int) (b : Nat) (h : c = .ofNat b) : ilt c (.ofNat a) = decide (b < a) := by rw [h]; exact jap b a
abbrev u (a : Nat) : Value := .int .u64 (.ofNat (W a))
theorem u_of {n : Nat} (h : n < 18446744073709551616) : Value.int .u64 (.ofNat n) = u n := by show _ = Value.int .u64 (.ofNat (W n)); rw [W_of h]
theorem jfo (a b : Int) : ilt a b = decide (a < b) := jf9 a b
theorem wrap_i64 (n : Int) (h : -9223372036854775808 ≤ n) (h2 : n < 9223372036854775808) : jak .i64 n = n := by
 rw [jbq]; exact IntWalk.i64_in _ (by omega)
theorem jeO (a b : Int) (h : -4611686018427387904 < a + b) (h2 : a + b < 4611686018427387904) : jak .i64 (Int.add a b) = a + b := wrap_i64 (a + b) (by omega) (by omega)
theorem jdO (a b : Int) (h : -4611686018427387904 < a - b) (h2 : a - b < 4611686018427387904) : jak .i64 (Int.sub a b) = a - b := wrap_i64 (a - b) (by omega) (by omega)
theorem i_mul (a b : Int) (h : -4611686018427387904 < a * b) (h2 : a * b < 4611686018427387904) : jak .i64 (Int.mul a b) = a * b := wrap_i64 (a * b) (by omega) (by omega)
theorem jce {ρ : Operand → Value} {d : Option Tmp} {t ty : TypeId} {x : Operand} {ps : String} {af : Array Edge} {gd : Option (Nat × Bool)} {n : Int} (hx : ρ x = .int .i64 n) (h : -4611686018427387904 < n) (h2 : n < 4611686018427387904) : jaC pZ ρ ⟨d, .unOp .neg t x, ty, ps, af, gd⟩ = some (.int .i64 (-n)) := by
 unfold jaC
 have e : pv pZ (execOp ρ ⟨d, .unOp .neg t x, ty, ps, af, gd⟩) = some (.value (.int .i64 (-n))) := by
  simp only [execOp, hx]
  show some (Next.value (.int .i64 (IntKind.i64.wrap (0 - n)))) = _
  rw [IntWalk.i64_in _ (by omega), Int.zero_sub]
 simp only [opsOf, jbn, hx, jaw, e]
end
end Go.Proofs.YtdmfakpngnlokaaGreatDoor.nu
