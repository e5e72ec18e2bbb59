/-
  distafflaw10.CodeEffects, part P: its walk and its law. No conditions.
-/
import Derived.Test.YtlkenchibdeinaaGreatDoorEvSk
import Derived.Test.YtlkenchibdeinaaGreatDoorRows
import Derived.Test.YtlkenchibdeinaaGreatDoorDwO
import Derived.LaidLaws
import Derived.Lib.TrimU
import GoSem.PinnedTables
set_option linter.all false
set_option maxRecDepth 20000
set_option maxHeartbeats 8000000
namespace Go.Proofs.YtlkenchibdeinaaGreatDoor.ce
open YtlkenchibdeinaaGreatDoor.Ev
noncomputable section
def rzN := @Nat.le_refl
def rzO := @Nat.lt_of_lt_of_le
def rzP := @Nat.ble_eq_true_of_le
def rzQ := @Nat.lt_succ_self
def rzS := @Nat.le_trans
def rzT := @Nat.zero_add
def rzU := @decide_eq_true
def rzV := @decide_eq_false
def rzW := @Nat.succ_pos
def rzX := @List.length_append
def rzY := @Nat.zero_le
def rzM {x : Option (Ax × Rg × Mem)} {Q R : Ax → Rg → Mem → Prop} := @EndsC.mono x Q R
theorem gle {m n : Nat} (h : m ≤ n) : ∃ k, n = k + m := Nat.exists_eq_add_of_le' h
theorem nbl {a b : Nat} (h : Nat.ble a b = true) : a ≤ b := rzE h
attribute [go_sem] Nat.reduceLT Nat.reduceAdd Nat.reduceEqDiff reduceIte reduceCtorEq run1 run2 wanted jbv jbi jc1 aRes T.lay aOne aP aR aA aT jdK je3 aev jbe aput_mk aput_none jaK jdp jek aBin aInt Addr.add rzT ends_some if_true jai if_false decide_true decide_false Bool.not_true Bool.not_false beq_self_eq_true beq_tf beq_ft aPick List.map_cons List.map_nil List.nil_append List.append_nil List.getElem?_cons_zero List.getElem?_cons_succ
section
variable {P : Program} {X : XT} {S : List (FuncId × LK)}
noncomputable abbrev pZ : Program := Tryz.prog
noncomputable def inA (k : Nat) (P : Program) (X : XT) (S : List (FuncId × LK)) : Code → Option (Code × ((Ax → Rg → Mem → Prop) → Ax → Rg → Mem → Prop))
 | .seq a b => some (a, je8 k P X S b)
 | .block id c => some (c, jbi id)
 | _ => none
theorem code_in {k : Nat} {c c' : Code} {f : (Ax → Rg → Mem → Prop) → Ax → Rg → Mem → Prop} {r : Rg} {μ : Mem} {Q : Ax → Rg → Mem → Prop} (hx : inA k P X S c = some (c', f)) (h : EndsC (jaj P X S k c' r μ) (f Q)) : EndsC (jaj P X S (k + 1) c r μ) Q := by
 unfold inA at hx
 split at hx
 ·cases hx; exact jag h
 ·cases hx; exact jeD h
 ·cases hx
theorem exq {α : Sort _} (a : α) : ∃ b, b = a := ⟨a, rfl⟩
theorem eqx {α : Sort _} (a : α) : ∃ b, a = b := ⟨a, rfl⟩
theorem dT {b : Bool} {p : Prop} [Decidable p] (h : b = decide p) (hp : p) : b = true := h.trans (rzU hp)
theorem dF {b : Bool} {p : Prop} [Decidable p] (h : b = decide p) (hp : ¬ p) : b = false := h.trans (rzV hp)
def IfC (v : Value) (p q : Prop) : Prop := (v = .bool true ∧ p) ∨ (v = .bool false ∧ q)
theorem ifC_congr {v w : Value} {p q : Prop} (h : v = w) : IfC v p q = IfC w p q := by rw [h]
theorem ifC_true {p q : Prop} : IfC (.bool true) p q = p := propext ⟨fun h => h.elim And.right (fun h => nomatch h.1), fun h => .inl ⟨rfl, h⟩⟩
theorem ifC_false {p q : Prop} : IfC (.bool false) p q = q := propext ⟨fun h => h.elim (fun h => nomatch h.1) And.right, fun h => .inr ⟨rfl, h⟩⟩
attribute [congr] ifC_congr
attribute [go_sem] ifC_true ifC_false undef jbd Nat.add_eq
def StC (w : Option Bool) (x : Option (Value × Mem)) (f : Prop) (k : Value → Mem → Prop) : Prop := (w = some false ∧ f) ∨ (w = some true ∧ ∃ v μ', x = some (v, μ') ∧ k v μ')
def RnC (x : Option (Value × Mem)) (k : Value → Mem → Prop) : Prop := ∃ v μ', x = some (v, μ') ∧ k v μ'
def PtC (x : Option Rg) (k : Rg → Prop) : Prop := ∃ r, x = some r ∧ k r
theorem stC_congr {w w' : Option Bool} {x : Option (Value × Mem)} {f : Prop} {k : Value → Mem → Prop} (h : w = w') : StC w x f k = StC w' x f k := by rw [h]
theorem rnC_congr {x x' : Option (Value × Mem)} {k : Value → Mem → Prop} (h : x = x') : RnC x k = RnC x' k := by rw [h]
theorem ptC_congr {x x' : Option Rg} {k : Rg → Prop} (h : x = x') : PtC x k = PtC x' k := by rw [h]
theorem stC_false {x : Option (Value × Mem)} {f : Prop} {k : Value → Mem → Prop} : StC (some false) x f k = f := propext ⟨fun h => h.elim And.right (fun h => nomatch h.1), fun h => .inl ⟨rfl, h⟩⟩
theorem stC_true {x : Option (Value × Mem)} {f : Prop} {k : Value → Mem → Prop} : StC (some true) x f k = RnC x k := propext ⟨fun h => h.elim (fun h => nomatch h.1) And.right, fun h => .inr ⟨rfl, h⟩⟩
theorem rnC_some {v : Value} {μ : Mem} {k : Value → Mem → Prop} : RnC (some (v, μ)) k = k v μ := propext ⟨fun ⟨_, _, h1, h2⟩ => by cases h1; exact h2, fun h => ⟨_, _, rfl, h⟩⟩
theorem ptC_some {r : Rg} {k : Rg → Prop} : PtC (some r) k = k r := propext ⟨fun ⟨_, h1, h2⟩ => by cases h1; exact h2, fun h => ⟨_, rfl, h⟩⟩
attribute [congr] stC_congr rnC_congr ptC_congr
attribute [go_sem] stC_false stC_true rnC_some ptC_some
theorem nil_b {P : Program} {t : TypeId} {p q : Bool} : aNil P t (.bool p) (.bool q) = false := rfl
theorem nil_f {P : Program} {t : TypeId} {k l : FloatKind} {p q : Nat} : aNil P t (.float k p) (.float l q) = false := rfl
theorem ptr_b {P : Program} {μ : Mem} {t : TypeId} {p q : Bool} : jgc P μ t (.bool p) (.bool q) = none := rfl
theorem ptr_f {P : Program} {μ : Mem} {t : TypeId} {k l : FloatKind} {p q : Nat} : jgc P μ t (.float k p) (.float l q) = none := rfl
attribute [go_sem] nil_b nil_f ptr_b ptr_f
class Stk (p : Prop) : Prop where
instance {v : Value} {p q : Prop} : Stk (IfC v p q) := ⟨⟩
instance {w : Option Bool} {x : Option (Value × Mem)} {f : Prop} {k : Value → Mem → Prop} : Stk (StC w x f k) := ⟨⟩
instance {x : Option (Value × Mem)} {k : Value → Mem → Prop} : Stk (RnC x k) := ⟨⟩
instance {x : Option Rg} {k : Rg → Prop} : Stk (PtC x k) := ⟨⟩
theorem stk {p : Prop} [Stk p] (h : p) : p := h
section
variable {P : Program} {X F : XT} {R : NT} {gs : List (Oper × Option (Nat × Bool))} {r : Rg} {μ : Mem} {Q : Rg → Mem → Prop}
def E2 (P : Program) (X F : XT) (R : NT) (gs : List (Oper × Option (Nat × Bool))) (r : Rg) (μ : Mem) (Q : Rg → Mem → Prop) : Prop := Go.Proofs.YtlkenchibdeinaaGreatDoor.Ev.Ends (run2 P X F R gs r μ) Q
theorem e2_nil : E2 P X F R [] r μ Q = Q r μ := propext ⟨fun ⟨_, _, h1, h2⟩ => by cases h1; exact h2, fun h => ⟨r, μ, rfl, h⟩⟩
theorem e2_congr : E2 P X F R gs r μ Q = E2 P X F R gs r μ Q := rfl
attribute [congr] e2_congr
attribute [go_sem] e2_nil
def nx2 (P : Program) (X F : XT) (R : NT) (gs : List (Oper × Option (Nat × Bool))) (r : Rg) (μ : Mem) (Q : Rg → Mem → Prop) : Option Prop := match gs with
 | [] => none
 | (o, g) :: rest => some (StC (wanted r g) (aOne P X F R r μ o) (PtC (aput r o.dst undef) fun r' => E2 P X F R rest r' μ Q) fun v μ' => PtC (aput r o.dst v) fun r' => E2 P X F R rest r' μ' Q)
theorem jam {p : Prop} (hx : nx2 P X F R gs r μ Q = some p) (h : p) : E2 P X F R gs r μ Q := by
 unfold nx2 at hx
 split at hx
 ·cases hx
 ·cases hx
  unfold E2
  rcases h with ⟨h1, r', h2, h3⟩ | ⟨h1, v, μ', h2, r', h3, h4⟩
  ·simp only [run2, h1, h2]
   exact h3
  ·simp only [run2, h1, h2, h3]
   exact h4
end
noncomputable def goA (k : Nat) (P : Program) (X : XT) (S : List (FuncId × LK)) (gd : Bool) (c : Code) (r : Rg) (μ : Mem) (Q : Ax → Rg → Mem → Prop) : Option Prop := match c with
 | .skip => some (Q .normal r μ)
 | .label _ => some (Q .normal r μ)
 | .exit id => some (Q (.exit id) r μ)
 | .seq a b => some (EndsC (jaj P X S k a r μ) (je8 k P X S b Q))
 | .block id c => some (EndsC (jaj P X S k c r μ) (jbi id Q))
 | .cond c a b => some (IfC (aev P r c) (EndsC (jaj P X S k a r μ) Q) (EndsC (jaj P X S k b r μ) Q))
 | .region _ ops false => match ops.toList.all (fun o => o.guard.isNone) with
   | true => some (Go.Proofs.YtlkenchibdeinaaGreatDoor.Ev.Ends (run1 P X (jbj P (jaj P X S k) S) (jdo (jaj P X S k)) ops.toList r μ) (Q .normal))
   | false => match gd with
     | true => (gsOf ops.toList ops.toList).map fun gs => Go.Proofs.YtlkenchibdeinaaGreatDoor.Ev.Ends (run2 P X (jbj P (jaj P X S k) S) (jdo (jaj P X S k)) gs r μ) (Q .normal)
     | false => (gsOf ops.toList ops.toList).map fun gs => E2 P X (jbj P (jaj P X S k) S) (jdo (jaj P X S k)) gs r μ (Q .normal)
 | _ => none
theorem code_go {gd : Bool} {k : Nat} {c : Code} {p : Prop} {r : Rg} {μ : Mem} {Q : Ax → Rg → Mem → Prop} (hx : goA k P X S gd c r μ Q = some p) (h : p) : EndsC (jaj P X S (k + 1) c r μ) Q := by
 unfold goA at hx
 split at hx
 ·cases hx; exact jbo h
 ·cases hx; exact jki h
 ·cases hx; exact jbw h
 ·cases hx; exact jag h
 ·cases hx; exact jeD h
 ·cases hx
  rcases h with ⟨h1, h2⟩ | ⟨h1, h2⟩
  ·exact jbl h1 h2
  ·exact jax h1 h2
 ·split at hx
  ·rename_i hg
   cases hx; exact jaD hg h
  ·split at hx
   ·cases hg : gsOf _ _ with
    | none => rw [hg] at hx; cases hx
    | some gs => rw [hg] at hx; cases hx; exact jfq hg h
   ·cases hg : gsOf _ _ with
    | none => rw [hg] at hx; cases hx
    | some gs => rw [hg] at hx; cases hx; exact jfq hg h
 ·cases hx
theorem jiD {x : Option (Ax × Rg × Mem)} {Q : Ax → Rg → Mem → Prop} : EndsC x Q = EndsC x Q := rfl
attribute [congr] jiD
theorem jaa {k : Nat} {c : Code} {p : Prop} {r : Rg} {μ : Mem} {Q : Ax → Rg → Mem → Prop} (hx : goA k P X S true c r μ Q = some p) (h : p) : EndsC (jaj P X S (k + 1) c r μ) Q := code_go hx h
theorem jab {k : Nat} {c : Code} {p : Prop} {r : Rg} {μ : Mem} {Q : Ax → Rg → Mem → Prop} (hx : goA k P X S false c r μ Q = some p) (h : p) : EndsC (jaj P X S (k + 1) c r μ) Q := code_go hx h
end
def roms : List (Nat × List Value × TypeId) := []
def plainL : List Nat := [97, 98, 99, 100, 101, 102, 103, 104, 105, 106, 107, 108, 109, 110, 111, 112, 113, 114, 115, 116, 117, 118, 119, 120, 121, 122, 65, 66, 67, 68, 69, 70, 71, 72, 73, 74, 75, 76, 77, 78, 79, 80, 81, 82, 83, 84, 85, 86, 87, 88, 89, 90, 48, 49, 50, 51, 52, 53, 54, 55, 56, 57, 33, 36, 37, 38, 42, 47, 58, 60, 61, 62, 63, 94, 95, 126, 43, 45, 46, 64]
def fP : List Value → Option Value
 | [.int .u8 (.ofNat c)] => if c < 256 then some (.bool (plainL.contains c)) else none
 | _ => none
def fF : List Value → Option Value
 | [.int .u8 (.ofNat c)] => if c < 256 then some (.int .u8 (.ofNat (NumText.form c))) else none
 | _ => none
abbrev S0 : List (FuncId × LK) := [(4, .alive roms), (170, .plain fP), (85, .plain fP), (196, .plain fF)]
abbrev LpC (X : XT) (n : Nat) (f : Func) (i w : Nat) (tm : T Value) (μ : Mem) (Q : Ax → Rg → Mem → Prop) : Prop := EndsC (jaj Tryz.prog X S0 n (.loop (jbk f i)) ⟨w, tm, [], none⟩ μ) Q
theorem gC (X : XT) (ev : ET) {g : FuncId} {fn : Func} (hf : pZ.funcs[g]? = some fn) (hb : fn.body.isSome = true) (hS : lkOf S0 g = none) (args : List Value) (μ : Mem) : aGo pZ X (jbj pZ ev S0) g args μ = aFun pZ ev g args μ := go_call hf hb hS args μ
@[go_sem] def gg208 {X ev} := gC X ev Tryz.func208 rfl rfl
@[go_sem] def gg277 {X ev} := gC X ev Tryz.func277 rfl rfl
@[go_sem] def gg210 {X ev} := gC X ev Tryz.func210 rfl rfl
@[go_sem] def gg243 {X ev} := gC X ev Tryz.func243 rfl rfl
@[go_sem] def gg279 {X ev} := gC X ev Tryz.func279 rfl rfl
@[go_sem] def gg203 {X ev} := gC X ev Tryz.func203 rfl rfl
@[go_sem] def gg200 {X ev} := gC X ev Tryz.func200 rfl rfl
@[go_sem] def gg284 {X ev} := gC X ev Tryz.func284 rfl rfl
@[go_sem] def gg278 {X ev} := gC X ev Tryz.func278 rfl rfl
@[go_sem] def gg202 {X ev} := gC X ev Tryz.func202 rfl rfl
@[go_sem] def gg268 {X ev} := gC X ev Tryz.func268 rfl rfl
@[go_sem] def gg267 {X ev} := gC X ev Tryz.func267 rfl rfl
@[go_sem] def gg211 {X ev} := gC X ev Tryz.func211 rfl rfl
@[go_sem] def gg204 {X ev} := gC X ev Tryz.func204 rfl rfl
@[go_sem] def gg158 {X ev} := gC X ev Tryz.func158 rfl rfl
@[go_sem] def gg242 {X ev} := gC X ev Tryz.func242 rfl rfl
theorem jcg : pZ.info? 3 = some Tryz.t3 := by kernel_rfl
theorem jf0 : pZ.info? 4 = some Tryz.t4 := by kernel_rfl
theorem i_u8 : pZ.info? 5 = some Tryz.t5 := by kernel_rfl
theorem jkb : pZ.info? 9 = some Tryz.t9 := by kernel_rfl
theorem i_f64 : pZ.info? 37 = some Tryz.t37 := by kernel_rfl
theorem i_Ls : pZ.info? 38 = some Tryz.t38 := by kernel_rfl
theorem jiw : pZ.info? 110 = some Tryz.t110 := by kernel_rfl
theorem i_uint : pZ.info? 88 = some Tryz.t88 := by kernel_rfl
theorem jcI : pZ.info? 141 = some Tryz.t141 := by kernel_rfl
theorem i_Int : pZ.info? 40 = some Tryz.t40 := by kernel_rfl
theorem i_Num : pZ.info? 42 = some Tryz.t42 := by kernel_rfl
theorem i_sc : pZ.info? 247 = some Tryz.t247 := by kernel_rfl
theorem i_pm : pZ.info? 282 = some Tryz.t282 := by kernel_rfl
theorem i_lc : pZ.info? 289 = some Tryz.t289 := by kernel_rfl
theorem i_a800 : pZ.info? 211 = some Tryz.t211 := by kernel_rfl
@[go_sem] def jaT := jbK (P := pZ) Tryz.underlying3 rfl
@[go_sem] def ld_bool := jbK (P := pZ) Tryz.underlying4 rfl
@[go_sem] def jb8 := jbK (P := pZ) Tryz.underlying5 rfl
@[go_sem] def ld_str := jbK (P := pZ) Tryz.underlying9 rfl
@[go_sem] def ld_f64 := jbK (P := pZ) Tryz.underlying37 rfl
@[go_sem] def ld_Ls := jbK (P := pZ) Tryz.underlying38 rfl
@[go_sem] def ld_u64 := jbK (P := pZ) Tryz.underlying110 rfl
@[go_sem] def jbN := jbK (P := pZ) Tryz.underlying88 rfl
@[go_sem] def ld_u32 := jbK (P := pZ) Tryz.underlying141 rfl
@[go_sem] def ld_Fs := jbK (P := pZ) Tryz.underlying331 rfl
@[go_sem] def ld_Cs := jbK (P := pZ) Tryz.underlying290 rfl
@[go_sem] def jeX := jbK (P := pZ) Tryz.underlying153 rfl
@[go_sem] def jdx := jbK (P := pZ) Tryz.underlying87 rfl
@[go_sem] def fa_Int0 := jaq (P := pZ) (f := 0) (ft := 4) (off := 0) Tryz.underlying40 rfl jf0 rfl
@[go_sem] def fa_Int1 := jaq (P := pZ) (f := 1) (ft := 38) (off := 1) Tryz.underlying40 rfl i_Ls rfl
@[go_sem] def fa_Num0 := jaq (P := pZ) (f := 0) (ft := 4) (off := 0) Tryz.underlying42 rfl jf0 rfl
@[go_sem] def fa_Num1 := jaq (P := pZ) (f := 1) (ft := 37) (off := 1) Tryz.underlying42 rfl i_f64 rfl
@[go_sem] def fa_Num2 := jaq (P := pZ) (f := 2) (ft := 40) (off := 2) Tryz.underlying42 rfl i_Int rfl
@[go_sem] def jcn := jaq (P := pZ) (f := 0) (ft := 88) (off := 0) Tryz.underlying315 rfl i_uint rfl
@[go_sem] def jcm := jaq (P := pZ) (f := 1) (ft := 88) (off := 1) Tryz.underlying315 rfl i_uint rfl
@[go_sem] def jcl := jaq (P := pZ) (f := 2) (ft := 3) (off := 2) Tryz.underlying315 rfl jcg rfl
@[go_sem] def jba := jaq (P := pZ) (f := 0) (ft := 211) (off := 0) Tryz.underlying213 rfl i_a800 rfl
@[go_sem] def jaW := jaq (P := pZ) (f := 1) (ft := 3) (off := 800) Tryz.underlying213 rfl jcg rfl
@[go_sem] def jbO := jaq (P := pZ) (f := 2) (ft := 3) (off := 801) Tryz.underlying213 rfl jcg rfl
@[go_sem] def fa_dec3 := jaq (P := pZ) (f := 3) (ft := 4) (off := 802) Tryz.underlying213 rfl jf0 rfl
@[go_sem] def fa_dec4 := jaq (P := pZ) (f := 4) (ft := 4) (off := 803) Tryz.underlying213 rfl jf0 rfl
@[go_sem] def fa_sc0 := jaq (P := pZ) (f := 0) (ft := 110) (off := 0) Tryz.underlying247 rfl jiw rfl
@[go_sem] def fa_sc1 := jaq (P := pZ) (f := 1) (ft := 110) (off := 1) Tryz.underlying247 rfl jiw rfl
@[go_sem] def fa_sc2 := jaq (P := pZ) (f := 2) (ft := 3) (off := 2) Tryz.underlying247 rfl jcg rfl
@[go_sem] def fa_pm0 := jaq (P := pZ) (f := 0) (ft := 110) (off := 0) Tryz.underlying282 rfl jiw rfl
@[go_sem] def fa_pm1 := jaq (P := pZ) (f := 1) (ft := 110) (off := 1) Tryz.underlying282 rfl jiw rfl
@[go_sem] def fa_lc0 := jaq (P := pZ) (f := 0) (ft := 3) (off := 0) Tryz.underlying289 rfl jcg rfl
@[go_sem] def fa_lc1 := jaq (P := pZ) (f := 1) (ft := 9) (off := 1) Tryz.underlying289 rfl jkb rfl
theorem W_ex : ∃ f : Nat → Nat, ∀ a, f a = a % 18446744073709551616 := ⟨_, fun _ => rfl⟩
def W : Nat → Nat := Classical.choose W_ex
theorem W_def (a : Nat) : W a = a % 18446744073709551616 := Classical.choose_spec W_ex a
theorem W_lt (a : Nat) : W a < 18446744073709551616 := by rw [W_def]; exact Nat.mod_lt _ (by decide)
theorem W_of {a : Nat} (h : a < 18446744073709551616) : W a = a := by rw [W_def]; exact Nat.mod_eq_of_lt h
theorem W_W (a : Nat) : W (W a) = W a := W_of (W_lt a)
theorem wrap_u64 (n : Int) : jak .u64 n = .ofNat (n % 18446744073709551616).toNat := by
 rw [jbu]
 show IntKind.wrap .u64 n = _
 unfold IntKind.wrap
 simp only [IntKind.bits, IntKind.signed]
 simp
 omega
theorem jbR (n : Nat) : jak .u64 (.ofNat n) = .ofNat (W n) := by
 rw [wrap_u64]
 rw [W_def]
 show Int.ofNat (((n : Int) % 18446744073709551616).toNat) = Int.ofNat (n % 18446744073709551616)
 exact congrArg Int.ofNat (by omega)
theorem jh4 (a b : Nat) : jak .u64 (Int.add (.ofNat a) (.ofNat b)) = .ofNat (W (a + b)) := jbR (a + b)
theorem w_mul (a b : Nat) : jak .u64 (Int.mul (.ofNat a) (.ofNat b)) = .ofNat (W (a * b)) := jbR (a * b)
theorem w_sub (a b : Nat) (h : b < 18446744073709551616) : jak .u64 (Int.sub (.ofNat a) (.ofNat b)) = .ofNat (W (a + (18446744073709551616 - b))) := by
 rw [wrap_u64]
 rw [W_def]
 show Int.ofNat (((a : Int) - (b : Int)) % 18446744073709551616).toNat = Int.ofNat ((a + (18446744073709551616 - b)) % 18446744073709551616)
 exact congrArg Int.ofNat (by omega)
theorem jfJ (a b : Nat) (ha : a < 18446744073709551616) (hb : b < 18446744073709551616) : jbA Nat.land .u64 .u64 (.ofNat a) (.ofNat b) = some (.int .u64 (.ofNat (W (a &&& b)))) := by
 unfold jbA
 simp only [decide_true, jcB]
 rw [show Nat.blt a 18446744073709551616 = true from by simpa using ha, show Nat.blt b 18446744073709551616 = true from by simpa using hb]
 simp only
 rw [jbR]; rfl
theorem w_or (a b : Nat) (ha : a < 18446744073709551616) (hb : b < 18446744073709551616) : jbA Nat.lor .u64 .u64 (.ofNat a) (.ofNat b) = some (.int .u64 (.ofNat (W (a ||| b)))) := by
 unfold jbA
 simp only [decide_true, jcB]
 rw [show Nat.blt a 18446744073709551616 = true from by simpa using ha, show Nat.blt b 18446744073709551616 = true from by simpa using hb]
 simp only
 rw [jbR]; rfl
theorem w_shr (a y : Nat) (hy : y ≤ 64) (ha : a < 18446744073709551616) : jaQ false .u64 (.ofNat a) (.ofNat y) = some (.int .u64 (.ofNat (W (a / 2 ^ y)))) := by
 unfold jaQ
 simp only [jcB]
 rw [rzP hy]
 simp only
 rw [W_of (Nat.lt_of_le_of_lt (Nat.div_le_self _ _) ha)]; rfl
theorem w_shl (a y : Nat) (hy : y ≤ 64) : jaQ true .u64 (.ofNat a) (.ofNat y) = some (.int .u64 (.ofNat (W (a * 2 ^ y)))) := by
 unfold jaQ
 simp only [jcB]
 rw [rzP hy]
 simp only
 rw [jbR]; rfl
theorem Sh_ex : ∃ f : Nat → Nat → Nat, ∀ a y, f a y = W (a * 2 ^ y) := ⟨_, fun _ _ => rfl⟩
def Sh : Nat → Nat → Nat := Classical.choose Sh_ex
theorem Sh_def (a y : Nat) : Sh a y = W (a * 2 ^ y) := Classical.choose_spec Sh_ex a y
theorem wAdd (a b : Nat) : jak .u64 (Int.add (.ofNat (W a)) (.ofNat (W b))) = .ofNat (W (W a + W b)) := jh4 _ _
theorem wMul (a b : Nat) : jak .u64 (Int.mul (.ofNat (W a)) (.ofNat (W b))) = .ofNat (W (W a * W b)) := w_mul _ _
theorem wSub (a b : Nat) : jak .u64 (Int.sub (.ofNat (W a)) (.ofNat (W b))) = .ofNat (W (W a + (18446744073709551616 - W b))) := w_sub _ _ (W_lt b)
theorem wAnd (a b : Nat) : jbA Nat.land .u64 .u64 (.ofNat (W a)) (.ofNat (W b)) = some (.int .u64 (.ofNat (W (W a &&& W b)))) := jfJ _ _ (W_lt a) (W_lt b)
theorem wOr (a b : Nat) : jbA Nat.lor .u64 .u64 (.ofNat (W a)) (.ofNat (W b)) = some (.int .u64 (.ofNat (W (W a ||| W b)))) := w_or _ _ (W_lt a) (W_lt b)
theorem wShr (a y : Nat) (hy : y ≤ 64) : jaQ false .u64 (.ofNat (W a)) (.ofNat y) = some (.int .u64 (.ofNat (W (W a / 2 ^ y)))) := w_shr _ _ hy (W_lt a)
theorem wShl (a y : Nat) (hy : y ≤ 64) : jaQ true .u64 (.ofNat (W a)) (.ofNat y) = some (.int .u64 (.ofNat (W (Sh (W a) y)))) := by rw [Sh_def, W_W]; exact w_shl (W a) y hy
theorem wShr2 (a : Nat) : jaQ false .u64 (.ofNat (W a)) 2 = some (.int .u64 (.ofNat (W (W a / 2 ^ 2)))) := wShr a 2 (by decide)
theorem wShr32 (a : Nat) : jaQ false .u64 (.ofNat (W a)) 32 = some (.int .u64 (.ofNat (W (W a / 2 ^ 32)))) := wShr a 32 (by decide)
theorem wShl2 (a : Nat) : jaQ true .u64 (.ofNat (W a)) 2 = some (.int .u64 (.ofNat (W (Sh (W a) 2)))) := wShl a 2 (by decide)
theorem jc8 (a : Nat) : jaQ true .u64 (.ofNat (W a)) 52 = some (.int .u64 (.ofNat (W (Sh (W a) 52)))) := by rw [Sh_def, W_W]; exact w_shl (W a) 52 (by decide)
theorem wAndM (a : Nat) : jbA Nat.land .u64 .u64 (.ofNat (W a)) 4294967295 = some (.int .u64 (.ofNat (W (W a &&& 4294967295)))) := jfJ _ 4294967295 (W_lt a) (by decide)
theorem wAnd1 (a : Nat) : jbA Nat.land .u64 .u64 (.ofNat (W a)) 1 = some (.int .u64 (.ofNat (W (W a &&& 1)))) := jfJ _ 1 (W_lt a) (by decide)
theorem wAndH (a : Nat) : jbA Nat.land .u64 .u64 (.ofNat (W a)) 4503599627370496 = some (.int .u64 (.ofNat (W (W a &&& 4503599627370496)))) := jfJ _ 4503599627370496 (W_lt a) (by decide)
theorem wAndS (a : Nat) : jbA Nat.land .u64 .u64 (.ofNat (W a)) 9223372036854775808 = some (.int .u64 (.ofNat (W (W a &&& 9223372036854775808)))) := jfJ _ 9223372036854775808 (W_lt a) (by decide)
theorem wOr0 (a : Nat) : jbA Nat.lor .u64 .u64 (.ofNat (W a)) 0 = some (.int .u64 (.ofNat (W (W a ||| 0)))) := w_or _ 0 (W_lt a) (by decide)
theorem wOr1 (a : Nat) : jbA Nat.lor .u64 .u64 (.ofNat (W a)) 1 = some (.int .u64 (.ofNat (W (W a ||| 1)))) := w_or _ 1 (W_lt a) (by decide)
theorem wOrI (a : Nat) : jbA Nat.lor .u64 .u64 (.ofNat (W a)) 9218868437227405312 = some (.int .u64 (.ofNat (W (W a ||| 9218868437227405312)))) := w_or _ 9218868437227405312 (W_lt a) (by decide)
theorem wAdd1 (a : Nat) : jak .u64 (Int.add (.ofNat (W a)) 1) = .ofNat (W (W a + 1)) := jh4 _ 1
theorem wSub2 (a : Nat) : jak .u64 (Int.sub (.ofNat (W a)) 2) = .ofNat (W (W a + 18446744073709551614)) := w_sub _ 2 (by decide)
theorem jdL (a : Nat) : jak .u64 (Int.mul (.ofNat (W a)) 10) = .ofNat (W (W a * 10)) := w_mul _ 10
theorem jaB (a : Nat) (c : Int) (b : Nat) (h : c = .ofNat b) : ieq (.ofNat a) c = decide (a = b) := by rw [h]; exact jbG a b
theorem jbn (a : Nat) (c : Int) (b : Nat) (h : c = .ofNat b) : ilt (.ofNat a) c = decide (a < b) := by rw [h]; exact jao a b
theorem jcp (a : Nat) (c : Int) (b : Nat) (h : c = .ofNat b) : ilt c (.ofNat a) = decide (b < a) := by rw [h]; exact jao b a
abbrev u (a : Nat) : Value := .int .u64 (.ofNat (W a))
theorem u_of {n : Nat} (h : n < 18446744073709551616) : Value.int .u64 (.ofNat n) = u n := by show _ = Value.int .u64 (.ofNat (W n)); rw [W_of h]
theorem jaZ (a b : Int) : ilt a b = decide (a < b) := jfZ a b
theorem wrap_i64 (n : Int) (h : -9223372036854775808 ≤ n) (h2 : n < 9223372036854775808) : jak .i64 n = n := by
 rw [jbu]; exact IntWalk.i64_in _ (by omega)
theorem jcJ (a b : Int) (h : -4611686018427387904 < a + b) (h2 : a + b < 4611686018427387904) : jak .i64 (Int.add a b) = a + b := wrap_i64 (a + b) (by omega) (by omega)
theorem jbU (a b : Int) (h : -4611686018427387904 < a - b) (h2 : a - b < 4611686018427387904) : jak .i64 (Int.sub a b) = a - b := wrap_i64 (a - b) (by omega) (by omega)
theorem i_mul (a b : Int) (h : -4611686018427387904 < a * b) (h2 : a * b < 4611686018427387904) : jak .i64 (Int.mul a b) = a * b := wrap_i64 (a * b) (by omega) (by omega)
theorem jbC {ρ : Operand → Value} {d : Option Tmp} {t ty : TypeId} {x : Operand} {ps : String} {af : Array Edge} {gd : Option (Nat × Bool)} {n : Int} (hx : ρ x = .int .i64 n) (h : -4611686018427387904 < n) (h2 : n < 4611686018427387904) : jaH pZ ρ ⟨d, .unOp .neg t x, ty, ps, af, gd⟩ = some (.int .i64 (-n)) := by
 unfold jaH
 have e : pv pZ (execOp ρ ⟨d, .unOp .neg t x, ty, ps, af, gd⟩) = some (.value (.int .i64 (-n))) := by
  simp only [execOp, hx]
  show some (Next.value (.int .i64 (IntKind.i64.wrap (0 - n)))) = _
  rw [IntWalk.i64_in _ (by omega), Int.zero_sub]
 simp only [opsOf, jbJ, hx, jaK, e]
end
noncomputable section
variable {X : XT}
def b2 (t : Bool) : Nat := if t then 1 else 0
theorem b2_le (t : Bool) : b2 t ≤ 1 := by cases t <;> decide
set_option maxHeartbeats 4000000 in
theorem jhI {g : Nat} {t : Bool} {μ : Mem} (hg : 10 ≤ g) : aFun pZ (jaj pZ X S0 g) 243 [.bool t] μ = some (u (b2 t), μ) := by
 obtain ⟨k, rfl⟩ := gle hg
 refine jaF ?_
 cases t with
 | true =>
   refine jaf Tryz.func243 rfl rfl (nbl rfl) ?_
   simp only [go_sem, Tryz.ntmps243]
   repeat (refine jaa rfl ?_; (try simp only [go_sem]); fail_if_success refine stk ?_)
   refine jad ?_
   refine ⟨rfl, _, ?_, rfl, rfl⟩
   simp only [go_sem, Tryz.results243]
   exact congrArg some (u_of (n := 1) (by decide))
 | false =>
   refine jaf Tryz.func243 rfl rfl (nbl rfl) ?_
   simp only [go_sem, Tryz.ntmps243]
   repeat (refine jaa rfl ?_; (try simp only [go_sem]); fail_if_success refine stk ?_)
   refine jad ?_
   refine ⟨rfl, _, ?_, rfl, rfl⟩
   simp only [go_sem, Tryz.results243]
   exact congrArg some (u_of (n := 0) (by decide))
set_option maxHeartbeats 4000000 in
theorem jhJ {g : Nat} {t : Bool} {μ : Mem} (hg : 10 ≤ g) : aFun pZ (jaj pZ X S0 g) 210 [.bool t] μ = some (.int .i64 (.ofNat (b2 t)), μ) := by
 obtain ⟨k, rfl⟩ := gle hg
 refine jaF ?_
 cases t with
 | true =>
   refine jaf Tryz.func210 rfl rfl (nbl rfl) ?_
   simp only [go_sem, Tryz.ntmps210]
   repeat (refine jaa rfl ?_; (try simp only [go_sem]); fail_if_success refine stk ?_)
   refine jad ?_
   refine ⟨rfl, _, ?_, rfl, rfl⟩
   simp only [go_sem, Tryz.results210]
   rfl
 | false =>
   refine jaf Tryz.func210 rfl rfl (nbl rfl) ?_
   simp only [go_sem, Tryz.ntmps210]
   repeat (refine jaa rfl ?_; (try simp only [go_sem]); fail_if_success refine stk ?_)
   refine jad ?_
   refine ⟨rfl, _, ?_, rfl, rfl⟩
   simp only [go_sem, Tryz.results210]
   rfl
set_option maxHeartbeats 4000000 in
theorem jji (a b : Nat) : ∃ h l, ∀ {X : XT} {g : Nat} {μ : Mem}, 30 ≤ g → aFun pZ (jaj pZ X S0 g) 242 [u a, u b] μ = some (.tuple #[u h, u l], μ) := by
 refine ⟨?_, ?_, fun {X g μ} hg => ?_⟩
 rotate_left 2
 ·obtain ⟨k, rfl⟩ := gle hg
  refine jaF ?_
  refine jaf Tryz.func242 rfl rfl (nbl rfl) ?_
  simp only [go_sem, Tryz.ntmps242]
  repeat (refine jaa rfl ?_; (try simp only [go_sem, wAdd, wMul, wAnd, wAndM, wShr32]); fail_if_success refine stk ?_)
  refine jad ?_
  refine ⟨rfl, _, ?_, rfl, rfl⟩
  simp only [go_sem, Tryz.results242]
  rfl
set_option maxHeartbeats 4000000 in
theorem unmin_ex (a : Nat) : ∃ r, ∀ {X : XT} {g : Nat} {μ : Mem}, 10 ≤ g → aFun pZ (jaj pZ X S0 g) 211 [u a] μ = some (u r, μ) := by
 refine ⟨?_, fun {X g μ} hg => ?_⟩
 rotate_left 1
 ·obtain ⟨k, rfl⟩ := gle hg
  refine jaF ?_
  refine jaf Tryz.func211 rfl rfl (nbl rfl) ?_
  simp only [go_sem, Tryz.ntmps211]
  repeat (refine jaa rfl ?_; (try simp only [go_sem, wShl2, wSub2]); fail_if_success refine stk ?_)
  refine jad ?_
  refine ⟨rfl, _, ?_, rfl, rfl⟩
  simp only [go_sem, Tryz.results211]
  rfl
set_option maxHeartbeats 4000000 in
theorem jja (a : Nat) : ∃ r, ∀ {X : XT} {g : Nat} {μ : Mem}, 10 ≤ g → aFun pZ (jaj pZ X S0 g) 208 [u a] μ = some (u r, μ) := by
 refine ⟨?_, fun {X g μ} hg => ?_⟩
 rotate_left 1
 ·obtain ⟨k, rfl⟩ := gle hg
  refine jaF ?_
  refine jaf Tryz.func208 rfl rfl (nbl rfl) ?_
  simp only [go_sem, Tryz.ntmps208]
  repeat (refine jaa rfl ?_; (try simp only [go_sem, wShr2, wAdd1, wAnd1, wAdd]); fail_if_success refine stk ?_)
  refine jad ?_
  refine ⟨rfl, _, ?_, rfl, rfl⟩
  simp only [go_sem, Tryz.results208]
  rfl
theorem jdi {ρ : Operand → Value} {x y : Operand} {s : ByteArray} {kd : IntKind} {m : Nat} {b : UInt8} (hx : ρ x = .string s) (hy : ρ y = .int kd (.ofNat m)) (hb : s.data.toList[m]? = some b) : jaX pZ ρ 9 x y = some (.int .u8 (.ofNat b.toNat)) := by
 unfold jaX
 simp only [hx, hy, Tryz.underlying9, hb]
 rfl
abbrev len8 : ByteArray := ⟨List.toArray (List.append (List.append [0, 1, 2, 2, 3, 3, 3, 3, 4, 4, 4, 4, 4, 4, 4, 4, 5, 5, 5, 5, 5, 5, 5, 5, 5, 5, 5, 5, 5, 5, 5, 5, 6, 6, 6, 6, 6, 6, 6, 6, 6, 6, 6, 6, 6, 6, 6, 6, 6, 6, 6, 6, 6, 6, 6, 6, 6, 6, 6, 6, 6, 6, 6, 6] [7, 7, 7, 7, 7, 7, 7, 7, 7, 7, 7, 7, 7, 7, 7, 7, 7, 7, 7, 7, 7, 7, 7, 7, 7, 7, 7, 7, 7, 7, 7, 7, 7, 7, 7, 7, 7, 7, 7, 7, 7, 7, 7, 7, 7, 7, 7, 7, 7, 7, 7, 7, 7, 7, 7, 7, 7, 7, 7, 7, 7, 7, 7, 7]) (List.append [8, 8, 8, 8, 8, 8, 8, 8, 8, 8, 8, 8, 8, 8, 8, 8, 8, 8, 8, 8, 8, 8, 8, 8, 8, 8, 8, 8, 8, 8, 8, 8, 8, 8, 8, 8, 8, 8, 8, 8, 8, 8, 8, 8, 8, 8, 8, 8, 8, 8, 8, 8, 8, 8, 8, 8, 8, 8, 8, 8, 8, 8, 8, 8] [8, 8, 8, 8, 8, 8, 8, 8, 8, 8, 8, 8, 8, 8, 8, 8, 8, 8, 8, 8, 8, 8, 8, 8, 8, 8, 8, 8, 8, 8, 8, 8, 8, 8, 8, 8, 8, 8, 8, 8, 8, 8, 8, 8, 8, 8, 8, 8, 8, 8, 8, 8, 8, 8, 8, 8, 8, 8, 8, 8, 8, 8, 8, 8]))⟩
theorem len8_all : ∀ m, m < 256 → ∃ b, len8.data.toList[m]? = some b ∧ b.toNat ≤ 8 ∧ m < 2 ^ b.toNat := by
 intro m hm
 have h : ∀ m, m < 256 → (match len8.data.toList[m]? with | some b => decide (b.toNat ≤ 8) && decide (m < 2 ^ b.toNat) | none => false) = true := by decide +kernel
 have := h m hm
 split at this
 ·rename_i b hb
  simp only [Bool.and_eq_true, decide_eq_true_eq] at this
  exact ⟨b, hb, this.1, this.2⟩
 ·cases this
theorem jdm (n : Int) : jaG pZ 110 5 (.int .u64 n) = some (.int .u8 (jak .u8 n)) := by
 simp only [jaG, Tryz.underlying110, Tryz.underlying5]
theorem jci (n : Int) : jaG pZ 5 3 (.int .u8 n) = some (.int .i64 (jak .i64 n)) := by
 simp only [jaG, Tryz.underlying3, Tryz.underlying5]
theorem jiH (n : Int) : jaG pZ 5 110 (.int .u8 n) = some (.int .u64 (jak .u64 n)) := by
 simp only [jaG, Tryz.underlying110, Tryz.underlying5]
theorem qu8 (m : Nat) (h : m < 256) : jak .u8 (.ofNat m) = .ofNat m := by
 rw [jbu]
 show IntKind.wrap .u8 _ = _
 unfold IntKind.wrap
 simp only [IntKind.bits, IntKind.signed]
 simp
 omega
theorem jgu (a : Nat) : ∃ b, b ≤ 64 ∧ W a < 2 ^ b ∧ ∀ {X : XT} {g : Nat} {μ : Mem}, 40 ≤ g → aFun pZ (jaj pZ X S0 g) 158 [u a] μ = some (.int .i64 (.ofNat b), μ) := by
 have st : ∀ (x c : Nat) (t y : Nat), ∃ (big : Bool) (x' c' : Nat), (decide (x < t) = !big) ∧ (big = true → x' = x / 2 ^ y ∧ c' = c + y) ∧ (big = false → x' = x ∧ c' = c) := fun x c t y => by
  by_cases h : x < t
  ·exact ⟨false, x, c, by simp [h], (fun h => by cases h), fun _ => ⟨rfl, rfl⟩⟩
  ·exact ⟨true, x / 2 ^ y, c + y, by simp [h], (fun _ => ⟨rfl, rfl⟩), fun h => by cases h⟩
 obtain ⟨b1, x1, c1, h1, t1, f1⟩ := st (W a) 0 4294967296 32
 obtain ⟨b2, x2, c2, h2, t2, f2⟩ := st x1 c1 65536 16
 obtain ⟨b3, x3, c3, h3, t3, f3⟩ := st x2 c2 256 8
 have l0 := W_lt a
 have k1 : x1 < 4294967296 ∧ c1 ≤ 32 ∧ W a < (x1 + 1) * 2 ^ c1 := by
  cases b1 with
  | true => obtain ⟨rfl, rfl⟩ := t1 rfl; omega
  | false => obtain ⟨rfl, rfl⟩ := f1 rfl; simp at h1; omega
 have up : ∀ (x c y : Nat), W a < (x + 1) * 2 ^ c → W a < (x / 2 ^ y + 1) * 2 ^ (c + y) := fun x c y h => by
  refine rzO h ?_
  rw [Nat.pow_add, Nat.mul_comm (2 ^ c), ← Nat.mul_assoc]
  refine Nat.mul_le_mul_right _ ?_
  have := Nat.lt_div_mul_add (a := x) (b := 2 ^ y) (Nat.pow_pos (by decide))
  rw [Nat.add_mul, Nat.one_mul]; exact this
 have k2 : x2 < 65536 ∧ c2 ≤ 48 ∧ W a < (x2 + 1) * 2 ^ c2 := by
  obtain ⟨p, q, r⟩ := k1
  cases b2 with
  | true => obtain ⟨rfl, rfl⟩ := t2 rfl; exact ⟨by omega, by omega, up _ _ _ r⟩
  | false => obtain ⟨rfl, rfl⟩ := f2 rfl; simp at h2; exact ⟨by omega, by omega, r⟩
 have k3 : x3 < 256 ∧ c3 ≤ 56 ∧ W a < (x3 + 1) * 2 ^ c3 := by
  obtain ⟨p, q, r⟩ := k2
  cases b3 with
  | true => obtain ⟨rfl, rfl⟩ := t3 rfl; exact ⟨by omega, by omega, up _ _ _ r⟩
  | false => obtain ⟨rfl, rfl⟩ := f3 rfl; simp at h3; exact ⟨by omega, by omega, r⟩
 obtain ⟨d, hd, hd8, hdx⟩ := len8_all x3 k3.1
 refine ⟨c3 + d.toNat, by have := k3.2.1; omega, ?_, fun {X g μ} hg => ?_⟩
 ·refine rzO k3.2.2 ?_
  rw [Nat.pow_add, Nat.mul_comm]
  exact Nat.mul_le_mul_left _ hdx
 ·obtain ⟨k, rfl⟩ := gle hg
  refine jaF ?_
  have e1 : ilt (.ofNat (W a)) 4294967296 = !b1 := (jao _ 4294967296).trans h1
  have e2 : ilt (.ofNat x1) 65536 = !b2 := (jao _ 65536).trans h2
  have e3 : ilt (.ofNat x2) 256 = !b3 := (jao _ 256).trans h3
  have s32 : ∀ m, m < 18446744073709551616 → jaQ false .u64 (.ofNat m) 32 = some (.int .u64 (.ofNat (m / 2 ^ 32))) := fun m h => (w_shr m 32 (by decide) h).trans (by rw [W_of (Nat.lt_of_le_of_lt (Nat.div_le_self _ _) h)])
  have s16 : ∀ m, m < 18446744073709551616 → jaQ false .u64 (.ofNat m) 16 = some (.int .u64 (.ofNat (m / 2 ^ 16))) := fun m h => (w_shr m 16 (by decide) h).trans (by rw [W_of (Nat.lt_of_le_of_lt (Nat.div_le_self _ _) h)])
  have s8 : ∀ m, m < 18446744073709551616 → jaQ false .u64 (.ofNat m) 8 = some (.int .u64 (.ofNat (m / 2 ^ 8))) := fun m h => (w_shr m 8 (by decide) h).trans (by rw [W_of (Nat.lt_of_le_of_lt (Nat.div_le_self _ _) h)])
  have fin : ∀ r p, aev pZ r p = .int .u8 (.ofNat x3) → jaX pZ (aev pZ r) 9 (.const (.string len8)) p = some (.int .u8 (.ofNat d.toNat)) := fun r p hp => jdi (s := len8) rfl hp hd
  have q1 := qu8 x3 k3.1
  have q2 : jak .i64 (.ofNat d.toNat) = .ofNat d.toNat := q64 _ (by omega)
  have q3 : jak .i64 (Int.add (.ofNat c3) (.ofNat d.toNat)) = .ofNat (c3 + d.toNat) := jaE _ _ (by have := k3.2.1; omega)
  have lx1 : x1 < 18446744073709551616 := by have := k1.1; omega
  have lx2 : x2 < 18446744073709551616 := by have := k2.1; omega
  have z32 := s32 (W a) l0
  have z16 := s16 x1 lx1
  have z8 := s8 x2 lx2
  have a16 : jak .i64 (Int.add (.ofNat c1) 16) = .ofNat (c1 + 16) := jaE c1 16 (by have := k1.2.1; omega)
  have a8 : jak .i64 (Int.add (.ofNat c2) 8) = .ofNat (c2 + 8) := jaE c2 8 (by have := k2.2.1; omega)
  refine jaf Tryz.func158 rfl rfl (nbl rfl) ?_
  simp only [go_sem, Tryz.ntmps158]
  cases b1 with
  | true =>
    obtain ⟨rfl, rfl⟩ := t1 rfl
    rw [show (.ofNat (0 + 32) : Int) = 32 from rfl] at a16
    cases b2 with
    | true =>
      obtain ⟨rfl, rfl⟩ := t2 rfl
      cases b3 with
      | true =>
        obtain ⟨rfl, rfl⟩ := t3 rfl
        repeat (refine jaa rfl ?_; (try simp only [go_sem, e1, e2, e3, z32, z16, z8, a16, a8, jdm, q1, fin, jci, q2, q3]); fail_if_success refine stk ?_)
        exact jad ⟨rfl, _, by simp only [go_sem, Tryz.results158], rfl, rfl⟩
      | false =>
        obtain ⟨rfl, rfl⟩ := f3 rfl
        repeat (refine jaa rfl ?_; (try simp only [go_sem, e1, e2, e3, z32, z16, z8, a16, a8, jdm, q1, fin, jci, q2, q3]); fail_if_success refine stk ?_)
        exact jad ⟨rfl, _, by simp only [go_sem, Tryz.results158], rfl, rfl⟩
    | false =>
      obtain ⟨rfl, rfl⟩ := f2 rfl
      rw [show (.ofNat (0 + 32) : Int) = 32 from rfl] at a8
      cases b3 with
      | true =>
        obtain ⟨rfl, rfl⟩ := t3 rfl
        repeat (refine jaa rfl ?_; (try simp only [go_sem, e1, e2, e3, z32, z16, z8, a16, a8, jdm, q1, fin, jci, q2, q3]); fail_if_success refine stk ?_)
        exact jad ⟨rfl, _, by simp only [go_sem, Tryz.results158], rfl, rfl⟩
      | false =>
        obtain ⟨rfl, rfl⟩ := f3 rfl
        rw [show (.ofNat (0 + 32) : Int) = 32 from rfl] at q3
        repeat (refine jaa rfl ?_; (try simp only [go_sem, e1, e2, e3, z32, z16, z8, a16, a8, jdm, q1, fin, jci, q2, q3]); fail_if_success refine stk ?_)
        exact jad ⟨rfl, _, by simp only [go_sem, Tryz.results158], rfl, rfl⟩
  | false =>
    obtain ⟨rfl, rfl⟩ := f1 rfl
    rw [show (.ofNat 0 : Int) = 0 from rfl] at a16
    cases b2 with
    | true =>
      obtain ⟨rfl, rfl⟩ := t2 rfl
      cases b3 with
      | true =>
        obtain ⟨rfl, rfl⟩ := t3 rfl
        repeat (refine jaa rfl ?_; (try simp only [go_sem, e1, e2, e3, z32, z16, z8, a16, a8, jdm, q1, fin, jci, q2, q3]); fail_if_success refine stk ?_)
        exact jad ⟨rfl, _, by simp only [go_sem, Tryz.results158], rfl, rfl⟩
      | false =>
        obtain ⟨rfl, rfl⟩ := f3 rfl
        repeat (refine jaa rfl ?_; (try simp only [go_sem, e1, e2, e3, z32, z16, z8, a16, a8, jdm, q1, fin, jci, q2, q3]); fail_if_success refine stk ?_)
        exact jad ⟨rfl, _, by simp only [go_sem, Tryz.results158], rfl, rfl⟩
    | false =>
      obtain ⟨rfl, rfl⟩ := f2 rfl
      rw [show (.ofNat 0 : Int) = 0 from rfl] at a8
      cases b3 with
      | true =>
        obtain ⟨rfl, rfl⟩ := t3 rfl
        repeat (refine jaa rfl ?_; (try simp only [go_sem, e1, e2, e3, z32, z16, z8, a16, a8, jdm, q1, fin, jci, q2, q3]); fail_if_success refine stk ?_)
        exact jad ⟨rfl, _, by simp only [go_sem, Tryz.results158], rfl, rfl⟩
      | false =>
        obtain ⟨rfl, rfl⟩ := f3 rfl
        rw [show (.ofNat 0 : Int) = 0 from rfl] at q3
        repeat (refine jaa rfl ?_; (try simp only [go_sem, e1, e2, e3, z32, z16, z8, a16, a8, jdm, q1, fin, jci, q2, q3]); fail_if_success refine stk ?_)
        exact jad ⟨rfl, _, by simp only [go_sem, Tryz.results158], rfl, rfl⟩
end
noncomputable section
theorem shr15_any (v : Int) : pv pZ (Op.shift .shr .i64 v .u64 15) = some (.int .i64 (v / 32768)) := by
 show some (Value.int .i64 (Int.fdiv v (2 ^ 15))) = _
 rw [Int.fdiv_eq_ediv_of_nonneg _ (by decide)]; rfl
theorem shr15_neg (v : Int) (h : v < 0) : jaQ false .i64 v 15 = none := by
 cases v with
 | ofNat m => exact absurd h (by simp only [Int.ofNat_eq_natCast]; omega)
 | negSucc m => rfl
theorem shr15_pos (v : Int) (h : 0 ≤ v) : jaQ false .i64 v 15 = some (.int .i64 (v / 32768)) := by
 cases v with
 | ofNat m =>
   unfold jaQ
   simp only [jcB]
   rfl
 | negSucc m => omega
set_option maxHeartbeats 4000000 in
theorem jir {X : XT} {g : Nat} {p : Int} {μ : Mem} (hg : 20 ≤ g) (h1 : -100000 < p) (h2 : p < 100000) : aFun pZ (jaj pZ X S0 g) 203 [.int .i64 p] μ = some (.int .i64 (p * 108853 / 32768), μ) := by
 obtain ⟨k, rfl⟩ := gle hg
 refine jaF ?_
 have e1 : jak .i64 (Int.mul p 108853) = p * 108853 := i_mul p 108853 (by omega) (by omega)
 obtain ⟨v, hv⟩ := exq (p * 108853)
 rw [← hv] at e1 ⊢
 by_cases h0 : v < 0
 ·have e2 := shr15_neg v h0
  have e3 := shr15_any v
  refine jaf Tryz.func203 rfl rfl (nbl rfl) ?_
  simp only [go_sem, Tryz.ntmps203]
  repeat (refine jaa rfl ?_; (try simp only [go_sem, e1, e2, e3]); fail_if_success refine stk ?_)
  exact jad ⟨rfl, _, by simp only [go_sem, Tryz.results203], rfl, rfl⟩
 ·have e2 := shr15_pos v (by omega)
  refine jaf Tryz.func203 rfl rfl (nbl rfl) ?_
  simp only [go_sem, Tryz.ntmps203]
  repeat (refine jaa rfl ?_; (try simp only [go_sem, e1, e2]); fail_if_success refine stk ?_)
  exact jad ⟨rfl, _, by simp only [go_sem, Tryz.results203], rfl, rfl⟩
theorem i_and63 (s : Nat) (h : s < 1000000) : jbA Nat.land .i64 .i64 (.ofNat s) 63 = some (.int .i64 (.ofNat (s &&& 63))) := by
 unfold jbA
 simp only [decide_true, jcB]
 rw [show Nat.blt s 18446744073709551616 = true from by simp; omega]
 show some (Value.int .i64 (jak .i64 (.ofNat (s &&& 63)))) = _
 rw [q64 _ (Nat.lt_of_le_of_lt Nat.and_le_right (by decide))]
theorem jdM (x h l s : Nat) (hs : s < 1000000) : ∃ r d, ∀ {X : XT} {g : Nat} {μ : Mem} {i : Nat}, 80 ≤ g → jal μ i 0 = some (u h) → jal μ i 1 = some (u l) → jal μ i 2 = some (.int .i64 (.ofNat s)) →
  aFun pZ (jaj pZ X S0 g) 204 [u x, .pointer (some ⟨i, 0, none⟩)] μ = some (u r, ⟨μ.obs, μ.next + d⟩) := by
 obtain ⟨a, b, hm1⟩ := jji x h
 obtain ⟨c, e, hm2⟩ := jji x l
 obtain ⟨t, ht⟩ := exq (s &&& 63)
 have ht64 : t ≤ 64 := by rw [ht]; exact rzS Nat.and_le_right (by decide)
 have ea := i_and63 s hs
 rw [← ht] at ea
 have er := fun m => wShr m t ht64
 have el := fun m => wShl m t ht64
 by_cases hc : W (Sh (W (W a / 2 ^ t)) t) = W a
 ·have ec : ieq (.ofNat (W (Sh (W (W a / 2 ^ t)) t))) (.ofNat (W a)) = true := dT (jbG _ _) hc
  refine ⟨?_, 10, fun {X g μ i} hg c0 c1 c2 => ?_⟩
  rotate_left 1
  ·obtain ⟨k, rfl⟩ := gle hg
   refine jaF ?_
   have hm1' : ∀ (g' : Nat) (μ' : Mem), 30 ≤ g' → aFun pZ (jaj pZ X S0 g') 242 [u x, u h] μ' = some (.tuple #[u a, u b], μ') := fun g' μ' h => hm1 h
   have hm2' : ∀ (g' : Nat) (μ' : Mem), 30 ≤ g' → aFun pZ (jaj pZ X S0 g') 242 [u x, u l] μ' = some (.tuple #[u c, u e], μ') := fun g' μ' h => hm2 h
   have hb : ∀ (g' : Nat) (q : Bool) (μ' : Mem), 10 ≤ g' → aFun pZ (jaj pZ X S0 g') 243 [.bool q] μ' = some (u (b2 q), μ') := fun g' q μ' h => jhI h
   have il := jao (W b) (W c)
   have il2 : ∀ m, ilt 1 (.ofNat (W m)) = decide (1 < W m) := fun m => jao 1 (W m)
   refine jaf Tryz.func204 rfl rfl (nbl rfl) ?_
   simp only [go_sem, Tryz.ntmps204]
   repeat (refine jaa rfl ?_; (try simp only [go_sem, c0, c1, c2, hm1', hm2', Nat.reduceLeDiff, ea, er, el, ec, il, hb, wSub]); fail_if_success refine stk ?_)
   refine jaz (n := 10) (ms := [0, 0, 3, 0, 0, 24, 56, 120, 255, 511]) (ord := [3, 4, 5, 6, 7, 0, 1, 2, 8, 9]) (ds := ?_) ?_ ?_ ?_ ?_ ?_ ?_
   rotate_left
   ·kernel_rfl
   ·kernel_rfl
   ·kernel_rfl
   ·rfl
   ·rfl
   iterate 10 (refine jay (by first | rfl | (simp only [go_sem, er, wSub, il2, gg243, hb, Nat.reduceLeDiff, wOr])) (by simp only [jaC, heavy, jaO, jar, go_sem, er, wSub, il2, gg243, hb, Nat.reduceLeDiff, wOr]; try exact rfl) rfl ?_)
   simp only [dRun, jat, jai]
   refine jad ?_
   refine ⟨rfl, _, ?_, rfl, rfl⟩
   simp only [go_sem, Tryz.results204]
   rfl
 ·have ec : ieq (.ofNat (W (Sh (W (W a / 2 ^ t)) t))) (.ofNat (W a)) = false := dF (jbG _ _) hc
  refine ⟨?_, 0, fun {X g μ i} hg c0 c1 c2 => ?_⟩
  rotate_left 1
  ·obtain ⟨k, rfl⟩ := gle hg
   refine jaF ?_
   have hm1' : ∀ (g' : Nat) (μ' : Mem), 30 ≤ g' → aFun pZ (jaj pZ X S0 g') 242 [u x, u h] μ' = some (.tuple #[u a, u b], μ') := fun g' μ' h => hm1 h
   refine jaf Tryz.func204 rfl rfl (nbl rfl) ?_
   simp only [go_sem, Tryz.ntmps204]
   repeat (refine jaa rfl ?_; (try simp only [go_sem, c0, c1, c2, hm1', Nat.reduceLeDiff, ea, er, el, ec, wOr1]); fail_if_success refine stk ?_)
   refine jad ?_
   refine ⟨rfl, _, ?_, rfl, rfl⟩
   simp only [go_sem, Tryz.results204]
   rfl
theorem andn_ex (a : Nat) : ∃ r, bits .andNot .u64 (.ofNat a) 4503599627370496 = .ofNat (W r) := by
 unfold bits
 dsimp only
 generalize BitVec.toNat _ = N
 exact ⟨N, by rw [← jbu]; exact jbR N⟩
theorem jda (v : Value) : pv pZ (pure v) = some v := rfl
theorem wI (n : Int) : jak .u64 n = .ofNat (W (n % 18446744073709551616).toNat) := by rw [wrap_u64, W_of (by omega)]
theorem jcx (n : Int) : jaG pZ 3 110 (.int .i64 n) = some (.int .u64 (jak .u64 n)) := by
 simp only [jaG, Tryz.underlying3, Tryz.underlying110]
def jbc (X : XT) : Prop := ∀ a μ, X 276 [u a] μ = some (.float .f64 (W a), μ)
theorem jd7 {X : XT} {ev : ET} (args : List Value) (μ : Mem) : aGo pZ X (jbj pZ ev S0) 276 args μ = X 276 args μ := by
 unfold aGo
 rw [Tryz.func276]
 rfl
theorem pack64_ex (m : Nat) (e : Int) (h1 : -100000 < e) (h2 : e < 100000) : ∃ f v, ∀ {X : XT} {g : Nat} {μ : Mem}, jbc X → 20 ≤ g →
  aFun pZ (jaj pZ X S0 g) 284 [u m, .int .i64 e] μ = some (.tuple #[.float .f64 f, v], μ) ∧ (v = .nilIface ∨ v = .iface 262 (.int .i64 1)) := by
 obtain ⟨n, hn⟩ := andn_ex (W m)
 have a1 := wAndH m
 obtain ⟨q, hq⟩ := exq (W (W m &&& 4503599627370496))
 rw [← hq] at a1
 by_cases hz : q = 0
 ·have ez : ieq (.ofNat q) 0 = true := by rw [hz]; rfl
  refine ⟨W m, .nilIface, fun {X g μ} hX hg => ⟨?_, .inl rfl⟩⟩
  obtain ⟨k, rfl⟩ := gle hg
  have x1 := hX m
  refine jaF ?_
  refine jaf Tryz.func284 rfl rfl (nbl rfl) ?_
  simp only [go_sem, Tryz.ntmps284]
  repeat (refine jaa rfl ?_; (try simp only [go_sem, a1, ez, jd7, x1]); fail_if_success refine stk ?_)
  exact jad ⟨rfl, _, by simp only [go_sem, Tryz.results284], rfl, rfl⟩
 ·have ez : ieq (.ofNat q) 0 = false := dF (jaB q 0 0 rfl) hz
  by_cases he : e < 972
  ·obtain ⟨z, hz'⟩ : ∃ z, jak .u64 (1075 + e) = .ofNat (W z) := ⟨_, wI _⟩
   have el : ilt e 972 = true := dT (jaZ _ _) he
   have e1 : jak .i64 (Int.add 1075 e) = 1075 + e := jcJ 1075 e (by omega) (by omega)
   refine ⟨W (W n ||| W (Sh (W z) 52)), .nilIface, fun {X g μ} hX hg => ⟨?_, .inl rfl⟩⟩
   ·obtain ⟨k, rfl⟩ := gle hg
    refine jaF ?_
    have x1 : ∀ a μ, X 276 [u a] μ = some (.float .f64 (W a), μ) := hX
    refine jaf Tryz.func284 rfl rfl (nbl rfl) ?_
    simp only [go_sem, Tryz.ntmps284]
    repeat (refine jaa rfl ?_; (try simp only [go_sem, a1, ez]); fail_if_success refine stk ?_)
    refine jax ?_ ?_
    ·simp only [go_sem, el, Bool.not_true]
    refine jbo ?_
    simp only [jai]
    refine jag ?_
    refine jaD ?_ ?_
    ·rfl
    refine jcu (v := u m) (jim (by simp only [aP, go_sem, e1, hn, jda, jcx, hz', jc8, wOr])) rfl (by decide) ?_
    refine jcu (v := .int .u64 (.ofNat (W n))) (jim (by simp only [aP, go_sem, e1, hn, jda, jcx, hz', jc8, wOr])) rfl (by decide) ?_
    refine jcu (v := .int .i64 e) (jim (by simp only [aP, go_sem, e1, hn, jda, jcx, hz', jc8, wOr])) rfl (by decide) ?_
    refine jcu (v := .int .i64 (1075 + e)) (jim (by simp only [aP, go_sem, e1, hn, jda, jcx, hz', jc8, wOr])) rfl (by decide) ?_
    refine jcu (v := .int .u64 (.ofNat (W z))) (jim (by simp only [aP, go_sem, e1, hn, jda, jcx, hz', jc8, wOr])) rfl (by decide) ?_
    refine jcu (v := .int .u64 (.ofNat (W (Sh (W z) 52)))) (jim (by simp only [aP, go_sem, e1, hn, jda, jcx, hz', jc8, wOr])) rfl (by decide) ?_
    refine jcu (v := .int .u64 (.ofNat (W (W n ||| W (Sh (W z) 52))))) (jim (by simp only [aP, go_sem, e1, hn, jda, jcx, hz', jc8, wOr])) rfl (by decide) ?_
    simp only [go_sem, jd7, x1]
    exact jad ⟨rfl, _, by simp only [go_sem, Tryz.results284], rfl, rfl⟩
  ·have el : ilt e 972 = false := dF (jaZ _ _) he
   have o1 : ∀ a, jbA Nat.lor .u64 .u64 (.ofNat (W a)) 9218868437227405312 = some (.int .u64 (.ofNat (W (W a ||| 9218868437227405312)))) := wOrI
   refine ⟨?_, .iface 262 (.int .i64 1), fun {X g μ} hX hg => ⟨?_, .inr rfl⟩⟩
   rotate_left 1
   ·obtain ⟨k, rfl⟩ := gle hg
    refine jaF ?_
    have x1 : ∀ a μ, X 276 [u a] μ = some (.float .f64 (W a), μ) := hX
    have mi : ∀ (r : Rg), jbq pZ (aev pZ r) 262 (.const (.int .i64 1)) = some (.iface 262 (.int .i64 1)) := fun r => by
     unfold jbq
     rw [Tryz.underlying262]
     rfl
    refine jaf Tryz.func284 rfl rfl (nbl rfl) ?_
    simp only [go_sem, Tryz.ntmps284]
    repeat (refine jaa rfl ?_; (try simp only [go_sem, a1, ez, el, wAndS, o1, jd7, x1, mi]); fail_if_success refine stk ?_)
    refine jad ?_
    refine ⟨rfl, _, ?_, rfl, rfl⟩
    simp only [go_sem, Tryz.results284]
    with_reducible rfl
def natOf : Value → Nat
 | .int _ (.ofNat n) => n
 | _ => 0
def ptab : List Value := (flatL 3 Go.Pinned.pow10Tab).getD []
def hiT (k : Nat) : Nat := natOf (ptab.getD (2 * k) undef)
def loT (k : Nat) : Nat := natOf (ptab.getD (2 * k + 1) undef)
def fpows : List Nat := [4607182418800017408, 4621819117588971520, 4636737291354636288, 4652007308841189376, 4666723172467343360, 4681608360884174848, 4696837146684686336, 4711630319722168320, 4726483295884279808, 4741671816366391296, 4756540486875873280, 4771362005757984768, 4786511204640096256, 4801453603149578240, 4816244402031689728, 4831355200913801216, 4846369599423283200, 4861130398305394688, 4876203697187506176, 4891288408196988160, 4906019910204099648, 4921056587992461136, 4936209963552724370]
def powts : List Nat := [1, 3, 6, 9, 13, 16, 19, 23, 26]
def dlt (k : Nat) : Nat := (Go.Pinned.cheatRows.getD k (0, [])).1
def cut (k : Nat) : ByteArray := ⟨(Go.Pinned.cheatRows.getD k (0, [])).2.toArray⟩
structure Lay (μ : Mem) : Prop where
 opt : jal μ 1 0 = some (.bool true)
 fi0 : jal μ 11 0 = some (.int .u64 52)
 fi1 : jal μ 11 1 = some (.int .u64 11)
 fi2 : jal μ 11 2 = some (.int .i64 (-1023))
 pt : ∀ k, k < 696 → jal μ 6 (2 * k) = some (u (hiT k)) ∧ jal μ 6 (2 * k + 1) = some (u (loT k))
 fp : ∃ b o c, jal μ 16 0 = some (.slice (some ⟨b, o, none⟩) 23 c) ∧ b < μ.next ∧ ∀ k, k < 23 → jal μ b (o + k) = some (.float .f64 (fpows.getD k 0))
 pw : ∃ b o c, jal μ 15 0 = some (.slice (some ⟨b, o, none⟩) 9 c) ∧ b < μ.next ∧ ∀ k, k < 9 → jal μ b (o + k) = some (.int .i64 (.ofNat (powts.getD k 0)))
 lc : ∃ b o c, jal μ 7 0 = some (.slice (some ⟨b, o, none⟩) 61 c) ∧ b < μ.next ∧ ∀ k, k < 61 → jal μ b (o + 2 * k) = some (.int .i64 (.ofNat (dlt k))) ∧ jal μ b (o + 2 * k + 1) = some (.string (cut k))
 er : ∃ v, jal μ 9 0 = some v ∧ one v = true
 es : ∃ v, jal μ 8 0 = some v ∧ one v = true
 lt : 20 < μ.next
theorem jbF {μ μ' : Mem} {i : Nat} (g : Grow μ μ') (h : i < μ.next) (o : Nat) : jal μ' i o = jal μ i o := by unfold jal; rw [g.2 i h]
theorem Lay.grow {μ μ' : Mem} (h : Lay μ) (g : Grow μ μ') : Lay μ' := by
 have c : ∀ i, i ≤ 20 → ∀ o, jal μ' i o = jal μ i o := fun i hi o => jbF g (Nat.lt_of_le_of_lt hi h.lt) o
 refine ⟨(c _ (by decide) _).trans h.opt, (c _ (by decide) _).trans h.fi0, (c _ (by decide) _).trans h.fi1, (c _ (by decide) _).trans h.fi2, fun k hk => ?_, ?_, ?_, ?_, ?_, ?_, rzO h.lt g.1⟩
 ·rw [c _ (by decide), c _ (by decide)]; exact h.pt k hk
 ·obtain ⟨b, o, cc, h1, h2, h3⟩ := h.fp
  exact ⟨b, o, cc, (c _ (by decide) _).trans h1, rzO h2 g.1, fun k hk => (jbF g h2 _).trans (h3 k hk)⟩
 ·obtain ⟨b, o, cc, h1, h2, h3⟩ := h.pw
  exact ⟨b, o, cc, (c _ (by decide) _).trans h1, rzO h2 g.1, fun k hk => (jbF g h2 _).trans (h3 k hk)⟩
 ·obtain ⟨b, o, cc, h1, h2, h3⟩ := h.lc
  exact ⟨b, o, cc, (c _ (by decide) _).trans h1, rzO h2 g.1, fun k hk => ⟨(jbF g h2 _).trans (h3 k hk).1, (jbF g h2 _).trans (h3 k hk).2⟩⟩
 ·obtain ⟨v, h1, h2⟩ := h.er
  exact ⟨v, (c _ (by decide) _).trans h1, h2⟩
 ·obtain ⟨v, h1, h2⟩ := h.es
  exact ⟨v, (c _ (by decide) _).trans h1, h2⟩
theorem glob (g : Nat) (hg : Nat.blt g pZ.globals.size = true) (r : Rg) : aev pZ r (.global g) = .pointer (some ⟨g, 0, none⟩) := by
 show (match Nat.blt g pZ.globals.size with | true => Value.pointer (some ⟨g, 0, none⟩) | false => Value.chan none) = _
 rw [hg]
theorem gP (r : Rg) : aev pZ r (.global 6) = .pointer (some ⟨6, 0, none⟩) := glob _ (by kernel_rfl) r
theorem nF : Nat.blt 16 pZ.globals.size = true := by kernel_rfl
theorem nW : Nat.blt 15 pZ.globals.size = true := by kernel_rfl
theorem nL : Nat.blt 7 pZ.globals.size = true := by kernel_rfl
theorem nO : Nat.blt 1 pZ.globals.size = true := by kernel_rfl
theorem nI : Nat.blt 11 pZ.globals.size = true := by kernel_rfl
theorem nR : Nat.blt 9 pZ.globals.size = true := by kernel_rfl
theorem nS : Nat.blt 8 pZ.globals.size = true := by kernel_rfl
theorem jfe {X : XT} {g i k s : Nat} {x p lp : Int} {μ : Mem} (hg : 40 ≤ g) (hL : Lay μ) (hb : Blk μ i 3 247) (hi : 20 < i) (hk : k < 696) (hp : p - (-348) = .ofNat k) (b1 : -100000 < x) (b2 : x < 100000) (b3 : -100000 < lp) (b4 : lp < 100000) (hs : -(x + lp + 3) = .ofNat s) :
  aFun pZ (jaj pZ X S0 g) 202 [.pointer (some ⟨i, 0, none⟩), .int .i64 x, .int .i64 p, .int .i64 lp] μ = some (.tuple #[], putL (putL (putL μ i 0 [u (hiT k)]) i 1 [u (loT k)]) i 2 [.int .i64 (.ofNat s)]) := by
 obtain ⟨f, rfl⟩ := gle hg
 refine jaF ?_
 have hp' : p - (-348) = (k : Int) := hp
 have q1 : jak .i64 (Int.sub p (-348)) = .ofNat k := by rw [← hp]; exact jbU p (-348) (by omega) (by omega)
 have q2 : jak .i64 (Int.add x lp) = x + lp := jcJ x lp (by omega) (by omega)
 have q3 : jak .i64 (Int.add (x + lp) 3) = x + lp + 3 := jcJ (x + lp) 3 (by omega) (by omega)
 obtain ⟨y, hy⟩ := exq (x + lp + 3)
 rw [← hy] at q3 hs
 have np : ∀ (ρ : Operand → Value) (d : Option Tmp) (t ty : TypeId) (a : Operand) (ps : String) (af : Array Edge) (gd : Option (Nat × Bool)), ρ a = .int .i64 y → jaH pZ ρ ⟨d, .unOp .neg t a, ty, ps, af, gd⟩ = some (.int .i64 (.ofNat s)) := fun ρ d t ty a ps af gd h => by rw [← hs]; exact jbC h (by omega) (by omega)
 have hix : ∀ (r : Rg) (b' : Operand), aev pZ r b' = .int .i64 (.ofNat k) → jan pZ (aev pZ r) 283 (.global 6) b' = some (.pointer (some ⟨6, 2 * k, none⟩)) := fun r b' g2 => by
  unfold jan
  simp only [g2, gP, Tryz.underlying283, aIdx, i_pm]
  rw [show Nat.blt k 696 = true from by simpa using hk]
  simp only [Addr.add]
  rw [show Nat.mul k Tryz.t282.size = 2 * k from Nat.mul_comm k 2, rzT]
  split
  ·rename_i h; rw [h]
  ·rfl
 have hpt := hL.pt k hk
 have ne : 6 ≠ i := Nat.ne_of_lt (Nat.lt_of_le_of_lt (by decide : 6 ≤ 20) hi)
 have s0 := jbQ (P := pZ) (t := 110) (v := u (hiT k)) jiw rfl rfl hb (show 0 < 3 by decide)
 have hb1 := Blk.put (i := i) 0 [u (hiT k)] hb
 have s1 := jbQ (P := pZ) (t := 110) (v := u (loT k)) jiw rfl rfl hb1 (show 1 < 3 by decide)
 have hb2 := Blk.put (i := i) 1 [u (loT k)] hb1
 have s2 := jbQ (P := pZ) (t := 3) (v := .int .i64 (.ofNat s)) jcg rfl rfl hb2 (show 2 < 3 by decide)
 have c1 : jal (putL μ i 0 [u (hiT k)]) 6 (2 * k + 1) = some (u (loT k)) := (cells_off ne).trans hpt.2
 have a1 : ∀ n, Addr.add ⟨6, 2 * k, none⟩ n = ⟨6, 2 * k + n, none⟩ := fun n => by
  unfold Addr.add
  by_cases h : n = 0
  ·subst h; rfl
  ·rw [if_neg h]
 refine jaf Tryz.func202 rfl rfl (nbl rfl) ?_
 simp only [go_sem, Tryz.ntmps202]
 repeat (refine jaa rfl ?_; (try simp only [go_sem, q1, q2, q3, np, hix, a1, Nat.add_zero, hpt.1, c1, s0, s1, s2]); fail_if_success refine stk ?_)
 refine ⟨rfl, _, ?_, rfl, rfl⟩
 simp only [go_sem, Tryz.results202]
def obS : Ob := .cells 3 247 #[.int .u64 0, .int .u64 0, .int .i64 0] .e 0 0 false false
theorem z_sc : ja6 pZ 247 = some (.agg #[.int .u64 0, .int .u64 0, .int .i64 0]) := by unfold ja6; rw [i_sc]; rfl
@[go_sem] theorem al_sc : jcS pZ 247 = some (obS, fun id => .pointer (some ⟨id, 0, none⟩)) := by unfold jcS; rw [z_sc]; rfl
theorem three {μ : Mem} {i t : Nat} {a b c : Value} (h : Blk μ i 3 t) : jal (putL (putL (putL μ i 0 [a]) i 1 [b]) i 2 [c]) i 0 = some a ∧ jal (putL (putL (putL μ i 0 [a]) i 1 [b]) i 2 [c]) i 1 = some b ∧ jal (putL (putL (putL μ i 0 [a]) i 1 [b]) i 2 [c]) i 2 = some c := by
 have h1 := Blk.put (i := i) 0 [a] h
 have h2 := Blk.put (i := i) 1 [b] h1
 refine ⟨?_, ?_, ?_⟩
 ·rw [jcz h2 (by simp : 2 + [c].length ≤ 3), dif_neg (by simp), jcz h1 (by simp : 1 + [b].length ≤ 3), dif_neg (by simp), jcz h (by simp : 0 + [a].length ≤ 3), dif_pos (by simp)]; rfl
 ·rw [jcz h2 (by simp : 2 + [c].length ≤ 3), dif_neg (by simp), jcz h1 (by simp : 1 + [b].length ≤ 3), dif_pos (by simp)]; rfl
 ·rw [jcz h2 (by simp : 2 + [c].length ≤ 3), dif_pos (by simp)]; rfl
def NoErr (v : Value) : Prop := v = .nilIface ∨ v = .iface 262 (.int .i64 1)
theorem jfW (d s : Nat) (p : Int) (hp1 : -349 < p) (hp2 : p < 348) : ∃ f v, NoErr v ∧ ∀ {X : XT} {g : Nat} {μ : Mem}, jbc X → Lay μ → 200 ≤ g →
  ∃ μ', aFun pZ (jaj pZ X S0 g) 278 [u d, .int .i64 p, u s] μ = some (.tuple #[.float .f64 f, v], μ') ∧ Grow μ μ' := by
 obtain ⟨b, hb64, _, hlen⟩ := jgu d
 obtain ⟨lp, hlp⟩ := exq (p * 108853 / 32768)
 have hl1 : -1200 < lp ∧ lp < 1200 := by omega
 obtain ⟨x1, hx1⟩ := exq (53 - (b : Int) : Int)
 obtain ⟨x2, hx2⟩ := exq (x1 - lp : Int)
 obtain ⟨e, he⟩ := eqx ((if x2 < 1074 then x2 else 1074) : Int)
 have he' : e ≤ x2 ∧ e ≤ 1074 ∧ (e = x2 ∨ e = 1074) := by split at he <;> omega
 obtain ⟨x4, hx4⟩ := exq (e - ((64 - b : Nat) : Int) : Int)
 obtain ⟨sn, hsn⟩ : ∃ sn : Nat, -(x4 + lp + 3) = .ofNat sn := Int.eq_ofNat_of_zero_le (by omega)
 have hsn1 : sn < 1000000 := by have : ((sn : Nat) : Int) = -(x4 + lp + 3) := hsn.symm; omega
 obtain ⟨k, hk⟩ : ∃ k : Nat, p - (-348) = .ofNat k := Int.eq_ofNat_of_zero_le (by omega)
 have hk1 : k < 696 := by have : ((k : Nat) : Int) = p - (-348) := hk.symm; omega
 have q1 : jak .i64 (Int.sub 53 (.ofNat b)) = x1 := by rw [hx1]; exact jbU 53 (b : Int) (by omega) (by omega)
 have q2 : jak .i64 (Int.sub x1 lp) = x2 := by rw [hx2]; exact jbU x1 lp (by omega) (by omega)
 have q3 : jak .i64 (Int.sub 64 (.ofNat b)) = .ofNat (64 - b) := jaV 64 b hb64 (by decide)
 have q4 : jak .i64 (Int.sub e (.ofNat (64 - b))) = x4 := by rw [hx4]; exact jbU e ((64 - b : Nat) : Int) (by omega) (by omega)
 have pre : ∀ {X : XT} {μ : Mem}, Lay μ → ∃ μ2, (∀ g, 40 ≤ g → aFun pZ (jaj pZ X S0 g) 202 [.pointer (some ⟨μ.next, 0, none⟩), .int .i64 x4, .int .i64 p, .int .i64 lp] ⟨μ.obs.set μ.next obS, μ.next + 1⟩ = some (.tuple #[], μ2)) ∧
   jal μ2 μ.next 0 = some (u (hiT k)) ∧ jal μ2 μ.next 1 = some (u (loT k)) ∧ jal μ2 μ.next 2 = some (.int .i64 (.ofNat sn)) ∧ Grow μ μ2 := fun {X μ} hL => by
  have hb : Blk ⟨μ.obs.set μ.next obS, μ.next + 1⟩ μ.next 3 247 := ⟨_, _, _, _, by show T.get _ _ = _; rw [T.get_set, if_pos rfl]; rfl⟩
  obtain ⟨t0, t1, t2⟩ := three (a := u (hiT k)) (b := u (loT k)) (c := .int .i64 (.ofNat sn)) hb
  refine ⟨_, fun g hg => jfe hg (hL.grow (ja5 μ obS)) hb hL.lt hk1 hk (by omega) (by omega) (by omega) (by omega) hsn, t0, t1, t2, ?_⟩
  exact ((((ja5 μ obS).put_new (rzN _)).put_new (rzN _)).put_new (rzN _))
 by_cases h64 : sn < 64
 ·have c1 : ilt (.ofNat sn) 64 = true := dT (jao sn 64) h64
  obtain ⟨r, dd, hus⟩ := jdM (Sh (W d) (64 - b)) (hiT k) (loT k) sn hsn1
  obtain ⟨r2, hum⟩ := unmin_ex 9007199254740992
  rw [← u_of (n := 9007199254740992) (by decide)] at hum
  obtain ⟨t, ht⟩ := exq (!(decide (W r < W r2)))
  have c2 : (!ilt (.ofNat (W r)) (.ofNat (W r2))) = t := by rw [jao, ht]
  obtain ⟨rr, hro⟩ := jja (W (W r / 2 ^ b2 t) ||| W (W r &&& 1))
  obtain ⟨x6, hx6⟩ := exq (e - (b2 t : Int) : Int)
  have hbt := b2_le t
  have q6 : jak .i64 (Int.sub e (.ofNat (b2 t))) = x6 := by rw [hx6]; exact jbU e (b2 t : Int) (by omega) (by omega)
  obtain ⟨f, v, hpk⟩ := pack64_ex (W s ||| W rr) (-x6) (by omega) (by omega)
  have hv : NoErr v := (hpk (X := fun _ a μ => match a with | [.int .u64 (.ofNat n)] => some (.float .f64 n, μ) | _ => none) (g := 20) (μ := ⟨.e, 0⟩) (fun a μ => rfl) (rzN _)).2
  refine ⟨f, v, hv, fun {X g μ} hX hL hg => ?_⟩
  obtain ⟨μ2, hpre, t0, t1, t2, g2⟩ := pre (X := X) hL
  obtain ⟨n, rfl⟩ := gle hg
  refine ⟨⟨μ2.obs, μ2.next + dd⟩, ?_, g2.trans (jez μ2 dd)⟩
  refine jaF ?_
  have h1 : ∀ g μ, 40 ≤ g → aFun pZ (jaj pZ X S0 g) 158 [u d] μ = some (.int .i64 (.ofNat b), μ) := fun g μ h => hlen h
  have h2 : ∀ g μ, 20 ≤ g → aFun pZ (jaj pZ X S0 g) 203 [.int .i64 p] μ = some (.int .i64 lp, μ) := fun g μ h => by rw [hlp]; exact jir h (by omega) (by omega)
  have h3 : ∀ g, 80 ≤ g → aFun pZ (jaj pZ X S0 g) 204 [u (Sh (W d) (64 - b)), .pointer (some ⟨μ.next, 0, none⟩)] μ2 = some (u r, ⟨μ2.obs, μ2.next + dd⟩) := fun g h => hus h t0 t1 t2
  have h4 : ∀ g μ, 10 ≤ g → aFun pZ (jaj pZ X S0 g) 211 [.int .u64 9007199254740992] μ = some (u r2, μ) := fun g μ h => hum h
  have h5 : ∀ g μ, 10 ≤ g → aFun pZ (jaj pZ X S0 g) 210 [.bool t] μ = some (.int .i64 (.ofNat (b2 t)), μ) := fun g μ h => jhJ h
  have h6 : ∀ g μ, 10 ≤ g → aFun pZ (jaj pZ X S0 g) 208 [u (W (W r / 2 ^ b2 t) ||| W (W r &&& 1))] μ = some (u rr, μ) := fun g μ h => hro h
  have h7 : ∀ g μ, 20 ≤ g → aFun pZ (jaj pZ X S0 g) 284 [u (W s ||| W rr), .int .i64 (-x6)] μ = some (.tuple #[.float .f64 f, v], μ) := fun g μ h => (hpk hX h).1
  have sh := wShl d (64 - b) (by omega)
  have sr : ∀ m, jaQ false .u64 (.ofNat (W m)) (.ofNat (b2 t)) = some (.int .u64 (.ofNat (W (W m / 2 ^ b2 t)))) := fun m => wShr m (b2 t) (by omega)
  have np : ∀ (ρ : Operand → Value) (d : Option Tmp) (t ty : TypeId) (a : Operand) (ps : String) (af : Array Edge) (gd : Option (Nat × Bool)), ρ a = .int .i64 x6 → jaH pZ ρ ⟨d, .unOp .neg t a, ty, ps, af, gd⟩ = some (.int .i64 (-x6)) := fun ρ d t ty a ps af gd h => jbC h (by omega) (by omega)
  refine jaf Tryz.func278 rfl rfl (nbl rfl) ?_
  simp only [go_sem, Tryz.ntmps278]
  repeat (refine jaa rfl ?_; (try simp only [go_sem, q1, q2, q3, q4, he, h1, h2, hpre, Nat.reduceLeDiff, t2, c1, sh, h3, h4, c2, h5, sr, wAnd1, wOr, q6, h6, np, h7]); fail_if_success refine stk ?_)
  exact jad ⟨rfl, _, by simp only [go_sem, Tryz.results278], rfl, rfl⟩
 ·have c1 : ilt (.ofNat sn) 64 = false := dF (jao sn 64) h64
  refine ⟨W (W s ||| 0), .nilIface, .inl rfl, fun {X g μ} hX hL hg => ?_⟩
  obtain ⟨μ2, hpre, t0, t1, t2, g2⟩ := pre (X := X) hL
  obtain ⟨n, rfl⟩ := gle hg
  refine ⟨μ2, ?_, g2⟩
  refine jaF ?_
  have x1' : ∀ a μ, X 276 [u a] μ = some (.float .f64 (W a), μ) := hX
  have h1 : ∀ g μ, 40 ≤ g → aFun pZ (jaj pZ X S0 g) 158 [u d] μ = some (.int .i64 (.ofNat b), μ) := fun g μ h => hlen h
  have h2 : ∀ g μ, 20 ≤ g → aFun pZ (jaj pZ X S0 g) 203 [.int .i64 p] μ = some (.int .i64 lp, μ) := fun g μ h => by rw [hlp]; exact jir h (by omega) (by omega)
  refine jaf Tryz.func278 rfl rfl (nbl rfl) ?_
  simp only [go_sem, Tryz.ntmps278]
  repeat (refine jaa rfl ?_; (try simp only [go_sem, q1, q2, q3, q4, he, h1, h2, hpre, Nat.reduceLeDiff, t2, c1, wOr0, jd7, x1']); fail_if_success refine stk ?_)
  exact jad ⟨rfl, _, by simp only [go_sem, Tryz.results278], rfl, rfl⟩
def NN (b : Nat) : Prop := b % 9223372036854775808 ≤ 9218868437227405312
theorem jh3 (neg : Bool) (r : Nat) (h : r ≤ 9218868437227405312) : NN (Ieee.double.word neg r) := by
 unfold NN Ieee.Format.word
 have e : Ieee.double.signWeight = 9223372036854775808 := by decide
 rw [e]
 split <;> omega
theorem je4 (s : Bool) (m : Nat) (e : Int) : NN (Ieee.double.write (.number s m e)) := by
 show NN (Ieee.double.nearest s m e)
 unfold Ieee.Format.nearest
 have hi : Ieee.double.infRung = 9218868437227405312 := by decide
 split
 ·exact jh3 s 0 (by decide)
 ·exact jh3 s _ (by rw [hi]; exact Nat.min_le_right _ _)
theorem jgX (s : Bool) : NN (Ieee.double.write (.infinity s)) := jh3 s _ (by decide)
theorem read_nn {b : Nat} (h : NN b) : (∃ s m e, Ieee.double.read b = .number s m e) ∨ ∃ s, Ieee.double.read b = .infinity s := by
 unfold NN at h
 unfold Ieee.Format.read
 have e1 : Ieee.double.signWeight = 9223372036854775808 := by decide
 have e2 : Ieee.double.infRung = 9218868437227405312 := by decide
 simp only [e1, e2]
 split
 ·exact .inl ⟨_, _, _, rfl⟩
 ·split
  ·exact .inl ⟨_, _, _, rfl⟩
  ·split
   ·exact .inr ⟨_, rfl⟩
   ·omega
def IsPow (b : Nat) : Prop := ∃ s m e, Ieee.double.read b = .number s m e ∧ m ≠ 0
theorem jd5 : ∀ k, k < 23 → IsPow (fpows.getD k 0) := by
 intro k h
 have : ∀ k, k < 23 → (match Ieee.double.read (fpows.getD k 0) with | .number _ m _ => m != 0 | _ => false) = true := by decide +kernel
 have := this k h
 split at this
 ·rename_i s m e hr
  exact ⟨s, m, e, hr, by simpa using this⟩
 ·cases this
theorem mul_nn {a b : Nat} (ha : NN a) (hb : IsPow b) : ∃ r, Ieee.double.mul a b = some r ∧ NN r := by
 obtain ⟨t, n, j, hb, hn⟩ := hb
 unfold Ieee.Format.mul
 rw [hb]
 rcases read_nn ha with ⟨s, m, e, h⟩ | ⟨s, h⟩
 ·rw [h]; exact ⟨_, rfl, je4 _ _ _⟩
 ·rw [h]
  refine ⟨Ieee.double.write (.infinity (s ^^ t)), ?_, jgX _⟩
  simp only [Ieee.Datum.product, if_neg hn, Option.map_some]
theorem div_nn {a b : Nat} (ha : NN a) (hb : IsPow b) : ∃ r, Ieee.double.div a b = some r ∧ NN r := by
 obtain ⟨t, n, j, hb, hn⟩ := hb
 unfold Ieee.Format.div
 rw [hb]
 rcases read_nn ha with ⟨s, m, e, h⟩ | ⟨s, h⟩
 ·rw [h]
  simp only [Ieee.Datum.quotient, if_neg hn, Option.map_some]
  exact ⟨_, rfl, je4 _ _ _⟩
 ·rw [h]
  exact ⟨_, rfl, jgX _⟩
theorem neg_nn {a : Nat} (ha : NN a) : NN (Op.negFloat .f64 a) := by
 unfold NN at ha ⊢
 show (a ^^^ 2 ^ 63) % 2 ^ 63 ≤ _
 rw [Nat.xor_mod_two_pow, show 2 ^ 63 % 2 ^ 63 = 0 from by decide, Nat.xor_zero]
 exact ha
theorem near_nn (n : Int) : NN (FloatKind.f64.nearest n) := je4 _ _ _
theorem jcL (n : Int) : jaG pZ 110 37 (.int .u64 n) = none := by
 simp only [jaG, Tryz.underlying110, Tryz.underlying37]
theorem plain_uf {ρ : Operand → Value} {d : Option Tmp} {ty : TypeId} {x : Operand} {ps : String} {af : Array Edge} {gd : Option (Nat × Bool)} {n : Int} (hx : ρ x = .int .u64 n) : jaH pZ ρ ⟨d, .convert 110 37 x, ty, ps, af, gd⟩ = some (.float .f64 (FloatKind.f64.nearest n)) := by
 unfold jaH
 have e : pv pZ (execOp ρ ⟨d, .convert 110 37 x, ty, ps, af, gd⟩) = some (.value (.float .f64 (FloatKind.f64.nearest n))) := by
  simp only [execOp, hx]
  kernel_rfl
 simp only [opsOf, jbJ, hx, jaK, e]
theorem jjY {ρ : Operand → Value} {d : Option Tmp} {t ty : TypeId} {x : Operand} {ps : String} {af : Array Edge} {gd : Option (Nat × Bool)} {a : Nat} (hx : ρ x = .float .f64 a) : jaH pZ ρ ⟨d, .unOp .neg t x, ty, ps, af, gd⟩ = some (.float .f64 (Op.negFloat .f64 a)) := by
 unfold jaH
 have e : pv pZ (execOp ρ ⟨d, .unOp .neg t x, ty, ps, af, gd⟩) = some (.value (.float .f64 (Op.negFloat .f64 a))) := by
  simp only [execOp, hx]
  kernel_rfl
 simp only [opsOf, jbJ, hx, jaK, e]
theorem anf (t : TypeId) (k j : FloatKind) (a b : Nat) : aNil pZ t (.float k a) (.float j b) = false := rfl
theorem jet {ρ : Operand → Value} {d : Option Tmp} {t yt ty : TypeId} {x y : Operand} {ps : String} {af : Array Edge} {gd : Option (Nat × Bool)} {a b r : Nat} (hx : ρ x = .float .f64 a) (hy : ρ y = .float .f64 b) (h : Ieee.double.mul a b = some r) : jaH pZ ρ ⟨d, .binOp .mul t x y yt, ty, ps, af, gd⟩ = some (.float .f64 r) := by
 unfold jaH
 have e : pv pZ (execOp ρ ⟨d, .binOp .mul t x y yt, ty, ps, af, gd⟩) = some (.value (.float .f64 r)) := by
  simp only [execOp, hx, hy]
  show pv pZ (do let v ← (match Ieee.double.mul a b with | some r => (pure (Value.float .f64 r) : Sem Value) | none => do pure (Value.float .f64 (← choose (.nanBits .f64 a b)))); pure (Next.value v)) = _
  rw [h]
  rfl
 simp only [opsOf, jbJ, hx, hy, jaK, e]
theorem jjX {ρ : Operand → Value} {d : Option Tmp} {t yt ty : TypeId} {x y : Operand} {ps : String} {af : Array Edge} {gd : Option (Nat × Bool)} {a b r : Nat} (hx : ρ x = .float .f64 a) (hy : ρ y = .float .f64 b) (h : Ieee.double.div a b = some r) : jaH pZ ρ ⟨d, .binOp .quo t x y yt, ty, ps, af, gd⟩ = some (.float .f64 r) := by
 unfold jaH
 have e : pv pZ (execOp ρ ⟨d, .binOp .quo t x y yt, ty, ps, af, gd⟩) = some (.value (.float .f64 r)) := by
  simp only [execOp, hx, hy]
  show pv pZ (do let v ← (match Ieee.double.div a b with | some r => (pure (Value.float .f64 r) : Sem Value) | none => do pure (Value.float .f64 (← choose (.nanBits .f64 a b)))); pure (Next.value v)) = _
  rw [h]
  rfl
 simp only [opsOf, jbJ, hx, hy, jaK, e]
def fgt (a b : Nat) : Bool := Ieee.double.order a b == some .gt
def flt (a b : Nat) : Bool := Ieee.double.order a b == some .lt
theorem jhj {ρ : Operand → Value} {d : Option Tmp} {t yt ty : TypeId} {x y : Operand} {ps : String} {af : Array Edge} {gd : Option (Nat × Bool)} {a b : Nat} (hx : ρ x = .float .f64 a) (hy : ρ y = .float .f64 b) : jaH pZ ρ ⟨d, .binOp .gtr t x y yt, ty, ps, af, gd⟩ = some (.bool (fgt a b)) := by
 unfold jaH
 have e : pv pZ (execOp ρ ⟨d, .binOp .gtr t x y yt, ty, ps, af, gd⟩) = some (.value (.bool (fgt a b))) := by
  simp only [execOp, hx, hy]
  kernel_rfl
 simp only [opsOf, jbJ, hx, hy, jaK, e]
theorem jfg {ρ : Operand → Value} {d : Option Tmp} {t yt ty : TypeId} {x y : Operand} {ps : String} {af : Array Edge} {gd : Option (Nat × Bool)} {a b : Nat} (hx : ρ x = .float .f64 a) (hy : ρ y = .float .f64 b) : jaH pZ ρ ⟨d, .binOp .lss t x y yt, ty, ps, af, gd⟩ = some (.bool (flt a b)) := by
 unfold jaH
 have e : pv pZ (execOp ρ ⟨d, .binOp .lss t x y yt, ty, ps, af, gd⟩) = some (.value (.bool (flt a b))) := by
  simp only [execOp, hx, hy]
  kernel_rfl
 simp only [opsOf, jbJ, hx, hy, jaK, e]
theorem jc4 (a : Nat) : jaQ false .u64 (.ofNat (W a)) 52 = some (.int .u64 (.ofNat (W (W a / 2 ^ 52)))) := wShr a 52 (by decide)
set_option maxHeartbeats 16000000 in
theorem exact_ex (m : Nat) (e : Int) (neg : Bool) (he1 : -100000 < e) (he2 : e < 100000) : ∃ f ok, ∀ {X : XT} {g : Nat} {μ : Mem}, Lay μ → 60 ≤ g →
  aFun pZ (jaj pZ X S0 g) 277 [u m, .int .i64 e, .bool neg] μ = some (.tuple #[.float .f64 f, .bool ok], μ) := by
 by_cases hz : W (W m / 2 ^ 52) = 0
 rotate_left
 ·have ez : ieq (.ofNat (W (W m / 2 ^ 52))) 0 = false := dF (jaB _ 0 0 rfl) hz
  refine ⟨0, false, fun {X g μ} hL hg => ?_⟩
  obtain ⟨n, rfl⟩ := gle hg
  refine jaF ?_
  refine jaf Tryz.func277 rfl rfl (nbl rfl) ?_
  simp only [go_sem, Tryz.ntmps277]
  repeat (refine jaa rfl ?_; (try simp only [go_sem, nI, hL.fi0, jc4, ez]); fail_if_success refine stk ?_)
  exact jad ⟨rfl, _, by simp only [go_sem, Tryz.results277], rfl, rfl⟩
 have ez : ieq (.ofNat (W (W m / 2 ^ 52))) 0 = true := dT (jaB _ 0 0 rfl) hz
 obtain ⟨F0, hF0⟩ := exq (FloatKind.f64.nearest (.ofNat (W m)))
 have n0 : NN F0 := by rw [hF0]; exact near_nn _
 have pf : ∀ (ρ : Operand → Value) (d : Option Tmp) (ty : TypeId) (x : Operand) (ps : String) (af : Array Edge) (gd : Option (Nat × Bool)), ρ x = u m → jaH pZ ρ ⟨d, .convert 110 37 x, ty, ps, af, gd⟩ = some (.float .f64 F0) := fun ρ d ty x ps af gd h => by rw [hF0]; exact plain_uf h
 obtain ⟨F1, hF1⟩ := exq ((if neg then Op.negFloat .f64 F0 else F0))
 have n1 : NN F1 := by rw [hF1]; split; exact neg_nn n0; exact n0
 have pn : neg = true → ∀ (ρ : Operand → Value) (d : Option Tmp) (t ty : TypeId) (x : Operand) (ps : String) (af : Array Edge) (gd : Option (Nat × Bool)), ρ x = .float .f64 F0 → jaH pZ ρ ⟨d, .unOp .neg t x, ty, ps, af, gd⟩ = some (.float .f64 F1) := fun hn ρ d t ty x ps af gd h => by rw [hF1, if_pos hn]; exact jjY h
 have p0 : neg = false → F0 = F1 := fun hn => by rw [hF1, if_neg (by rw [hn]; decide)]
 by_cases e0 : e = 0
 ·have x0 : ieq e 0 = true := by rw [jc5]; simp [e0]
  refine ⟨F1, true, fun {X g μ} hL hg => ?_⟩
  obtain ⟨n, rfl⟩ := gle hg
  refine jaF ?_
  cases neg
  all_goals
   first | obtain rfl := p0 rfl | have pn := pn rfl
   refine jaf Tryz.func277 rfl rfl (nbl rfl) ?_
   simp only [go_sem, Tryz.ntmps277]
   repeat (refine jaa rfl ?_; (try simp only [go_sem, nI, hL.fi0, jc4, ez, jcL, pf, pn, x0]); fail_if_success refine stk ?_)
   exact jad ⟨rfl, _, by simp only [go_sem, Tryz.results277], rfl, rfl⟩
 have x0 : ieq e 0 = false := by rw [jc5]; simp [e0]
 by_cases ep : 0 < e
 ·have x1 : ilt 0 e = true := dT (jaZ _ _) ep
  by_cases e37 : e ≤ 37
  rotate_left
  ·have x2 : ilt 37 e = true := dT (jaZ _ _) (by omega)
   have x3 : ilt e 0 = false := dF (jaZ _ _) (by omega)
   refine ⟨F1, false, fun {X g μ} hL hg => ?_⟩
   obtain ⟨n, rfl⟩ := gle hg
   refine jaF ?_
   cases neg
   all_goals
    first | obtain rfl := p0 rfl | have pn := pn rfl
    refine jaf Tryz.func277 rfl rfl (nbl rfl) ?_
    simp only [go_sem, Tryz.ntmps277]
    repeat (refine jaa rfl ?_; (try simp only [go_sem, nI, hL.fi0, jc4, ez, jcL, pf, pn, x0, x1, x2, x3]); fail_if_success refine stk ?_)
    exact jad ⟨rfl, _, by simp only [go_sem, Tryz.results277], rfl, rfl⟩
  have x2 : ilt 37 e = false := dF (jaZ _ _) (by omega)
  by_cases e22 : 22 < e
  ·have x4 : ilt 22 e = true := dT (jaZ _ _) e22
   obtain ⟨j, hj⟩ : ∃ j : Nat, e - 22 = .ofNat j := Int.eq_ofNat_of_zero_le (by omega)
   have hj1 : j < 23 := by have : ((j : Nat) : Int) = e - 22 := hj.symm; omega
   have q1 : jak .i64 (Int.sub e 22) = .ofNat j := by rw [← hj]; exact jbU e 22 (by omega) (by omega)
   obtain ⟨F2, hm2, n2⟩ := mul_nn n1 (jd5 j hj1)
   have pm : ∀ (ρ : Operand → Value) (d : Option Tmp) (t yt ty : TypeId) (x y : Operand) (ps : String) (af : Array Edge) (gd : Option (Nat × Bool)), ρ x = .float .f64 F1 → ρ y = .float .f64 (fpows.getD j 0) → jaH pZ ρ ⟨d, .binOp .mul t x y yt, ty, ps, af, gd⟩ = some (.float .f64 F2) := fun ρ d t yt ty x y ps af gd h h' => jet h h' hm2
   obtain ⟨P22, hP22⟩ := exq (fpows.getD 22 0)
   have ip22 : IsPow P22 := by rw [hP22]; exact jd5 22 (by decide)
   obtain ⟨F3, hm3, n3⟩ := mul_nn n2 ip22
   have pm3 : ∀ (ρ : Operand → Value) (d : Option Tmp) (t yt ty : TypeId) (x y : Operand) (ps : String) (af : Array Edge) (gd : Option (Nat × Bool)), ρ x = .float .f64 F2 → ρ y = .float .f64 P22 → jaH pZ ρ ⟨d, .binOp .mul t x y yt, ty, ps, af, gd⟩ = some (.float .f64 F3) := fun ρ d t yt ty x y ps af gd h h' => jet h h' hm3
   obtain ⟨G, hG⟩ := exq (fgt F2 4831355200913801216)
   obtain ⟨H, hH⟩ := exq (flt F2 14054727237768577024)
   have pg : ∀ (r : Rg) (d : Option Tmp) (t yt ty : TypeId) (x : Operand) (ps : String) (af : Array Edge) (gd : Option (Nat × Bool)), aev pZ r x = .float .f64 F2 → jaH pZ (aev pZ r) ⟨d, .binOp .gtr t x (.const (.float .f64 4831355200913801216)) yt, ty, ps, af, gd⟩ = some (.bool G) := fun r d t yt ty x ps af gd h => by rw [hG]; exact jhj h rfl
   have pl : ∀ (r : Rg) (d : Option Tmp) (t yt ty : TypeId) (x : Operand) (ps : String) (af : Array Edge) (gd : Option (Nat × Bool)), aev pZ r x = .float .f64 F2 → jaH pZ (aev pZ r) ⟨d, .binOp .lss t x (.const (.float .f64 14054727237768577024)) yt, ty, ps, af, gd⟩ = some (.bool H) := fun r d t yt ty x ps af gd h => by rw [hH]; exact jfg h rfl
   refine ⟨if G || H then F2 else F3, !(G || H), fun {X g μ} hL hg => ?_⟩
   obtain ⟨n, rfl⟩ := gle hg
   refine jaF ?_
   obtain ⟨fb, fo, fc, hs, _, hfp⟩ := hL.fp
   have c1 := hfp j hj1
   have c2 : jal μ fb (fo + 22) = some (.float .f64 P22) := (hfp 22 (by decide)).trans (by rw [hP22])
   have hix : ∀ r a b, aev pZ r a = .slice (some ⟨fb, fo, none⟩) 23 fc → aev pZ r b = .int .i64 (.ofNat j) → jan pZ (aev pZ r) 331 a b = some (.pointer (some ⟨fb, fo + j, none⟩)) := fun r a b h1 h2 => jaL Tryz.underlying331 i_f64 rfl h1 h2 hj1
   have hix2 : ∀ r a b, aev pZ r a = .slice (some ⟨fb, fo, none⟩) 23 fc → aev pZ r b = .int .i64 22 → jan pZ (aev pZ r) 331 a b = some (.pointer (some ⟨fb, fo + 22, none⟩)) := fun r a b h1 h2 => jaL Tryz.underlying331 i_f64 rfl h1 (m := 22) h2 (by decide)
   cases neg
   all_goals
    first | obtain rfl := p0 rfl | have pn := pn rfl
    cases G with
    | true =>
      refine jaf Tryz.func277 rfl rfl (nbl rfl) ?_
      simp only [go_sem, Tryz.ntmps277]
      repeat (refine jaa rfl ?_; (try simp only [go_sem, nI, nF, hL.fi0, jc4, ez, jcL, pf, pn, x0, x1, x2, x4, hs, q1, hix, c1, anf, pm, pg]); fail_if_success refine stk ?_)
      refine jad ?_
      refine ⟨rfl, _, ?_, rfl, rfl⟩
      simp only [go_sem, Tryz.results277]
      rfl
    | false =>
      cases H with
      | true =>
        refine jaf Tryz.func277 rfl rfl (nbl rfl) ?_
        simp only [go_sem, Tryz.ntmps277]
        repeat (refine jaa rfl ?_; (try simp only [go_sem, nI, nF, hL.fi0, jc4, ez, jcL, pf, pn, x0, x1, x2, x4, hs, q1, hix, c1, anf, pm, pg, pl]); fail_if_success refine stk ?_)
        refine jad ?_
        refine ⟨rfl, _, ?_, rfl, rfl⟩
        simp only [go_sem, Tryz.results277]
        rfl
      | false =>
        refine jaf Tryz.func277 rfl rfl (nbl rfl) ?_
        simp only [go_sem, Tryz.ntmps277]
        repeat (refine jaa rfl ?_; (try simp only [go_sem, nI, nF, hL.fi0, jc4, ez, jcL, pf, pn, x0, x1, x2, x4, hs, q1, hix, hix2, c1, c2, anf, pm, pm3, pg, pl]); fail_if_success refine stk ?_)
        refine jad ?_
        refine ⟨rfl, _, ?_, rfl, rfl⟩
        simp only [go_sem, Tryz.results277]
        rfl
  ·have x4 : ilt 22 e = false := dF (jaZ _ _) (by omega)
   obtain ⟨j, hj⟩ : ∃ j : Nat, e = .ofNat j := Int.eq_ofNat_of_zero_le (by omega)
   have hj1 : j < 23 := by have : ((j : Nat) : Int) = e := hj.symm; omega
   obtain ⟨F3, hm3, n3⟩ := mul_nn n1 (jd5 j hj1)
   have pm3 : ∀ (ρ : Operand → Value) (d : Option Tmp) (t yt ty : TypeId) (x y : Operand) (ps : String) (af : Array Edge) (gd : Option (Nat × Bool)), ρ x = .float .f64 F1 → ρ y = .float .f64 (fpows.getD j 0) → jaH pZ ρ ⟨d, .binOp .mul t x y yt, ty, ps, af, gd⟩ = some (.float .f64 F3) := fun ρ d t yt ty x y ps af gd h h' => jet h h' hm3
   obtain ⟨G, hG⟩ := exq (fgt F1 4831355200913801216)
   obtain ⟨H, hH⟩ := exq (flt F1 14054727237768577024)
   have pg : ∀ (r : Rg) (d : Option Tmp) (t yt ty : TypeId) (x : Operand) (ps : String) (af : Array Edge) (gd : Option (Nat × Bool)), aev pZ r x = .float .f64 F1 → jaH pZ (aev pZ r) ⟨d, .binOp .gtr t x (.const (.float .f64 4831355200913801216)) yt, ty, ps, af, gd⟩ = some (.bool G) := fun r d t yt ty x ps af gd h => by rw [hG]; exact jhj h rfl
   have pl : ∀ (r : Rg) (d : Option Tmp) (t yt ty : TypeId) (x : Operand) (ps : String) (af : Array Edge) (gd : Option (Nat × Bool)), aev pZ r x = .float .f64 F1 → jaH pZ (aev pZ r) ⟨d, .binOp .lss t x (.const (.float .f64 14054727237768577024)) yt, ty, ps, af, gd⟩ = some (.bool H) := fun r d t yt ty x ps af gd h => by rw [hH]; exact jfg h rfl
   refine ⟨if G || H then F1 else F3, !(G || H), fun {X g μ} hL hg => ?_⟩
   obtain ⟨n, rfl⟩ := gle hg
   refine jaF ?_
   obtain ⟨fb, fo, fc, hs, _, hfp⟩ := hL.fp
   have c1 := hfp j hj1
   have hix : ∀ r a b, aev pZ r a = .slice (some ⟨fb, fo, none⟩) 23 fc → aev pZ r b = .int .i64 e → jan pZ (aev pZ r) 331 a b = some (.pointer (some ⟨fb, fo + j, none⟩)) := fun r a b h1 h2 => jaL Tryz.underlying331 i_f64 rfl h1 (h2.trans (by rw [hj])) hj1
   cases neg
   all_goals
    first | obtain rfl := p0 rfl | have pn := pn rfl
    cases G with
    | true =>
      refine jaf Tryz.func277 rfl rfl (nbl rfl) ?_
      simp only [go_sem, Tryz.ntmps277]
      repeat (refine jaa rfl ?_; (try simp only [go_sem, nI, nF, hL.fi0, jc4, ez, jcL, pf, pn, x0, x1, x2, x4, anf, pg]); fail_if_success refine stk ?_)
      refine jad ?_
      refine ⟨rfl, _, ?_, rfl, rfl⟩
      simp only [go_sem, Tryz.results277]
      rfl
    | false =>
      cases H with
      | true =>
        refine jaf Tryz.func277 rfl rfl (nbl rfl) ?_
        simp only [go_sem, Tryz.ntmps277]
        repeat (refine jaa rfl ?_; (try simp only [go_sem, nI, nF, hL.fi0, jc4, ez, jcL, pf, pn, x0, x1, x2, x4, anf, pg, pl]); fail_if_success refine stk ?_)
        refine jad ?_
        refine ⟨rfl, _, ?_, rfl, rfl⟩
        simp only [go_sem, Tryz.results277]
        rfl
      | false =>
        refine jaf Tryz.func277 rfl rfl (nbl rfl) ?_
        simp only [go_sem, Tryz.ntmps277]
        repeat (refine jaa rfl ?_; (try simp only [go_sem, nI, nF, hL.fi0, jc4, ez, jcL, pf, pn, x0, x1, x2, x4, hs, hix, c1, anf, pm3, pg, pl]); fail_if_success refine stk ?_)
        refine jad ?_
        refine ⟨rfl, _, ?_, rfl, rfl⟩
        simp only [go_sem, Tryz.results277]
        rfl
 ·have x1 : ilt 0 e = false := dF (jaZ _ _) (by omega)
  have x3 : ilt e 0 = true := dT (jaZ _ _) (by omega)
  by_cases em : -22 ≤ e
  ·have x4 : ilt e (-22) = false := dF (jaZ _ _) (by omega)
   obtain ⟨j, hj⟩ : ∃ j : Nat, -e = .ofNat j := Int.eq_ofNat_of_zero_le (by omega)
   have hj1 : j < 23 := by have : ((j : Nat) : Int) = -e := hj.symm; omega
   obtain ⟨F3, hm3, n3⟩ := div_nn n1 (jd5 j hj1)
   have pm3 : ∀ (ρ : Operand → Value) (d : Option Tmp) (t yt ty : TypeId) (x y : Operand) (ps : String) (af : Array Edge) (gd : Option (Nat × Bool)), ρ x = .float .f64 F1 → ρ y = .float .f64 (fpows.getD j 0) → jaH pZ ρ ⟨d, .binOp .quo t x y yt, ty, ps, af, gd⟩ = some (.float .f64 F3) := fun ρ d t yt ty x y ps af gd h h' => jjX h h' hm3
   have np : ∀ (ρ : Operand → Value) (d : Option Tmp) (t ty : TypeId) (a : Operand) (ps : String) (af : Array Edge) (gd : Option (Nat × Bool)), ρ a = .int .i64 e → jaH pZ ρ ⟨d, .unOp .neg t a, ty, ps, af, gd⟩ = some (.int .i64 (.ofNat j)) := fun ρ d t ty a ps af gd h => by rw [← hj]; exact jbC h (by omega) (by omega)
   refine ⟨F3, true, fun {X g μ} hL hg => ?_⟩
   obtain ⟨n, rfl⟩ := gle hg
   refine jaF ?_
   obtain ⟨fb, fo, fc, hs, _, hfp⟩ := hL.fp
   have c1 := hfp j hj1
   have hix : ∀ r a b, aev pZ r a = .slice (some ⟨fb, fo, none⟩) 23 fc → aev pZ r b = .int .i64 (.ofNat j) → jan pZ (aev pZ r) 331 a b = some (.pointer (some ⟨fb, fo + j, none⟩)) := fun r a b h1 h2 => jaL Tryz.underlying331 i_f64 rfl h1 h2 hj1
   cases neg
   all_goals
    first | obtain rfl := p0 rfl | have pn := pn rfl
    refine jaf Tryz.func277 rfl rfl (nbl rfl) ?_
    simp only [go_sem, Tryz.ntmps277]
    repeat (refine jaa rfl ?_; (try simp only [go_sem, nI, nF, hL.fi0, jc4, ez, jcL, pf, pn, x0, x1, x3, x4, np, hs, hix, c1, anf, pm3]); fail_if_success refine stk ?_)
    exact jad ⟨rfl, _, by simp only [go_sem, Tryz.results277], rfl, rfl⟩
  ·have x4 : ilt e (-22) = true := dT (jaZ _ _) (by omega)
   refine ⟨F1, false, fun {X g μ} hL hg => ?_⟩
   obtain ⟨n, rfl⟩ := gle hg
   refine jaF ?_
   cases neg
   all_goals
    first | obtain rfl := p0 rfl | have pn := pn rfl
    refine jaf Tryz.func277 rfl rfl (nbl rfl) ?_
    simp only [go_sem, Tryz.ntmps277]
    repeat (refine jaa rfl ?_; (try simp only [go_sem, nI, hL.fi0, jc4, ez, jcL, pf, pn, x0, x1, x3, x4]); fail_if_success refine stk ?_)
    exact jad ⟨rfl, _, by simp only [go_sem, Tryz.results277], rfl, rfl⟩
end
noncomputable section
open Go.Proofs.YtlkenchibdeinaaGreatDoor.NumText (numB dig isE isS)
def bys (s : ByteArray) : List Nat := s.data.toList.map UInt8.toNat
theorem jb5 (s : ByteArray) : (bys s).length = s.data.toList.length := List.length_map _
theorem jbB {s : ByteArray} {i : Nat} (h : i < (bys s).length) {ρ : Operand → Value} {x y : Operand} {kd : IntKind} (hx : ρ x = .string s) (hy : ρ y = .int kd (.ofNat i)) : jaX pZ ρ 9 x y = some (.int .u8 (.ofNat ((bys s)[i]'h))) := by
 have h' : i < s.data.toList.length := by rw [← jb5]; exact h
 have e : (bys s)[i]'h = (s.data.toList[i]'h').toNat := List.getElem_map ..
 rw [jdi hx hy (rzK h'), e]
theorem jaU (s : ByteArray) : aLen pZ 9 (.string s) = some (bys s).length := by
 unfold aLen
 simp only [Tryz.underlying9, jb5]
def jc6 (s : ByteArray) (k : Nat) : ByteArray := ⟨(s.data.toList.drop k).toArray⟩
theorem jeb (s : ByteArray) (k : Nat) : bys (jc6 s k) = (bys s).drop k := by unfold bys jc6; simp
theorem jds {ρ : Operand → Value} {x y : Operand} {s : ByteArray} {k : Nat} {kd : IntKind} (hx : ρ x = .string s) (hy : ρ y = .int kd (.ofNat k)) (hk : k ≤ (bys s).length) : ja0 pZ ρ 9 x (some y) none none = some (.string (jc6 s k)) := by
 unfold ja0
 have h' : k ≤ s.data.toList.length := by rw [← jb5]; exact hk
 have e1 : Nat.ble k s.data.toList.length = true := rzP h'
 simp only [hx, Tryz.underlying9, jbb, jbD, hy, e1]
 have e2 : Nat.ble s.data.toList.length s.data.toList.length = true := rzP (rzN _)
 try simp only [e2]
 exact congrArg (fun l : List UInt8 => some (Value.string ⟨l.toArray⟩)) (List.take_of_length_le (by rw [List.length_drop]; exact rzN _))
def jfK (s : ByteArray) (k : Nat) : ByteArray := ⟨(s.data.toList.take k).toArray⟩
theorem jgH (s : ByteArray) (k : Nat) : bys (jfK s k) = (bys s).take k := by unfold bys jfK; simp
theorem ji6 {ρ : Operand → Value} {x y : Operand} {s : ByteArray} {k : Nat} {kd : IntKind} (hx : ρ x = .string s) (hy : ρ y = .int kd (.ofNat k)) (hk : k ≤ (bys s).length) : ja0 pZ ρ 9 x none (some y) none = some (.string (jfK s k)) := by
 unfold ja0
 have h' : k ≤ s.data.toList.length := by rw [← jb5]; exact hk
 have e1 : Nat.ble k s.data.toList.length = true := rzP h'
 simp only [hx, Tryz.underlying9, jbb, jbD, hy, e1]
 rfl
theorem anb (t : TypeId) (a b : Bool) : aNil pZ t (.bool a) (.bool b) = false := rfl
theorem eqb {ρ : Operand → Value} {d : Option Tmp} {ty : TypeId} {x y : Operand} {ps : String} {af : Array Edge} {gd : Option (Nat × Bool)} {a b : Bool} (hx : ρ x = .bool a) (hy : ρ y = .bool b) : jaH pZ ρ ⟨d, .binOp .eql 4 x y 4, ty, ps, af, gd⟩ = some (.bool (a == b)) := by
 unfold jaH
 simp only [opsOf, jbJ, hx, hy, jaK, execOp]
 show (_ : Option Value) = _
 kernel_rfl
theorem eqbT (r : Rg) {d : Option Tmp} {ty : TypeId} {y : Operand} {ps : String} {af : Array Edge} {gd : Option (Nat × Bool)} (hy : aev pZ r y = .bool true) : jaH pZ (aev pZ r) ⟨d, .binOp .eql 4 (.const (.bool true)) y 4, ty, ps, af, gd⟩ = some (.bool true) := eqb (a := true) rfl hy
theorem eqbF (r : Rg) {d : Option Tmp} {ty : TypeId} {y : Operand} {ps : String} {af : Array Edge} {gd : Option (Nat × Bool)} (hy : aev pZ r y = .bool false) : jaH pZ (aev pZ r) ⟨d, .binOp .eql 4 (.const (.bool true)) y 4, ty, ps, af, gd⟩ = some (.bool false) := eqb (a := true) rfl hy
def nums : List Nat := [43, 45, 46, 48, 49, 50, 51, 52, 53, 54, 55, 56, 57, 69, 101]
theorem jd4 : ∀ c ∈ nums, c ≠ 105 ∧ c ≠ 73 ∧ c ≠ 110 ∧ c ≠ 78 ∧ c ≠ 95 := by decide
theorem jgo : ∀ c ∈ nums, c < 256 := by decide
def lw (c : Nat) : Nat := if c < 64 then (if c < 48 then c else c) else 101
theorem lw_ne : ∀ c ∈ nums, lw c ≠ 120 := by decide
theorem lower_eq {X : XT} {g c : Nat} {μ : Mem} (hg : 10 ≤ g) (h : c ∈ nums) : aFun pZ (jaj pZ X S0 g) 200 [.int .u8 (.ofNat c)] μ = some (.int .u8 (.ofNat (lw c)), μ) := by
 obtain ⟨k, rfl⟩ := gle hg
 simp only [nums, List.mem_cons, List.not_mem_nil, or_false] at h
 rcases h with rfl | rfl | rfl | rfl | rfl | rfl | rfl | rfl | rfl | rfl | rfl | rfl | rfl | rfl | rfl <;> kernel_rfl
theorem cpl_eq {X : XT} {g : Nat} {s : ByteArray} {μ : Mem} (hg : 60 ≤ g) (hs : ∀ c ∈ bys s, c ∈ nums) : aFun pZ (jaj pZ X S0 g) 279 [.string s, .string ⟨List.toArray [105, 110, 102, 105, 110, 105, 116, 121]⟩] μ = some (.int .i64 0, μ) := by
 obtain ⟨k, rfl⟩ := gle hg
 refine jaF ?_
 have l8 : aLen pZ 9 (.string ⟨List.toArray [105, 110, 102, 105, 110, 105, 116, 121]⟩) = some 8 := by kernel_rfl
 have ls := jaU s
 cases hl : bys s with
 | nil =>
   rw [hl] at ls
   have ls : aLen pZ 9 (.string s) = some 0 := ls
   have m0 : (if (Int.ofNat 0 : Int) < Int.ofNat 8 then (Int.ofNat 0 : Int) else Int.ofNat 8) = 0 := rfl
   have i0 : ilt 0 0 = false := rfl
   refine jaf Tryz.func279 rfl rfl (nbl rfl) ?_
   simp only [go_sem, Tryz.ntmps279]
   repeat (first | (refine jaa rfl ?_; (try simp only [go_sem, l8, ls, jae, m0, i0]); fail_if_success refine stk ?_) | refine jah ?_)
   exact jad ⟨rfl, _, by simp only [go_sem, Tryz.results279], rfl, rfl⟩
 | cons c l =>
   have hc : c ∈ nums := hs c (by rw [hl]; exact List.mem_cons_self ..)
   obtain ⟨n, hn⟩ : ∃ n, (bys s).length = n + 1 := ⟨l.length, by rw [hl]; rfl⟩
   rw [hn] at ls
   obtain ⟨m, hm⟩ : ∃ m : Nat, (if (Int.ofNat (n + 1) : Int) < Int.ofNat 8 then (Int.ofNat (n + 1) : Int) else Int.ofNat 8) = Int.ofNat (m + 1) := by
    by_cases h : (Int.ofNat (n + 1) : Int) < Int.ofNat 8
    ·exact ⟨n, if_pos h⟩
    ·exact ⟨7, if_neg h⟩
   have i0 : ilt 0 (.ofNat (m + 1)) = true := dT (jao 0 (m + 1)) (rzW m)
   have hx : ∀ r x y, aev pZ r x = .string s → aev pZ r y = .int .i64 0 → jaX pZ (aev pZ r) 9 x y = some (.int .u8 (.ofNat c)) := fun r x y h1 h2 => by
    rw [jbB (i := 0) (by omega) h1 h2]
    simp only [hl, List.getElem_cons_zero]
   have h8 : ∀ r x y, aev pZ r x = .string ⟨List.toArray [105, 110, 102, 105, 110, 105, 116, 121]⟩ → aev pZ r y = .int .i64 0 → jaX pZ (aev pZ r) 9 x y = some (.int .u8 105) := fun r x y h1 h2 => jdi (m := 0) (b := 105) h1 h2 rfl
   have fin : ∀ (up : Bool) (c' : Nat), ((!ilt (.ofNat c) 65) && (!ilt 90 (.ofNat c))) = up → (up = true → jak .u8 (Int.add (.ofNat c) 32) = .ofNat c') → (up = false → c' = c) → ieq (.ofNat c') 105 = false →
     EndsF (aFun pZ (jaj pZ X S0 (k + 60)) 279 [.string s, .string ⟨List.toArray [105, 110, 102, 105, 110, 105, 116, 121]⟩] μ) fun v' μ' => v' = .int .i64 0 ∧ μ' = μ := fun up c' hup h1 h2 h3 => by
    by_cases a : ilt (.ofNat c) 65 = true
    ·have hu : up = false := by rw [← hup, a]; rfl
     obtain rfl := h2 hu
     refine jaf Tryz.func279 rfl rfl (nbl rfl) ?_
     simp only [go_sem, Tryz.ntmps279]
     repeat (first | (refine jaa rfl ?_; (try simp only [go_sem, l8, ls, jae, hm, i0, hx, h8, a, h3]); fail_if_success refine stk ?_) | refine jah ?_)
     exact jad ⟨rfl, _, by simp only [go_sem, Tryz.results279], rfl, rfl⟩
    ·have a : ilt (.ofNat c) 65 = false := by simpa using a
     by_cases b : ilt 90 (.ofNat c) = true
     ·have hu : up = false := by rw [← hup, a, b]; rfl
      obtain rfl := h2 hu
      refine jaf Tryz.func279 rfl rfl (nbl rfl) ?_
      simp only [go_sem, Tryz.ntmps279]
      repeat (first | (refine jaa rfl ?_; (try simp only [go_sem, l8, ls, jae, hm, i0, hx, h8, a, b, h3]); fail_if_success refine stk ?_) | refine jah ?_)
      exact jad ⟨rfl, _, by simp only [go_sem, Tryz.results279], rfl, rfl⟩
     ·have b : ilt 90 (.ofNat c) = false := by simpa using b
      have hu : up = true := by rw [← hup, a, b]; rfl
      have q := h1 hu
      refine jaf Tryz.func279 rfl rfl (nbl rfl) ?_
      simp only [go_sem, Tryz.ntmps279]
      repeat (first | (refine jaa rfl ?_; (try simp only [go_sem, l8, ls, jae, hm, i0, hx, h8, a, b, q, h3]); fail_if_success refine stk ?_) | refine jah ?_)
      exact jad ⟨rfl, _, by simp only [go_sem, Tryz.results279], rfl, rfl⟩
   clear hx hs hl
   simp only [nums, List.mem_cons, List.not_mem_nil, or_false] at hc
   rcases hc with rfl | rfl | rfl | rfl | rfl | rfl | rfl | rfl | rfl | rfl | rfl | rfl | rfl | rfl | rfl
   all_goals first
    | exact fin false _ rfl (fun h => by cases h) (fun _ => rfl) rfl
    | exact fin true 101 rfl (fun _ => rfl) (fun h => by cases h) rfl
theorem jjM {X : XT} {g : Nat} {s : ByteArray} {μ : Mem} (hg : 100 ≤ g) (hs : ∀ c ∈ bys s, c ∈ nums) (h0 : 0 < (bys s).length) : aFun pZ (jaj pZ X S0 g) 267 [.string s] μ = some (.tuple #[.float .f64 0, .int .i64 0, .bool false], μ) := by
 obtain ⟨k, rfl⟩ := gle hg
 refine jaF ?_
 obtain ⟨c, hc⟩ := exq ((bys s)[0]'h0)
 have hcn : c ∈ nums := by rw [hc]; exact hs _ (List.getElem_mem h0)
 have hx : ∀ r x, aev pZ r x = .string s → jaX pZ (aev pZ r) 9 x (.const (.int .i64 0)) = some (.int .u8 (.ofNat c)) := fun r x h1 => by rw [hc]; exact jbB h0 h1 (kd := .i64) rfl
 have hsl : ∀ r x, aev pZ r x = .string s → ja0 pZ (aev pZ r) 9 x (some (.const (.int .i64 1))) none none = some (.string (jc6 s 1)) := fun r x h1 => jds (k := 1) h1 (kd := .i64) rfl h0
 have hcp : ∀ g, 60 ≤ g → aFun pZ (jaj pZ X S0 g) 279 [.string (jc6 s 1), .string ⟨List.toArray [105, 110, 102, 105, 110, 105, 116, 121]⟩] μ = some (.int .i64 0, μ) := fun g h => cpl_eq h fun x hx => hs x (by rw [jeb] at hx; exact List.mem_of_mem_drop hx)
 obtain ⟨n, hn⟩ : ∃ n, (bys s).length = n + 1 := ⟨(bys s).length - 1, by omega⟩
 have ls := jaU s
 rw [hn] at ls
 have ln : ieq (.ofNat (n + 1)) 0 = false := dF (jaB _ 0 0 rfl) (by omega)
 clear hc hs h0
 have f1 : ilt 3 0 = false := rfl
 have f2 : ieq 0 3 = false := rfl
 have f3 : ieq 0 8 = false := rfl
 by_cases e1 : c = 43
 ·subst e1
  have a1 : ieq (.ofNat 43) 43 = true := rfl
  have a2 : ieq (.ofNat 43) 45 = false := rfl
  refine jaf Tryz.func267 rfl rfl (nbl rfl) ?_
  simp only [go_sem, Tryz.ntmps267]
  repeat (refine jaa rfl ?_; (try simp only [go_sem, jae, ls, ln, hx, hsl, a1, a2, hcp, Nat.reduceLeDiff, f1, f2, f3]); fail_if_success refine stk ?_)
  exact jad ⟨rfl, _, by simp only [go_sem, Tryz.results267], rfl, rfl⟩
 ·by_cases e2 : c = 45
  ·subst e2
   have a1 : ieq (.ofNat 45) 43 = false := rfl
   have a2 : ieq (.ofNat 45) 45 = true := rfl
   refine jaf Tryz.func267 rfl rfl (nbl rfl) ?_
   simp only [go_sem, Tryz.ntmps267]
   repeat (refine jaa rfl ?_; (try simp only [go_sem, jae, ls, ln, hx, hsl, a1, a2, hcp, Nat.reduceLeDiff, f1, f2, f3]); fail_if_success refine stk ?_)
   exact jad ⟨rfl, _, by simp only [go_sem, Tryz.results267], rfl, rfl⟩
  ·obtain ⟨n1, n2, n3, n4, _⟩ := jd4 c hcn
   have a1 : ieq (.ofNat c) 43 = false := dF (jaB c 43 43 rfl) e1
   have a2 : ieq (.ofNat c) 45 = false := dF (jaB c 45 45 rfl) e2
   have a3 : ieq (.ofNat c) 105 = false := dF (jaB c 105 105 rfl) (n1)
   have a4 : ieq (.ofNat c) 73 = false := dF (jaB c 73 73 rfl) (n2)
   have a5 : ieq (.ofNat c) 110 = false := dF (jaB c 110 110 rfl) (n3)
   have a6 : ieq (.ofNat c) 78 = false := dF (jaB c 78 78 rfl) (n4)
   refine jaf Tryz.func267 rfl rfl (nbl rfl) ?_
   simp only [go_sem, Tryz.ntmps267]
   repeat (refine jaa rfl ?_; (try simp only [go_sem, jae, ls, ln, hx, a1, a2, a3, a4, a5, a6]); fail_if_success refine stk ?_)
   exact jad ⟨rfl, _, by simp only [go_sem, Tryz.results267], rfl, rfl⟩
end
noncomputable section
def jcK : Nat → Code → Code
 | n + 1, .seq _ b => jcK n b
 | _, c => c
def jaI (fn : Func) : Code := match fn.body with
 | some (.seq _ (.scope c)) => c
 | _ => .skip
structure RegR (tm : T Value) (s : ByteArray) (i a nd nm : Nat) (dp : Int) (neg tr sd sg : Bool) : Prop where
 r0 : jac tm 0 = .string s
 r2 : jac tm 2 = u a
 r3 : jac tm 3 = .int .i64 0
 r4 : jac tm 4 = .bool neg
 r5 : jac tm 5 = .bool tr
 r6 : jac tm 6 = .bool false
 r7 : jac tm 7 = .int .i64 (.ofNat i)
 r8 : jac tm 8 = .bool false
 r9 : jac tm 9 = .bool false
 r10 : jac tm 10 = .int .u64 10
 r11 : jac tm 11 = .int .i64 19
 r12 : jac tm 12 = .int .u8 101
 r13 : jac tm 13 = .bool sd
 r14 : jac tm 14 = .bool sg
 r15 : jac tm 15 = .int .i64 (.ofNat nd)
 r16 : jac tm 16 = .int .i64 (.ofNat nm)
 r17 : jac tm 17 = .int .i64 dp
theorem RegR.z {tm : T Value} {s : ByteArray} {i a nd nm : Nat} {dp : Int} {neg tr sd sg : Bool} (h : RegR tm s i a nd nm dp neg tr sd sg) : jac tm 0 = .string s ∧ jac tm 2 = u a ∧ jac tm 3 = .int .i64 0 ∧ jac tm 4 = .bool neg ∧ jac tm 5 = .bool tr ∧ jac tm 6 = .bool false ∧ jac tm 7 = .int .i64 (.ofNat i) ∧ jac tm 8 = .bool false ∧ jac tm 9 = .bool false ∧ jac tm 10 = .int .u64 10 ∧ jac tm 11 = .int .i64 19 ∧ jac tm 12 = .int .u8 101 ∧ jac tm 13 = .bool sd ∧ jac tm 14 = .bool sg ∧ jac tm 15 = .int .i64 (.ofNat nd) ∧ jac tm 16 = .int .i64 (.ofNat nm) ∧ jac tm 17 = .int .i64 dp := ⟨h.r0, h.r2, h.r3, h.r4, h.r5, h.r6, h.r7, h.r8, h.r9, h.r10, h.r11, h.r12, h.r13, h.r14, h.r15, h.r16, h.r17⟩
structure RegF (tm : T Value) (a : Nat) (e : Int) (neg tr : Bool) (i : Nat) (ok : Bool) : Prop where
 r2 : jac tm 2 = u a
 r3 : jac tm 3 = .int .i64 e
 r4 : jac tm 4 = .bool neg
 r5 : jac tm 5 = .bool tr
 r6 : jac tm 6 = .bool false
 r7 : jac tm 7 = .int .i64 (.ofNat i)
 r8 : jac tm 8 = .bool ok
theorem RegF.z {tm : T Value} {a : Nat} {e : Int} {neg tr : Bool} {i : Nat} {ok : Bool} (h : RegF tm a e neg tr i ok) : jac tm 2 = u a ∧ jac tm 3 = .int .i64 e ∧ jac tm 4 = .bool neg ∧ jac tm 5 = .bool tr ∧ jac tm 6 = .bool false ∧ jac tm 7 = .int .i64 (.ofNat i) ∧ jac tm 8 = .bool ok := ⟨h.r2, h.r3, h.r4, h.r5, h.r6, h.r7, h.r8⟩
def FinR (a : Nat) (e : Int) (neg tr : Bool) (i : Nat) (ok : Bool) (μ : Mem) : Ax → Rg → Mem → Prop := fun x r μ' => x = .ret ∧ μ' = μ ∧ ∃ tm, r = ⟨253, tm, [], none⟩ ∧ RegF tm a e neg tr i ok
theorem jhD : ieq 10 16 = false := rfl
set_option maxHeartbeats 4000000 in
theorem rf18 (s : ByteArray) (i a nd nm : Nat) (dp : Int) (neg tr sd sg : Bool) (hd1 : -150000 < dp) (hd2 : dp < 150000) (hn : nm ≤ 19) : ∃ e, -200000 < e ∧ e < 200000 ∧ ∀ {X : XT} {k : Nat} {tm : T Value} {μ : Mem}, RegR tm s i a nd nm dp neg tr sd sg →
  EndsC (jaj pZ X S0 (k + 30) (jcK 18 (jaI Tryz.f268)) ⟨253, tm, [], none⟩ μ) (FinR a e neg tr i true μ) := by
 by_cases ha : W a = 0
 ·have a0 : ieq (.ofNat (W a)) 0 = true := dT (jaB _ 0 0 rfl) ha
  refine ⟨0, by omega, by omega, fun {X k tm μ} h => ?_⟩
  repeat (refine jaa rfl ?_; (try simp only [go_sem, h.z, a0]); fail_if_success refine stk ?_)
  refine jad ?_
  exact ⟨by trivial, by trivial, _, rfl, (by constructor <;> simp only [go_sem, h.z])⟩
 ·have a0 : ieq (.ofNat (W a)) 0 = false := dF (jaB _ 0 0 rfl) ha
  have q : jak .i64 (Int.sub dp (.ofNat nm)) = dp - (nm : Int) := jbU dp (nm : Int) (by omega) (by omega)
  refine ⟨dp - (nm : Int), by omega, by omega, fun {X k tm μ} h => ?_⟩
  repeat (refine jaa rfl ?_; (try simp only [go_sem, h.z, a0, q]); fail_if_success refine stk ?_)
  refine jad ?_
  exact ⟨by trivial, by trivial, _, rfl, (by constructor <;> simp only [go_sem, h.z])⟩
set_option maxHeartbeats 4000000 in
theorem rf_exp {s : ByteArray} (hs : ∀ c ∈ bys s, c ∈ nums) (hl : (bys s).length ≤ 1000) (a nd nm : Nat) (dp : Int) (neg tr sd sg : Bool) : ∀ (m i v : Nat), i + m = (bys s).length → v < 110000 →
  ∃ i' v', i ≤ i' ∧ i' ≤ (bys s).length ∧ v' < 110000 ∧ ∀ {X : XT} {e : Nat} {tm : T Value} {μ : Mem} {es : Value}, RegR tm s i a nd nm dp neg tr sd sg → jac tm 20 = .int .i64 (.ofNat v) → jac tm 19 = es →
   LpC X (e + m + 30) Tryz.f268 1 253 tm μ fun x r μ' => x = .exit 5 ∧ μ' = μ ∧ ∃ tm', r = ⟨253, tm', [], none⟩ ∧ RegR tm' s i' a nd nm dp neg tr sd sg ∧ jac tm' 20 = .int .i64 (.ofNat v') ∧ jac tm' 19 = es := by
 have ls := jaU s
 intro m
 induction m with
 | zero =>
   intro i v hi hv
   have hi : i = (bys s).length := hi
   have e1 : ilt (.ofNat i) (.ofNat (bys s).length) = false := dF (jao _ _) (by omega)
   refine ⟨i, v, rzN _, by omega, hv, fun {X e tm μ es} h h20 h19 => ?_⟩
   refine jah ?_
   refine jag ?_
   refine jag ?_
   refine jab rfl ?_
   repeat (refine jam rfl ?_; (try simp only [go_sem, h.z, ls, jae, e1]); fail_if_success refine stk ?_)
   repeat (refine jaa rfl ?_; (try simp only [go_sem, h.z, ls, jae, e1]); fail_if_success refine stk ?_)
   exact ⟨by trivial, by trivial, _, rfl, (by constructor <;> simp only [go_sem, h.z]), by simp only [go_sem, h20], by simp only [go_sem, h19]⟩
 | succ m ih =>
   intro i v hi hv
   have hlt : i < (bys s).length := by omega
   obtain ⟨c, hc⟩ := exq ((bys s)[i]'hlt)
   have hcn : c ∈ nums := by rw [hc]; exact hs _ (List.getElem_mem hlt)
   have hc256 := jgo c hcn
   have hx : ∀ r x y, aev pZ r x = .string s → aev pZ r y = .int .i64 (.ofNat i) → jaX pZ (aev pZ r) 9 x y = some (.int .u8 (.ofNat c)) := fun r x y h1 h2 => by rw [hc]; exact jbB hlt h1 h2
   have e1 : ilt (.ofNat i) (.ofNat (bys s).length) = true := dT (jao _ _) hlt
   have e95 : ieq (.ofNat c) 95 = false := (jaB c 95 95 rfl).trans (rzV (jd4 c hcn).2.2.2.2)
   have a1 : jak .i64 (Int.add (.ofNat i) 1) = .ofNat (i + 1) := jaE i 1 (by omega)
   clear hc
   by_cases hd : 48 ≤ c ∧ c ≤ 57
   ·have d1 : ilt (.ofNat c) 48 = false := dF (jbn c 48 48 rfl) (by omega)
    have d2 : ilt 57 (.ofNat c) = false := dF (jcp c 57 57 rfl) (by omega)
    by_cases hv2 : v < 10000
    ·obtain ⟨i', v', b1, b2, b3, hih⟩ := ih (i + 1) (v * 10 + c - 48) (by omega) (by omega)
     have v1 : ilt (.ofNat v) 10000 = true := dT (jbn v 10000 10000 rfl) hv2
     have q1 : jak .i64 (Int.mul (.ofNat v) 10) = .ofNat (v * 10) := jip v 10 (by omega)
     have q2 : jak .i64 (.ofNat c) = .ofNat c := q64 c (by omega)
     have q3 : jak .i64 (Int.add (.ofNat (v * 10)) (.ofNat c)) = .ofNat (v * 10 + c) := jaE _ _ (by omega)
     have q4 : jak .i64 (Int.sub (.ofNat (v * 10 + c)) 48) = .ofNat (v * 10 + c - 48) := jaV (v * 10 + c) 48 (by omega) (by omega)
     refine ⟨i', v', by omega, b2, b3, fun {X e tm μ es} h h20 h19 => ?_⟩
     refine jah ?_
     refine jag ?_
     refine jag ?_
     refine jab rfl ?_
     repeat (refine jam rfl ?_; (try simp only [go_sem, h.z, h20, ls, jae, e1, hx, e95, d1, d2, v1, q1, jci, q2, q3, q4, a1]); fail_if_success refine stk ?_)
     repeat (refine jaa rfl ?_; (try simp only [go_sem, h.z, h20, ls, jae, e1, hx, e95, d1, d2, v1, q1, jci, q2, q3, q4, a1]); fail_if_success refine stk ?_)
     rw [(by omega : e + (m + 1) + 29 = e + m + 30)]
     exact hih (by constructor <;> simp only [go_sem, h.z]) (by simp only [go_sem]) (by simp only [go_sem, h19])
    ·obtain ⟨i', v', b1, b2, b3, hih⟩ := ih (i + 1) v (by omega) hv
     have v1 : ilt (.ofNat v) 10000 = false := dF (jbn v 10000 10000 rfl) hv2
     refine ⟨i', v', by omega, b2, b3, fun {X e tm μ es} h h20 h19 => ?_⟩
     refine jah ?_
     refine jag ?_
     refine jag ?_
     refine jab rfl ?_
     repeat (refine jam rfl ?_; (try simp only [go_sem, h.z, h20, ls, jae, e1, hx, e95, d1, d2, v1, a1]); fail_if_success refine stk ?_)
     repeat (refine jaa rfl ?_; (try simp only [go_sem, h.z, h20, ls, jae, e1, hx, e95, d1, d2, v1, a1]); fail_if_success refine stk ?_)
     rw [(by omega : e + (m + 1) + 29 = e + m + 30)]
     exact hih (by constructor <;> simp only [go_sem, h.z]) (by simp only [go_sem, h20]) (by simp only [go_sem, h19])
   ·refine ⟨i, v, rzN _, by omega, hv, fun {X e tm μ es} h h20 h19 => ?_⟩
    by_cases h48 : c < 48
    ·have d1 : ilt (.ofNat c) 48 = true := dT (jbn c 48 48 rfl) h48
     refine jah ?_
     refine jag ?_
     refine jag ?_
     refine jab rfl ?_
     repeat (refine jam rfl ?_; (try simp only [go_sem, h.z, ls, jae, e1, hx, e95, d1]); fail_if_success refine stk ?_)
     repeat (refine jaa rfl ?_; (try simp only [go_sem, h.z, ls, jae, e1, hx, e95, d1]); fail_if_success refine stk ?_)
     exact ⟨by trivial, by trivial, _, rfl, (by constructor <;> simp only [go_sem, h.z]), by simp only [go_sem, h20], by simp only [go_sem, h19]⟩
    ·have d1 : ilt (.ofNat c) 48 = false := dF (jbn c 48 48 rfl) h48
     have d2 : ilt 57 (.ofNat c) = true := dT (jcp c 57 57 rfl) (by omega)
     refine jah ?_
     refine jag ?_
     refine jag ?_
     refine jab rfl ?_
     repeat (refine jam rfl ?_; (try simp only [go_sem, h.z, ls, jae, e1, hx, e95, d1, d2]); fail_if_success refine stk ?_)
     repeat (refine jaa rfl ?_; (try simp only [go_sem, h.z, ls, jae, e1, hx, e95, d1, d2]); fail_if_success refine stk ?_)
     exact ⟨by trivial, by trivial, _, rfl, (by constructor <;> simp only [go_sem, h.z]), by simp only [go_sem, h20], by simp only [go_sem, h19]⟩
theorem num_48 (c : Nat) (h : 48 ≤ c ∧ c ≤ 57) : jak .u8 (Int.sub (.ofNat c) 48) = .ofNat (c - 48) := by
 have : Int.sub (.ofNat c) 48 = .ofNat (c - 48) := by show (c : Int) - 48 = ((c - 48 : Nat) : Int); omega
 rw [this]; exact qu8 _ (by omega)
theorem RegR.fin {tm : T Value} {s : ByteArray} {i a nd nm : Nat} {dp : Int} {neg tr sd sg : Bool} (h : RegR tm s i a nd nm dp neg tr sd sg) : RegF tm a 0 neg tr i false := ⟨h.r2, h.r3, h.r4, h.r5, h.r6, h.r7, h.r8⟩
theorem rf_loop {s : ByteArray} (hs : ∀ c ∈ bys s, c ∈ nums) (hl : (bys s).length ≤ 1000) (neg : Bool) : ∀ (m i a nd nm : Nat) (dp : Int) (tr sd sg : Bool), i + m = (bys s).length → nd ≤ i → nm ≤ 19 → -(i : Int) ≤ dp → dp ≤ i →
  ∃ i' a' nd' nm' dp' tr' sd' sg', i ≤ i' ∧ i' ≤ (bys s).length ∧ nd' ≤ i' ∧ nm' ≤ 19 ∧ -(i' : Int) ≤ dp' ∧ dp' ≤ i' ∧ ∀ {X : XT} {e : Nat} {tm : T Value} {μ : Mem}, RegR tm s i a nd nm dp neg tr sd sg →
   LpC X (e + m + 40) Tryz.f268 0 253 tm μ fun x r μ' => x = .exit 1 ∧ μ' = μ ∧ ∃ tm', r = ⟨253, tm', [], none⟩ ∧ RegR tm' s i' a' nd' nm' dp' neg tr' sd' sg' := by
 have ls := jaU s
 intro m
 induction m with
 | zero =>
   intro i a nd nm dp tr sd sg hi h1 h2 h3 h4
   have hi : i = (bys s).length := hi
   have e1 : ilt (.ofNat i) (.ofNat (bys s).length) = false := dF (jao _ _) (by omega)
   refine ⟨i, a, nd, nm, dp, tr, sd, sg, rzN _, by omega, h1, h2, h3, h4, fun {X e tm μ} h => ?_⟩
   refine jah ?_
   repeat (refine jaa rfl ?_; (try simp only [go_sem, h.z, ls, jae, e1]); fail_if_success refine stk ?_)
   exact ⟨by trivial, by trivial, _, rfl, (by constructor <;> simp only [go_sem, h.z])⟩
 | succ m ih =>
   intro i a nd nm dp tr sd sg hi h1 h2 h3 h4
   have hlt : i < (bys s).length := by omega
   obtain ⟨c, hc⟩ := exq ((bys s)[i]'hlt)
   have hcn : c ∈ nums := by rw [hc]; exact hs _ (List.getElem_mem hlt)
   have hc256 := jgo c hcn
   have hx : ∀ r x y, aev pZ r x = .string s → aev pZ r y = .int .i64 (.ofNat i) → jaX pZ (aev pZ r) 9 x y = some (.int .u8 (.ofNat c)) := fun r x y h1 h2 => by rw [hc]; exact jbB hlt h1 h2
   have e1 : ilt (.ofNat i) (.ofNat (bys s).length) = true := dT (jao _ _) hlt
   have e95 : ieq (.ofNat c) 95 = false := (jaB c 95 95 rfl).trans (rzV (jd4 c hcn).2.2.2.2)
   have a1 : jak .i64 (Int.add (.ofNat i) 1) = .ofNat (i + 1) := jaE i 1 (by omega)
   clear hc
   by_cases hp : c = 46
   ·have e46 : ieq (.ofNat c) 46 = true := dT (jaB c 46 46 rfl) hp
    cases sd with
    | true =>
      refine ⟨i, a, nd, nm, dp, tr, true, sg, rzN _, by omega, h1, h2, h3, h4, fun {X e tm μ} h => ?_⟩
      refine jah ?_
      repeat (refine jaa rfl ?_; (try simp only [go_sem, h.z, ls, jae, e1, hx, e95, e46, anb, eqbT, eqbF]); fail_if_success refine stk ?_)
      exact ⟨by trivial, by trivial, _, rfl, (by constructor <;> simp only [go_sem, h.z])⟩
    | false =>
      obtain ⟨i', a', nd', nm', dp', tr', sd', sg', b1, b2, b3, b4, b5, b6, hih⟩ := ih (i + 1) a nd nm (.ofNat nd) tr true sg (by omega) (by omega) h2 (by show _ ≤ (nd : Int); omega) (by show (nd : Int) ≤ _; omega)
      refine ⟨i', a', nd', nm', dp', tr', sd', sg', by omega, b2, b3, b4, b5, b6, fun {X e tm μ} h => ?_⟩
      refine jah ?_
      repeat (refine jaa rfl ?_; (try simp only [go_sem, h.z, ls, jae, e1, hx, e95, e46, anb, eqbT, eqbF, a1]); fail_if_success refine stk ?_)
      rw [(by omega : e + (m + 1) + 39 = e + m + 40)]
      exact hih (by constructor <;> simp only [go_sem, h.z])
   ·have e46 : ieq (.ofNat c) 46 = false := dF (jaB c 46 46 rfl) hp
    by_cases hd : 48 ≤ c ∧ c ≤ 57
    ·have d1 : ilt (.ofNat c) 48 = false := dF (jbn c 48 48 rfl) (by omega)
     have d2 : ilt 57 (.ofNat c) = false := dF (jcp c 57 57 rfl) (by omega)
     have cnt : (c ≠ 48 ∨ nd ≠ 0) → ∃ i' a' nd' nm' dp' tr' sd' sg', i ≤ i' ∧ i' ≤ (bys s).length ∧ nd' ≤ i' ∧ nm' ≤ 19 ∧ -(i' : Int) ≤ dp' ∧ dp' ≤ i' ∧ ∀ (z1 z2 : Bool) {X : XT} {e : Nat} {tm : T Value} {μ : Mem}, ieq (.ofNat c) 48 = z1 → (z1 = true → ieq (.ofNat nd) 0 = false) → RegR tm s i a nd nm dp neg tr sd sg →
       EndsC (jaj pZ X S0 (e + (m + 1) + 40) (.loop (jbk Tryz.f268 0)) ⟨253, tm, [], none⟩ μ) fun x r μ' => x = .exit 1 ∧ μ' = μ ∧ ∃ tm', r = ⟨253, tm', [], none⟩ ∧ RegR tm' s i' a' nd' nm' dp' neg tr' sd' sg' := by
      intro hcnt
      have n1 : jak .i64 (Int.add (.ofNat nd) 1) = .ofNat (nd + 1) := jaE nd 1 (by omega)
      by_cases h19 : nm < 19
      ·have l19 : ilt (.ofNat nm) 19 = true := dT (jbn nm 19 19 rfl) h19
       have n2 : jak .i64 (Int.add (.ofNat nm) 1) = .ofNat (nm + 1) := jaE nm 1 (by omega)
       have q1 := num_48 c hd
       have q2 : jak .u64 (.ofNat (c - 48)) = .ofNat (W (c - 48)) := jbR _
       obtain ⟨i', a', nd', nm', dp', tr', sd', sg', b1, b2, b3, b4, b5, b6, hih⟩ := ih (i + 1) (W (W a * 10) + W (c - 48)) (nd + 1) (nm + 1) dp tr sd true (by omega) (by omega) (by omega) (by omega) (by omega)
       refine ⟨i', a', nd', nm', dp', tr', sd', sg', by omega, b2, b3, b4, b5, b6, fun z1 z2 {X e tm μ} k1 k2 h => ?_⟩
       cases z1 with
       | true =>
         have k2 := k2 rfl
         refine jah ?_
         repeat (refine jaa rfl ?_; (try simp only [go_sem, h.z, ls, jae, e1, hx, e95, e46, anb, eqbT, eqbF, d1, d2, k1, k2, n1, n2, l19, q1, q2, jiH, jdL, wAdd, a1]); fail_if_success refine stk ?_)
         rw [(by omega : e + (m + 1) + 39 = e + m + 40)]
         exact hih (by constructor <;> simp only [go_sem, h.z])
       | false =>
         refine jah ?_
         repeat (refine jaa rfl ?_; (try simp only [go_sem, h.z, ls, jae, e1, hx, e95, e46, anb, eqbT, eqbF, d1, d2, k1, n1, n2, l19, q1, q2, jiH, jdL, wAdd, a1]); fail_if_success refine stk ?_)
         rw [(by omega : e + (m + 1) + 39 = e + m + 40)]
         exact hih (by constructor <;> simp only [go_sem, h.z])
      ·have l19 : ilt (.ofNat nm) 19 = false := dF (jbn nm 19 19 rfl) h19
       obtain ⟨i', a', nd', nm', dp', tr', sd', sg', b1, b2, b3, b4, b5, b6, hih⟩ := ih (i + 1) a (nd + 1) nm dp (if c = 48 then tr else true) sd true (by omega) (by omega) (by omega) (by omega) (by omega)
       refine ⟨i', a', nd', nm', dp', tr', sd', sg', by omega, b2, b3, b4, b5, b6, fun z1 z2 {X e tm μ} k1 k2 h => ?_⟩
       by_cases h48 : c = 48
       ·rw [if_pos h48] at hih
        obtain rfl : z1 = true := k1.symm.trans (dT (jaB c 48 48 rfl) h48)
        have k2 := k2 rfl
        refine jah ?_
        repeat (refine jaa rfl ?_; (try simp only [go_sem, h.z, ls, jae, e1, hx, e95, e46, anb, eqbT, eqbF, d1, d2, k1, k2, n1, l19, a1]); fail_if_success refine stk ?_)
        rw [(by omega : e + (m + 1) + 39 = e + m + 40)]
        exact hih (by constructor <;> simp only [go_sem, h.z])
       ·rw [if_neg h48] at hih
        obtain rfl : z1 = false := k1.symm.trans (dF (jaB c 48 48 rfl) h48)
        refine jah ?_
        repeat (refine jaa rfl ?_; (try simp only [go_sem, h.z, ls, jae, e1, hx, e95, e46, anb, eqbT, eqbF, d1, d2, k1, n1, l19, a1]); fail_if_success refine stk ?_)
        rw [(by omega : e + (m + 1) + 39 = e + m + 40)]
        exact hih (by constructor <;> simp only [go_sem, h.z])
     by_cases h48 : c = 48
     ·have k1 : ieq (.ofNat c) 48 = true := dT (jaB c 48 48 rfl) h48
      by_cases h0 : nd = 0
      ·have k2 : ieq (.ofNat nd) 0 = true := dT (jaB nd 0 0 rfl) h0
       have n1 : jak .i64 (Int.sub dp 1) = dp - 1 := jbU dp 1 (by omega) (by omega)
       obtain ⟨i', a', nd', nm', dp', tr', sd', sg', b1, b2, b3, b4, b5, b6, hih⟩ := ih (i + 1) a nd nm (dp - 1) tr sd true (by omega) (by omega) (by omega) (by omega) (by omega)
       refine ⟨i', a', nd', nm', dp', tr', sd', sg', by omega, b2, b3, b4, b5, b6, fun {X e tm μ} h => ?_⟩
       refine jah ?_
       repeat (refine jaa rfl ?_; (try simp only [go_sem, h.z, ls, jae, e1, hx, e95, e46, anb, eqbT, eqbF, d1, d2, k1, k2, n1, a1]); fail_if_success refine stk ?_)
       rw [(by omega : e + (m + 1) + 39 = e + m + 40)]
       exact hih (by constructor <;> simp only [go_sem, h.z])
      ·obtain ⟨i', a', nd', nm', dp', tr', sd', sg', b1, b2, b3, b4, b5, b6, hih⟩ := cnt (.inr h0)
       exact ⟨i', a', nd', nm', dp', tr', sd', sg', b1, b2, b3, b4, b5, b6, fun {X e tm μ} h => hih true true k1 (fun _ => dF (jaB nd 0 0 rfl) h0) h⟩
     ·have k1 : ieq (.ofNat c) 48 = false := dF (jaB c 48 48 rfl) h48
      obtain ⟨i', a', nd', nm', dp', tr', sd', sg', b1, b2, b3, b4, b5, b6, hih⟩ := cnt (.inl h48)
      exact ⟨i', a', nd', nm', dp', tr', sd', sg', b1, b2, b3, b4, b5, b6, fun {X e tm μ} h => hih false true k1 (fun h => by cases h) h⟩
    ·refine ⟨i, a, nd, nm, dp, tr, sd, sg, rzN _, by omega, h1, h2, h3, h4, fun {X e tm μ} h => ?_⟩
     by_cases h48 : c < 48
     ·have d1 : ilt (.ofNat c) 48 = true := dT (jbn c 48 48 rfl) h48
      refine jah ?_
      repeat (refine jaa rfl ?_; (try simp only [go_sem, h.z, ls, jae, e1, hx, e95, e46, anb, eqbT, eqbF, d1, jhD]); fail_if_success refine stk ?_)
      exact ⟨by trivial, by trivial, _, rfl, (by constructor <;> simp only [go_sem, h.z])⟩
     ·have d1 : ilt (.ofNat c) 48 = false := dF (jbn c 48 48 rfl) h48
      have d2 : ilt 57 (.ofNat c) = true := dT (jcp c 57 57 rfl) (by omega)
      refine jah ?_
      repeat (refine jaa rfl ?_; (try simp only [go_sem, h.z, ls, jae, e1, hx, e95, e46, anb, eqbT, eqbF, d1, d2, jhD]); fail_if_success refine stk ?_)
      exact ⟨by trivial, by trivial, _, rfl, (by constructor <;> simp only [go_sem, h.z])⟩
def je7 : Code → Code
 | .seq _ (.cond _ a _) => a
 | _ => .skip
def nthC : Nat → Code → Code
 | n + 1, .seq _ b => nthC n b
 | 0, .seq a _ => a
 | _, c => c
def outX (done : Bool) : Ax := if done then .normal else .ret
theorem rfE {s : ByteArray} (hs : ∀ c ∈ bys s, c ∈ nums) (hl : (bys s).length ≤ 1000) (i a nd nm : Nat) (dp : Int) (neg tr sd sg : Bool) (es : Int) (hes : es = 1 ∨ es = -1) (hi : i ≤ (bys s).length) (hd1 : -2000 < dp) (hd2 : dp < 2000) : ∃ done i' dp', i' ≤ (bys s).length ∧ -150000 < dp' ∧ dp' < 150000 ∧ ∀ {X : XT} {k : Nat} {tm : T Value} {μ : Mem}, RegR tm s i a nd nm dp neg tr sd sg → jac tm 19 = .int .i64 es →
  EndsC (jaj pZ X S0 (k + 1100) (jcK 4 (je7 (nthC 17 (jaI Tryz.f268)))) ⟨253, tm, [], none⟩ μ) fun x r μ' => x = outX done ∧ μ' = μ ∧ ∃ tm', r = ⟨253, tm', [], none⟩ ∧ RegR tm' s i' a nd nm dp' neg tr sd sg := by
 have ls := jaU s
 by_cases hlt : i < (bys s).length
 rotate_left
 ·have e1 : ilt (.ofNat i) (.ofNat (bys s).length) = false := dF (jao _ _) hlt
  refine ⟨false, i, dp, hi, by omega, by omega, fun {X k tm μ} h h19 => ?_⟩
  refine jag ?_
  refine jag ?_
  refine jab rfl ?_
  repeat (refine jam rfl ?_; (try simp only [go_sem, h.z, ls, jae, e1]); fail_if_success refine stk ?_)
  repeat (refine jaa rfl ?_; (try simp only [go_sem, h.z, ls, jae, e1]); fail_if_success refine stk ?_)
  refine jad ?_
  exact ⟨by trivial, by trivial, _, rfl, (by constructor <;> simp only [go_sem, h.z])⟩
 have e1 : ilt (.ofNat i) (.ofNat (bys s).length) = true := dT (jao _ _) hlt
 obtain ⟨c, hc⟩ := exq ((bys s)[i]'hlt)
 have hx : ∀ r x y, aev pZ r x = .string s → aev pZ r y = .int .i64 (.ofNat i) → jaX pZ (aev pZ r) 9 x y = some (.int .u8 (.ofNat c)) := fun r x y h1 h2 => by rw [hc]; exact jbB hlt h1 h2
 clear hc
 by_cases h48 : c < 48
 ·have d1 : ilt (.ofNat c) 48 = true := dT (jbn c 48 48 rfl) h48
  refine ⟨false, i, dp, hi, by omega, by omega, fun {X k tm μ} h h19 => ?_⟩
  refine jag ?_
  refine jag ?_
  refine jab rfl ?_
  repeat (refine jam rfl ?_; (try simp only [go_sem, h.z, ls, jae, e1, hx, d1]); fail_if_success refine stk ?_)
  repeat (refine jaa rfl ?_; (try simp only [go_sem, h.z, ls, jae, e1, hx, d1]); fail_if_success refine stk ?_)
  refine jad ?_
  exact ⟨by trivial, by trivial, _, rfl, (by constructor <;> simp only [go_sem, h.z])⟩
 have d1 : ilt (.ofNat c) 48 = false := dF (jbn c 48 48 rfl) h48
 by_cases h57 : 57 < c
 ·have d2 : ilt 57 (.ofNat c) = true := dT (jcp c 57 57 rfl) h57
  refine ⟨false, i, dp, hi, by omega, by omega, fun {X k tm μ} h h19 => ?_⟩
  refine jag ?_
  refine jag ?_
  refine jab rfl ?_
  repeat (refine jam rfl ?_; (try simp only [go_sem, h.z, ls, jae, e1, hx, d1, d2]); fail_if_success refine stk ?_)
  repeat (refine jaa rfl ?_; (try simp only [go_sem, h.z, ls, jae, e1, hx, d1, d2]); fail_if_success refine stk ?_)
  refine jad ?_
  exact ⟨by trivial, by trivial, _, rfl, (by constructor <;> simp only [go_sem, h.z])⟩
 have d2 : ilt 57 (.ofNat c) = false := dF (jcp c 57 57 rfl) h57
 obtain ⟨i', v', b1, b2, b3, hlp⟩ := rf_exp hs hl a nd nm dp neg tr sd sg ((bys s).length - i) i 0 (by omega) (by decide)
 have q1 : jak .i64 (Int.mul (.ofNat v') es) = (v' : Int) * es := i_mul (v' : Int) es (by rcases hes with rfl | rfl <;> omega) (by rcases hes with rfl | rfl <;> omega)
 obtain ⟨pe, hpe⟩ := exq ((v' : Int) * es)
 have hpe1 : -110000 < pe ∧ pe < 110000 := by rw [hpe]; rcases hes with rfl | rfl <;> omega
 rw [← hpe] at q1
 have q2 : jak .i64 (Int.add dp pe) = dp + pe := jcJ dp pe (by omega) (by omega)
 refine ⟨true, i', dp + pe, b2, by omega, by omega, fun {X k tm μ} h h19 => ?_⟩
 refine jag ?_
 refine jag ?_
 refine jab rfl ?_
 repeat (refine jam rfl ?_; (try simp only [go_sem, h.z, ls, jae, e1, hx, d1, d2]); fail_if_success refine stk ?_)
 repeat (refine jaa rfl ?_; (try simp only [go_sem, h.z, ls, jae, e1, hx, d1, d2]); fail_if_success refine stk ?_)
 rw [(by omega : k + 1096 = (k + 1066 - ((bys s).length - i)) + ((bys s).length - i) + 30)]
 refine rzM (hlp (es := .int .i64 es) (by constructor <;> simp only [go_sem, h.z]) (by simp only [go_sem]; try rfl) (by simp only [go_sem, h19])) ?_
 rintro x r μ' ⟨rfl, rfl, tm', rfl, h, h20, h19⟩
 simp only [go_sem]
 repeat (refine jaa rfl ?_; (try simp only [go_sem, h.z, h20, h19, q1, q2]); fail_if_success refine stk ?_)
 exact ⟨by trivial, by trivial, _, rfl, (by constructor <;> simp only [go_sem, h.z])⟩
def seqA : Code → Code
 | .seq a _ => a
 | c => c
def elsC : Code → Code
 | .seq _ (.cond _ _ b) => b
 | _ => .skip
theorem sp0 : jaI Tryz.f268 = .seq (nthC 0 (jaI Tryz.f268)) (.seq (nthC 1 (jaI Tryz.f268)) (.seq (nthC 2 (jaI Tryz.f268)) (jcK 3 (jaI Tryz.f268)))) := by kernel_rfl
theorem sp3 : jcK 3 (jaI Tryz.f268) = .seq (nthC 3 (jaI Tryz.f268)) (.seq (nthC 4 (jaI Tryz.f268)) (.seq (nthC 5 (jaI Tryz.f268)) (.seq (nthC 6 (jaI Tryz.f268)) (jcK 7 (jaI Tryz.f268))))) := by kernel_rfl
theorem sp7 : jcK 7 (jaI Tryz.f268) = .seq (nthC 7 (jaI Tryz.f268)) (.seq (nthC 8 (jaI Tryz.f268)) (.seq (nthC 9 (jaI Tryz.f268)) (.seq (nthC 10 (jaI Tryz.f268)) (.seq (nthC 11 (jaI Tryz.f268)) (.seq (nthC 12 (jaI Tryz.f268)) (.seq (nthC 13 (jaI Tryz.f268)) (jcK 14 (jaI Tryz.f268)))))))) := by kernel_rfl
theorem sp14 : jcK 14 (jaI Tryz.f268) = .seq (nthC 14 (jaI Tryz.f268)) (.seq (nthC 15 (jaI Tryz.f268)) (.seq (nthC 16 (jaI Tryz.f268)) (jcK 17 (jaI Tryz.f268)))) := by kernel_rfl
theorem sp17 : jcK 17 (jaI Tryz.f268) = .seq (nthC 17 (jaI Tryz.f268)) (jcK 18 (jaI Tryz.f268)) := by kernel_rfl
theorem it17 : nthC 17 (jaI Tryz.f268) = .seq (seqA (nthC 17 (jaI Tryz.f268))) (.cond (.tmp 161) (.seq (nthC 0 (je7 (nthC 17 (jaI Tryz.f268)))) (.seq (nthC 1 (je7 (nthC 17 (jaI Tryz.f268)))) (.seq (nthC 2 (je7 (nthC 17 (jaI Tryz.f268)))) (.seq (nthC 3 (je7 (nthC 17 (jaI Tryz.f268)))) (jcK 4 (je7 (nthC 17 (jaI Tryz.f268)))))))) (elsC (nthC 17 (jaI Tryz.f268)))) := by kernel_rfl
attribute [local irreducible] jcK
theorem rf17 {s : ByteArray} (hs : ∀ c ∈ bys s, c ∈ nums) (hl : (bys s).length ≤ 1000) (i a nd nm : Nat) (dp : Int) (neg tr sd sg : Bool) (hi : i ≤ (bys s).length) (hd1 : -2000 < dp) (hd2 : dp < 2000) (hn : nm ≤ 19) : ∃ e i' ok, -200000 < e ∧ e < 200000 ∧ i' ≤ (bys s).length ∧ ∀ {X : XT} {k : Nat} {tm : T Value} {μ : Mem}, RegR tm s i a nd nm dp neg tr sd sg →
  EndsC (jaj pZ X S0 (k + 1200) (jcK 17 (jaI Tryz.f268)) ⟨253, tm, [], none⟩ μ) (FinR a e neg tr i' ok μ) := by
 have ls := jaU s
 by_cases hlt : i < (bys s).length
 rotate_left
 ·have e1 : ilt (.ofNat i) (.ofNat (bys s).length) = false := dF (jao _ _) hlt
  obtain ⟨e, b1, b2, h18⟩ := rf18 s i a nd nm dp neg tr sd sg (by omega) (by omega) hn
  refine ⟨e, i, true, b1, b2, hi, fun {X k tm μ} h => ?_⟩
  rw [sp17, it17]
  refine jag ?_
  refine jag ?_
  refine jab rfl ?_
  repeat (refine jam rfl ?_; (try simp only [go_sem, h.z, ls, jae, e1, jhD]); fail_if_success refine stk ?_)
  repeat (refine jaa rfl ?_; (try simp only [go_sem, h.z, ls, jae, e1, jhD]); fail_if_success refine stk ?_)
  exact h18 (by constructor <;> simp only [go_sem, h.z])
 have e1 : ilt (.ofNat i) (.ofNat (bys s).length) = true := dT (jao _ _) hlt
 obtain ⟨c, hc⟩ := exq ((bys s)[i]'hlt)
 have hcn : c ∈ nums := by rw [hc]; exact hs _ (List.getElem_mem hlt)
 have hx : ∀ r x y, aev pZ r x = .string s → aev pZ r y = .int .i64 (.ofNat i) → jaX pZ (aev pZ r) 9 x y = some (.int .u8 (.ofNat c)) := fun r x y h1 h2 => by rw [hc]; exact jbB hlt h1 h2
 clear hc
 have lo : ∀ {X : XT} (g : Nat) (μ : Mem), 10 ≤ g → aFun pZ (jaj pZ X S0 g) 200 [.int .u8 (.ofNat c)] μ = some (.int .u8 (.ofNat (lw c)), μ) := fun g μ h => lower_eq h hcn
 by_cases he : lw c = 101
 rotate_left
 ·have l1 : ieq (.ofNat (lw c)) 101 = false := dF (jaB _ 101 101 rfl) he
  obtain ⟨e, b1, b2, h18⟩ := rf18 s i a nd nm dp neg tr sd sg (by omega) (by omega) hn
  refine ⟨e, i, true, b1, b2, hi, fun {X k tm μ} h => ?_⟩
  rw [sp17, it17]
  refine jag ?_
  refine jag ?_
  refine jab rfl ?_
  repeat (refine jam rfl ?_; (try simp only [go_sem, h.z, ls, jae, e1, hx, lo, Nat.reduceLeDiff, l1, jhD]); fail_if_success refine stk ?_)
  repeat (refine jaa rfl ?_; (try simp only [go_sem, h.z, ls, jae, e1, hx, lo, Nat.reduceLeDiff, l1, jhD]); fail_if_success refine stk ?_)
  exact h18 (by constructor <;> simp only [go_sem, h.z])
 have l1 : ieq (.ofNat (lw c)) 101 = true := dT (jaB _ 101 101 rfl) he
 have a1 : jak .i64 (Int.add (.ofNat i) 1) = .ofNat (i + 1) := jaE i 1 (by omega)
 by_cases hlt2 : i + 1 < (bys s).length
 rotate_left
 ·have e2 : ilt (.ofNat (i + 1)) (.ofNat (bys s).length) = false := dF (jao _ _) hlt2
  refine ⟨0, i + 1, false, by omega, by omega, by omega, fun {X k tm μ} h => ?_⟩
  rw [sp17, it17]
  refine jag ?_
  refine jag ?_
  refine jab rfl ?_
  repeat (refine jam rfl ?_; (try simp only [go_sem, h.z, ls, jae, e1, hx, lo, Nat.reduceLeDiff, l1, a1, e2]); fail_if_success refine stk ?_)
  repeat (refine jaa rfl ?_; (try simp only [go_sem, h.z, ls, jae, e1, hx, lo, Nat.reduceLeDiff, l1, a1, e2]); fail_if_success refine stk ?_)
  refine jad ?_
  exact ⟨by trivial, by trivial, _, rfl, (RegR.fin (s := s) (nd := nd) (nm := nm) (dp := dp) (sd := sd) (sg := sg) (by constructor <;> simp only [go_sem, h.z]))⟩
 have e2 : ilt (.ofNat (i + 1)) (.ofNat (bys s).length) = true := dT (jao _ _) hlt2
 obtain ⟨c1, hc1⟩ := exq ((bys s)[i + 1]'hlt2)
 have hx1 : ∀ r x y, aev pZ r x = .string s → aev pZ r y = .int .i64 (.ofNat (i + 1)) → jaX pZ (aev pZ r) 9 x y = some (.int .u8 (.ofNat c1)) := fun r x y h1 h2 => by rw [hc1]; exact jbB hlt2 h1 h2
 clear hc1
 have a2 : jak .i64 (Int.add (.ofNat (i + 1)) 1) = .ofNat (i + 2) := jaE (i + 1) 1 (by omega)
 have go : ∀ (i2 : Nat) (es : Int), i2 ≤ (bys s).length → (es = 1 ∨ es = -1) → ∃ e i' ok, -200000 < e ∧ e < 200000 ∧ i' ≤ (bys s).length ∧ ∀ {X : XT} {k q : Nat} {tm : T Value} {μ : Mem}, RegR tm s i2 a nd nm dp neg tr sd sg → jac tm 19 = .int .i64 es →
   EndsC (jaj pZ X S0 (k + 1100) (jcK 4 (je7 (nthC 17 (jaI Tryz.f268)))) ⟨253, tm, [], none⟩ μ) (je8 (q + 30) pZ X S0 (jcK 18 (jaI Tryz.f268)) (FinR a e neg tr i' ok μ)) := fun i2 es hi2 hes => by
  obtain ⟨done, i', dp', c1, c2, c3, hE⟩ := rfE hs hl i2 a nd nm dp neg tr sd sg es hes hi2 hd1 hd2
  obtain ⟨e, d1, d2, h18⟩ := rf18 s i' a nd nm dp' neg tr sd sg c2 c3 hn
  cases done with
  | true =>
    refine ⟨e, i', true, d1, d2, c1, fun {X k q tm μ} h h19 => ?_⟩
    refine rzM (hE h h19) ?_
    rintro x r μ' ⟨rfl, rfl, tm', rfl, h⟩
    exact h18 h
  | false =>
    refine ⟨0, i', false, by omega, by omega, c1, fun {X k q tm μ} h h19 => ?_⟩
    refine rzM (hE h h19) ?_
    rintro x r μ' ⟨rfl, rfl, tm', rfl, h⟩
    exact ⟨by trivial, by trivial, _, rfl, h.fin⟩
 by_cases p1 : c1 = 43
 ·have s1 : ieq (.ofNat c1) 43 = true := dT (jaB _ 43 43 rfl) p1
  obtain ⟨e, i', ok, b1, b2, b3, hgo⟩ := go (i + 2) 1 (by omega) (.inl rfl)
  refine ⟨e, i', ok, b1, b2, b3, fun {X k tm μ} h => ?_⟩
  rw [sp17, it17]
  refine jag ?_
  refine jag ?_
  refine jab rfl ?_
  repeat (refine jam rfl ?_; (try simp only [go_sem, h.z, ls, jae, e1, hx, lo, Nat.reduceLeDiff, l1, a1, e2, hx1, s1, a2]); fail_if_success refine stk ?_)
  repeat (refine jaa rfl ?_; (try simp only [go_sem, h.z, ls, jae, e1, hx, lo, Nat.reduceLeDiff, l1, a1, e2, hx1, s1, a2]); fail_if_success refine stk ?_)
  try simp only [jbi, jai]
  exact hgo (k := k + 93) (q := k + 1169) (by constructor <;> simp only [go_sem, h.z]) (by simp only [go_sem])
 ·have s1 : ieq (.ofNat c1) 43 = false := dF (jaB _ 43 43 rfl) p1
  by_cases p2 : c1 = 45
  ·have s2 : ieq (.ofNat c1) 45 = true := dT (jaB _ 45 45 rfl) p2
   obtain ⟨e, i', ok, b1, b2, b3, hgo⟩ := go (i + 2) (-1) (by omega) (.inr rfl)
   refine ⟨e, i', ok, b1, b2, b3, fun {X k tm μ} h => ?_⟩
   rw [sp17, it17]
   refine jag ?_
   refine jag ?_
   refine jab rfl ?_
   repeat (refine jam rfl ?_; (try simp only [go_sem, h.z, ls, jae, e1, hx, lo, Nat.reduceLeDiff, l1, a1, e2, hx1, s1, s2, a2]); fail_if_success refine stk ?_)
   repeat (refine jaa rfl ?_; (try simp only [go_sem, h.z, ls, jae, e1, hx, lo, Nat.reduceLeDiff, l1, a1, e2, hx1, s1, s2, a2]); fail_if_success refine stk ?_)
   try simp only [jbi, jai]
   exact hgo (k := k + 93) (q := k + 1169) (by constructor <;> simp only [go_sem, h.z]) (by simp only [go_sem])
  ·have s2 : ieq (.ofNat c1) 45 = false := dF (jaB _ 45 45 rfl) p2
   obtain ⟨e, i', ok, b1, b2, b3, hgo⟩ := go (i + 1) 1 (by omega) (.inl rfl)
   refine ⟨e, i', ok, b1, b2, b3, fun {X k tm μ} h => ?_⟩
   rw [sp17, it17]
   refine jag ?_
   refine jag ?_
   refine jab rfl ?_
   repeat (refine jam rfl ?_; (try simp only [go_sem, h.z, ls, jae, e1, hx, lo, Nat.reduceLeDiff, l1, a1, e2, hx1, s1, s2]); fail_if_success refine stk ?_)
   repeat (refine jaa rfl ?_; (try simp only [go_sem, h.z, ls, jae, e1, hx, lo, Nat.reduceLeDiff, l1, a1, e2, hx1, s1, s2]); fail_if_success refine stk ?_)
   try simp only [jbi, jai]
   exact hgo (k := k + 93) (q := k + 1169) (by constructor <;> simp only [go_sem, h.z]) (by simp only [go_sem])
theorem rf14 {s : ByteArray} (hs : ∀ c ∈ bys s, c ∈ nums) (hl : (bys s).length ≤ 1000) (i a nd nm : Nat) (dp : Int) (neg tr sd sg : Bool) (hi : i ≤ (bys s).length) (hnd : nd ≤ i) (hd1 : -2000 < dp) (hd2 : dp < 2000) (hn : nm ≤ 19) : ∃ e i' ok, -200000 < e ∧ e < 200000 ∧ i' ≤ (bys s).length ∧ ∀ {X : XT} {k : Nat} {tm : T Value} {μ : Mem}, RegR tm s i a nd nm dp neg tr sd sg →
  EndsC (jaj pZ X S0 (k + 1300) (jcK 14 (jaI Tryz.f268)) ⟨253, tm, [], none⟩ μ) (FinR a e neg tr i' ok μ) := by
 cases sg with
 | false =>
   refine ⟨0, i, false, by omega, by omega, hi, fun {X k tm μ} h => ?_⟩
   rw [sp14]
   repeat (refine jaa rfl ?_; (try simp only [go_sem, h.z]); fail_if_success refine stk ?_)
   refine jad ?_
   exact ⟨by trivial, by trivial, _, rfl, (RegR.fin (s := s) (nd := nd) (nm := nm) (dp := dp) (sd := sd) (sg := false) (by constructor <;> simp only [go_sem, h.z]))⟩
 | true =>
   cases sd with
   | true =>
     obtain ⟨e, i', ok, b1, b2, b3, h17⟩ := rf17 hs hl i a nd nm dp neg tr true true hi hd1 hd2 hn
     refine ⟨e, i', ok, b1, b2, b3, fun {X k tm μ} h => ?_⟩
     have st : EndsC (jaj pZ X S0 (k + 1299) (nthC 14 (jaI Tryz.f268)) ⟨253, tm, [], none⟩ μ) fun x r μ' => x = .normal ∧ μ' = μ ∧ ∃ tm', r = ⟨253, tm', [], none⟩ ∧ RegR tm' s i a nd nm dp neg tr true true := by
      repeat (refine jaa rfl ?_; (try simp only [go_sem, h.z]); fail_if_success refine stk ?_)
      exact ⟨by trivial, by trivial, _, rfl, (by constructor <;> simp only [go_sem, h.z])⟩
     rw [sp14]
     refine jag (rzM st ?_)
     rintro x r μ' ⟨rfl, rfl, tm, rfl, h⟩
     simp only [jai]
     have st : EndsC (jaj pZ X S0 (k + 1298) (nthC 15 (jaI Tryz.f268)) ⟨253, tm, [], none⟩ μ') fun x r μ => x = .normal ∧ μ = μ' ∧ ∃ tm', r = ⟨253, tm', [], none⟩ ∧ RegR tm' s i a nd nm dp neg tr true true := by
      repeat (refine jaa rfl ?_; (try simp only [go_sem, h.z]); fail_if_success refine stk ?_)
      exact ⟨by trivial, by trivial, _, rfl, (by constructor <;> simp only [go_sem, h.z])⟩
     refine jag (rzM st ?_)
     rintro x r μ' ⟨rfl, rfl, tm, rfl, h⟩
     simp only [jai]
     have st : EndsC (jaj pZ X S0 (k + 1297) (nthC 16 (jaI Tryz.f268)) ⟨253, tm, [], none⟩ μ') fun x r μ => x = .normal ∧ μ = μ' ∧ ∃ tm', r = ⟨253, tm', [], none⟩ ∧ RegR tm' s i a nd nm dp neg tr true true := by
      repeat (refine jaa rfl ?_; (try simp only [go_sem, h.z, jhD]); fail_if_success refine stk ?_)
      exact ⟨by trivial, by trivial, _, rfl, (by constructor <;> simp only [go_sem, h.z])⟩
     refine jag (rzM st ?_)
     rintro x r μ' ⟨rfl, rfl, tm, rfl, h⟩
     simp only [jai]
     exact h17 (k := k + 97) h
   | false =>
     obtain ⟨e, i', ok, b1, b2, b3, h17⟩ := rf17 hs hl i a nd nm (.ofNat nd) neg tr false true hi (by show _ < (nd : Int); omega) (by show (nd : Int) < _; omega) hn
     refine ⟨e, i', ok, b1, b2, b3, fun {X k tm μ} h => ?_⟩
     have st : EndsC (jaj pZ X S0 (k + 1299) (nthC 14 (jaI Tryz.f268)) ⟨253, tm, [], none⟩ μ) fun x r μ' => x = .normal ∧ μ' = μ ∧ ∃ tm', r = ⟨253, tm', [], none⟩ ∧ RegR tm' s i a nd nm dp neg tr false true := by
      repeat (refine jaa rfl ?_; (try simp only [go_sem, h.z]); fail_if_success refine stk ?_)
      exact ⟨by trivial, by trivial, _, rfl, (by constructor <;> simp only [go_sem, h.z])⟩
     rw [sp14]
     refine jag (rzM st ?_)
     rintro x r μ' ⟨rfl, rfl, tm, rfl, h⟩
     simp only [jai]
     have st : EndsC (jaj pZ X S0 (k + 1298) (nthC 15 (jaI Tryz.f268)) ⟨253, tm, [], none⟩ μ') fun x r μ => x = .normal ∧ μ = μ' ∧ ∃ tm', r = ⟨253, tm', [], none⟩ ∧ RegR tm' s i a nd nm (.ofNat nd) neg tr false true := by
      repeat (refine jaa rfl ?_; (try simp only [go_sem, h.z]); fail_if_success refine stk ?_)
      exact ⟨by trivial, by trivial, _, rfl, (by constructor <;> simp only [go_sem, h.z])⟩
     refine jag (rzM st ?_)
     rintro x r μ' ⟨rfl, rfl, tm, rfl, h⟩
     simp only [jai]
     have st : EndsC (jaj pZ X S0 (k + 1297) (nthC 16 (jaI Tryz.f268)) ⟨253, tm, [], none⟩ μ') fun x r μ => x = .normal ∧ μ = μ' ∧ ∃ tm', r = ⟨253, tm', [], none⟩ ∧ RegR tm' s i a nd nm (.ofNat nd) neg tr false true := by
      repeat (refine jaa rfl ?_; (try simp only [go_sem, h.z, jhD]); fail_if_success refine stk ?_)
      exact ⟨by trivial, by trivial, _, rfl, (by constructor <;> simp only [go_sem, h.z])⟩
     refine jag (rzM st ?_)
     rintro x r μ' ⟨rfl, rfl, tm, rfl, h⟩
     simp only [jai]
     exact h17 (k := k + 97) h
structure PreR (tm : T Value) (s : ByteArray) (i : Nat) (neg : Bool) : Prop where
 r0 : jac tm 0 = .string s
 r2 : jac tm 2 = .int .u64 0
 r3 : jac tm 3 = .int .i64 0
 r4 : jac tm 4 = .bool neg
 r5 : jac tm 5 = .bool false
 r6 : jac tm 6 = .bool false
 r7 : jac tm 7 = .int .i64 (.ofNat i)
 r8 : jac tm 8 = .bool false
 r9 : jac tm 9 = .bool false
theorem PreR.z {tm : T Value} {s : ByteArray} {i : Nat} {neg : Bool} (h : PreR tm s i neg) : jac tm 0 = .string s ∧ jac tm 2 = .int .u64 0 ∧ jac tm 3 = .int .i64 0 ∧ jac tm 4 = .bool neg ∧ jac tm 5 = .bool false ∧ jac tm 6 = .bool false ∧ jac tm 7 = .int .i64 (.ofNat i) ∧ jac tm 8 = .bool false ∧ jac tm 9 = .bool false := ⟨h.r0, h.r2, h.r3, h.r4, h.r5, h.r6, h.r7, h.r8, h.r9⟩
theorem u_zero : Value.int .u64 0 = u 0 := u_of (n := 0) (by decide)
theorem rf7 {s : ByteArray} (hs : ∀ c ∈ bys s, c ∈ nums) (hl : (bys s).length ≤ 1000) (i : Nat) (neg : Bool) (hi : i ≤ (bys s).length) : ∃ a e tr i' ok, -200000 < e ∧ e < 200000 ∧ i' ≤ (bys s).length ∧ ∀ {X : XT} {k : Nat} {tm : T Value} {μ : Mem}, PreR tm s i neg → jac tm 10 = .int .u64 10 → jac tm 11 = .int .i64 19 → jac tm 12 = .int .u8 101 →
  EndsC (jaj pZ X S0 (k + 1400) (jcK 7 (jaI Tryz.f268)) ⟨253, tm, [], none⟩ μ) (FinR a e neg tr i' ok μ) := by
 obtain ⟨i1, a1, nd1, nm1, dp1, tr1, sd1, sg1, b1, b2, b3, b4, b5, b6, hlp⟩ := rf_loop hs hl neg ((bys s).length - i) i 0 0 0 0 false false false (by omega) (by omega) (by omega) (by omega) (by omega)
 obtain ⟨e, i', ok, c1, c2, c3, h14⟩ := rf14 hs hl i1 a1 nd1 nm1 dp1 neg tr1 sd1 sg1 b2 b3 (by omega) (by omega) b4
 refine ⟨a1, e, tr1, i', ok, c1, c2, c3, fun {X k tm μ} h h10 h11 h12 => ?_⟩
 rw [sp7]
 repeat (refine jaa rfl ?_; (try simp only [go_sem, h.z, h10, h11, h12]); fail_if_success refine stk ?_)
 rw [(by omega : k + 1392 = (k + 1352 - ((bys s).length - i)) + ((bys s).length - i) + 40)]
 refine rzM (hlp ?_) ?_
 ·constructor
  ·simp only [go_sem, h.r0]
  ·simp only [go_sem, h.r2]; exact u_zero
  all_goals (simp only [go_sem, h.z, h10, h11, h12]; try rfl)
 ·rintro x r μ' ⟨rfl, rfl, tm', rfl, h⟩
  simp only [go_sem]
  exact h14 (k := k + 93) h
theorem rf3 {s : ByteArray} (hs : ∀ c ∈ bys s, c ∈ nums) (hl : (bys s).length ≤ 1000) (i : Nat) (neg : Bool) (hi : i ≤ (bys s).length) : ∃ a e tr i' ok, -200000 < e ∧ e < 200000 ∧ i' ≤ (bys s).length ∧ ∀ {X : XT} {k : Nat} {tm : T Value} {μ : Mem}, PreR tm s i neg →
  EndsC (jaj pZ X S0 (k + 1500) (jcK 3 (jaI Tryz.f268)) ⟨253, tm, [], none⟩ μ) (FinR a e neg tr i' ok μ) := by
 have ls := jaU s
 obtain ⟨a, e, tr, i', ok, c1, c2, c3, h7⟩ := rf7 hs hl i neg hi
 refine ⟨a, e, tr, i', ok, c1, c2, c3, fun {X k tm μ} h => ?_⟩
 have q1 : jak .i64 (Int.add (.ofNat i) 2) = .ofNat (i + 2) := jaE i 2 (by omega)
 have q2 : jak .i64 (Int.add (.ofNat i) 1) = .ofNat (i + 1) := jaE i 1 (by omega)
 by_cases hlt : i + 2 < (bys s).length
 rotate_left
 ·have e1 : ilt (.ofNat (i + 2)) (.ofNat (bys s).length) = false := dF (jao _ _) hlt
  have st : EndsC (jaj pZ X S0 (k + 1496) (nthC 6 (jaI Tryz.f268)) ⟨253, ((tm.set 10 (.int .u64 10)).set 11 (.int .i64 19)).set 12 (.int .u8 101), [], none⟩ μ) fun x r μ' => x = .normal ∧ μ' = μ ∧ ∃ tm', r = ⟨253, tm', [], none⟩ ∧ PreR tm' s i neg ∧ jac tm' 10 = .int .u64 10 ∧ jac tm' 11 = .int .i64 19 ∧ jac tm' 12 = .int .u8 101 := by
   refine jag ?_
   refine jab rfl ?_
   repeat (refine jam rfl ?_; (try simp only [go_sem, h.z, ls, jae, q1, e1]); fail_if_success refine stk ?_)
   repeat (refine jaa rfl ?_; (try simp only [go_sem, h.z, ls, jae, q1, e1]); fail_if_success refine stk ?_)
   exact ⟨by trivial, by trivial, _, rfl, (by constructor <;> simp only [go_sem, h.z]), by simp only [go_sem], by simp only [go_sem], by simp only [go_sem]⟩
  rw [sp3]
  refine jag (jaD rfl ?_)
  simp only [go_sem]
  refine jag (jaD rfl ?_)
  simp only [go_sem]
  refine jag (jaD rfl ?_)
  simp only [go_sem]
  refine jag (rzM st ?_)
  rintro x r μ' ⟨rfl, rfl, tm', rfl, h, h10, h11, h12⟩
  simp only [jai]
  exact h7 (k := k + 96) h h10 h11 h12
 have e1 : ilt (.ofNat (i + 2)) (.ofNat (bys s).length) = true := dT (jao _ _) hlt
 have hlt0 : i < (bys s).length := by omega
 have hlt1 : i + 1 < (bys s).length := by omega
 obtain ⟨c, hc⟩ := exq ((bys s)[i]'hlt0)
 obtain ⟨d, hd⟩ := exq ((bys s)[i + 1]'hlt1)
 have hdn : d ∈ nums := by rw [hd]; exact hs _ (List.getElem_mem hlt1)
 have hx : ∀ r x y, aev pZ r x = .string s → aev pZ r y = .int .i64 (.ofNat i) → jaX pZ (aev pZ r) 9 x y = some (.int .u8 (.ofNat c)) := fun r x y h1 h2 => by rw [hc]; exact jbB hlt0 h1 h2
 have hx1 : ∀ r x y, aev pZ r x = .string s → aev pZ r y = .int .i64 (.ofNat (i + 1)) → jaX pZ (aev pZ r) 9 x y = some (.int .u8 (.ofNat d)) := fun r x y h1 h2 => by rw [hd]; exact jbB hlt1 h1 h2
 clear hc hd
 have lo : ∀ (g : Nat) (μ : Mem), 10 ≤ g → aFun pZ (jaj pZ X S0 g) 200 [.int .u8 (.ofNat d)] μ = some (.int .u8 (.ofNat (lw d)), μ) := fun g μ h => lower_eq h hdn
 have l1 : ieq (.ofNat (lw d)) 120 = false := dF (jaB _ 120 120 rfl) (lw_ne d hdn)
 have st : ∀ z, ieq (.ofNat c) 48 = z → EndsC (jaj pZ X S0 (k + 1496) (nthC 6 (jaI Tryz.f268)) ⟨253, ((tm.set 10 (.int .u64 10)).set 11 (.int .i64 19)).set 12 (.int .u8 101), [], none⟩ μ) fun x r μ' => x = .normal ∧ μ' = μ ∧ ∃ tm', r = ⟨253, tm', [], none⟩ ∧ PreR tm' s i neg ∧ jac tm' 10 = .int .u64 10 ∧ jac tm' 11 = .int .i64 19 ∧ jac tm' 12 = .int .u8 101 := by
  intro z hz
  cases z with
  | true =>
    refine jag ?_
    refine jab rfl ?_
    repeat (refine jam rfl ?_; (try simp only [go_sem, h.z, ls, jae, q1, q2, e1, hx, hx1, hz, lo, Nat.reduceLeDiff, l1]); fail_if_success refine stk ?_)
    repeat (refine jaa rfl ?_; (try simp only [go_sem, h.z, ls, jae, q1, q2, e1, hx, hx1, hz, lo, Nat.reduceLeDiff, l1]); fail_if_success refine stk ?_)
    exact ⟨by trivial, by trivial, _, rfl, (by constructor <;> simp only [go_sem, h.z]), by simp only [go_sem], by simp only [go_sem], by simp only [go_sem]⟩
  | false =>
    refine jag ?_
    refine jab rfl ?_
    repeat (refine jam rfl ?_; (try simp only [go_sem, h.z, ls, jae, q1, q2, e1, hx, hz]); fail_if_success refine stk ?_)
    repeat (refine jaa rfl ?_; (try simp only [go_sem, h.z, ls, jae, q1, q2, e1, hx, hz]); fail_if_success refine stk ?_)
    exact ⟨by trivial, by trivial, _, rfl, (by constructor <;> simp only [go_sem, h.z]), by simp only [go_sem], by simp only [go_sem], by simp only [go_sem]⟩
 have st := st _ rfl
 rw [sp3]
 refine jag (jaD rfl ?_)
 simp only [go_sem]
 refine jag (jaD rfl ?_)
 simp only [go_sem]
 refine jag (jaD rfl ?_)
 simp only [go_sem]
 refine jag (rzM st ?_)
 rintro x r μ' ⟨rfl, rfl, tm', rfl, h, h10, h11, h12⟩
 simp only [jai]
 exact h7 (k := k + 96) h h10 h11 h12
theorem jhf {s : ByteArray} (hs : ∀ c ∈ bys s, c ∈ nums) (hl : (bys s).length ≤ 1000) (h0 : 0 < (bys s).length) : ∃ a e neg tr i ok, -200000 < e ∧ e < 200000 ∧ i ≤ (bys s).length ∧ ∀ {X : XT} {g : Nat} {μ : Mem}, 2000 ≤ g →
  aFun pZ (jaj pZ X S0 g) 268 [.string s] μ = some (.tuple #[u a, .int .i64 e, .bool neg, .bool tr, .bool false, .int .i64 (.ofNat i), .bool ok], μ) := by
 have ls := jaU s
 obtain ⟨c, hc⟩ := exq ((bys s)[0]'h0)
 have hx : ∀ r x y, aev pZ r x = .string s → aev pZ r y = .int .i64 0 → jaX pZ (aev pZ r) 9 x y = some (.int .u8 (.ofNat c)) := fun r x y h1 h2 => by rw [hc]; exact jbB (i := 0) h0 h1 h2
 clear hc
 have e1 : ilt 0 (.ofNat (bys s).length) = true := dT (jao 0 _) h0
 have key : ∀ (i0 : Nat) (neg : Bool), i0 ≤ (bys s).length → ∃ a e tr i ok, -200000 < e ∧ e < 200000 ∧ i ≤ (bys s).length ∧ ∀ {X : XT} {g : Nat} {μ : Mem}, 2000 ≤ g →
   (∀ {k : Nat} {tm : T Value} (Q : Ax → Rg → Mem → Prop), (∀ x r μ', FinR a e neg tr i ok μ x r μ' → Q x r μ') → PreR tm s i0 neg → EndsC (jaj pZ X S0 (k + 1500) (jcK 3 (jaI Tryz.f268)) ⟨253, tm, [], none⟩ μ) Q) := fun i0 neg hi0 => by
  obtain ⟨a, e, tr, i', ok, c1, c2, c3, h3⟩ := rf3 hs hl i0 neg hi0
  exact ⟨a, e, tr, i', ok, c1, c2, c3, fun {X g μ} hg {k tm} Q hQ h => rzM (h3 h) hQ⟩
 have r1 : jak .i64 (Int.add 0 1) = 1 := rfl
 by_cases p1 : c = 43
 ·have s1 : ieq (.ofNat c) 43 = true := dT (jaB _ 43 43 rfl) p1
  obtain ⟨a, e, tr, i', ok, c1, c2, c3, h3⟩ := key 1 false h0
  refine ⟨a, e, false, tr, i', ok, c1, c2, c3, fun {X g μ} hg => ?_⟩
  have h3 := @h3 X g μ hg
  obtain ⟨k, rfl⟩ := gle hg
  refine jaF ?_
  refine jaf Tryz.func268 rfl rfl (nbl rfl) ?_
  simp only [go_sem, Tryz.ntmps268]
  refine jag (jaD rfl ?_)
  simp only [go_sem]
  refine jdv ?_
  change EndsC (jaj pZ X S0 _ (jaI Tryz.f268) _ _) _
  rw [sp0]
  repeat (refine jaa rfl ?_; (try simp only [go_sem, ls, jae, e1, hx, s1, r1]); fail_if_success refine stk ?_)
  try simp only [jbi, jai]
  refine h3 (k := k + 495) _ ?_ ?_
  ·rintro x r μ' ⟨rfl, rfl, tm, rfl, h⟩
   refine ⟨rfl, _, ?_, rfl, rfl⟩
   simp only [go_sem, Tryz.results268]
   simp only [h.z]
  ·constructor <;> (simp only [go_sem]; try rfl)
 ·have s1 : ieq (.ofNat c) 43 = false := dF (jaB _ 43 43 rfl) p1
  by_cases p2 : c = 45
  ·have s2 : ieq (.ofNat c) 45 = true := dT (jaB _ 45 45 rfl) p2
   obtain ⟨a, e, tr, i', ok, c1, c2, c3, h3⟩ := key 1 true h0
   refine ⟨a, e, true, tr, i', ok, c1, c2, c3, fun {X g μ} hg => ?_⟩
   have h3 := @h3 X g μ hg
   obtain ⟨k, rfl⟩ := gle hg
   refine jaF ?_
   refine jaf Tryz.func268 rfl rfl (nbl rfl) ?_
   simp only [go_sem, Tryz.ntmps268]
   refine jag (jaD rfl ?_)
   simp only [go_sem]
   refine jdv ?_
   change EndsC (jaj pZ X S0 _ (jaI Tryz.f268) _ _) _
   rw [sp0]
   repeat (refine jaa rfl ?_; (try simp only [go_sem, ls, jae, e1, hx, s1, s2, r1]); fail_if_success refine stk ?_)
   try simp only [jbi, jai]
   refine h3 (k := k + 495) _ ?_ ?_
   ·rintro x r μ' ⟨rfl, rfl, tm, rfl, h⟩
    refine ⟨rfl, _, ?_, rfl, rfl⟩
    simp only [go_sem, Tryz.results268]
    simp only [h.z]
   ·constructor <;> (simp only [go_sem]; try rfl)
  ·have s2 : ieq (.ofNat c) 45 = false := dF (jaB _ 45 45 rfl) p2
   obtain ⟨a, e, tr, i', ok, c1, c2, c3, h3⟩ := key 0 false (rzY _)
   refine ⟨a, e, false, tr, i', ok, c1, c2, c3, fun {X g μ} hg => ?_⟩
   have h3 := @h3 X g μ hg
   obtain ⟨k, rfl⟩ := gle hg
   refine jaF ?_
   refine jaf Tryz.func268 rfl rfl (nbl rfl) ?_
   simp only [go_sem, Tryz.ntmps268]
   refine jag (jaD rfl ?_)
   simp only [go_sem]
   refine jdv ?_
   change EndsC (jaj pZ X S0 _ (jaI Tryz.f268) _ _) _
   rw [sp0]
   repeat (refine jaa rfl ?_; (try simp only [go_sem, ls, jae, e1, hx, s1, s2]); fail_if_success refine stk ?_)
   try simp only [jbi, jai]
   refine h3 (k := k + 495) _ ?_ ?_
   ·rintro x r μ' ⟨rfl, rfl, tm, rfl, h⟩
    refine ⟨rfl, _, ?_, rfl, rfl⟩
    simp only [go_sem, Tryz.results268]
    simp only [h.z]
   ·constructor <;> (simp only [go_sem]; try rfl)
end
noncomputable section
open Go.Proofs.YtlkenchibdeinaaGreatDoor.DecM (val Dg low carry less Cheat)
structure Dec (μ : Mem) (i : Nat) (D : Nat → Nat) (nd : Nat) (dp : Int) (neg tr : Bool) : Prop where
 blk : Blk μ i 804 213
 d : ∀ k, k < 800 → jal μ i k = some (.int .u8 (.ofNat (D k)))
 n : jal μ i 800 = some (.int .i64 (.ofNat nd))
 p : jal μ i 801 = some (.int .i64 dp)
 g : jal μ i 802 = some (.bool neg)
 t : jal μ i 803 = some (.bool tr)
def put1 (D : Nat → Nat) (k v : Nat) : Nat → Nat := fun j => if j = k then v else D j
section
variable {μ : Mem} {i : Nat} {D : Nat → Nat} {nd : Nat} {dp : Int} {neg tr : Bool}
theorem jcQ {μ : Mem} {i n t o k : Nat} {v : Value} (h : Blk μ i n t) (ho : o < n) : jal (putL μ i o [v]) i k = if k = o then some v else jal μ i k := by
 rw [jcz h (by show o + 1 ≤ n; omega)]
 by_cases e : k = o
 ·subst e; rw [dif_pos ⟨rfl, rzN _, by simp⟩, if_pos rfl]; simp
 ·rw [dif_neg (by rintro ⟨_, h1, h2⟩; simp at h2; omega), if_neg e]
theorem Dec.setD (h : Dec μ i D nd dp neg tr) {k v : Nat} (hk : k < 800) : Dec (putL μ i k [.int .u8 (.ofNat v)]) i (put1 D k v) nd dp neg tr := by
 have c := fun j => jcQ (k := j) (v := .int .u8 (.ofNat v)) h.blk (show k < 804 by omega)
 refine ⟨h.blk.put _ _, fun j hj => ?_, ?_, ?_, ?_, ?_⟩
 ·rw [c]; unfold put1
  by_cases e : j = k
  ·rw [if_pos e, if_pos e]
  ·rw [if_neg e, if_neg e]; exact h.d j hj
 ·rw [c, if_neg (by omega)]; exact h.n
 ·rw [c, if_neg (by omega)]; exact h.p
 ·rw [c, if_neg (by omega)]; exact h.g
 ·rw [c, if_neg (by omega)]; exact h.t
theorem Dec.setN (h : Dec μ i D nd dp neg tr) (v : Nat) : Dec (putL μ i 800 [.int .i64 (.ofNat v)]) i D v dp neg tr := by
 have c := fun j => jcQ (k := j) (v := .int .i64 (.ofNat v)) h.blk (show 800 < 804 by omega)
 refine ⟨h.blk.put _ _, fun j hj => ?_, ?_, ?_, ?_, ?_⟩
 ·rw [c, if_neg (by omega)]; exact h.d j hj
 ·rw [c, if_pos rfl]
 ·rw [c, if_neg (by omega)]; exact h.p
 ·rw [c, if_neg (by omega)]; exact h.g
 ·rw [c, if_neg (by omega)]; exact h.t
theorem Dec.setP (h : Dec μ i D nd dp neg tr) (v : Int) : Dec (putL μ i 801 [.int .i64 v]) i D nd v neg tr := by
 have c := fun j => jcQ (k := j) (v := .int .i64 v) h.blk (show 801 < 804 by omega)
 refine ⟨h.blk.put _ _, fun j hj => ?_, ?_, ?_, ?_, ?_⟩
 ·rw [c, if_neg (by omega)]; exact h.d j hj
 ·rw [c, if_neg (by omega)]; exact h.n
 ·rw [c, if_pos rfl]
 ·rw [c, if_neg (by omega)]; exact h.g
 ·rw [c, if_neg (by omega)]; exact h.t
theorem Dec.setG (h : Dec μ i D nd dp neg tr) (v : Bool) : Dec (putL μ i 802 [.bool v]) i D nd dp v tr := by
 have c := fun j => jcQ (k := j) (v := .bool v) h.blk (show 802 < 804 by omega)
 refine ⟨h.blk.put _ _, fun j hj => ?_, ?_, ?_, ?_, ?_⟩
 ·rw [c, if_neg (by omega)]; exact h.d j hj
 ·rw [c, if_neg (by omega)]; exact h.n
 ·rw [c, if_neg (by omega)]; exact h.p
 ·rw [c, if_pos rfl]
 ·rw [c, if_neg (by omega)]; exact h.t
theorem Dec.setT (h : Dec μ i D nd dp neg tr) (v : Bool) : Dec (putL μ i 803 [.bool v]) i D nd dp neg v := by
 have c := fun j => jcQ (k := j) (v := .bool v) h.blk (show 803 < 804 by omega)
 refine ⟨h.blk.put _ _, fun j hj => ?_, ?_, ?_, ?_, ?_⟩
 ·rw [c, if_neg (by omega)]; exact h.d j hj
 ·rw [c, if_neg (by omega)]; exact h.n
 ·rw [c, if_neg (by omega)]; exact h.p
 ·rw [c, if_neg (by omega)]; exact h.g
 ·rw [c, if_pos rfl]
theorem Dec.up (h : Dec μ i D nd dp neg tr) (m : Nat) : Dec ⟨μ.obs, m⟩ i D nd dp neg tr := ⟨h.blk, h.d, h.n, h.p, h.g, h.t⟩
end
theorem st_d {μ : Mem} {i k v : Nat} (h : Blk μ i 804 213) (hk : k < 800) : jbx pZ μ 5 (.pointer (some ⟨i, k, none⟩)) (.int .u8 (.ofNat v)) = some (undef, putL μ i k [.int .u8 (.ofNat v)]) := jbQ i_u8 rfl rfl h (by omega)
theorem st_n {μ : Mem} {i : Nat} {v : Int} (h : Blk μ i 804 213) : jbx pZ μ 3 (.pointer (some ⟨i, 800, none⟩)) (.int .i64 v) = some (undef, putL μ i 800 [.int .i64 v]) := jbQ jcg rfl rfl h (by omega)
theorem st_p {μ : Mem} {i : Nat} {v : Int} (h : Blk μ i 804 213) : jbx pZ μ 3 (.pointer (some ⟨i, 801, none⟩)) (.int .i64 v) = some (undef, putL μ i 801 [.int .i64 v]) := jbQ jcg rfl rfl h (by omega)
theorem st_g {μ : Mem} {i : Nat} {v : Bool} (h : Blk μ i 804 213) : jbx pZ μ 4 (.pointer (some ⟨i, 802, none⟩)) (.bool v) = some (undef, putL μ i 802 [.bool v]) := jbQ jf0 rfl rfl h (by omega)
theorem st_t {μ : Mem} {i : Nat} {v : Bool} (h : Blk μ i 804 213) : jbx pZ μ 4 (.pointer (some ⟨i, 803, none⟩)) (.bool v) = some (undef, putL μ i 803 [.bool v]) := jbQ jf0 rfl rfl h (by omega)
theorem jcW {ρ : Operand → Value} {a b : Operand} {i m : Nat} (hm : m < 800) (h1 : ρ a = .pointer (some ⟨i, 0, none⟩)) (h2 : ρ b = .int .i64 (.ofNat m)) : jan pZ ρ 211 a b = some (.pointer (some ⟨i, m, none⟩)) := by
 unfold jan
 simp only [h1, h2, Tryz.underlying211, aIdx, i_u8]
 rw [show Nat.blt m 800 = true from by simpa using hm]
 simp only [Addr.add]
 rw [show Nat.mul m Tryz.t5.size = m from Nat.mul_one m, rzT]
 split
 ·rename_i h; rw [h]
 ·rfl
def Only (μ μ' : Mem) (i : Nat) : Prop := μ.next ≤ μ'.next ∧ ∀ j, j < μ.next → j ≠ i → μ'.obs.get j = μ.obs.get j
theorem Only.refl (μ : Mem) (i : Nat) : Only μ μ i := ⟨rzN _, fun _ _ _ => rfl⟩
theorem Only.trans {a b c : Mem} {i : Nat} (h : Only a b i) (g : Only b c i) : Only a c i := ⟨rzS h.1 g.1, fun j hj hn => (g.2 j (rzO hj h.1) hn).trans (h.2 j hj hn)⟩
theorem Only.put (μ : Mem) (i o : Nat) (vs : List Value) : Only μ (putL μ i o vs) i := ⟨by rw [jcd]; exact rzN _, fun j _ hn => jdt _ _ _ _ hn⟩
theorem Only.up (μ : Mem) (i d : Nat) : Only μ ⟨μ.obs, μ.next + d⟩ i := ⟨Nat.le_add_right _ _, fun _ _ _ => rfl⟩
theorem Only.grow {a b : Mem} {i : Nat} (h : Grow a b) : Only a b i := ⟨h.1, fun j hj _ => h.2 j hj⟩
set_option maxHeartbeats 4000000 in
theorem trim_loop (D : Nat → Nat) : ∀ n, n ≤ 800 → ∃ n', n' ≤ n ∧ (n' = 0 ∨ D (n' - 1) ≠ 48) ∧ (∀ j, n' ≤ j → j < n → D j = 48) ∧ ∀ {X : XT} {e i : Nat} {tm : T Value} {μ : Mem} {dp : Int} {neg tr : Bool}, Dec μ i D n dp neg tr → jac tm 0 = .pointer (some ⟨i, 0, none⟩) →
  LpC X (e + n + 20) Tryz.f213 0 35 tm μ fun x r μ' => x = .exit 0 ∧ Dec μ' i D n' dp neg tr ∧ Only μ μ' i ∧ ∃ tm', r = ⟨35, tm', [], none⟩ ∧ jac tm' 0 = .pointer (some ⟨i, 0, none⟩) := by
 intro n
 induction n with
 | zero =>
   intro _
   refine ⟨0, rzN _, .inl rfl, fun j h1 h2 => by omega, fun {X e i tm μ dp neg tr} h h0 => ?_⟩
   have hc := (h.up (μ.next + 18)).n
   have e1 : ilt 0 (.ofNat 0) = false := rfl
   refine jah ?_
   refine jag ?_
   refine jag ?_
   refine jaz (n := 18) (ms := [0, 1, 3, 7, 15, 31, 63, 63, 191, 447, 959, 1983, 127, 4223, 16383, 32767, 65535, 131071]) (ord := [0, 1, 2, 3, 4, 5, 6, 7, 8, 9, 10, 11, 12, 13, 14, 15, 16, 17]) (ds := ?_) ?_ ?_ ?_ ?_ ?_ ?_
   rotate_left
   ·kernel_rfl
   ·kernel_rfl
   ·kernel_rfl
   ·rfl
   ·rfl
   iterate 6 (refine jay (by first | rfl | (simp only [go_sem, undef, h0, jaW, jaT, hc, e1])) (by simp only [jaC, heavy, jaO, jar, go_sem, undef, h0, jaW, jaT, hc, e1]; try exact rfl) rfl ?_)
   iterate 11 (refine ja8 (by simp only [go_sem, undef, h0, jaW, jaT, hc, e1]) rfl ?_)
   refine jay (by first | rfl | (simp only [go_sem, undef, h0, jaW, jaT, hc, e1])) (by simp only [jaC, heavy, jaO, jar, go_sem, undef, h0, jaW, jaT, hc, e1]; try exact rfl) rfl ?_
   simp only [dRun, jat, jai]
   refine jax ?_ ?_
   ·simp only [go_sem]
   refine jbw ?_
   simp only [jbv]
   exact ⟨by trivial, h.up _, Only.up _ _ _, _, rfl, by simp only [go_sem, h0]⟩
 | succ n ih =>
   intro hn
   have e1 : ilt 0 (.ofNat (n + 1)) = true := dT (jao 0 (n + 1)) (rzW n)
   have q1 : jak .i64 (Int.sub (.ofNat (n + 1)) 1) = .ofNat n := jaV (n + 1) 1 (by omega) (by omega)
   have hix : ∀ (i : Nat) (r : Rg) (a b : Operand), aev pZ r a = .pointer (some ⟨i, 0, none⟩) → aev pZ r b = .int .i64 (.ofNat n) → jan pZ (aev pZ r) 211 a b = some (.pointer (some ⟨i, n, none⟩)) := fun i r a b h1 h2 => jcW (by omega) h1 h2
   by_cases h48 : D n = 48
   ·have e2 : ieq (.ofNat (D n)) 48 = true := dT (jaB _ 48 48 rfl) h48
    obtain ⟨n', b1, b2, b3, hih⟩ := ih (by omega)
    refine ⟨n', by omega, b2, fun j h1 h2 => ?_, fun {X e i tm μ dp neg tr} h h0 => ?_⟩
    ·by_cases e : j = n
     ·rw [e]; exact h48
     ·exact b3 j h1 (by omega)
    have hu := h.up (μ.next + 18)
    have hc := hu.n
    have hd := hu.d n (by omega)
    have hs := st_n (v := .ofNat n) hu.blk
    have hix := hix i
    refine jah ?_
    refine jag ?_
    refine jag ?_
    refine jaz (n := 18) (ms := [0, 1, 3, 7, 15, 31, 63, 63, 191, 447, 959, 1983, 127, 4223, 16383, 32767, 65535, 131071]) (ord := [0, 1, 2, 3, 4, 5, 6, 7, 8, 9, 10, 11, 12, 13, 14, 15, 16, 17]) (ds := ?_) ?_ ?_ ?_ ?_ ?_ ?_
    rotate_left
    ·kernel_rfl
    ·kernel_rfl
    ·kernel_rfl
    ·rfl
    ·rfl
    iterate 18 (refine jay (by first | rfl | (simp only [go_sem, h0, jba, jaW, jaT, jb8, hc, hd, e1, q1, hix, e2])) (by simp only [jaC, heavy, jaO, jar, go_sem, h0, jba, jaW, jaT, jb8, hc, hd, e1, q1, hix, e2]; try exact rfl) rfl ?_)
    simp only [dRun, jat, jai]
    repeat (refine jaa rfl ?_; (try simp only [go_sem, h0, hc, q1, hs]); fail_if_success refine stk ?_)
    rw [(by omega : e + (n + 1) + 19 = e + n + 20)]
    refine rzM (hih (hu.setN n) (by simp only [go_sem, h0])) ?_
    rintro x r μ' ⟨hx, g1, g2, g3⟩
    exact ⟨hx, g1, (Only.up μ i 18).trans ((Only.put ⟨μ.obs, μ.next + 18⟩ i 800 _).trans g2), g3⟩
   ·have e2 : ieq (.ofNat (D n)) 48 = false := dF (jaB _ 48 48 rfl) h48
    refine ⟨n + 1, rzN _, .inr h48, fun j h1 h2 => by omega, fun {X e i tm μ dp neg tr} h h0 => ?_⟩
    have hu := h.up (μ.next + 18)
    have hc := hu.n
    have hd := hu.d n (by omega)
    have hix := hix i
    refine jah ?_
    refine jag ?_
    refine jag ?_
    refine jaz (n := 18) (ms := [0, 1, 3, 7, 15, 31, 63, 63, 191, 447, 959, 1983, 127, 4223, 16383, 32767, 65535, 131071]) (ord := [0, 1, 2, 3, 4, 5, 6, 7, 8, 9, 10, 11, 12, 13, 14, 15, 16, 17]) (ds := ?_) ?_ ?_ ?_ ?_ ?_ ?_
    rotate_left
    ·kernel_rfl
    ·kernel_rfl
    ·kernel_rfl
    ·rfl
    ·rfl
    iterate 18 (refine jay (by first | rfl | (simp only [go_sem, h0, jba, jaW, jaT, jb8, hc, hd, e1, q1, hix, e2])) (by simp only [jaC, heavy, jaO, jar, go_sem, h0, jba, jaW, jaT, jb8, hc, hd, e1, q1, hix, e2]; try exact rfl) rfl ?_)
    simp only [dRun, jat, jai]
    refine jax ?_ ?_
    ·simp only [go_sem]
    refine jbw ?_
    simp only [jbv]
    exact ⟨by trivial, hu, Only.up _ _ _, _, rfl, by simp only [go_sem, h0]⟩
set_option maxHeartbeats 4000000 in
theorem trim_ex (D : Nat → Nat) (n : Nat) (hn : n ≤ 800) : ∃ n', n' ≤ n ∧ (∀ j, n' ≤ j → j < n → D j = 48) ∧ ∀ {X : XT} {g i : Nat} {μ : Mem} {dp : Int} {neg tr : Bool}, 900 ≤ g → Dec μ i D n dp neg tr →
  ∃ μ', aFun pZ (jaj pZ X S0 g) 213 [.pointer (some ⟨i, 0, none⟩)] μ = some (.tuple #[], μ') ∧ Dec μ' i D n' (if n' = 0 then 0 else dp) neg tr ∧ Only μ μ' i := by
 obtain ⟨n', b1, b2, b3, hlp⟩ := trim_loop D n hn
 refine ⟨n', b1, b3, fun {X g i μ dp neg tr} hg h => ?_⟩
 obtain ⟨k, rfl⟩ := gle hg
 have key : EndsF (aFun pZ (jaj pZ X S0 (k + 900)) 213 [.pointer (some ⟨i, 0, none⟩)] μ) fun v μ' => v = .tuple #[] ∧ Dec μ' i D n' (if n' = 0 then 0 else dp) neg tr ∧ Only μ μ' i := by
  refine jaf Tryz.func213 rfl rfl (nbl rfl) ?_
  simp only [go_sem, Tryz.ntmps213]
  refine jag ?_
  refine jeD ?_
  rw [(by omega : k + 898 = (k + 878 - n) + n + 20)]
  refine rzM (hlp h (by simp only [go_sem])) ?_
  rintro x r μ' ⟨rfl, g1, g2, tm', rfl, h0⟩
  simp only [go_sem]
  have hc := g1.n
  by_cases hz : n' = 0
  ·have e1 : ieq (.ofNat n') 0 = true := dT (jaB _ 0 0 rfl) hz
   have hs := st_p (v := 0) g1.blk
   rw [if_pos hz]
   repeat (refine jaa rfl ?_; (try simp only [go_sem, h0, hc, e1, hs]); fail_if_success refine stk ?_)
   exact ⟨rfl, _, rfl, rfl, g1.setP 0, g2.trans (Only.put _ _ _ _)⟩
  ·have e1 : ieq (.ofNat n') 0 = false := dF (jaB _ 0 0 rfl) hz
   rw [if_neg hz]
   repeat (refine jaa rfl ?_; (try simp only [go_sem, h0, hc, e1]); fail_if_success refine stk ?_)
   exact ⟨rfl, _, rfl, rfl, g1, g2⟩
 obtain ⟨v, μ', h1, rfl, h2, h3⟩ := key
 exact ⟨μ', h1, h2, h3⟩
end
noncomputable section
open Go.Proofs.YtlkenchibdeinaaGreatDoor.DecM (val Dg low carry less Cheat)
def chr (s : ByteArray) (t : Nat) : Nat := (bys s).getD t 0
theorem chr_at {s : ByteArray} {i : Nat} (h : i < (bys s).length) : (bys s)[i]'h = chr s i := by unfold chr; rw [List.getD_eq_getElem?_getD, rzK h]; rfl
theorem jhu {a : Option Addr} {n c : Nat} : aLen pZ 45 (.slice a n c) = some n := by
 unfold aLen
 simp only [Tryz.underlying45]
def Row (μ : Mem) (bi n : Nat) (D : Nat → Nat) : Prop := ∀ k, k < n → jal μ bi k = some (.int .u8 (.ofNat (D k)))
theorem jii {s : ByteArray} (hl : (bys s).length ≤ 1000) (D : Nat → Nat) (n : Nat) (hn : n ≤ 800) : ∀ (k i : Nat), i + k = (bys s).length → i ≤ n → ∀ {X : XT} {e bi c : Nat} {tm : T Value} {μ : Mem}, Row μ bi n D → jac tm 0 = .slice (some ⟨bi, 0, none⟩) n c → jac tm 1 = .string s → jac tm 5 = .int .i64 (.ofNat i) →
  LpC X (e + k + 40) Tryz.f245 0 32 tm μ fun x r μ' => (∃ m, μ' = ⟨μ.obs, μ.next + m⟩) ∧ ∃ tm', r = ⟨32, tm', [], none⟩ ∧
   ((x = .exit 0 ∧ less D n (chr s) i k = false) ∨ (x = .ret ∧ jac tm' 4 = .bool (less D n (chr s) i k))) := by
 have ls := jaU s
 intro k
 induction k with
 | zero =>
   intro i hi hin X e bi c tm μ hr h0 h1 h5
   have hi : i = (bys s).length := hi
   have e1 : ilt (.ofNat i) (.ofNat (bys s).length) = false := dF (jao _ _) (by omega)
   refine jah ?_
   repeat (refine jaa rfl ?_; (try simp only [go_sem, h0, h1, h5, ls, jae, e1]); fail_if_success refine stk ?_)
   exact ⟨⟨0, rfl⟩, _, rfl, .inl ⟨by trivial, rfl⟩⟩
 | succ k ih =>
   intro i hi hin X e bi c tm μ hr h0 h1 h5
   have hlt : i < (bys s).length := by omega
   have e1 : ilt (.ofNat i) (.ofNat (bys s).length) = true := dT (jao _ _) hlt
   by_cases hge : n ≤ i
   ·have e2 : ilt (.ofNat i) (.ofNat n) = false := dF (jao _ _) (by omega)
    have el : less D n (chr s) i (k + 1) = true := by rw [less, if_pos hge]
    rw [el]
    refine jah ?_
    repeat (refine jaa rfl ?_; (try simp only [go_sem, h0, h1, h5, ls, jhu, jae, e1, e2]); fail_if_success refine stk ?_)
    refine jad ?_
    exact ⟨⟨0, rfl⟩, _, rfl, .inr ⟨by trivial, by simp only [go_sem]⟩⟩
   ·have hlt2 : i < n := by omega
    have e2 : ilt (.ofNat i) (.ofNat n) = true := dT (jao _ _) hlt2
    have hx : ∀ r x y, aev pZ r x = .string s → aev pZ r y = .int .i64 (.ofNat i) → jaX pZ (aev pZ r) 9 x y = some (.int .u8 (.ofNat (chr s i))) := fun r x y g1 g2 => by rw [← chr_at hlt]; exact jbB hlt g1 g2
    have hix : ∀ r a b, aev pZ r a = .slice (some ⟨bi, 0, none⟩) n c → aev pZ r b = .int .i64 (.ofNat i) → jan pZ (aev pZ r) 45 a b = some (.pointer (some ⟨bi, i, none⟩)) := fun r a b g1 g2 => by
     rw [jaL (P := pZ) Tryz.underlying45 i_u8 rfl g1 g2 hlt2, rzT]
    have hc : ∀ m, jal ⟨μ.obs, m⟩ bi i = some (.int .u8 (.ofNat (D i))) := fun m => hr i hlt2
    by_cases he : D i = chr s i
    ·have e3 : ieq (.ofNat (D i)) (.ofNat (chr s i)) = true := dT (jbG _ _) he
     have el : less D n (chr s) i (k + 1) = less D n (chr s) (i + 1) k := by rw [less, if_neg hge, if_pos he]
     have a1 : jak .i64 (Int.add (.ofNat i) 1) = .ofNat (i + 1) := jaE i 1 (by omega)
     rw [el]
     refine jah ?_
     repeat (refine jaa rfl ?_; (try simp only [go_sem, h0, h1, h5, ls, jhu, jae, e1, e2]); fail_if_success refine stk ?_)
     refine jaz (n := 8) (ms := [0, 0, 3, 7, 0, 0, 48, 127]) (ord := [0, 1, 2, 3, 4, 5, 6, 7]) (ds := ?_) ?_ ?_ ?_ ?_ ?_ ?_
     rotate_left
     ·kernel_rfl
     ·kernel_rfl
     ·kernel_rfl
     ·rfl
     ·rfl
     iterate 8 (refine jay (by first | rfl | (simp only [go_sem, h0, h1, h5, hx, hix, jb8, hc, e3])) (by simp only [jaC, heavy, jaO, jar, go_sem, h0, h1, h5, hx, hix, jb8, hc, e3]; try exact rfl) rfl ?_)
     simp only [dRun, jat, jai]
     repeat (refine jaa rfl ?_; (try simp only [go_sem, h0, h1, h5, a1]); fail_if_success refine stk ?_)
     rw [(by omega : e + (k + 1) + 39 = e + k + 40)]
     refine rzM (ih (i + 1) (by omega) (by omega) (c := c) (μ := ⟨μ.obs, μ.next + 8⟩) hr (by simp only [go_sem, h0]) (by simp only [go_sem, h1]) (by simp only [go_sem])) ?_
     rintro x r μ' ⟨⟨m, hm⟩, g⟩
     exact ⟨⟨8 + m, hm.trans (by show (⟨μ.obs, μ.next + 8 + m⟩ : Mem) = _; rw [Nat.add_assoc])⟩, g⟩
    ·have e3 : ieq (.ofNat (D i)) (.ofNat (chr s i)) = false := dF (jbG _ _) he
     have el : less D n (chr s) i (k + 1) = decide (D i < chr s i) := by rw [less, if_neg hge, if_neg he]
     have e4 : ilt (.ofNat (D i)) (.ofNat (chr s i)) = decide (D i < chr s i) := jao _ _
     rw [el]
     refine jah ?_
     repeat (refine jaa rfl ?_; (try simp only [go_sem, h0, h1, h5, ls, jhu, jae, e1, e2]); fail_if_success refine stk ?_)
     refine jaz (n := 8) (ms := [0, 0, 3, 7, 0, 0, 48, 127]) (ord := [0, 1, 2, 3, 4, 5, 6, 7]) (ds := ?_) ?_ ?_ ?_ ?_ ?_ ?_
     rotate_left
     ·kernel_rfl
     ·kernel_rfl
     ·kernel_rfl
     ·rfl
     ·rfl
     iterate 8 (refine jay (by first | rfl | (simp only [go_sem, h0, h1, h5, hx, hix, jb8, hc, e3])) (by simp only [jaC, heavy, jaO, jar, go_sem, h0, h1, h5, hx, hix, jb8, hc, e3]; try exact rfl) rfl ?_)
     simp only [dRun, jat, jai]
     repeat (refine jaa rfl ?_; (try simp only [go_sem, h0, h1, h5]); fail_if_success refine stk ?_)
     refine jaz (n := 9) (ms := [0, 0, 3, 7, 0, 0, 48, 127, 255]) (ord := [0, 1, 2, 3, 4, 5, 6, 7, 8]) (ds := ?_) ?_ ?_ ?_ ?_ ?_ ?_
     rotate_left
     ·kernel_rfl
     ·kernel_rfl
     ·kernel_rfl
     ·rfl
     ·rfl
     iterate 9 (refine jay (by first | rfl | (simp only [go_sem, h0, h1, h5, hx, hix, jb8, hc, e4])) (by simp only [jaC, heavy, jaO, jar, go_sem, h0, h1, h5, hx, hix, jb8, hc, e4]; try exact rfl) rfl ?_)
     simp only [dRun, jat, jai]
     refine jad ?_
     exact ⟨⟨8 + 9, by show (⟨μ.obs, μ.next + 8 + 9⟩ : Mem) = _; rw [Nat.add_assoc]⟩, _, rfl, .inr ⟨by trivial, by simp only [go_sem]⟩⟩
theorem jij {s : ByteArray} (hl : (bys s).length ≤ 1000) (D : Nat → Nat) (n : Nat) (hn : n ≤ 800) {X : XT} {g bi c : Nat} {μ : Mem} (hg : 1100 ≤ g) (hr : Row μ bi n D) :
  ∃ m, aFun pZ (jaj pZ X S0 g) 245 [.slice (some ⟨bi, 0, none⟩) n c, .string s] μ = some (.bool (less D n (chr s) 0 (bys s).length), ⟨μ.obs, μ.next + m⟩) := by
 obtain ⟨k, rfl⟩ := gle hg
 have key : EndsF (aFun pZ (jaj pZ X S0 (k + 1100)) 245 [.slice (some ⟨bi, 0, none⟩) n c, .string s] μ) fun v μ' => v = .bool (less D n (chr s) 0 (bys s).length) ∧ ∃ m, μ' = ⟨μ.obs, μ.next + m⟩ := by
  refine jaf Tryz.func245 rfl rfl (nbl rfl) ?_
  simp only [go_sem, Tryz.ntmps245]
  repeat (refine jaa rfl ?_; (try simp only [go_sem]); fail_if_success refine stk ?_)
  rw [(by omega : k + 1096 = (k + 1056 - (bys s).length) + (bys s).length + 40)]
  refine rzM (jii hl D n hn (bys s).length 0 (rzT _) (rzY _) (c := c) hr (by simp only [go_sem]) (by simp only [go_sem]) (by simp only [go_sem]; try rfl)) ?_
  rintro x r μ' ⟨⟨m, rfl⟩, tm', rfl, ⟨rfl, hf⟩ | ⟨rfl, h4⟩⟩
  ·simp only [go_sem]
   repeat (refine jaa rfl ?_; (try simp only [go_sem]); fail_if_success refine stk ?_)
   refine jad ?_
   refine ⟨rfl, _, ?_, rfl, m, rfl⟩
   simp only [go_sem, Tryz.results245]
   rw [hf]
  ·refine ⟨rfl, _, ?_, rfl, m, rfl⟩
   simp only [go_sem, Tryz.results245]
   rw [h4]
 obtain ⟨v, μ', h1, rfl, m, rfl⟩ := key
 exact ⟨m, h1⟩
end
noncomputable section
open Go.Proofs.YtlkenchibdeinaaGreatDoor.DecM (val Dg low carry less Cheat sumL jh9 jgi shifted jgv je1 jff)
def ck (k : Nat) : Bool :=
 Nat.blt (2 ^ k) (10 ^ dlt k) && Nat.ble (10 ^ (dlt k - 1)) (2 ^ k) && Nat.ble 1 (dlt k) && Nat.beq ((bys (cut k)).length + dlt k) (k + 1)
  && ((List.range (bys (cut k)).length).all fun t => Nat.ble 48 (chr (cut k) t) && Nat.ble (chr (cut k) t) 57)
  && Nat.beq (val (chr (cut k)) (bys (cut k)).length) (5 ^ k) && Nat.ble 49 (chr (cut k) ((bys (cut k)).length - 1)) && Nat.ble (dlt k) 19 && Nat.ble (bys (cut k)).length 100
set_option maxRecDepth 100000 in
theorem ck_all : ((List.range 61).all fun k => Nat.beq k 0 || ck k) = true := by kernel_rfl
theorem cheats {k : Nat} (h1 : 1 ≤ k) (h2 : k ≤ 60) : Cheat k (dlt k) (bys (cut k)).length (chr (cut k)) ∧ dlt k ≤ 19 ∧ (bys (cut k)).length ≤ 100 := by
 have h := List.all_eq_true.1 ck_all k (List.mem_range.2 (by omega))
 have hb : Nat.beq k 0 = false := by
  cases hb : Nat.beq k 0 with
  | false => rfl
  | true => have := Nat.eq_of_beq_eq_true hb; omega
 rw [hb, Bool.false_or] at h
 unfold ck at h
 simp only [Bool.and_eq_true, List.all_eq_true] at h
 obtain ⟨⟨⟨⟨⟨⟨⟨⟨a1, a2⟩, a3⟩, a4⟩, a5⟩, a6⟩, a7⟩, a8⟩, a9⟩ := h
 exact ⟨⟨rzE a1, rzE a2, rzE a3, Nat.eq_of_beq_eq_true a4, fun t ht => ⟨rzE (a5 t (List.mem_range.2 ht)).1, rzE (a5 t (List.mem_range.2 ht)).2⟩, Nat.eq_of_beq_eq_true a6, rzE a7⟩, rzE a8, rzE a9⟩
theorem nw {a : Nat} (h : a < 18446744073709551616) : jak .u64 (.ofNat a) = .ofNat a := by rw [jbR, W_of h]
theorem jgq {a b : Nat} (h : a + b < 18446744073709551616) : jak .u64 (Int.add (.ofNat a) (.ofNat b)) = .ofNat (a + b) := nw h
theorem jj9 {a b : Nat} (h : a * b < 18446744073709551616) : jak .u64 (Int.mul (.ofNat a) (.ofNat b)) = .ofNat (a * b) := nw h
theorem jj7 {a b : Nat} (h : b ≤ a) (h2 : a < 18446744073709551616) : jak .u64 (Int.sub (.ofNat a) (.ofNat b)) = .ofNat (a - b) := by
 have e : Int.sub (.ofNat a) (.ofNat b) = .ofNat (a - b) := by show (a : Int) - (b : Int) = ((a - b : Nat) : Int); omega
 rw [e]; exact nw (by omega)
theorem n_shl {a y : Nat} (hy : y ≤ 64) (h : a * 2 ^ y < 18446744073709551616) : jaQ true .u64 (.ofNat a) (.ofNat y) = some (.int .u64 (.ofNat (a * 2 ^ y))) := by rw [w_shl a y hy, W_of h]
theorem jj8 {a y : Nat} (hy : y ≤ 64) (ha : a < 18446744073709551616) : jaQ false .u64 (.ofNat a) (.ofNat y) = some (.int .u64 (.ofNat (a / 2 ^ y))) := by rw [w_shr a y hy ha, W_of (Nat.lt_of_le_of_lt (Nat.div_le_self _ _) ha)]
theorem jgp {a : Nat} (ha : a < 18446744073709551616) : aDiv false .u64 .u64 (.ofNat a) 10 = some (.int .u64 (.ofNat (a / 10))) := by
 show some (Value.int .u64 (jak .u64 (.ofNat (a / 10)))) = _
 rw [nw (Nat.lt_of_le_of_lt (Nat.div_le_self _ _) ha)]
theorem jfp (n : Int) : jaG pZ 5 88 (.int .u8 n) = some (.int .u64 (jak .u64 n)) := by
 simp only [jaG, Tryz.underlying88, Tryz.underlying5]
theorem jeC (n : Int) : jaG pZ 88 5 (.int .u64 n) = some (.int .u8 (jak .u8 n)) := by
 simp only [jaG, Tryz.underlying88, Tryz.underlying5]
def rdx : Nat → Int
 | 0 => -1
 | n + 1 => .ofNat n
theorem jih {n : Nat} (h : n ≤ 4000) : jak .i64 (Int.sub (.ofNat n) 1) = rdx n := by
 cases n with
 | zero => rfl
 | succ n => exact jaV (n + 1) 1 (by omega) (by omega)
theorem p10_19 {d : Nat} (h : d ≤ 19) : 10 ^ d < 18446744073709551616 := Nat.lt_of_le_of_lt (Nat.pow_le_pow_right (by decide) h) (by decide)
theorem ls1 {D : Nat → Nat} {n k δ : Nat} (hD : Dg D n) (hn : n ≤ 800) (hk : k ≤ 60) (hδ : δ ≤ 19) : ∀ r, r ≤ n → ∀ (E : Nat → Nat) (tr : Bool), (∀ t, t < r → E t = D t) →
  ∃ (E' : Nat → Nat) (tr' : Bool), (∀ p, p < r → p + δ < 800 → E' (p + δ) = 48 + sumL D k n p % 10) ∧ (∀ p, r + δ ≤ p → E' p = E p) ∧ ∀ {X : XT} {e i : Nat} {tm : T Value} {μ : Mem} {dp : Int} {neg : Bool}, Dec μ i E n dp neg tr → jac tm 0 = .pointer (some ⟨i, 0, none⟩) → jac tm 1 = .int .u64 (.ofNat k) → jac tm 4 = .int .i64 (.ofNat δ) → jac tm 5 = .int .i64 (rdx r) → jac tm 6 = .int .i64 (.ofNat (r + δ)) → jac tm 7 = .int .u64 (.ofNat (carry D k r (n - r))) →
  LpC X (e + r + 40) Tryz.f214 0 137 tm μ fun x r μ' => x = .exit 0 ∧ Dec μ' i E' n dp neg tr' ∧ Only μ μ' i ∧ ∃ tm', r = ⟨137, tm', [], none⟩ ∧ jac tm' 0 = .pointer (some ⟨i, 0, none⟩) ∧ jac tm' 4 = .int .i64 (.ofNat δ) ∧ jac tm' 6 = .int .i64 (.ofNat δ) ∧ jac tm' 7 = .int .u64 (.ofNat (carry D k 0 n)) := by
 intro r
 induction r with
 | zero =>
   intro _ E tr hE
   refine ⟨E, tr, fun p hp => by omega, fun p _ => rfl, fun {X e i tm μ dp neg} h h0 h1 h4 h5 h6 h7 => ?_⟩
   have h5 : jac tm 5 = .int .i64 (-1) := h5
   have e1 : ilt (-1) 0 = true := rfl
   rw [rzT] at h6
   refine jah ?_
   repeat (refine jaa rfl ?_; (try simp only [go_sem, h0, h1, h4, h5, h6, h7, e1]); fail_if_success refine stk ?_)
   exact ⟨by trivial, h, Only.refl _ _, _, rfl, by simp only [go_sem, h0], by simp only [go_sem, h4], by simp only [go_sem, h6], by simp only [go_sem, h7]; rfl⟩
 | succ r ih =>
   intro hr E tr hE
   have hrn : r < n := hr
   obtain ⟨dr1, dr2⟩ := hD r hrn
   have p60 := jff hk
   have hc0 : carry D k (r + 1) (n - (r + 1)) < 2 ^ k := je1 fun t ht => hD _ (by omega)
   have hS := jh9 (k := k) hD hrn
   have hq := jgi (D := D) (k := k) hrn
   have hSd : carry D k (r + 1) (n - (r + 1)) + (D r - 48) * 2 ^ k = sumL D k n r := rfl
   obtain ⟨S, hSS⟩ := exq (sumL D k n r)
   have hmul : (D r - 48) * 2 ^ k ≤ sumL D k n r := by rw [← hSd]; exact Nat.le_add_left _ _
   rw [← hSS] at hS hq hSd hmul
   have hSb : S < 18446744073709551616 := by omega
   have q1 : jak .u64 (.ofNat (D r)) = .ofNat (D r) := nw (by omega)
   have q2 : jak .u64 (Int.sub (.ofNat (D r)) 48) = .ofNat (D r - 48) := jj7 (b := 48) dr1 (by omega)
   have q3 : jaQ true .u64 (.ofNat (D r - 48)) (.ofNat k) = some (.int .u64 (.ofNat ((D r - 48) * 2 ^ k))) := n_shl (by omega) (by omega)
   have q4 : jak .u64 (Int.add (.ofNat (carry D k (r + 1) (n - (r + 1)))) (.ofNat ((D r - 48) * 2 ^ k))) = .ofNat S := by rw [jgq (by omega), hSd]
   have q5 : aDiv false .u64 .u64 (.ofNat S) 10 = some (.int .u64 (.ofNat (S / 10))) := jgp hSb
   have q6 : jak .u64 (Int.mul 10 (.ofNat (S / 10))) = .ofNat (10 * (S / 10)) := jj9 (a := 10) (by omega)
   have q7 : jak .u64 (Int.sub (.ofNat S) (.ofNat (10 * (S / 10)))) = .ofNat (S % 10) := by rw [jj7 (by omega) hSb]; exact congrArg Int.ofNat (by omega)
   have q8 : jak .i64 (Int.sub (.ofNat (r + 1 + δ)) 1) = .ofNat (r + δ) := (jaV (r + 1 + δ) 1 (by omega) (by omega)).trans (congrArg Int.ofNat (by omega))
   have q9 : jak .u64 (Int.add (.ofNat (S % 10)) 48) = .ofNat (48 + S % 10) := by rw [Nat.add_comm]; exact jgq (b := 48) (by omega)
   have q10 : jak .u8 (.ofNat (48 + S % 10)) = .ofNat (48 + S % 10) := qu8 _ (by omega)
   have q11 : jak .i64 (Int.sub (.ofNat r) 1) = rdx r := jih (by omega)
   have e1 : ilt (.ofNat r) 0 = false := dF (jao r 0) (by omega)
   have hix : ∀ (i : Nat) (rg : Rg) (a b : Operand), aev pZ rg a = .pointer (some ⟨i, 0, none⟩) → aev pZ rg b = .int .i64 (.ofNat r) → jan pZ (aev pZ rg) 211 a b = some (.pointer (some ⟨i, r, none⟩)) := fun i rg a b g1 g2 => jcW (by omega) g1 g2
   rw [hq] at q6 q7 q5
   obtain ⟨C, hC⟩ := exq (carry D k (r + 1) (n - (r + 1)))
   obtain ⟨C2, hC2⟩ := exq (carry D k r (n - r))
   obtain ⟨M, hM⟩ := exq ((D r - 48) * 2 ^ k)
   obtain ⟨R, hR⟩ := exq (S % 10)
   rw [← hC2] at q5 q6 q7
   obtain ⟨M2, hM2⟩ : ∃ M, M = 10 * C2 := ⟨_, rfl⟩
   rw [← hM2] at q6 q7
   rw [← hR] at q7 q9 q10
   rw [← hM] at q3 q4
   rw [← hC] at q4
   by_cases hw : r + δ < 800
   ·have e2 : ilt (.ofNat (r + δ)) 800 = true := dT (jao _ 800) hw
    have hix2 : ∀ (i : Nat) (rg : Rg) (a b : Operand), aev pZ rg a = .pointer (some ⟨i, 0, none⟩) → aev pZ rg b = .int .i64 (.ofNat (r + δ)) → jan pZ (aev pZ rg) 211 a b = some (.pointer (some ⟨i, r + δ, none⟩)) := fun i rg a b g1 g2 => jcW hw g1 g2
    obtain ⟨E', tr', b1, b2, hih⟩ := ih (by omega) (put1 E (r + δ) (48 + R)) tr fun t ht => by unfold put1; rw [if_neg (by omega)]; exact hE t (by omega)
    refine ⟨E', tr', fun p hp hp8 => ?_, fun p hp => ?_, fun {X e i tm μ dp neg} h h0 h1 h4 h5 h6 h7 => ?_⟩
    ·by_cases e : p = r
     ·subst e; rw [b2 _ (rzN _), hR, hSS]; exact if_pos rfl
     ·exact b1 p (by omega) hp8
    ·rw [b2 p (by omega)]; exact if_neg (by omega)
    have h5 : jac tm 5 = .int .i64 (.ofNat r) := h5
    have hd := h.d r (by omega)
    rw [hE r (by omega)] at hd
    rw [← hC] at h7
    have hs := st_d (v := 48 + R) h.blk hw
    have hix := hix i
    have hix2 := hix2 i
    refine jah ?_
    repeat (refine jaa rfl ?_; (try simp only [go_sem, h0, h1, h4, h5, h6, h7, hd, jfp, jeC, e1, e2, q1, q2, q3, q4, q5, q6, q7, q8, q9, q10, q11, hix, hix2, hs]); fail_if_success refine stk ?_)
    rw [(by omega : e + (r + 1) + 39 = e + r + 40)]
    refine rzM (hih (h.setD hw) (by simp only [go_sem, h0]) (by simp only [go_sem, h1]) (by simp only [go_sem, h4]) (by simp only [go_sem]) (by simp only [go_sem]) (by simp only [go_sem, hC2])) ?_
    rintro x r μ' ⟨hx, g1, g2, g3⟩
    exact ⟨hx, g1, (Only.put μ i _ _).trans g2, g3⟩
   ·have e2 : ilt (.ofNat (r + δ)) 800 = false := dF (jao _ 800) hw
    by_cases hz : R = 0
    ·have e3 : ieq (.ofNat R) 0 = true := dT (jaB _ 0 0 rfl) hz
     obtain ⟨E', tr', b1, b2, hih⟩ := ih (by omega) E tr fun t ht => hE t (by omega)
     refine ⟨E', tr', fun p hp hp8 => ?_, fun p hp => b2 p (by omega), fun {X e i tm μ dp neg} h h0 h1 h4 h5 h6 h7 => ?_⟩
     ·exact b1 p (by omega) hp8
     have h5 : jac tm 5 = .int .i64 (.ofNat r) := h5
     have hd := h.d r (by omega)
     rw [hE r (by omega)] at hd
     rw [← hC] at h7
     have hix := hix i
     refine jah ?_
     repeat (refine jaa rfl ?_; (try simp only [go_sem, h0, h1, h4, h5, h6, h7, hd, jfp, jeC, e1, e2, e3, q1, q2, q3, q4, q5, q6, q7, q8, q9, q10, q11, hix]); fail_if_success refine stk ?_)
     rw [(by omega : e + (r + 1) + 39 = e + r + 40)]
     refine rzM (hih h (by simp only [go_sem, h0]) (by simp only [go_sem, h1]) (by simp only [go_sem, h4]) (by simp only [go_sem]) (by simp only [go_sem]) (by simp only [go_sem, hC2])) ?_
     rintro x r μ' ⟨hx, g1, g2, g3⟩
     exact ⟨hx, g1, g2, g3⟩
    ·have e3 : ieq (.ofNat R) 0 = false := dF (jaB _ 0 0 rfl) hz
     obtain ⟨E', tr', b1, b2, hih⟩ := ih (by omega) E true fun t ht => hE t (by omega)
     refine ⟨E', tr', fun p hp hp8 => ?_, fun p hp => b2 p (by omega), fun {X e i tm μ dp neg} h h0 h1 h4 h5 h6 h7 => ?_⟩
     ·exact b1 p (by omega) hp8
     have h5 : jac tm 5 = .int .i64 (.ofNat r) := h5
     have hd := h.d r (by omega)
     rw [hE r (by omega)] at hd
     rw [← hC] at h7
     have hs := st_t (v := true) h.blk
     have hix := hix i
     refine jah ?_
     repeat (refine jaa rfl ?_; (try simp only [go_sem, h0, h1, h4, h5, h6, h7, hd, jfp, jeC, e1, e2, e3, q1, q2, q3, q4, q5, q6, q7, q8, q9, q10, q11, hix, hs]); fail_if_success refine stk ?_)
     rw [(by omega : e + (r + 1) + 39 = e + r + 40)]
     refine rzM (hih (h.setT true) (by simp only [go_sem, h0]) (by simp only [go_sem, h1]) (by simp only [go_sem, h4]) (by simp only [go_sem]) (by simp only [go_sem]) (by simp only [go_sem, hC2])) ?_
     rintro x r μ' ⟨hx, g1, g2, g3⟩
     exact ⟨hx, g1, (Only.put μ i _ _).trans g2, g3⟩
theorem ls2 : ∀ d, d ≤ 19 → ∀ N, N < 10 ^ d → (1 ≤ d → 10 ^ (d - 1) ≤ N) → ∀ E : Nat → Nat, ∃ E' : Nat → Nat, (∀ p, p < d → 48 ≤ E' p ∧ E' p ≤ 57) ∧ (1 ≤ d → 49 ≤ E' 0) ∧ (∀ p, d ≤ p → E' p = E p) ∧ ∀ {X : XT} {e i n : Nat} {tm : T Value} {v4 : Value} {μ : Mem} {dp : Int} {neg tr : Bool}, Dec μ i E n dp neg tr → jac tm 0 = .pointer (some ⟨i, 0, none⟩) → jac tm 4 = v4 → jac tm 6 = .int .i64 (.ofNat d) → jac tm 7 = .int .u64 (.ofNat N) →
  LpC X (e + d + 40) Tryz.f214 1 137 tm μ fun x r μ' => x = .exit 2 ∧ Dec μ' i E' n dp neg tr ∧ Only μ μ' i ∧ ∃ tm', r = ⟨137, tm', [], none⟩ ∧ jac tm' 0 = .pointer (some ⟨i, 0, none⟩) ∧ jac tm' 4 = v4 := by
 intro d
 induction d with
 | zero =>
   intro _ N hN _ E
   have hN0 : N = 0 := by have : N < 1 := hN; omega
   subst hN0
   refine ⟨E, fun p hp => by omega, fun h => by omega, fun p _ => rfl, fun {X e i n tm v4 μ dp neg tr} h h0 h4 h6 h7 => ?_⟩
   have e1 : ilt 0 (.ofNat 0) = false := rfl
   refine jah ?_
   repeat (refine jaa rfl ?_; (try simp only [go_sem, h0, h4, h6, h7, e1]); fail_if_success refine stk ?_)
   exact ⟨by trivial, h, Only.refl _ _, _, rfl, by simp only [go_sem, h0], by simp only [go_sem, h4]⟩
 | succ d ih =>
   intro hd N hN1 hN2 E
   have hN2 : 10 ^ d ≤ N := hN2 (by omega)
   have hp := Nat.pow_pos (n := d) (show 0 < 10 by decide)
   have h10 := p10_19 hd
   rw [Nat.pow_succ] at hN1
   have hNb : N < 18446744073709551616 := by rw [Nat.pow_succ] at h10; omega
   have e1 : ilt 0 (.ofNat N) = true := dT (jao 0 N) (by omega)
   have q5 : aDiv false .u64 .u64 (.ofNat N) 10 = some (.int .u64 (.ofNat (N / 10))) := jgp hNb
   have q6 : jak .u64 (Int.mul 10 (.ofNat (N / 10))) = .ofNat (10 * (N / 10)) := jj9 (a := 10) (by omega)
   have q7 : jak .u64 (Int.sub (.ofNat N) (.ofNat (10 * (N / 10)))) = .ofNat (N % 10) := by rw [jj7 (by omega) hNb]; exact congrArg Int.ofNat (by omega)
   have q8 : jak .i64 (Int.sub (.ofNat (d + 1)) 1) = .ofNat d := jaV (d + 1) 1 (by omega) (by omega)
   have q9 : jak .u64 (Int.add (.ofNat (N % 10)) 48) = .ofNat (48 + N % 10) := by rw [Nat.add_comm]; exact jgq (b := 48) (by omega)
   have q10 : jak .u8 (.ofNat (48 + N % 10)) = .ofNat (48 + N % 10) := qu8 _ (by omega)
   have e2 : ilt (.ofNat d) 800 = true := dT (jao _ 800) (by omega)
   have hix2 : ∀ (i : Nat) (rg : Rg) (a b : Operand), aev pZ rg a = .pointer (some ⟨i, 0, none⟩) → aev pZ rg b = .int .i64 (.ofNat d) → jan pZ (aev pZ rg) 211 a b = some (.pointer (some ⟨i, d, none⟩)) := fun i rg a b g1 g2 => jcW (by omega) g1 g2
   obtain ⟨R, hR⟩ := exq (N % 10)
   obtain ⟨Q, hQ⟩ := exq (N / 10)
   obtain ⟨M2, hM2⟩ : ∃ M, M = 10 * Q := ⟨_, rfl⟩
   rw [← hQ] at q5 q6 q7
   rw [← hM2] at q6 q7
   rw [← hR] at q7 q9 q10
   obtain ⟨E', b1, b2, b3, hih⟩ := ih (by omega) Q (by omega) (fun hd1 => by
    obtain ⟨c, rfl⟩ : ∃ c, d = c + 1 := ⟨d - 1, by omega⟩
    rw [Nat.pow_succ] at hN2
    show 10 ^ c ≤ Q
    omega) (put1 E d (48 + R))
   have hEd : E' d = 48 + R := (b3 d (rzN _)).trans (if_pos rfl)
   refine ⟨E', fun p hp => ?_, fun _ => ?_, fun p hp => ?_, fun {X e i n tm v4 μ dp neg tr} h h0 h4 h6 h7 => ?_⟩
   ·by_cases e : p = d
    ·rw [e, hEd]; omega
    ·exact b1 p (by omega)
   ·by_cases e : d = 0
    ·subst e
     rw [hEd]
     have : N < 10 := by omega
     omega
    ·exact b2 (by omega)
   ·rw [b3 p (by omega)]; exact if_neg (by omega)
   have hs := st_d (v := 48 + R) h.blk (show d < 800 by omega)
   have hix2 := hix2 i
   refine jah ?_
   repeat (refine jaa rfl ?_; (try simp only [go_sem, h0, h4, h6, h7, jeC, e1, e2, q5, q6, q7, q8, q9, q10, hix2, hs]); fail_if_success refine stk ?_)
   rw [(by omega : e + (d + 1) + 39 = e + d + 40)]
   refine rzM (hih (v4 := v4) (h.setD (by omega)) (by simp only [go_sem, h0]) (by simp only [go_sem, h4]) (by simp only [go_sem]) (by simp only [go_sem])) ?_
   rintro x r μ' ⟨hx, g1, g2, g3⟩
   exact ⟨hx, g1, (Only.put μ i _ _).trans g2, g3⟩
end
noncomputable section
open Go.Proofs.YtlkenchibdeinaaGreatDoor.DecM (val Dg low carry less Cheat sumL jh9 jgi shifted jgv je1 jff)
@[go_sem] def gg213 {X ev} := gC X ev Tryz.func213 rfl rfl
@[go_sem] def gg245 {X ev} := gC X ev Tryz.func245 rfl rfl
@[go_sem] def gg214 {X ev} := gC X ev Tryz.func214 rfl rfl
@[go_sem] def gg215 {X ev} := gC X ev Tryz.func215 rfl rfl
@[go_sem] def gg216 {X ev} := gC X ev Tryz.func216 rfl rfl
@[go_sem] def gg165 {X ev} := gC X ev Tryz.func165 rfl rfl
@[go_sem] def gg283 {X ev} := gC X ev Tryz.func283 rfl rfl
@[go_sem] def gg274 {X ev} := gC X ev Tryz.func274 rfl rfl
@[go_sem] def gg275 {X ev} := gC X ev Tryz.func275 rfl rfl
def jau (fn : Func) : Code := match fn.body with
 | some c => c
 | _ => .skip
def jaM : Nat → Code → Code
 | n + 1, .seq _ b => jaM n b
 | 0, .seq a _ => a
 | _, c => c
def jaS : Nat → Code → Code
 | n + 1, .seq _ b => jaS n b
 | _, c => c
theorem sl2 : jau Tryz.f214 = .seq (jaM 0 (jau Tryz.f214)) (.seq (jaM 1 (jau Tryz.f214)) (jaS 2 (jau Tryz.f214))) := by kernel_rfl
theorem ls_tail {D : Nat → Nat} {n k δ : Nat} {tr : Bool} (hD : Dg D n) (hn0 : 0 < n) (hn : n ≤ 800) (hk1 : 1 ≤ k) (hk : k ≤ 60) (h0 : 49 ≤ D 0) (hδ : δ ≤ 19) (hv1 : 10 ^ (n + δ - 1) ≤ val D n * 2 ^ k) (hv2 : val D n * 2 ^ k < 10 ^ (n + δ)) :
  ∃ (D' : Nat → Nat) (n' : Nat) (tr' : Bool), Dg D' n' ∧ 49 ≤ D' 0 ∧ 0 < n' ∧ n' ≤ 800 ∧ (δ = 0 → D 0 < D' 0) ∧ ∀ {X : XT} {e i : Nat} {tm : T Value} {μ : Mem} {dp : Int} {neg : Bool}, -1000000 < dp → dp < 1000000 → Dec μ i D n dp neg tr → jac tm 0 = .pointer (some ⟨i, 0, none⟩) → jac tm 1 = .int .u64 (.ofNat k) → jac tm 4 = .int .i64 (.ofNat δ) →
  EndsC (jaj pZ X S0 (e + 2000) (jaS 2 (jau Tryz.f214)) ⟨137, tm, [], none⟩ μ) fun x r μ' => x = .normal ∧ Dec μ' i D' n' (dp + (δ : Int)) neg tr' ∧ Only μ μ' i ∧ ∃ tm', r = ⟨137, tm', [], none⟩ := by
 obtain ⟨c1, c2, c3⟩ := jgv hn0 hk1 hD h0 hv1 hv2
 obtain ⟨E1, tr1, b1, -, hlp1⟩ := ls1 (k := k) hD hn hk hδ n (rzN _) D tr (fun _ _ => rfl)
 obtain ⟨E2, d1, d2, d3, hlp2⟩ := ls2 δ hδ (carry D k 0 n) c1 c2 E1
 have hdg : ∀ p, p < n + δ → p < 800 → 48 ≤ E2 p ∧ E2 p ≤ 57 := fun p hp hp8 => by
  by_cases hpd : p < δ
  ·exact d1 p hpd
  ·rw [d3 p (by omega)]
   have := b1 (p - δ) (by omega) (by omega)
   rw [(by omega : p - δ + δ = p)] at this
   rw [this]; omega
 have hlead : 49 ≤ E2 0 ∧ (δ = 0 → D 0 < E2 0) := by
  by_cases hz : δ = 0
  ·subst hz
   have := b1 0 hn0 (by omega)
   rw [Nat.add_zero] at this
   have h3 := c3 rfl
   have hE : E2 0 = E1 0 := d3 0 (rzN _)
   rw [hE, this]
   exact ⟨by omega, fun _ => h3⟩
  ·exact ⟨d2 (by omega), fun e => absurd e hz⟩
 obtain ⟨N, hN⟩ := exq ((if n + δ < 800 then n + δ else 800))
 have hN1 : N ≤ 800 ∧ N ≤ n + δ ∧ 0 < N := by rw [hN]; split <;> omega
 obtain ⟨n', t1, t2, htr⟩ := trim_ex E2 N hN1.1
 have hn' : 0 < n' := by
  refine Nat.pos_of_ne_zero fun e => ?_
  have := t2 0 (by omega) hN1.2.2
  omega
 refine ⟨E2, n', tr1, fun p hp => hdg p (by omega) (by omega), hlead.1, hn', by omega, hlead.2, fun {X e i tm μ dp neg} hp1 hp2 h h0 h1 h4 => ?_⟩
 have hc := h.n
 have a1 : jak .i64 (Int.add (.ofNat n) (.ofNat δ)) = .ofNat (n + δ) := jaE n δ (by omega)
 have a2 : jak .i64 (Int.sub (.ofNat n) 1) = rdx n := jih (by omega)
 have hcz : (.int .u64 0 : Value) = .int .u64 (.ofNat (carry D k n (n - n))) := by rw [Nat.sub_self, DecM.carry_zero]; rfl
 repeat (refine jaa rfl ?_; (try simp only [go_sem, h0, h1, h4, hc, a1, a2]); fail_if_success refine stk ?_)
 rw [(by omega : e + 1994 = (e + 1954 - n) + n + 40)]
 refine rzM (hlp1 h (by simp only [go_sem, h0]) (by simp only [go_sem, h1]) (by simp only [go_sem, h4]) (by simp only [go_sem]) (by simp only [go_sem]) (by simp only [go_sem]; exact hcz)) ?_
 rintro x r μ' ⟨rfl, g1, g2, tm', rfl, h0, h4, h6, h7⟩
 simp only [go_sem]
 repeat (refine jaa rfl ?_; (try simp only [go_sem]); fail_if_success refine stk ?_)
 rw [(by omega : e + 1994 = (e + 1954 - δ) + δ + 40)]
 refine rzM (hlp2 (v4 := .int .i64 (.ofNat δ)) g1 (by simp only [go_sem, h0]) (by simp only [go_sem, h4]) (by simp only [go_sem, h6]) (by simp only [go_sem, h7])) ?_
 rintro x r μ2 ⟨rfl, k1, k2, tm2, rfl, h0, h4⟩
 simp only [go_sem]
 have hc := k1.n
 have hs1 := st_n (v := .ofNat (n + δ)) k1.blk
 by_cases h8 : n + δ < 800
 ·have e1 : ilt (.ofNat (n + δ)) 800 = true := dT (jao _ 800) h8
  rw [if_pos h8] at hN
  subst hN
  have w1 := k1.setN (n + δ)
  have hc1 := w1.n
  have hp := w1.p
  have a3 : jak .i64 (Int.add dp (.ofNat δ)) = dp + (δ : Int) := jcJ dp (δ : Int) (by omega) (by omega)
  have hs2 := st_p (v := dp + (δ : Int)) w1.blk
  obtain ⟨μ3, hr, z1, z2⟩ := htr (X := X) (g := e + 1991) (by omega) (w1.setP (dp + (δ : Int)))
  rw [if_neg (by omega)] at z1
  repeat (refine jaa rfl ?_; (try simp only [go_sem, h0, h4, hc, hc1, hp, a1, a3, e1, hs1, hs2, hr]); fail_if_success refine stk ?_)
  exact ⟨by trivial, z1, (g2.trans k2).trans (((Only.put _ _ _ _).trans (Only.put _ _ _ _)).trans z2), _, rfl⟩
 ·have e1 : ilt (.ofNat (n + δ)) 800 = false := dF (jao _ 800) h8
  rw [if_neg h8] at hN
  subst hN
  have w1 := k1.setN (n + δ)
  have hc1 := w1.n
  have hs3 := st_n (v := 800) w1.blk
  have w2 : Dec (putL (putL μ2 i 800 [.int .i64 (.ofNat (n + δ))]) i 800 [.int .i64 800]) i E2 800 dp neg tr1 := w1.setN 800
  have hp := w2.p
  have a3 : jak .i64 (Int.add dp (.ofNat δ)) = dp + (δ : Int) := jcJ dp (δ : Int) (by omega) (by omega)
  have hs2 := st_p (v := dp + (δ : Int)) w2.blk
  obtain ⟨μ3, hr, z1, z2⟩ := htr (X := X) (g := e + 1991) (by omega) (w2.setP (dp + (δ : Int)))
  rw [if_neg (by omega)] at z1
  repeat (refine jaa rfl ?_; (try simp only [go_sem, h0, h4, hc, hc1, hp, a1, a3, e1, hs1, hs2, hs3, hr]); fail_if_success refine stk ?_)
  exact ⟨by trivial, z1, (g2.trans k2).trans ((((Only.put _ _ _ _).trans (Only.put _ _ _ _)).trans (Only.put _ _ _ _)).trans z2), _, rfl⟩
attribute [local irreducible] jaS
theorem jhv {D : Nat → Nat} {n k : Nat} {tr : Bool} (hD : Dg D n) (hn0 : 0 < n) (hn : n ≤ 800) (hk1 : 1 ≤ k) (hk : k ≤ 60) (h0 : 49 ≤ D 0) :
  ∃ (D' : Nat → Nat) (n' δ : Nat) (tr' : Bool), δ ≤ 19 ∧ Dg D' n' ∧ 49 ≤ D' 0 ∧ 0 < n' ∧ n' ≤ 800 ∧ (δ = 0 → D 0 < D' 0) ∧ ∀ {X : XT} {g i : Nat} {μ : Mem} {dp : Int} {neg : Bool}, 2100 ≤ g → Lay μ → -1000000 < dp → dp < 1000000 → Dec μ i D n dp neg tr →
  ∃ μ', aFun pZ (jaj pZ X S0 g) 214 [.pointer (some ⟨i, 0, none⟩), .int .u64 (.ofNat k)] μ = some (.tuple #[], μ') ∧ Dec μ' i D' n' (dp + (δ : Int)) neg tr' ∧ Only μ μ' i := by
 obtain ⟨ch, hd19, hl100⟩ := cheats hk1 hk
 obtain ⟨sh1, sh2⟩ := shifted ch hD hn0 h0
 obtain ⟨b, hb⟩ := exq (less D n (chr (cut k)) 0 (bys (cut k)).length)
 rw [← hb] at sh1 sh2
 have hdp := ch.pos
 obtain ⟨D', n', tr', t1, t2, t3, t4, t5, hT⟩ := ls_tail (δ := if b then dlt k - 1 else dlt k) (tr := tr) hD hn0 hn hk1 hk h0 (by split <;> omega) (by cases b with
  | true => exact (sh1 rfl).1
  | false => exact (sh2 rfl).1) (by cases b with
  | true => exact (sh1 rfl).2
  | false => exact (sh2 rfl).2)
 refine ⟨D', n', (if b then dlt k - 1 else dlt k), tr', by split <;> omega, t1, t2, t3, t4, t5, fun {X g i μ dp neg} hg hL hp1 hp2 h => ?_⟩
 obtain ⟨f, rfl⟩ := gle hg
 obtain ⟨lb, lo, lc, l1, l2, l3⟩ := hL.lc
 obtain ⟨l4, l5⟩ := l3 k (by omega)
 have hix : ∀ rg x y, aev pZ rg x = .slice (some ⟨lb, lo, none⟩) 61 lc → aev pZ rg y = .int .u64 (.ofNat k) → jan pZ (aev pZ rg) 290 x y = some (.pointer (some ⟨lb, lo + 2 * k, none⟩)) := fun rg x y g1 g2 => by
  unfold jan
  simp only [g1, g2, Tryz.underlying290, aIdx, i_lc]
  rw [show Nat.blt k 61 = true from by simpa using (by omega : k < 61)]
  simp only [Addr.add]
  rw [show Nat.mul k Tryz.t289.size = 2 * k from Nat.mul_comm k 2]
  split
  ·rename_i h; rw [h]; rfl
  ·rfl
 have ad : ∀ q, Addr.add ⟨lb, lo + 2 * k, none⟩ q = ⟨lb, lo + 2 * k + q, none⟩ := fun q => by
  unfold Addr.add
  by_cases h : q = 0
  ·subst h; rfl
  ·rw [if_neg h]
 have hpre : ∃ fm : Nat → Nat → Nat, ∀ q m, 1100 ≤ q → aFun pZ (jaj pZ X S0 q) 245 [.slice (some ⟨i, 0, none⟩) n 1600, .string (cut k)] ⟨μ.obs, m⟩ = some (.bool b, ⟨μ.obs, m + fm q m⟩) := by
  have : ∀ q m, ∃ z, 1100 ≤ q → aFun pZ (jaj pZ X S0 q) 245 [.slice (some ⟨i, 0, none⟩) n 1600, .string (cut k)] ⟨μ.obs, m⟩ = some (.bool b, ⟨μ.obs, m + z⟩) := fun q m => by
   by_cases hq : 1100 ≤ q
   ·obtain ⟨z, hz⟩ := jij (s := cut k) (by omega) D n hn (X := X) (g := q) (bi := i) (c := 1600) (μ := ⟨μ.obs, m⟩) hq (fun j hj => h.d j (by omega))
    rw [← hb] at hz
    exact ⟨z, fun _ => hz⟩
   ·exact ⟨0, fun h => absurd h hq⟩
  exact ⟨fun q m => Classical.choose (this q m), fun q m hq => Classical.choose_spec (this q m) hq⟩
 obtain ⟨fm, hpre⟩ := hpre
 have hsl : ∀ rg x y, aev pZ rg x = .pointer (some ⟨i, 0, none⟩) → aev pZ rg y = .int .i64 (.ofNat n) → ja0 pZ (aev pZ rg) 211 x (some (.const (.int .i64 0))) (some y) none = some (.slice (some ⟨i, 0, none⟩) n 1600) := fun rg x y g1 g2 => by
  unfold ja0
  have b1 : Nat.ble n 800 = true := rzP hn
  have hz : aev pZ rg (.const (.int .i64 0)) = .int .i64 0 := rfl
  simp only [g1, Tryz.underlying211, i_u8, jbb, jbD, g2, b1, hz]
  rfl
 have hcn := fun m => (h.up m).n
 have m1 : ∀ z, jal ⟨μ.obs, z⟩ 7 0 = some (.slice (some ⟨lb, lo, none⟩) 61 lc) := fun z => l1
 have m5 : ∀ z, jal ⟨μ.obs, z⟩ lb (lo + 2 * k + 1) = some (.string (cut k)) := fun z => l5
 have q1 : jak .i64 (Int.sub (.ofNat (dlt k)) 1) = .ofNat (dlt k - 1) := jaV (dlt k) 1 hdp (by omega)
 have key : EndsF (aFun pZ (jaj pZ X S0 (f + 2100)) 214 [.pointer (some ⟨i, 0, none⟩), .int .u64 (.ofNat k)] μ) fun v μ' => v = .tuple #[] ∧ Dec μ' i D' n' (dp + ((if b then dlt k - 1 else dlt k : Nat) : Int)) neg tr' ∧ Only μ μ' i := by
  refine jaf Tryz.func214 rfl rfl (nbl rfl) ?_
  simp only [go_sem, Tryz.ntmps214]
  change EndsC (jaj pZ X S0 _ (jau Tryz.f214) _ _) _
  rw [sl2]
  refine jag ?_
  refine jaD ?_ ?_
  ·rfl
  simp only [go_sem, nL, ad, Nat.add_zero, fa_lc0, fa_lc1, ld_Cs, jaT, ld_str, l1, l4, l5, hix]
  refine jag ?_
  refine jag ?_
  refine jaz (n := 14) (ms := [0, 1, 3, 0, 8, 24, 56, 127, 0, 0, 768, 1792, 3840, 8191]) (ord := [0, 1, 2, 3, 4, 5, 6, 7, 8, 9, 10, 11, 12, 13]) (ds := ?_) ?_ ?_ ?_ ?_ ?_ ?_
  rotate_left
  ·kernel_rfl
  ·kernel_rfl
  ·kernel_rfl
  ·rfl
  ·rfl
  iterate 14 (refine jay (by first | rfl | (simp only [go_sem, nL, ad, Nat.add_zero, jba, jaW, fa_lc0, fa_lc1, ld_Cs, jaT, ld_str, m1, m5, hcn, hix, hsl, gg245, hpre, Nat.reduceLeDiff])) (by simp only [jaC, heavy, jaO, jar, go_sem, nL, ad, Nat.add_zero, jba, jaW, fa_lc0, fa_lc1, ld_Cs, jaT, ld_str, m1, m5, hcn, hix, hsl, gg245, hpre, Nat.reduceLeDiff]; try exact rfl) rfl ?_)
  simp only [dRun, jat, jai]
  cases b with
  | true =>
    repeat (refine jaa rfl ?_; (try simp only [go_sem, q1]); fail_if_success refine stk ?_)
    refine rzM (hT (e := f + 98) hp1 hp2 (h.up _) (by simp only [go_sem]) (by simp only [go_sem]) (by simp only [go_sem])) ?_
    rintro x r μ' ⟨rfl, g1, g2, tm', rfl⟩
    exact ⟨rfl, _, rfl, rfl, g1, (Only.refl μ i).trans ⟨rzS (by show μ.next ≤ _; simp only []; omega) g2.1, fun j hj hn => g2.2 j (rzO hj (by show μ.next ≤ _; simp only []; omega)) hn⟩⟩
  | false =>
    repeat (refine jaa rfl ?_; (try simp only [go_sem]); fail_if_success refine stk ?_)
    refine rzM (hT (e := f + 98) hp1 hp2 (h.up _) (by simp only [go_sem]) (by simp only [go_sem]) (by simp only [go_sem]; try rfl)) ?_
    rintro x r μ' ⟨rfl, g1, g2, tm', rfl⟩
    exact ⟨rfl, _, rfl, rfl, g1, (Only.refl μ i).trans ⟨rzS (by show μ.next ≤ _; simp only []; omega) g2.1, fun j hj hn => g2.2 j (rzO hj (by show μ.next ≤ _; simp only []; omega)) hn⟩⟩
 obtain ⟨v, μ', h1, rfl, h2, h3⟩ := key
 exact ⟨μ', h1, h2, h3⟩
end
noncomputable section
open Go.Proofs.YtlkenchibdeinaaGreatDoor.DecM (val Dg pad jho pad_off pad_dg jfd jfh dig_lt jgC jjk jjj jff)
theorem n_mask {a k : Nat} (hk : k ≤ 60) (ha : a < 18446744073709551616) : jbA Nat.land .u64 .u64 (.ofNat a) (.ofNat (2 ^ k - 1)) = some (.int .u64 (.ofNat (a % 2 ^ k))) := by
 have := jff hk
 rw [jfJ _ _ ha (by omega), Nat.and_two_pow_sub_one_eq_mod, W_of (Nat.lt_of_le_of_lt (Nat.mod_le _ _) ha)]
theorem n_one {k : Nat} (hk : k ≤ 60) : jaQ true .u64 1 (.ofNat k) = some (.int .u64 (.ofNat (2 ^ k))) := by
 have := jff hk
 have h := n_shl (a := 1) (y := k) (by omega) (by omega)
 rw [Nat.one_mul] at h
 exact h
section
variable {D : Nat → Nat} {n k r0 : Nat}
theorem rs_in (hk : k ≤ 60) (h10 : val (pad D n) r0 < 10 * 2 ^ k) (h2 : 2 ^ k ≤ val (pad D n) r0) (hlt : ∀ t, t < r0 → val (pad D n) t < 2 ^ k) (hr20 : r0 ≤ 20) : ∀ m r, r + m = r0 → n ≤ r → ∀ {X : XT} {e : Nat} {tm : T Value} {v0 v5 : Value} {μ : Mem}, jac tm 0 = v0 → jac tm 1 = .int .u64 (.ofNat k) → jac tm 4 = .int .i64 (.ofNat r) → jac tm 5 = v5 → jac tm 6 = .int .u64 (.ofNat (val (pad D n) r)) →
  LpC X (e + m + 40) Tryz.f215 1 130 tm μ fun x r μ' => x = .exit 2 ∧ μ' = μ ∧ ∃ tm', r = ⟨130, tm', [], none⟩ ∧ jac tm' 0 = v0 ∧ jac tm' 1 = .int .u64 (.ofNat k) ∧ jac tm' 4 = .int .i64 (.ofNat r0) ∧ jac tm' 5 = v5 ∧ jac tm' 6 = .int .u64 (.ofNat (val (pad D n) r0)) := by
 have p60 := jff hk
 intro m
 induction m with
 | zero =>
   intro r hr hnr X e tm v0 v5 μ h0 h1 h4 h5 h6
   obtain rfl : r = r0 := hr
   have q1 : jaQ false .u64 (.ofNat (val (pad D n) r)) (.ofNat k) = some (.int .u64 (.ofNat (val (pad D n) r / 2 ^ k))) := jj8 (by omega) (by omega)
   have e1 : ieq (.ofNat (val (pad D n) r / 2 ^ k)) 0 = false := dF (jaB _ 0 0 rfl) (by have := jgC h2; omega)
   refine jah ?_
   repeat (refine jaa rfl ?_; (try simp only [go_sem, h0, h1, h4, h5, h6, q1, e1]); fail_if_success refine stk ?_)
   exact ⟨by trivial, by trivial, _, rfl, by simp only [go_sem, h0], by simp only [go_sem, h1], by simp only [go_sem, h4], by simp only [go_sem, h5], by simp only [go_sem, h6]⟩
 | succ m ih =>
   intro r hr hnr X e tm v0 v5 μ h0 h1 h4 h5 h6
   have hv := hlt r (by omega)
   have hs : val (pad D n) (r + 1) = val (pad D n) r * 10 := by show val (pad D n) r * 10 + (pad D n r - 48) = _; rw [pad_off hnr]; omega
   have q1 : jaQ false .u64 (.ofNat (val (pad D n) r)) (.ofNat k) = some (.int .u64 (.ofNat (val (pad D n) r / 2 ^ k))) := jj8 (by omega) (by omega)
   have e1 : ieq (.ofNat (val (pad D n) r / 2 ^ k)) 0 = true := dT (jaB _ 0 0 rfl) (Nat.div_eq_of_lt hv)
   have q2 : jak .u64 (Int.mul (.ofNat (val (pad D n) r)) 10) = .ofNat (val (pad D n) (r + 1)) := by rw [hs]; exact jj9 (b := 10) (by omega)
   have q3 : jak .i64 (Int.add (.ofNat r) 1) = .ofNat (r + 1) := jaE r 1 (by omega)
   refine jah ?_
   repeat (refine jaa rfl ?_; (try simp only [go_sem, h0, h1, h4, h5, h6, q1, q2, q3, e1]); fail_if_success refine stk ?_)
   rw [(by omega : e + (m + 1) + 39 = e + m + 40)]
   exact ih (r + 1) (by omega) (by omega) (v0 := v0) (v5 := v5) (by simp only [go_sem, h0]) (by simp only [go_sem, h1]) (by simp only [go_sem]) (by simp only [go_sem, h5]) (by simp only [go_sem])
theorem rs1 (hD : Dg D n) (hn0 : 0 < n) (hn : n ≤ 800) (hd0 : 49 ≤ D 0) (hk : k ≤ 60) (h10 : val (pad D n) r0 < 10 * 2 ^ k) (h2 : 2 ^ k ≤ val (pad D n) r0) (hlt : ∀ t, t < r0 → val (pad D n) t < 2 ^ k) (hr20 : r0 ≤ 20) : ∀ m r, r + m = r0 → ∀ {X : XT} {e i : Nat} {tm : T Value} {v5 : Value} {μ : Mem} {dp : Int} {neg tr : Bool}, Dec μ i D n dp neg tr → jac tm 0 = .pointer (some ⟨i, 0, none⟩) → jac tm 1 = .int .u64 (.ofNat k) → jac tm 4 = .int .i64 (.ofNat r) → jac tm 5 = v5 → jac tm 6 = .int .u64 (.ofNat (val (pad D n) r)) →
  LpC X (e + m + 90) Tryz.f215 0 130 tm μ fun x r μ' => x = .exit 0 ∧ μ' = μ ∧ ∃ tm', r = ⟨130, tm', [], none⟩ ∧ jac tm' 0 = .pointer (some ⟨i, 0, none⟩) ∧ jac tm' 1 = .int .u64 (.ofNat k) ∧ jac tm' 4 = .int .i64 (.ofNat r0) ∧ jac tm' 5 = v5 ∧ jac tm' 6 = .int .u64 (.ofNat (val (pad D n) r0)) := by
 have p60 := jff hk
 intro m
 induction m with
 | zero =>
   intro r hr X e i tm v5 μ dp neg tr h h0 h1 h4 h5 h6
   obtain rfl : r = r0 := hr
   have q1 : jaQ false .u64 (.ofNat (val (pad D n) r)) (.ofNat k) = some (.int .u64 (.ofNat (val (pad D n) r / 2 ^ k))) := jj8 (by omega) (by omega)
   have e1 : ieq (.ofNat (val (pad D n) r / 2 ^ k)) 0 = false := dF (jaB _ 0 0 rfl) (by have := jgC h2; omega)
   refine jah ?_
   repeat (refine jaa rfl ?_; (try simp only [go_sem, h0, h1, h4, h5, h6, q1, e1]); fail_if_success refine stk ?_)
   exact ⟨by trivial, by trivial, _, rfl, by simp only [go_sem, h0], by simp only [go_sem, h1], by simp only [go_sem, h4], by simp only [go_sem, h5], by simp only [go_sem, h6]⟩
 | succ m ih =>
   intro r hr X e i tm v5 μ dp neg tr h h0 h1 h4 h5 h6
   have hv := hlt r (by omega)
   have q1 : jaQ false .u64 (.ofNat (val (pad D n) r)) (.ofNat k) = some (.int .u64 (.ofNat (val (pad D n) r / 2 ^ k))) := jj8 (by omega) (by omega)
   have e1 : ieq (.ofNat (val (pad D n) r / 2 ^ k)) 0 = true := dT (jaB _ 0 0 rfl) (Nat.div_eq_of_lt hv)
   have hc := h.n
   by_cases hrn : r < n
   ·have e2 : ilt (.ofNat r) (.ofNat n) = true := dT (jao _ _) hrn
    obtain ⟨dr1, dr2⟩ := hD r hrn
    have hs : val (pad D n) (r + 1) = val (pad D n) r * 10 + D r - 48 := by show val (pad D n) r * 10 + (pad D n r - 48) = _; rw [jho hrn]; omega
    have q2 : jak .u64 (Int.mul (.ofNat (val (pad D n) r)) 10) = .ofNat (val (pad D n) r * 10) := jj9 (b := 10) (by omega)
    have q4 : jak .u64 (Int.add (.ofNat (val (pad D n) r * 10)) (.ofNat (D r))) = .ofNat (val (pad D n) r * 10 + D r) := jgq (by omega)
    have q5 : jak .u64 (Int.sub (.ofNat (val (pad D n) r * 10 + D r)) 48) = .ofNat (val (pad D n) (r + 1)) := by rw [hs]; exact jj7 (b := 48) (by omega) (by omega)
    have q3 : jak .i64 (Int.add (.ofNat r) 1) = .ofNat (r + 1) := jaE r 1 (by omega)
    have q6 : jak .u64 (.ofNat (D r)) = .ofNat (D r) := nw (by omega)
    have hix : ∀ rg a b, aev pZ rg a = .pointer (some ⟨i, 0, none⟩) → aev pZ rg b = .int .i64 (.ofNat r) → jan pZ (aev pZ rg) 211 a b = some (.pointer (some ⟨i, r, none⟩)) := fun rg a b g1 g2 => jcW (by omega) g1 g2
    have hd := h.d r (by omega)
    refine jah ?_
    repeat (refine jaa rfl ?_; (try simp only [go_sem, h0, h1, h4, h5, h6, hc, hd, jfp, q1, q2, q3, q4, q5, q6, hix, e1, e2]); fail_if_success refine stk ?_)
    rw [(by omega : e + (m + 1) + 89 = e + m + 90)]
    exact ih (r + 1) (by omega) (v5 := v5) h (by simp only [go_sem, h0]) (by simp only [go_sem, h1]) (by simp only [go_sem]) (by simp only [go_sem, h5]) (by simp only [go_sem])
   ·have e2 : ilt (.ofNat r) (.ofNat n) = false := dF (jao _ _) hrn
    have hpos : 1 ≤ val (pad D n) r := by
     have := DecM.val_ge (D := pad D n) (n := r) (by omega) (by rw [jho hn0]; exact hd0)
     have := Nat.pow_pos (n := r - 1) (show 0 < 10 by decide)
     omega
    have e3 : ieq (.ofNat (val (pad D n) r)) 0 = false := dF (jaB _ 0 0 rfl) (by omega)
    refine jah ?_
    repeat (refine jaa rfl ?_; (try simp only [go_sem, h0, h1, h4, h5, h6, hc, q1, e1, e2, e3]); fail_if_success refine stk ?_)
    rw [(by omega : e + (m + 1) + 80 = e + 40 + (m + 1) + 40)]
    refine rzM (rs_in hk h10 h2 hlt hr20 (m + 1) r hr (by omega) (v0 := .pointer (some ⟨i, 0, none⟩)) (v5 := v5) (by simp only [go_sem, h0]) (by simp only [go_sem, h1]) (by simp only [go_sem, h4]) (by simp only [go_sem, h5]) (by simp only [go_sem, h6])) ?_
    rintro x r' μ' ⟨rfl, rfl, tm', rfl, g0, g1, g4, g5, g6⟩
    simp only [go_sem]
    refine jbw ?_
    exact ⟨by trivial, by trivial, _, rfl, g0, g1, g4, g5, g6⟩
theorem rs2 (hD : Dg D n) (hn : n ≤ 800) (hk : k ≤ 60) : ∀ j r w N, n - r = j → w < r → N < 10 * 2 ^ k → ∀ E : Nat → Nat, (∀ t, r ≤ t → t < n → E t = D t) →
  ∃ (E' : Nat → Nat) (N' : Nat), N' < 10 * 2 ^ k ∧ (∀ t, w ≤ t → t < w + j → 48 ≤ E' t ∧ E' t ≤ 57) ∧ (∀ t, t < w → E' t = E t) ∧ (0 < j → E' w = N / 2 ^ k + 48) ∧ (j = 0 → N' = N) ∧ ∀ {X : XT} {e i : Nat} {tm : T Value} {μ : Mem} {dp : Int} {neg tr : Bool}, Dec μ i E n dp neg tr → jac tm 0 = .pointer (some ⟨i, 0, none⟩) → jac tm 1 = .int .u64 (.ofNat k) → jac tm 4 = .int .i64 (.ofNat r) → jac tm 5 = .int .i64 (.ofNat w) → jac tm 6 = .int .u64 (.ofNat N) → jac tm 8 = .int .u64 (.ofNat (2 ^ k - 1)) →
  LpC X (e + j + 50) Tryz.f215 2 130 tm μ fun x r μ' => x = .exit 4 ∧ Dec μ' i E' n dp neg tr ∧ Only μ μ' i ∧ ∃ tm', r = ⟨130, tm', [], none⟩ ∧ jac tm' 0 = .pointer (some ⟨i, 0, none⟩) ∧ jac tm' 1 = .int .u64 (.ofNat k) ∧ jac tm' 5 = .int .i64 (.ofNat (w + j)) ∧ jac tm' 6 = .int .u64 (.ofNat N') ∧ jac tm' 8 = .int .u64 (.ofNat (2 ^ k - 1)) := by
 have p60 := jff hk
 intro j
 induction j with
 | zero =>
   intro r w N hj hw hN E hE
   refine ⟨E, N, hN, fun t h1 h2 => by omega, fun t _ => rfl, fun h => by omega, fun _ => rfl, fun {X e i tm μ dp neg tr} h h0 h1 h4 h5 h6 h8 => ?_⟩
   have hc := h.n
   have e1 : ilt (.ofNat r) (.ofNat n) = false := dF (jao _ _) (by omega)
   refine jah ?_
   repeat (refine jaa rfl ?_; (try simp only [go_sem, h0, h1, h4, h5, h6, h8, hc, e1]); fail_if_success refine stk ?_)
   exact ⟨by trivial, h, Only.refl _ _, _, rfl, by simp only [go_sem, h0], by simp only [go_sem, h1], by simp only [go_sem, h5]; rfl, by simp only [go_sem, h6], by simp only [go_sem, h8]⟩
 | succ j ih =>
   intro r w N hj hw hN E hE
   have hrn : r < n := by omega
   obtain ⟨dr1, dr2⟩ := hD r hrn
   have hdg := dig_lt hN
   have hst := jfh (N := N) (k := k) (c := D r - 48) (by omega)
   have e1 : ilt (.ofNat r) (.ofNat n) = true := dT (jao _ _) hrn
   have q1 : jaQ false .u64 (.ofNat N) (.ofNat k) = some (.int .u64 (.ofNat (N / 2 ^ k))) := jj8 (by omega) (by omega)
   have q2 : jbA Nat.land .u64 .u64 (.ofNat N) (.ofNat (2 ^ k - 1)) = some (.int .u64 (.ofNat (N % 2 ^ k))) := n_mask hk (by omega)
   have q3 : jak .u64 (Int.add (.ofNat (N / 2 ^ k)) 48) = .ofNat (N / 2 ^ k + 48) := jgq (b := 48) (by omega)
   have q4 : jak .u8 (.ofNat (N / 2 ^ k + 48)) = .ofNat (N / 2 ^ k + 48) := qu8 _ (by omega)
   have q5 : jak .i64 (Int.add (.ofNat w) 1) = .ofNat (w + 1) := jaE w 1 (by omega)
   have q6 : jak .u64 (Int.mul (.ofNat (N % 2 ^ k)) 10) = .ofNat (N % 2 ^ k * 10) := jj9 (b := 10) (by omega)
   have q7 : jak .u64 (Int.add (.ofNat (N % 2 ^ k * 10)) (.ofNat (D r))) = .ofNat (N % 2 ^ k * 10 + D r) := jgq (by omega)
   have q8 : jak .u64 (Int.sub (.ofNat (N % 2 ^ k * 10 + D r)) 48) = .ofNat (N % 2 ^ k * 10 + (D r - 48)) := (jj7 (b := 48) (by omega) (by omega)).trans (congrArg Int.ofNat (by omega))
   have q9 : jak .i64 (Int.add (.ofNat r) 1) = .ofNat (r + 1) := jaE r 1 (by omega)
   have q10 : jak .u64 (.ofNat (D r)) = .ofNat (D r) := nw (by omega)
   obtain ⟨K, hK⟩ : ∃ K, K = 2 ^ k - 1 := ⟨_, rfl⟩
   obtain ⟨G, hG⟩ := exq (N / 2 ^ k)
   obtain ⟨R, hR⟩ := exq (N % 2 ^ k)
   obtain ⟨M, hM⟩ := exq (N % 2 ^ k * 10 + (D r - 48))
   rw [← hM] at q8 hst
   rw [← hG] at q1 q3 q4 hdg
   rw [← hR] at q2 q6 q7 q8
   rw [← hK] at q2 ih ⊢
   obtain ⟨E', N', b1, b2, b3, b4, b5, hih⟩ := ih (r + 1) (w + 1) M (by omega) (by omega) hst (put1 E w (G + 48)) fun t ht1 ht2 => by unfold put1; rw [if_neg (by omega)]; exact hE t (by omega) ht2
   have hEw : E' w = G + 48 := (b3 w (by omega)).trans (if_pos rfl)
   refine ⟨E', N', b1, fun t h1 h2 => ?_, fun t ht => ?_, fun _ => by rw [hEw, hG], fun h => by omega, fun {X e i tm μ dp neg tr} h h0 h1 h4 h5 h6 h8 => ?_⟩
   ·by_cases e : t = w
    ·rw [e, hEw]; omega
    ·exact b2 t (by omega) (by omega)
   ·rw [b3 t (by omega)]; exact if_neg (by omega)
   have hc := h.n
   have hd := h.d r (by omega)
   rw [hE r (rzN _) hrn] at hd
   have hix : ∀ rg a b, aev pZ rg a = .pointer (some ⟨i, 0, none⟩) → aev pZ rg b = .int .i64 (.ofNat r) → jan pZ (aev pZ rg) 211 a b = some (.pointer (some ⟨i, r, none⟩)) := fun rg a b g1 g2 => jcW (by omega) g1 g2
   have hix2 : ∀ rg a b, aev pZ rg a = .pointer (some ⟨i, 0, none⟩) → aev pZ rg b = .int .i64 (.ofNat w) → jan pZ (aev pZ rg) 211 a b = some (.pointer (some ⟨i, w, none⟩)) := fun rg a b g1 g2 => jcW (by omega) g1 g2
   have hs := st_d (v := G + 48) h.blk (show w < 800 by omega)
   refine jah ?_
   repeat (refine jaa rfl ?_; (try simp only [go_sem, h0, h1, h4, h5, h6, h8, hc, hd, jfp, jeC, e1, q1, q2, q3, q4, q5, q6, q7, q8, q9, q10, hix, hix2, hs]); fail_if_success refine stk ?_)
   rw [(by omega : e + (j + 1) + 49 = e + j + 50)]
   refine rzM (hih (h.setD (by omega)) (by simp only [go_sem, h0]) (by simp only [go_sem, h1]) (by simp only [go_sem]) (by simp only [go_sem]) (by simp only [go_sem]) (by simp only [go_sem, h8])) ?_
   rintro x r' μ' ⟨hx, g1, g2, tm', g3, g4, g5, g6, g7⟩
   exact ⟨hx, g1, (Only.put μ i _ _).trans g2, tm', g3, g4, g5, g6.trans (by rw [(by omega : w + 1 + j = w + (j + 1))]), g7⟩
theorem rs3z {E : Nat → Nat} {w : Nat} {X : XT} {e i : Nat} {tm : T Value} {μ : Mem} {dp : Int} {neg tr : Bool} (h : Dec μ i E n dp neg tr) (h0 : jac tm 0 = .pointer (some ⟨i, 0, none⟩)) (h5 : jac tm 5 = .int .i64 (.ofNat w)) (h6 : jac tm 6 = .int .u64 (.ofNat 0)) :
  LpC X (e + 50) Tryz.f215 3 130 tm μ fun x r μ' => x = .exit 6 ∧ Dec μ' i E n dp neg tr ∧ Only μ μ' i ∧ ∃ tm', r = ⟨130, tm', [], none⟩ ∧ jac tm' 0 = .pointer (some ⟨i, 0, none⟩) ∧ jac tm' 5 = .int .i64 (.ofNat w) := by
 have e1 : ilt 0 (.ofNat 0) = false := rfl
 refine jah ?_
 repeat (refine jaa rfl ?_; (try simp only [go_sem, h0, h5, h6, e1]); fail_if_success refine stk ?_)
 exact ⟨by trivial, h, Only.refl _ _, _, rfl, by simp only [go_sem, h0], by simp only [go_sem, h5]⟩
theorem rs3 (hk : k ≤ 60) : ∀ m N w, N < 10 * 2 ^ k → (N = 0 ∨ (1 ≤ m ∧ m ≤ k + 1 ∧ 2 ^ (k + 1 - m) ∣ N)) → w ≤ 800 → ∀ (E : Nat → Nat) (tr : Bool),
  ∃ (E' : Nat → Nat) (w' : Nat) (tr' : Bool), w ≤ w' ∧ w' ≤ 800 ∧ (∀ t, w ≤ t → t < w' → 48 ≤ E' t ∧ E' t ≤ 57) ∧ (∀ t, t < w → E' t = E t) ∧ (0 < N → w < 800 → w < w' ∧ E' w = N / 2 ^ k + 48) ∧ ∀ {X : XT} {e i : Nat} {tm : T Value} {μ : Mem} {dp : Int} {neg : Bool}, Dec μ i E n dp neg tr → jac tm 0 = .pointer (some ⟨i, 0, none⟩) → jac tm 1 = .int .u64 (.ofNat k) → jac tm 5 = .int .i64 (.ofNat w) → jac tm 6 = .int .u64 (.ofNat N) → jac tm 8 = .int .u64 (.ofNat (2 ^ k - 1)) →
  LpC X (e + m + 50) Tryz.f215 3 130 tm μ fun x r μ' => x = .exit 6 ∧ Dec μ' i E' n dp neg tr' ∧ Only μ μ' i ∧ ∃ tm', r = ⟨130, tm', [], none⟩ ∧ jac tm' 0 = .pointer (some ⟨i, 0, none⟩) ∧ jac tm' 5 = .int .i64 (.ofNat w') := by
 have p60 := jff hk
 intro m
 induction m with
 | zero =>
   intro N w hN hm hw E tr
   have hz : N = 0 := by omega
   subst hz
   exact ⟨E, w, tr, rzN _, hw, fun t h1 h2 => by omega, fun t _ => rfl, fun h => by omega, fun {X e i tm μ dp neg} h h0 h1 h5 h6 h8 => rs3z h h0 h5 h6⟩
 | succ m ih =>
   intro N w hN hm hw E tr
   by_cases hz : N = 0
   ·subst hz
    exact ⟨E, w, tr, rzN _, hw, fun t h1 h2 => by omega, fun t _ => rfl, fun h => by omega, fun {X e i tm μ dp neg} h h0 h1 h5 h6 h8 => rs3z (e := e + (m + 1)) h h0 h5 h6⟩
   have hm := hm.resolve_left hz
   have hdg := dig_lt hN
   have hst : N % 2 ^ k * 10 < 10 * 2 ^ k := jfh (N := N) (k := k) (c := 0) (by omega)
   have hnext : N % 2 ^ k * 10 = 0 ∨ (1 ≤ m ∧ m ≤ k + 1 ∧ 2 ^ (k + 1 - m) ∣ N % 2 ^ k * 10) := by
    by_cases hm0 : m = 0
    ·subst hm0
     exact .inl (jjj hm.2.2)
    ·refine .inr ⟨by omega, by omega, ?_⟩
     have := jjk hm.2.2 (show k + 1 - (m + 1) < k by omega)
     rw [(by omega : k + 1 - (m + 1) + 1 = k + 1 - m)] at this
     exact this
   have e1 : ilt 0 (.ofNat N) = true := dT (jao 0 N) (by omega)
   have q1 : jaQ false .u64 (.ofNat N) (.ofNat k) = some (.int .u64 (.ofNat (N / 2 ^ k))) := jj8 (by omega) (by omega)
   have q2 : jbA Nat.land .u64 .u64 (.ofNat N) (.ofNat (2 ^ k - 1)) = some (.int .u64 (.ofNat (N % 2 ^ k))) := n_mask hk (by omega)
   have q3 : jak .u64 (Int.add (.ofNat (N / 2 ^ k)) 48) = .ofNat (N / 2 ^ k + 48) := jgq (b := 48) (by omega)
   have q4 : jak .u8 (.ofNat (N / 2 ^ k + 48)) = .ofNat (N / 2 ^ k + 48) := qu8 _ (by omega)
   have q5 : jak .i64 (Int.add (.ofNat w) 1) = .ofNat (w + 1) := jaE w 1 (by omega)
   have q6 : jak .u64 (Int.mul (.ofNat (N % 2 ^ k)) 10) = .ofNat (N % 2 ^ k * 10) := jj9 (b := 10) (by omega)
   obtain ⟨K, hK⟩ : ∃ K, K = 2 ^ k - 1 := ⟨_, rfl⟩
   obtain ⟨G, hG⟩ := exq (N / 2 ^ k)
   obtain ⟨R, hR⟩ := exq (N % 2 ^ k)
   obtain ⟨M, hM⟩ := exq (N % 2 ^ k * 10)
   rw [← hM] at q6 hst hnext
   rw [← hG] at q1 q3 q4 hdg
   rw [← hR] at q2 q6
   rw [← hK] at q2 ih ⊢
   by_cases hw8 : w < 800
   ·have e2 : ilt (.ofNat w) 800 = true := dT (jao _ 800) hw8
    obtain ⟨E', w', tr', b1, b2, b3, b4, b5, hih⟩ := ih M (w + 1) hst hnext (by omega) (put1 E w (G + 48)) tr
    have hEw : E' w = G + 48 := (b4 w (by omega)).trans (if_pos rfl)
    refine ⟨E', w', tr', by omega, b2, fun t h1 h2 => ?_, fun t ht => ?_, fun _ _ => ⟨by omega, by rw [hEw, hG]⟩, fun {X e i tm μ dp neg} h h0 h1 h5 h6 h8 => ?_⟩
    ·by_cases e : t = w
     ·rw [e, hEw]; omega
     ·exact b3 t (by omega) h2
    ·rw [b4 t (by omega)]; exact if_neg (by omega)
    have hix2 : ∀ rg a b, aev pZ rg a = .pointer (some ⟨i, 0, none⟩) → aev pZ rg b = .int .i64 (.ofNat w) → jan pZ (aev pZ rg) 211 a b = some (.pointer (some ⟨i, w, none⟩)) := fun rg a b g1 g2 => jcW (by omega) g1 g2
    have hs := st_d (v := G + 48) h.blk hw8
    refine jah ?_
    repeat (refine jaa rfl ?_; (try simp only [go_sem, h0, h1, h5, h6, h8, jeC, e1, e2, q1, q2, q3, q4, q5, q6, hix2, hs]); fail_if_success refine stk ?_)
    rw [(by omega : e + (m + 1) + 49 = e + m + 50)]
    refine rzM (hih (h.setD hw8) (by simp only [go_sem, h0]) (by simp only [go_sem, h1]) (by simp only [go_sem]) (by simp only [go_sem]) (by simp only [go_sem, h8])) ?_
    rintro x r' μ' ⟨hx, g1, g2, g3⟩
    exact ⟨hx, g1, (Only.put μ i _ _).trans g2, g3⟩
   ·have e2 : ilt (.ofNat w) 800 = false := dF (jao _ 800) hw8
    by_cases hg0 : G = 0
    ·have e3 : ilt 0 (.ofNat G) = false := dF (jao 0 G) (by omega)
     obtain ⟨E', w', tr', b1, b2, b3, b4, b5, hih⟩ := ih M w hst hnext hw E tr
     refine ⟨E', w', tr', b1, b2, b3, b4, fun _ h => absurd h hw8, fun {X e i tm μ dp neg} h h0 h1 h5 h6 h8 => ?_⟩
     refine jah ?_
     repeat (refine jaa rfl ?_; (try simp only [go_sem, h0, h1, h5, h6, h8, e1, e2, e3, q1, q2, q6]); fail_if_success refine stk ?_)
     rw [(by omega : e + (m + 1) + 49 = e + m + 50)]
     exact hih h (by simp only [go_sem, h0]) (by simp only [go_sem, h1]) (by simp only [go_sem, h5]) (by simp only [go_sem]) (by simp only [go_sem, h8])
    ·have e3 : ilt 0 (.ofNat G) = true := dT (jao 0 G) (by omega)
     obtain ⟨E', w', tr', b1, b2, b3, b4, b5, hih⟩ := ih M w hst hnext hw E true
     refine ⟨E', w', tr', b1, b2, b3, b4, fun _ h => absurd h hw8, fun {X e i tm μ dp neg} h h0 h1 h5 h6 h8 => ?_⟩
     have hs := st_t (v := true) h.blk
     refine jah ?_
     repeat (refine jaa rfl ?_; (try simp only [go_sem, h0, h1, h5, h6, h8, e1, e2, e3, q1, q2, q6, hs]); fail_if_success refine stk ?_)
     rw [(by omega : e + (m + 1) + 49 = e + m + 50)]
     refine rzM (hih (h.setT true) (by simp only [go_sem, h0]) (by simp only [go_sem, h1]) (by simp only [go_sem, h5]) (by simp only [go_sem]) (by simp only [go_sem, h8])) ?_
     rintro x r' μ' ⟨hx, g1, g2, g3⟩
     exact ⟨hx, g1, (Only.put μ i _ _).trans g2, g3⟩
end
theorem jdY {D : Nat → Nat} {n k : Nat} {tr : Bool} (hD : Dg D n) (hn0 : 0 < n) (hn : n ≤ 800) (hk1 : 1 ≤ k) (hk : k ≤ 60) (h0 : 49 ≤ D 0) :
  ∃ (D' : Nat → Nat) (n' q : Nat) (tr' : Bool), q ≤ 19 ∧ Dg D' n' ∧ 49 ≤ D' 0 ∧ 0 < n' ∧ n' ≤ 800 ∧ (q = 0 → D' 0 < D 0) ∧ ∀ {X : XT} {g i : Nat} {μ : Mem} {dp : Int} {neg : Bool}, 2100 ≤ g → -1000000 < dp → dp < 1000000 → Dec μ i D n dp neg tr →
  ∃ μ', aFun pZ (jaj pZ X S0 g) 215 [.pointer (some ⟨i, 0, none⟩), .int .u64 (.ofNat k)] μ = some (.tuple #[], μ') ∧ Dec μ' i D' n' (dp - (q : Int)) neg tr' ∧ Only μ μ' i := by
 have p60 := jff hk
 have hpos := Nat.pow_pos (n := k) (show 0 < 2 by decide)
 obtain ⟨r0, a1, a2, a3, a4, a5⟩ := jfd hn0 hD h0 hk
 obtain ⟨E1, N1, b1, b2, b3, b4, b5, hl2⟩ := rs2 hD hn hk (n - r0) r0 0 (val (pad D n) r0) rfl (by omega) a4 D (fun _ _ _ => rfl)
 obtain ⟨E2, w', tr', c1, c2, c3, c4, c5, hl3⟩ := rs3 (n := n) hk (k + 1) N1 (n - r0) b1 (.inr ⟨by omega, rzN _, by rw [Nat.sub_self]; exact Nat.one_dvd _⟩) (by omega) E1 tr
 have hlead : 0 < w' ∧ E2 0 = val (pad D n) r0 / 2 ^ k + 48 := by
  by_cases hj : n - r0 = 0
  ·have := b5 hj
   rw [hj] at c5
   have := c5 (by omega) (by omega)
   rw [‹N1 = _›] at this
   exact this
  ·refine ⟨by omega, ?_⟩
   rw [c4 0 (by omega)]
   exact b4 (by omega)
 obtain ⟨hw0, hl⟩ := hlead
 have hd1 := jgC a3
 have hdg : Dg E2 w' := fun t ht => by
  by_cases htj : t < n - r0
  ·rw [c4 t htj]; exact b2 t (rzY _) (by omega)
  ·exact c3 t (by omega) ht
 obtain ⟨n', t1, t2, htr⟩ := trim_ex E2 w' c2
 have hn' : 0 < n' := by
  refine Nat.pos_of_ne_zero fun e => ?_
  have := t2 0 (by omega) hw0
  omega
 refine ⟨E2, n', r0 - 1, tr', by omega, hdg.le t1, by omega, hn', by omega, fun hq => ?_, fun {X g i μ dp neg} hg hp1 hp2 h => ?_⟩
 ·obtain rfl : r0 = 1 := by omega
  have e : val (pad D n) 1 = D 0 - 48 := by show 0 * 10 + (pad D n 0 - 48) = _; rw [jho hn0]; omega
  rw [hl, e]
  have k2 : 2 ≤ 2 ^ k := by
   obtain ⟨j, rfl⟩ : ∃ j, k = j + 1 := ⟨k - 1, by omega⟩
   have := Nat.pow_pos (n := j) (show 0 < 2 by decide)
   rw [Nat.pow_succ]; omega
  have := Nat.div_lt_self (n := D 0 - 48) (by omega) k2
  omega
 obtain ⟨f, rfl⟩ := gle hg
 have key : EndsF (aFun pZ (jaj pZ X S0 (f + 2100)) 215 [.pointer (some ⟨i, 0, none⟩), .int .u64 (.ofNat k)] μ) fun v μ' => v = .tuple #[] ∧ Dec μ' i E2 n' (dp - ((r0 - 1 : Nat) : Int)) neg tr' ∧ Only μ μ' i := by
  refine jaf Tryz.func215 rfl rfl (nbl rfl) ?_
  simp only [go_sem, Tryz.ntmps215]
  repeat (refine jaa rfl ?_; (try simp only [go_sem]); fail_if_success refine stk ?_)
  rw [(by omega : f + 2095 = (f + 2005 - r0) + r0 + 90)]
  refine rzM (rs1 hD hn0 hn h0 hk a4 a3 a5 a2 r0 0 (rzT _) (v5 := .int .i64 0) h (by simp only [go_sem]) (by simp only [go_sem]) (by simp only [go_sem]; try rfl) (by simp only [go_sem]) (by simp only [go_sem]; try rfl)) ?_
  rintro x r μ1 ⟨rfl, rfl, tm1, rfl, g0, g1, g4, g5, g6⟩
  simp only [go_sem]
  have hp := h.p
  have q1 : jak .i64 (Int.sub (.ofNat r0) 1) = .ofNat (r0 - 1) := jaV r0 1 a1 (by omega)
  have q2 : jak .i64 (Int.sub dp (.ofNat (r0 - 1))) = dp - ((r0 - 1 : Nat) : Int) := jbU dp ((r0 - 1 : Nat) : Int) (by omega) (by omega)
  have q3 : jaQ true .u64 1 (.ofNat k) = some (.int .u64 (.ofNat (2 ^ k))) := n_one hk
  have q4 : jak .u64 (Int.sub (.ofNat (2 ^ k)) 1) = .ofNat (2 ^ k - 1) := jj7 (b := 1) hpos (by omega)
  have hs := st_p (v := dp - ((r0 - 1 : Nat) : Int)) h.blk
  have w1 := h.setP (dp - ((r0 - 1 : Nat) : Int))
  obtain ⟨K, hK⟩ : ∃ K, K = 2 ^ k - 1 := ⟨_, rfl⟩
  rw [← hK] at q4 hl2 hl3
  repeat (refine jaa rfl ?_; (try simp only [go_sem, g0, g1, g4, g5, g6, hp, q1, q2, q3, q4, hs]); fail_if_success refine stk ?_)
  rw [(by omega : f + 2092 = (f + 2042 - (n - r0)) + (n - r0) + 50)]
  refine rzM (hl2 w1 (by simp only [go_sem, g0]) (by simp only [go_sem, g1]) (by simp only [go_sem, g4]) (by simp only [go_sem, g5]; try rfl) (by simp only [go_sem, g6]) (by simp only [go_sem])) ?_
  rintro x r μ2 ⟨rfl, k1, k2, tm2, rfl, g0, g1, g5, g6, g8⟩
  rw [rzT] at g5
  simp only [go_sem]
  repeat (refine jaa rfl ?_; (try simp only [go_sem]); fail_if_success refine stk ?_)
  rw [(by omega : f + 2091 = (f + 2041 - (k + 1)) + (k + 1) + 50)]
  refine rzM (hl3 k1 (by simp only [go_sem, g0]) (by simp only [go_sem, g1]) (by simp only [go_sem, g5]) (by simp only [go_sem, g6]) (by simp only [go_sem, g8])) ?_
  rintro x r μ3 ⟨rfl, m1, m2, tm3, rfl, g0, g5⟩
  simp only [go_sem]
  have hs2 := st_n (v := .ofNat w') m1.blk
  obtain ⟨μ4, hr, z1, z2⟩ := htr (X := X) (g := f + 2090) (by omega) (m1.setN w')
  rw [if_neg (by omega)] at z1
  repeat (refine jaa rfl ?_; (try simp only [go_sem, g0, g5, hs2, hr]); fail_if_success refine stk ?_)
  exact ⟨rfl, _, rfl, rfl, z1, (Only.put _ _ _ _).trans (k2.trans (m2.trans ((Only.put _ _ _ _).trans z2)))⟩
 obtain ⟨v, μ', h1, rfl, h2, h3⟩ := key
 exact ⟨μ', h1, h2, h3⟩
end
noncomputable section
open Go.Proofs.YtlkenchibdeinaaGreatDoor.DecM (val Dg)
structure Good (D : Nat → Nat) (n : Nat) : Prop where
 dg : Dg D n
 pos : 0 < n
 le : n ≤ 800
 lead : 49 ≤ D 0
theorem _root_.Go.Proofs.YtlkenchibdeinaaGreatDoor.Ev.Grow.only {a b c : Mem} {i : Nat} (g : Grow a b) (h : Only b c i) (hi : a.next ≤ i) : Grow a c := ⟨rzS g.1 h.1, fun j hj => (h.2 j (rzO hj g.1) (by omega)).trans (g.2 j hj)⟩
theorem conv_iw (n : Int) : jaG pZ 3 88 (.int .i64 n) = some (.int .u64 (jak .u64 n)) := by
 simp only [jaG, Tryz.underlying3, Tryz.underlying88]
theorem sr_loop : ∀ j, ∀ (D : Nat → Nat) (n : Nat) (tr : Bool), Good D n → ∃ (D' : Nat → Nat) (n' q : Nat) (tr' : Bool), Good D' n' ∧ q ≤ 19 * j ∧ (j = 0 → q = 0 ∧ D' = D) ∧ ∀ {X : XT} {e i r : Nat} {tm : T Value} {μ : Mem} {dp : Int} {neg : Bool}, 1 ≤ r → r ≤ 60 → j ≤ 10000 → -1000000 + 19 * (j : Int) < dp → dp < 1000000 → Dec μ i D n dp neg tr → jac tm 0 = .pointer (some ⟨i, 0, none⟩) → jac tm 1 = .int .i64 (-((r : Int) + 60 * (j : Int))) →
  LpC X (e + j + 2200) Tryz.f165 1 37 tm μ fun x rg μ' => x = .exit 3 ∧ Dec μ' i D' n' (dp - (q : Int)) neg tr' ∧ Only μ μ' i ∧ ∃ tm', rg = ⟨37, tm', [], none⟩ ∧ jac tm' 0 = .pointer (some ⟨i, 0, none⟩) ∧ jac tm' 1 = .int .i64 (-(r : Int)) := by
 intro j
 induction j with
 | zero =>
   intro D n tr G
   refine ⟨D, n, 0, tr, G, rzN _, fun _ => ⟨rfl, rfl⟩, fun {X e i r tm μ dp neg} hr1 hr2 hj hp1 hp2 h h0 h1 => ?_⟩
   have ex : -((r : Int) + 60 * ((0 : Nat) : Int)) = -(r : Int) := by omega
   rw [ex] at h1
   obtain ⟨x, hx⟩ := exq (-(r : Int) : Int)
   rw [← hx] at h1 ⊢
   have e1 : ilt x (-60) = false := dF (jaZ _ _) (by omega)
   refine jah ?_
   repeat (refine jaa rfl ?_; (try simp only [go_sem, h0, h1, e1]); fail_if_success refine stk ?_)
   exact ⟨by trivial, (by rw [(by omega : dp - ((0 : Nat) : Int) = dp)]; exact h), Only.refl _ _, _, rfl, by simp only [go_sem, h0], by simp only [go_sem, h1]⟩
 | succ j ih =>
   intro D n tr G
   obtain ⟨D1, n1, q1, tr1, a1, a2, a3, a4, a5, a6, hrs⟩ := jdY (k := 60) (tr := tr) G.dg G.pos G.le (by decide) (rzN _) G.lead
   obtain ⟨D', n', q, tr', b1, b2, b3, hih⟩ := ih D1 n1 tr1 ⟨a2, a4, a5, a3⟩
   refine ⟨D', n', q1 + q, tr', b1, by omega, fun h => by omega, fun {X e i r tm μ dp neg} hr1 hr2 hj hp1 hp2 h h0 h1 => ?_⟩
   obtain ⟨x, hx⟩ := exq (-((r : Int) + 60 * ((j + 1 : Nat) : Int)) : Int)
   rw [← hx] at h1
   have e1 : ilt x (-60) = true := dT (jaZ _ _) (by omega)
   have w1 : jak .i64 (Int.add x 60) = -((r : Int) + 60 * (j : Int)) := by
    have := jcJ x 60 (by omega) (by omega)
    rw [this]; omega
   obtain ⟨μ1, hr, z1, z2⟩ := hrs (X := X) (g := e + (j + 1) + 2195) (by omega) (by omega) hp2 h
   have hr : aFun pZ (jaj pZ X S0 (e + (j + 1) + 2195)) 215 [.pointer (some ⟨i, 0, none⟩), .int .u64 60] μ = some (.tuple #[], μ1) := hr
   refine jah ?_
   repeat (refine jaa rfl ?_; (try simp only [go_sem, h0, h1, e1, w1, hr]); fail_if_success refine stk ?_)
   rw [(by omega : e + (j + 1) + 2199 = e + j + 2200)]
   refine rzM (hih (r := r) hr1 hr2 (by omega) (by omega) (by omega) z1 (by simp only [go_sem, h0]) (by simp only [go_sem])) ?_
   rintro x r' μ' ⟨hx, g1, g2, g3⟩
   exact ⟨hx, (by rw [(by omega : dp - ((q1 + q : Nat) : Int) = dp - (q1 : Int) - (q : Int))]; exact g1), z2.trans g2, g3⟩
theorem jg9 {D : Nat → Nat} {n k : Nat} {tr : Bool} (G : Good D n) (hk1 : 1 ≤ k) (hk : k ≤ 100000) : ∃ (D' : Nat → Nat) (n' q : Nat) (tr' : Bool), Good D' n' ∧ q ≤ 19 * ((k - 1) / 60 + 1) ∧ (k ≤ 60 → q = 0 → D' 0 < D 0) ∧ ∀ {X : XT} {g i : Nat} {x : Int} {μ : Mem} {dp : Int} {neg : Bool}, 5000 ≤ g → x = -(k : Int) → -500000 < dp → dp < 500000 → Dec μ i D n dp neg tr →
  ∃ μ', aFun pZ (jaj pZ X S0 g) 165 [.pointer (some ⟨i, 0, none⟩), .int .i64 x] μ = some (.tuple #[], μ') ∧ Dec μ' i D' n' (dp - (q : Int)) neg tr' ∧ Only μ μ' i := by
 obtain ⟨j, hj⟩ := exq ((k - 1) / 60)
 obtain ⟨r, hr⟩ := exq ((k - 1) % 60 + 1)
 have hkr : k = r + 60 * j := by omega
 obtain ⟨D1, n1, q1, tr1, b1, b2, b3, hlp⟩ := sr_loop j D n tr G
 obtain ⟨D2, n2, q2, tr2, a1, a2, a3, a4, a5, a6, hrs⟩ := jdY (k := r) (tr := tr1) b1.dg b1.pos b1.le (by omega) (by omega) b1.lead
 refine ⟨D2, n2, q1 + q2, tr2, ⟨a2, a4, a5, a3⟩, by omega, fun h60 hq => ?_, fun {X g i x μ dp neg} hg hx hp1 hp2 h => ?_⟩
 ·have := b3 (by omega)
  rw [← this.2]
  exact a6 (by omega)
 obtain ⟨f, rfl⟩ := gle hg
 have hc := h.n
 have e1 : ieq (.ofNat n) 0 = false := dF (jaB _ 0 0 rfl) (by have := G.pos; omega)
 have e2 : ilt 0 x = false := dF (jaZ _ _) (by omega)
 have e3 : ilt x 0 = true := dT (jaZ _ _) (by omega)
 have key : EndsF (aFun pZ (jaj pZ X S0 (f + 5000)) 165 [.pointer (some ⟨i, 0, none⟩), .int .i64 x] μ) fun v μ' => v = .tuple #[] ∧ Dec μ' i D2 n2 (dp - ((q1 + q2 : Nat) : Int)) neg tr2 ∧ Only μ μ' i := by
  refine jaf Tryz.func165 rfl rfl (nbl rfl) ?_
  simp only [go_sem, Tryz.ntmps165]
  repeat (refine jaa rfl ?_; (try simp only [go_sem, hc, e1, e2, e3]); fail_if_success refine stk ?_)
  rw [(by omega : f + 4991 = (f + 2791 - j) + j + 2200)]
  refine rzM (hlp (r := r) (by omega) (by omega) (by omega) (by omega) (by omega) h (by simp only [go_sem]) (by simp only [go_sem]; rw [hx, hkr]; exact congrArg (Value.int .i64) (by omega))) ?_
  rintro x' r' μ1 ⟨rfl, g1, g2, tm', rfl, h0, h1⟩
  simp only [go_sem]
  have np : ∀ (ρ : Operand → Value) (d : Option Tmp) (t ty : TypeId) (a : Operand) (ps : String) (af : Array Edge) (gd : Option (Nat × Bool)), ρ a = .int .i64 (-(r : Int)) → jaH pZ ρ ⟨d, .unOp .neg t a, ty, ps, af, gd⟩ = some (.int .i64 (.ofNat r)) := fun ρ d t ty a ps af gd h => by
   have := jbC (d := d) (t := t) (ty := ty) (ps := ps) (af := af) (gd := gd) h (by omega) (by omega)
   rw [this, Int.neg_neg]; rfl
  have w1 : jak .u64 (.ofNat r) = .ofNat r := nw (by omega)
  obtain ⟨μ2, hrr, z1, z2⟩ := hrs (X := X) (g := f + 4991) (by omega) (by omega) (by omega) g1
  repeat (refine jaa rfl ?_; (try simp only [go_sem, h0, h1, np, conv_iw, w1, hrr]); fail_if_success refine stk ?_)
  exact ⟨rfl, _, rfl, rfl, (by rw [(by omega : dp - ((q1 + q2 : Nat) : Int) = dp - (q1 : Int) - (q2 : Int))]; exact z1), g2.trans z2⟩
 obtain ⟨v, μ', h1, rfl, h2, h3⟩ := key
 exact ⟨μ', h1, h2, h3⟩
theorem jha {D : Nat → Nat} {n k : Nat} {tr : Bool} (G : Good D n) (hk1 : 1 ≤ k) (hk : k ≤ 60) : ∃ (D' : Nat → Nat) (n' δ : Nat) (tr' : Bool), Good D' n' ∧ δ ≤ 19 ∧ (δ = 0 → D 0 < D' 0) ∧ ∀ {X : XT} {g i : Nat} {μ : Mem} {dp : Int} {neg : Bool}, 5000 ≤ g → Lay μ → -500000 < dp → dp < 500000 → Dec μ i D n dp neg tr →
  ∃ μ', aFun pZ (jaj pZ X S0 g) 165 [.pointer (some ⟨i, 0, none⟩), .int .i64 (.ofNat k)] μ = some (.tuple #[], μ') ∧ Dec μ' i D' n' (dp + (δ : Int)) neg tr' ∧ Only μ μ' i := by
 obtain ⟨D', n', δ, tr', a1, a2, a3, a4, a5, a6, hls⟩ := jhv (k := k) (tr := tr) G.dg G.pos G.le hk1 hk G.lead
 refine ⟨D', n', δ, tr', ⟨a2, a4, a5, a3⟩, a1, a6, fun {X g i μ dp neg} hg hL hp1 hp2 h => ?_⟩
 obtain ⟨f, rfl⟩ := gle hg
 have hc := h.n
 have e1 : ieq (.ofNat n) 0 = false := dF (jaB _ 0 0 rfl) (by have := G.pos; omega)
 have e2 : ilt 0 (.ofNat k) = true := dT (jao 0 k) (by omega)
 have e3 : ilt 60 (.ofNat k) = false := dF (jao 60 k) (by omega)
 have w1 : jak .u64 (.ofNat k) = .ofNat k := nw (by omega)
 obtain ⟨μ', hr, z1, z2⟩ := hls (X := X) (g := f + 4993) (by omega) hL (by omega) (by omega) h
 have key : EndsF (aFun pZ (jaj pZ X S0 (f + 5000)) 165 [.pointer (some ⟨i, 0, none⟩), .int .i64 (.ofNat k)] μ) fun v μ'' => v = .tuple #[] ∧ μ'' = μ' := by
  refine jaf Tryz.func165 rfl rfl (nbl rfl) ?_
  simp only [go_sem, Tryz.ntmps165]
  repeat (first | (refine jaa rfl ?_; (try simp only [go_sem, hc, e1, e2, e3, conv_iw, w1, hr]); fail_if_success refine stk ?_) | refine jah ?_)
  exact ⟨rfl, _, rfl, rfl, rfl⟩
 obtain ⟨v, μ'', h1, rfl, rfl⟩ := key
 exact ⟨_, h1, z1, z2⟩
end
noncomputable section
open Go.Proofs.YtlkenchibdeinaaGreatDoor.DecM (val Dg)
theorem n8_sub {a b : Nat} (h : b ≤ a) (h2 : a < 256) : jak .u8 (Int.sub (.ofNat a) (.ofNat b)) = .ofNat (a - b) := by
 have e : Int.sub (.ofNat a) (.ofNat b) = .ofNat (a - b) := by show (a : Int) - (b : Int) = ((a - b : Nat) : Int); omega
 rw [e]; exact qu8 _ (by omega)
theorem n8_rem2 (a : Nat) : aDiv true .u8 .u8 (.ofNat a) 2 = some (.int .u8 (.ofNat (a % 2))) := rfl
theorem sru_ex {D : Nat → Nat} {n : Nat} {tr : Bool} (hD : Dg D n) (hn : n ≤ 800) (d : Int) (hd : d < 1000000) : ∃ b, ∀ {X : XT} {g i : Nat} {μ : Mem} {dp : Int} {neg : Bool}, 60 ≤ g → Dec μ i D n dp neg tr →
  aFun pZ (jaj pZ X S0 g) 216 [.pointer (some ⟨i, 0, none⟩), .int .i64 d] μ = some (.bool b, μ) := by
 by_cases h0 : d < 0
 ·have e1 : ilt d 0 = true := dT (jaZ _ _) h0
  refine ⟨false, fun {X g i μ dp neg} hg h => ?_⟩
  obtain ⟨f, rfl⟩ := gle hg
  have hc := h.n
  have ht := h.t
  refine jaF ?_
  refine jaf Tryz.func216 rfl rfl (nbl rfl) ?_
  simp only [go_sem, Tryz.ntmps216]
  refine jag ?_
  refine jaD ?_ ?_
  ·rfl
  simp only [go_sem]
  refine jag ?_
  refine jag ?_
  refine jab rfl ?_
  repeat (refine jam rfl ?_; (try simp only [go_sem, hc, ht, e1]); fail_if_success refine stk ?_)
  repeat (refine jaa rfl ?_; (try simp only [go_sem, hc, ht, e1]); fail_if_success refine stk ?_)
  exact jad ⟨rfl, _, by simp only [go_sem, Tryz.results216], rfl, rfl⟩
 have e1 : ilt d 0 = false := dF (jaZ _ _) h0
 obtain ⟨m, hm⟩ : ∃ m : Nat, d = .ofNat m := ⟨d.toNat, by show d = ((d.toNat : Nat) : Int); omega⟩
 subst hm
 have hm6 : m < 1000000 := by have : (m : Int) < 1000000 := hd; omega
 by_cases hmn : m < n
 rotate_left
 ·have e2 : ilt (.ofNat m) (.ofNat n) = false := dF (jao _ _) hmn
  refine ⟨false, fun {X g i μ dp neg} hg h => ?_⟩
  obtain ⟨f, rfl⟩ := gle hg
  have hc := h.n
  have ht := h.t
  refine jaF ?_
  refine jaf Tryz.func216 rfl rfl (nbl rfl) ?_
  simp only [go_sem, Tryz.ntmps216]
  refine jag ?_
  refine jaD ?_ ?_
  ·rfl
  simp only [go_sem]
  refine jag ?_
  refine jag ?_
  refine jab rfl ?_
  repeat (refine jam rfl ?_; (try simp only [go_sem, hc, ht, e1, e2]); fail_if_success refine stk ?_)
  repeat (refine jaa rfl ?_; (try simp only [go_sem, hc, ht, e1, e2]); fail_if_success refine stk ?_)
  exact jad ⟨rfl, _, by simp only [go_sem, Tryz.results216], rfl, rfl⟩
 have e2 : ilt (.ofNat m) (.ofNat n) = true := dT (jao _ _) hmn
 by_cases h53 : D m = 53
 rotate_left
 ·have e3 : ieq (.ofNat (D m)) 53 = false := dF (jaB _ 53 53 rfl) h53
  obtain ⟨b, hb⟩ := eqx (ilt (.ofNat (D m)) 53)
  refine ⟨!b, fun {X g i μ dp neg} hg h => ?_⟩
  obtain ⟨f, rfl⟩ := gle hg
  have hc := h.n
  have ht := h.t
  refine jaF ?_
  refine jaf Tryz.func216 rfl rfl (nbl rfl) ?_
  simp only [go_sem, Tryz.ntmps216]
  refine jag ?_
  refine jaD ?_ ?_
  ·rfl
  simp only [go_sem]
  have hix : ∀ rg a b, aev pZ rg a = .pointer (some ⟨i, 0, none⟩) → aev pZ rg b = .int .i64 (.ofNat m) → jan pZ (aev pZ rg) 211 a b = some (.pointer (some ⟨i, m, none⟩)) := fun rg a b g1 g2 => jcW (by omega) g1 g2
  have hd := h.d m (by omega)
  refine jag ?_
  refine jag ?_
  refine jab rfl ?_
  repeat (refine jam rfl ?_; (try simp only [go_sem, hc, ht, e1, e2, e3, hix, hd, hb]); fail_if_success refine stk ?_)
  refine jax ?_ ?_
  ·simp only [go_sem]
  refine jbo ?_
  simp only [jai]
  refine jag ?_
  refine jag ?_
  refine jab rfl ?_
  repeat (refine jam rfl ?_; (try simp only [go_sem, hc, ht, e1, e2, e3, hix, hd, hb]); fail_if_success refine stk ?_)
  repeat (refine jaa rfl ?_; (try simp only [go_sem, hc, ht, e1, e2, e3, hix, hd, hb]); fail_if_success refine stk ?_)
  exact jad ⟨rfl, _, by simp only [go_sem, Tryz.results216], rfl, rfl⟩
 have e3 : ieq (.ofNat (D m)) 53 = true := dT (jaB _ 53 53 rfl) h53
 have a1 : jak .i64 (Int.add (.ofNat m) 1) = .ofNat (m + 1) := jaE m 1 (by omega)
 by_cases hl : m + 1 = n
 rotate_left
 ·have e4 : ieq (.ofNat (m + 1)) (.ofNat n) = false := dF (jbG _ _) hl
  obtain ⟨b, hb⟩ := eqx (ilt (.ofNat (D m)) 53)
  refine ⟨!b, fun {X g i μ dp neg} hg h => ?_⟩
  obtain ⟨f, rfl⟩ := gle hg
  have hc := h.n
  have ht := h.t
  refine jaF ?_
  refine jaf Tryz.func216 rfl rfl (nbl rfl) ?_
  simp only [go_sem, Tryz.ntmps216]
  refine jag ?_
  refine jaD ?_ ?_
  ·rfl
  simp only [go_sem]
  have hix : ∀ rg a b, aev pZ rg a = .pointer (some ⟨i, 0, none⟩) → aev pZ rg b = .int .i64 (.ofNat m) → jan pZ (aev pZ rg) 211 a b = some (.pointer (some ⟨i, m, none⟩)) := fun rg a b g1 g2 => jcW (by omega) g1 g2
  have hd := h.d m (by omega)
  refine jag ?_
  refine jag ?_
  refine jab rfl ?_
  repeat (refine jam rfl ?_; (try simp only [go_sem, hc, ht, e1, e2, e3, e4, a1, hix, hd, hb]); fail_if_success refine stk ?_)
  refine jax ?_ ?_
  ·simp only [go_sem]
  refine jbo ?_
  simp only [jai]
  refine jag ?_
  refine jag ?_
  refine jab rfl ?_
  repeat (refine jam rfl ?_; (try simp only [go_sem, hc, ht, e1, e2, e3, e4, a1, hix, hd, hb]); fail_if_success refine stk ?_)
  repeat (refine jaa rfl ?_; (try simp only [go_sem, hc, ht, e1, e2, e3, e4, a1, hix, hd, hb]); fail_if_success refine stk ?_)
  exact jad ⟨rfl, _, by simp only [go_sem, Tryz.results216], rfl, rfl⟩
 have e4 : ieq (.ofNat (m + 1)) (.ofNat n) = true := dT (jbG _ _) hl
 cases tr with
 | true =>
   refine ⟨true, fun {X g i μ dp neg} hg h => ?_⟩
   obtain ⟨f, rfl⟩ := gle hg
   have hc := h.n
   have ht := h.t
   refine jaF ?_
   refine jaf Tryz.func216 rfl rfl (nbl rfl) ?_
   simp only [go_sem, Tryz.ntmps216]
   refine jag ?_
   refine jaD ?_ ?_
   ·rfl
   simp only [go_sem]
   have hix : ∀ rg a b, aev pZ rg a = .pointer (some ⟨i, 0, none⟩) → aev pZ rg b = .int .i64 (.ofNat m) → jan pZ (aev pZ rg) 211 a b = some (.pointer (some ⟨i, m, none⟩)) := fun rg a b g1 g2 => jcW (by omega) g1 g2
   have hd := h.d m (by omega)
   refine jag ?_
   refine jag ?_
   refine jab rfl ?_
   repeat (refine jam rfl ?_; (try simp only [go_sem, hc, ht, e1, e2, e3, e4, a1, hix, hd]); fail_if_success refine stk ?_)
   refine jax ?_ ?_
   ·simp only [go_sem]
   refine jbo ?_
   simp only [jai]
   refine jag ?_
   refine jag ?_
   refine jab rfl ?_
   repeat (refine jam rfl ?_; (try simp only [go_sem, hc, ht, e1, e2, e3, e4, a1, hix, hd]); fail_if_success refine stk ?_)
   repeat (refine jaa rfl ?_; (try simp only [go_sem, hc, ht, e1, e2, e3, e4, a1, hix, hd]); fail_if_success refine stk ?_)
   exact jad ⟨rfl, _, by simp only [go_sem, Tryz.results216], rfl, rfl⟩
 | false =>
   by_cases hm0 : m = 0
   ·have e5 : ilt 0 (.ofNat m) = false := dF (jao 0 m) (by omega)
    refine ⟨false, fun {X g i μ dp neg} hg h => ?_⟩
    obtain ⟨f, rfl⟩ := gle hg
    have hc := h.n
    have ht := h.t
    have hix : ∀ rg a b, aev pZ rg a = .pointer (some ⟨i, 0, none⟩) → aev pZ rg b = .int .i64 (.ofNat m) → jan pZ (aev pZ rg) 211 a b = some (.pointer (some ⟨i, m, none⟩)) := fun rg a b g1 g2 => jcW (by omega) g1 g2
    have hd := h.d m (by omega)
    refine jaF ?_
    refine jaf Tryz.func216 rfl rfl (nbl rfl) ?_
    simp only [go_sem, Tryz.ntmps216]
    refine jag ?_
    refine jaD ?_ ?_
    ·rfl
    simp only [go_sem]
    refine jag ?_
    refine jag ?_
    refine jab rfl ?_
    repeat (refine jam rfl ?_; (try simp only [go_sem, hc, ht, e1, e2, e3, e4, e5, a1, hix, hd]); fail_if_success refine stk ?_)
    refine jax ?_ ?_
    ·simp only [go_sem]
    refine jbo ?_
    simp only [jai]
    refine jag ?_
    refine jag ?_
    refine jab rfl ?_
    repeat (refine jam rfl ?_; (try simp only [go_sem, hc, ht, e1, e2, e3, e4, e5, a1, hix, hd]); fail_if_success refine stk ?_)
    refine jbl ?_ ?_
    ·simp only [go_sem]
    refine jag ?_
    refine jag ?_
    refine jaD ?_ ?_
    ·rfl
    simp only [go_sem, undef, jba, jaW, fa_dec4, jaT, jb8, ld_bool, hc, ht, e1, e2, e3, e4, e5, a1, hix, hd]
    refine jax ?_ ?_
    ·simp only [go_sem]
    refine jbo ?_
    simp only [jai]
    refine jag ?_
    refine jab rfl ?_
    repeat (refine jam rfl ?_; (try simp only [go_sem, hc, ht, e1, e2, e3, e4, e5, a1, hix, hd]); fail_if_success refine stk ?_)
    exact jad ⟨rfl, _, by simp only [go_sem, Tryz.results216], rfl, rfl⟩
   ·have e5 : ilt 0 (.ofNat m) = true := dT (jao 0 m) (by omega)
    have a2 : jak .i64 (Int.sub (.ofNat m) 1) = .ofNat (m - 1) := jaV m 1 (by omega) (by omega)
    have hdm := hD (m - 1) (by omega)
    have a3 : jak .u8 (Int.sub (.ofNat (D (m - 1))) 48) = .ofNat (D (m - 1) - 48) := n8_sub (b := 48) hdm.1 (by omega)
    have a4 : aDiv true .u8 .u8 (.ofNat (D (m - 1) - 48)) 2 = some (.int .u8 (.ofNat ((D (m - 1) - 48) % 2))) := n8_rem2 _
    obtain ⟨b, hb⟩ := eqx (ieq (.ofNat ((D (m - 1) - 48) % 2)) 0)
    refine ⟨!b, fun {X g i μ dp neg} hg h => ?_⟩
    obtain ⟨f, rfl⟩ := gle hg
    have hc := h.n
    have ht := h.t
    have hix : ∀ rg a b, aev pZ rg a = .pointer (some ⟨i, 0, none⟩) → aev pZ rg b = .int .i64 (.ofNat m) → jan pZ (aev pZ rg) 211 a b = some (.pointer (some ⟨i, m, none⟩)) := fun rg a b g1 g2 => jcW (by omega) g1 g2
    have hd := h.d m (by omega)
    have hix' : ∀ rg a b, aev pZ rg a = .pointer (some ⟨i, 0, none⟩) → aev pZ rg b = .int .i64 (.ofNat (m - 1)) → jan pZ (aev pZ rg) 211 a b = some (.pointer (some ⟨i, m - 1, none⟩)) := fun rg a b g1 g2 => jcW (by omega) g1 g2
    have hd' := h.d (m - 1) (by omega)
    refine jaF ?_
    refine jaf Tryz.func216 rfl rfl (nbl rfl) ?_
    simp only [go_sem, Tryz.ntmps216]
    refine jag ?_
    refine jaD ?_ ?_
    ·rfl
    simp only [go_sem]
    refine jag ?_
    refine jag ?_
    refine jab rfl ?_
    repeat (refine jam rfl ?_; (try simp only [go_sem, hc, ht, e1, e2, e3, e4, e5, a1, a2, a3, a4, hix, hd, hix', hd', hb]); fail_if_success refine stk ?_)
    refine jax ?_ ?_
    ·simp only [go_sem]
    refine jbo ?_
    simp only [jai]
    refine jag ?_
    refine jag ?_
    refine jab rfl ?_
    repeat (refine jam rfl ?_; (try simp only [go_sem, hc, ht, e1, e2, e3, e4, e5, a1, a2, a3, a4, hix, hd, hix', hd', hb]); fail_if_success refine stk ?_)
    refine jbl ?_ ?_
    ·simp only [go_sem]
    refine jag ?_
    refine jag ?_
    refine jaD ?_ ?_
    ·rfl
    simp only [go_sem, undef, jba, jaW, fa_dec4, jaT, jb8, ld_bool, hc, ht, e1, e2, e3, e4, e5, a1, a2, a3, a4, hix, hd, hix', hd', hb]
    refine jax ?_ ?_
    ·simp only [go_sem]
    refine jbo ?_
    simp only [jai]
    refine jag ?_
    refine jab rfl ?_
    repeat (refine jam rfl ?_; (try simp only [go_sem, hc, ht, e1, e2, e3, e4, e5, a1, a2, a3, a4, hix, hd, hix', hd', hb]); fail_if_success refine stk ?_)
    exact jad ⟨rfl, _, by simp only [go_sem, Tryz.results216], rfl, rfl⟩
section
variable {D : Nat → Nat} {n : Nat} {dp : Int}
def lim (n : Nat) (dp : Int) : Nat := if dp.toNat < n then dp.toNat else n
theorem ri_1 (hD : Dg D n) (hn : n ≤ 800) (hp : dp ≤ 20) : ∀ m j a, j + m = lim n dp → ∃ a', ∀ {X : XT} {e i : Nat} {tm : T Value} {μ : Mem} {neg tr : Bool}, Dec μ i D n dp neg tr → jac tm 0 = .pointer (some ⟨i, 0, none⟩) → jac tm 3 = .int .i64 (.ofNat j) → jac tm 4 = u a →
  LpC X (e + m + 40) Tryz.f283 0 56 tm μ fun x r μ' => x = .exit 0 ∧ μ' = μ ∧ ∃ tm', r = ⟨56, tm', [], none⟩ ∧ jac tm' 0 = .pointer (some ⟨i, 0, none⟩) ∧ jac tm' 3 = .int .i64 (.ofNat (lim n dp)) ∧ jac tm' 4 = u a' := by
 have hlim : lim n dp = (if dp.toNat < n then dp.toNat else n) := rfl
 intro m
 induction m with
 | zero =>
   intro j a hj
   obtain rfl : j = lim n dp := hj
   refine ⟨a, fun {X e i tm μ neg tr} h h0 h3 h4 => ?_⟩
   have hc := h.n
   have hc2 := h.p
   by_cases hdn : dp.toNat < n
   ·rw [if_pos hdn] at hlim
    have e1 : ilt (.ofNat (lim n dp)) dp = false := dF (jaZ _ _) (by show ¬ ((lim n dp : Nat) : Int) < dp; omega)
    refine jah ?_
    refine jag ?_
    refine jag ?_
    refine jab rfl ?_
    repeat (refine jam rfl ?_; (try simp only [go_sem, h0, h3, h4, hc, hc2, e1]); fail_if_success refine stk ?_)
    refine jax ?_ ?_
    ·simp only [go_sem]
    refine jbw ?_
    simp only [jbv]
    exact ⟨by trivial, by trivial, _, rfl, by simp only [go_sem, h0], by simp only [go_sem, h3], by simp only [go_sem, h4]⟩
   ·rw [if_neg hdn] at hlim
    have e2 : ilt (.ofNat (lim n dp)) (.ofNat n) = false := dF (jao _ _) (by omega)
    by_cases hz : ((lim n dp : Nat) : Int) < dp
    ·have e1 : ilt (.ofNat (lim n dp)) dp = true := dT (jaZ _ _) hz
     refine jah ?_
     refine jag ?_
     refine jag ?_
     refine jab rfl ?_
     repeat (refine jam rfl ?_; (try simp only [go_sem, h0, h3, h4, hc, hc2, e1, e2]); fail_if_success refine stk ?_)
     refine jax ?_ ?_
     ·simp only [go_sem]
     refine jbw ?_
     simp only [jbv]
     exact ⟨by trivial, by trivial, _, rfl, by simp only [go_sem, h0], by simp only [go_sem, h3], by simp only [go_sem, h4]⟩
    ·have e1 : ilt (.ofNat (lim n dp)) dp = false := dF (jaZ _ _) hz
     refine jah ?_
     refine jag ?_
     refine jag ?_
     refine jab rfl ?_
     repeat (refine jam rfl ?_; (try simp only [go_sem, h0, h3, h4, hc, hc2, e1]); fail_if_success refine stk ?_)
     refine jax ?_ ?_
     ·simp only [go_sem]
     refine jbw ?_
     simp only [jbv]
     exact ⟨by trivial, by trivial, _, rfl, by simp only [go_sem, h0], by simp only [go_sem, h3], by simp only [go_sem, h4]⟩
 | succ m ih =>
   intro j a hj
   have hjn : j < n ∧ (j : Int) < dp := by
    by_cases hdn : dp.toNat < n
    ·rw [if_pos hdn] at hlim; omega
    ·rw [if_neg hdn] at hlim; omega
   obtain ⟨a', hih⟩ := ih (j + 1) (W (W a * 10) + W (D j - 48)) (by omega)
   refine ⟨a', fun {X e i tm μ neg tr} h h0 h3 h4 => ?_⟩
   have hc := h.n
   have hc2 := h.p
   have hd := h.d j (by omega)
   have dj := hD j hjn.1
   have e1 : ilt (.ofNat j) dp = true := dT (jaZ _ _) hjn.2
   have e2 : ilt (.ofNat j) (.ofNat n) = true := dT (jao _ _) hjn.1
   have q1 : jak .u8 (Int.sub (.ofNat (D j)) 48) = .ofNat (D j - 48) := n8_sub (b := 48) dj.1 (by omega)
   have q2 : jak .u64 (.ofNat (D j - 48)) = .ofNat (W (D j - 48)) := jbR _
   have q3 : jak .i64 (Int.add (.ofNat j) 1) = .ofNat (j + 1) := jaE j 1 (by omega)
   have hix : ∀ rg a b, aev pZ rg a = .pointer (some ⟨i, 0, none⟩) → aev pZ rg b = .int .i64 (.ofNat j) → jan pZ (aev pZ rg) 211 a b = some (.pointer (some ⟨i, j, none⟩)) := fun rg a b g1 g2 => jcW (by omega) g1 g2
   refine jah ?_
   refine jag ?_
   refine jag ?_
   refine jab rfl ?_
   repeat (refine jam rfl ?_; (try simp only [go_sem, h0, h3, h4, hc, hc2, e1, e2]); fail_if_success refine stk ?_)
   repeat (refine jaa rfl ?_; (try simp only [go_sem, h0, h3, h4, hd, hix, jdL, wAdd, jiH, q1, q2, q3]); fail_if_success refine stk ?_)
   rw [(by omega : e + (m + 1) + 39 = e + m + 40)]
   exact hih h (by simp only [go_sem, h0]) (by simp only [go_sem]) (by simp only [go_sem])
theorem ri_2 (hp : dp ≤ 20) : ∀ m j a, j + m = dp.toNat → ∃ a', ∀ {X : XT} {e i : Nat} {tm : T Value} {μ : Mem} {neg tr : Bool}, Dec μ i D n dp neg tr → jac tm 0 = .pointer (some ⟨i, 0, none⟩) → jac tm 3 = .int .i64 (.ofNat j) → jac tm 4 = u a →
  LpC X (e + m + 40) Tryz.f283 1 56 tm μ fun x r μ' => x = .exit 2 ∧ μ' = μ ∧ ∃ tm', r = ⟨56, tm', [], none⟩ ∧ jac tm' 0 = .pointer (some ⟨i, 0, none⟩) ∧ jac tm' 4 = u a' := by
 intro m
 induction m with
 | zero =>
   intro j a hj
   refine ⟨a, fun {X e i tm μ neg tr} h h0 h3 h4 => ?_⟩
   have hc2 := h.p
   have e1 : ilt (.ofNat j) dp = false := dF (jaZ _ _) (by show ¬ (j : Int) < dp; omega)
   refine jah ?_
   repeat (refine jaa rfl ?_; (try simp only [go_sem, h0, h3, h4, hc2, e1]); fail_if_success refine stk ?_)
   exact ⟨by trivial, by trivial, _, rfl, by simp only [go_sem, h0], by simp only [go_sem, h4]⟩
 | succ m ih =>
   intro j a hj
   obtain ⟨a', hih⟩ := ih (j + 1) (W a * 10) (by omega)
   refine ⟨a', fun {X e i tm μ neg tr} h h0 h3 h4 => ?_⟩
   have hc2 := h.p
   have e1 : ilt (.ofNat j) dp = true := dT (jaZ _ _) (by show (j : Int) < dp; omega)
   have q3 : jak .i64 (Int.add (.ofNat j) 1) = .ofNat (j + 1) := jaE j 1 (by omega)
   refine jah ?_
   repeat (refine jaa rfl ?_; (try simp only [go_sem, h0, h3, h4, hc2, e1, jdL, q3]); fail_if_success refine stk ?_)
   rw [(by omega : e + (m + 1) + 39 = e + m + 40)]
   exact hih h (by simp only [go_sem, h0]) (by simp only [go_sem]) (by simp only [go_sem])
theorem ri_ex {tr : Bool} (hD : Dg D n) (hn : n ≤ 800) (hp : dp < 1000000) : ∃ m, ∀ {X : XT} {g i : Nat} {μ : Mem} {neg : Bool}, 300 ≤ g → Dec μ i D n dp neg tr →
  aFun pZ (jaj pZ X S0 g) 283 [.pointer (some ⟨i, 0, none⟩)] μ = some (u m, μ) := by
 by_cases h20 : 20 < dp
 ·have e1 : ilt 20 dp = true := dT (jaZ _ _) h20
  have um : u 18446744073709551615 = .int .u64 18446744073709551615 := (u_of (n := 18446744073709551615) (by decide)).symm
  refine ⟨18446744073709551615, fun {X g i μ neg} hg h => ?_⟩
  obtain ⟨f, rfl⟩ := gle hg
  have hc2 := h.p
  rw [um]
  refine jaF ?_
  refine jaf Tryz.func283 rfl rfl (nbl rfl) ?_
  simp only [go_sem, Tryz.ntmps283]
  repeat (refine jaa rfl ?_; (try simp only [go_sem, hc2, e1]); fail_if_success refine stk ?_)
  exact jad ⟨rfl, _, by simp only [go_sem, Tryz.results283], rfl, rfl⟩
 have e1 : ilt 20 dp = false := dF (jaZ _ _) h20
 have hl2 : lim n dp ≤ dp.toNat := by unfold lim; split <;> omega
 obtain ⟨a1, hlp1⟩ := ri_1 (dp := dp) hD hn (by omega) (lim n dp) 0 0 (rzT _)
 obtain ⟨a2, hlp2⟩ := ri_2 (D := D) (n := n) (dp := dp) (by omega) (dp.toNat - lim n dp) (lim n dp) a1 (by omega)
 obtain ⟨b, hsr⟩ := sru_ex (tr := tr) hD hn dp hp
 refine ⟨if b then W a2 + 1 else a2, fun {X g i μ neg} hg h => ?_⟩
 obtain ⟨f, rfl⟩ := gle hg
 have hc2 := h.p
 have hsr : ∀ q, 60 ≤ q → aFun pZ (jaj pZ X S0 q) 216 [.pointer (some ⟨i, 0, none⟩), .int .i64 dp] μ = some (.bool b, μ) := fun q hq => hsr hq h
 refine jaF ?_
 refine jaf Tryz.func283 rfl rfl (nbl rfl) ?_
 simp only [go_sem, Tryz.ntmps283]
 repeat (refine jaa rfl ?_; (try simp only [go_sem, hc2, e1]); fail_if_success refine stk ?_)
 rw [show f + 293 = (f + 253 - lim n dp) + lim n dp + 40 from by have : lim n dp ≤ 20 := by omega
                                                                 omega]
 refine rzM (hlp1 h (by simp only [go_sem]) (by simp only [go_sem]; try rfl) (by simp only [go_sem]; exact u_of (n := 0) (by decide))) ?_
 rintro x r μ' ⟨rfl, rfl, tm', rfl, h0, h3, h4⟩
 simp only [go_sem]
 repeat (refine jaa rfl ?_; (try simp only [go_sem]); fail_if_success refine stk ?_)
 rw [(by omega : f + 293 = (f + 253 - (dp.toNat - lim n dp)) + (dp.toNat - lim n dp) + 40)]
 refine rzM (hlp2 h h0 h3 h4) ?_
 rintro x r μ' ⟨rfl, rfl, tm', rfl, h0, h4⟩
 simp only [go_sem]
 cases b with
 | true =>
   repeat (refine jaa rfl ?_; (try simp only [go_sem, h0, h4, hc2, hsr, Nat.reduceLeDiff, wAdd1]); fail_if_success refine stk ?_)
   exact jad ⟨rfl, _, by simp only [go_sem, Tryz.results283], rfl, rfl⟩
 | false =>
   repeat (refine jaa rfl ?_; (try simp only [go_sem, h0, h4, hc2, hsr, Nat.reduceLeDiff]); fail_if_success refine stk ?_)
   exact jad ⟨rfl, _, by simp only [go_sem, Tryz.results283], rfl, rfl⟩
end
end
noncomputable section
open Go.Proofs.YtlkenchibdeinaaGreatDoor.DecM (val Dg)
def jaJ (fn : Func) : Code := match fn.body with
 | some (.seq _ (.scope c)) => c
 | _ => .skip
theorem fs17 : jaS 17 (jaJ Tryz.f275) = .seq (jaM 17 (jaJ Tryz.f275)) (.seq (jaM 18 (jaJ Tryz.f275)) (.seq (jaM 19 (jaJ Tryz.f275)) (.seq (jaM 20 (jaJ Tryz.f275)) (jaS 21 (jaJ Tryz.f275))))) := by kernel_rfl
theorem fs14 : jaS 14 (jaJ Tryz.f275) = .seq (jaM 14 (jaJ Tryz.f275)) (.seq (jaM 15 (jaJ Tryz.f275)) (jaS 16 (jaJ Tryz.f275))) := by kernel_rfl
theorem fs13 : jaS 13 (jaJ Tryz.f275) = .seq (jaM 13 (jaJ Tryz.f275)) (jaS 14 (jaJ Tryz.f275)) := by kernel_rfl
theorem fs10 : jaS 10 (jaJ Tryz.f275) = .seq (jaM 10 (jaJ Tryz.f275)) (.seq (jaM 11 (jaJ Tryz.f275)) (.seq (jaM 12 (jaJ Tryz.f275)) (jaS 13 (jaJ Tryz.f275)))) := by kernel_rfl
theorem fs8 : jaS 8 (jaJ Tryz.f275) = .seq (jaM 8 (jaJ Tryz.f275)) (.seq (jaM 9 (jaJ Tryz.f275)) (jaS 10 (jaJ Tryz.f275))) := by kernel_rfl
theorem fs7 : jaS 7 (jaJ Tryz.f275) = .seq (jaM 7 (jaJ Tryz.f275)) (jaS 8 (jaJ Tryz.f275)) := by kernel_rfl
theorem fs6 : jaS 6 (jaJ Tryz.f275) = .seq (jaM 6 (jaJ Tryz.f275)) (jaS 7 (jaJ Tryz.f275)) := by kernel_rfl
theorem fs0 : (jaJ Tryz.f275) = .seq (jaM 0 (jaJ Tryz.f275)) (.seq (jaM 1 (jaJ Tryz.f275)) (.seq (jaM 2 (jaJ Tryz.f275)) (.seq (jaM 3 (jaJ Tryz.f275)) (.seq (jaM 4 (jaJ Tryz.f275)) (.seq (jaM 5 (jaJ Tryz.f275)) (jaS 6 (jaJ Tryz.f275))))))) := by kernel_rfl
theorem lab0 : findLabel (jaJ Tryz.f275) 0 = some (.seq .skip (jaS 21 (jaJ Tryz.f275))) := by kernel_rfl
theorem lab1 : findLabel (jaJ Tryz.f275) 1 = some (.seq .skip (jaS 17 (jaJ Tryz.f275))) := by kernel_rfl
theorem jfS : jaQ true .u64 1 52 = some (.int .u64 4503599627370496) := by kernel_rfl
theorem sh52_2 : jaQ true .u64 2 52 = some (.int .u64 9007199254740992) := by kernel_rfl
theorem jcC : jaQ true .i64 1 11 = some (.int .i64 2048) := by kernel_rfl
theorem sh11_b : jaQ true .u64 4503599627370496 11 = some (.int .u64 9223372036854775808) := by kernel_rfl
theorem qs1 : jak .i64 (Int.sub 2048 1) = 2047 := by kernel_rfl
theorem qs2 : jak .u64 (Int.sub 4503599627370496 1) = 4503599627370495 := by kernel_rfl
theorem qs3 : jak .i64 (Int.add (-1023) 1) = -1022 := by kernel_rfl
theorem qs4 : jak .u64 (Int.add 1 52) = 53 := by kernel_rfl
theorem qs5 : jak .i64 53 = 53 := by kernel_rfl
theorem qs6 : jak .i64 (Int.add 2047 (-1023)) = 1024 := by kernel_rfl
theorem wAndL (a : Nat) : jbA Nat.land .u64 .u64 (.ofNat (W a)) 4503599627370495 = some (.int .u64 (.ofNat (W (W a &&& 4503599627370495)))) := jfJ _ 4503599627370495 (W_lt a) (by decide)
theorem wOrS (a : Nat) : jbA Nat.lor .u64 .u64 (.ofNat (W a)) 9223372036854775808 = some (.int .u64 (.ofNat (W (W a ||| 9223372036854775808)))) := w_or _ 9223372036854775808 (W_lt a) (by decide)
theorem wShr1 (a : Nat) : jaQ false .u64 (.ofNat (W a)) 1 = some (.int .u64 (.ofNat (W (W a / 2 ^ 1)))) := wShr a 1 (by decide)
theorem i_and (y : Nat) (hy : y < 18446744073709551616) : jbA Nat.land .i64 .i64 (.ofNat y) 2047 = some (.int .i64 (.ofNat (y &&& 2047))) := by
 have h : jbA Nat.land .i64 .i64 (.ofNat y) 2047 = some (.int .i64 (jak .i64 (.ofNat (y &&& 2047)))) := by
  unfold jbA
  simp only [decide_true, jcB]
  rw [show Nat.blt y 18446744073709551616 = true from by simpa using hy]
  rfl
 rw [h]
 have : y &&& 2047 ≤ 2047 := Nat.and_le_right
 exact congrArg (fun z => some (Value.int .i64 z)) (wrap_i64 _ (by show (-9223372036854775808 : Int) ≤ ((y &&& 2047 : Nat) : Int); omega) (by show ((y &&& 2047 : Nat) : Int) < 9223372036854775808; omega))
theorem conv_wi (n : Int) : jaG pZ 88 3 (.int .u64 n) = some (.int .i64 (jak .i64 n)) := by
 simp only [jaG, Tryz.underlying3, Tryz.underlying88]
theorem fb_out (m : Nat) (e : Int) (he : -1023 ≤ e) (he2 : e < 100000) (ovf neg : Bool) : ∃ b, ∀ {X : XT} {k i n : Nat} {tm : T Value} {μ : Mem} {D : Nat → Nat} {dp : Int} {tr : Bool}, Lay μ → Dec μ i D n dp neg tr → jac tm 0 = .pointer (some ⟨i, 0, none⟩) → jac tm 1 = .pointer (some ⟨11, 0, none⟩) → jac tm 5 = .bool ovf → jac tm 6 = .int .i64 e → jac tm 7 = u m →
  EndsC (jaj pZ X S0 (k + 60) (jaS 21 (jaJ Tryz.f275)) ⟨243, tm, [], none⟩ μ) fun x r μ' => x = .ret ∧ (∃ c, μ' = ⟨μ.obs, μ.next + c⟩) ∧ ∃ tm', r = ⟨243, tm', [], none⟩ ∧ jac tm' 4 = u b ∧ jac tm' 5 = .bool ovf := by
 obtain ⟨y, hy⟩ : ∃ y : Nat, e - (-1023) = .ofNat y := ⟨(e + 1023).toNat, by show e - (-1023) = (((e + 1023).toNat : Nat) : Int); omega⟩
 have hyb : y < 18446744073709551616 := by have : e - (-1023) = (y : Int) := hy; omega
 have q1 : jak .i64 (Int.sub e (-1023)) = .ofNat y := by rw [← hy]; exact jbU e (-1023) (by omega) (by omega)
 have q2 := i_and y hyb
 have q3 : jak .u64 (.ofNat (y &&& 2047)) = .ofNat (W (y &&& 2047)) := jbR _
 cases neg with
 | false =>
   refine ⟨W (W m &&& 4503599627370495) ||| W (Sh (W (y &&& 2047)) 52), fun {X k i n tm μ D dp tr} hL h h0 h1 h5 h6 h7 => ?_⟩
   have f0 : ∀ z, jal ⟨μ.obs, z⟩ 11 0 = some (.int .u64 52) := fun z => hL.fi0
   have f1 : ∀ z, jal ⟨μ.obs, z⟩ 11 1 = some (.int .u64 11) := fun z => hL.fi1
   have f2 : ∀ z, jal ⟨μ.obs, z⟩ 11 2 = some (.int .i64 (-1023)) := fun z => hL.fi2
   have hg := fun z => (h.up z).g
   repeat (refine jaa rfl ?_; (try simp only [go_sem, h0, h1, h5, h6, h7, hL.fi0, hL.fi1, hL.fi2, jfS, qs2, wAndL]); fail_if_success refine stk ?_)
   refine jaz (n := 22) (ms := [0, 0, 0, 4, 12, 28, 62, 0, 128, 384, 896, 1920, 3968, 8190, 16382, 0, 32768, 98304, 229376, 524286, 1048575, 2097151]) (ord := [0, 1, 2, 3, 4, 5, 6, 7, 8, 9, 10, 11, 12, 13, 14, 15, 16, 17, 18, 19, 20, 21]) (ds := ?_) ?_ ?_ ?_ ?_ ?_ ?_
   rotate_left
   ·kernel_rfl
   ·kernel_rfl
   ·kernel_rfl
   ·rfl
   ·rfl
   iterate 22 (refine jay (by first | rfl | (simp only [go_sem, h0, h1, h5, h6, h7, jcn, jcm, jcl, jbN, jaT, f0, f1, f2, q1, jcC, qs1, q2, jcx, q3, jc8, wOr])) (by simp only [jaC, heavy, jaO, jar, go_sem, h0, h1, h5, h6, h7, jcn, jcm, jcl, jbN, jaT, f0, f1, f2, q1, jcC, qs1, q2, jcx, q3, jc8, wOr]; try exact rfl) rfl ?_)
   simp only [dRun, jat, jai]
   repeat (refine jaa rfl ?_; (try simp only [go_sem, h0, h1, h5, h6, h7, hg]); fail_if_success refine stk ?_)
   refine jad ?_
   exact ⟨by trivial, ⟨_, rfl⟩, _, rfl, by simp only [go_sem], by simp only [go_sem, h5]⟩
 | true =>
   refine ⟨W (W (W m &&& 4503599627370495) ||| W (Sh (W (y &&& 2047)) 52)) ||| 9223372036854775808, fun {X k i n tm μ D dp tr} hL h h0 h1 h5 h6 h7 => ?_⟩
   have f0 : ∀ z, jal ⟨μ.obs, z⟩ 11 0 = some (.int .u64 52) := fun z => hL.fi0
   have f1 : ∀ z, jal ⟨μ.obs, z⟩ 11 1 = some (.int .u64 11) := fun z => hL.fi1
   have f2 : ∀ z, jal ⟨μ.obs, z⟩ 11 2 = some (.int .i64 (-1023)) := fun z => hL.fi2
   have hg := fun z => (h.up z).g
   repeat (refine jaa rfl ?_; (try simp only [go_sem, h0, h1, h5, h6, h7, hL.fi0, hL.fi1, hL.fi2, jfS, qs2, wAndL]); fail_if_success refine stk ?_)
   refine jaz (n := 22) (ms := [0, 0, 0, 4, 12, 28, 62, 0, 128, 384, 896, 1920, 3968, 8190, 16382, 0, 32768, 98304, 229376, 524286, 1048575, 2097151]) (ord := [0, 1, 2, 3, 4, 5, 6, 7, 8, 9, 10, 11, 12, 13, 14, 15, 16, 17, 18, 19, 20, 21]) (ds := ?_) ?_ ?_ ?_ ?_ ?_ ?_
   rotate_left
   ·kernel_rfl
   ·kernel_rfl
   ·kernel_rfl
   ·rfl
   ·rfl
   iterate 22 (refine jay (by first | rfl | (simp only [go_sem, h0, h1, h5, h6, h7, jcn, jcm, jcl, jbN, jaT, f0, f1, f2, q1, jcC, qs1, q2, jcx, q3, jc8, wOr])) (by simp only [jaC, heavy, jaO, jar, go_sem, h0, h1, h5, h6, h7, jcn, jcm, jcl, jbN, jaT, f0, f1, f2, q1, jcC, qs1, q2, jcx, q3, jc8, wOr]; try exact rfl) rfl ?_)
   simp only [dRun, jat, jai]
   repeat (refine jaa rfl ?_; (try simp only [go_sem, h0, h1, h5, h6, h7, hg]); fail_if_success refine stk ?_)
   refine jaz (n := 13) (ms := [0, 0, 2, 6, 14, 30, 0, 64, 192, 448, 1022, 2047, 4095]) (ord := [0, 1, 2, 3, 4, 5, 6, 7, 8, 9, 10, 11, 12]) (ds := ?_) ?_ ?_ ?_ ?_ ?_ ?_
   rotate_left
   ·kernel_rfl
   ·kernel_rfl
   ·kernel_rfl
   ·rfl
   ·rfl
   iterate 13 (refine jay (by first | rfl | (simp only [go_sem, h0, h1, h5, h6, h7, jcn, jcm, jcl, jbN, jaT, f0, f1, f2, jfS, sh11_b, wOrS])) (by simp only [jaC, heavy, jaO, jar, go_sem, h0, h1, h5, h6, h7, jcn, jcm, jcl, jbN, jaT, f0, f1, f2, jfS, sh11_b, wOrS]; try exact rfl) rfl ?_)
   simp only [dRun, jat, jai]
   repeat (refine jaa rfl ?_; (try simp only [go_sem, h0, h1, h5, h6, h7]); fail_if_success refine stk ?_)
   refine jad ?_
   exact ⟨by trivial, ⟨22 + 13, by rw [← Nat.add_assoc]⟩, _, rfl, by simp only [go_sem], by simp only [go_sem, h5]⟩
def Mid (o : Option (Nat × Int)) (neg : Bool) (i : Nat) (μ : Mem) : Ax → Rg → Mem → Prop := fun x r μ' => Only μ μ' i ∧ (∃ D n dp tr, Dec μ' i D n dp neg tr) ∧ ∃ tm', r = ⟨243, tm', [], none⟩ ∧ jac tm' 0 = .pointer (some ⟨i, 0, none⟩) ∧ jac tm' 1 = .pointer (some ⟨11, 0, none⟩) ∧
 (match o with
 | none => x = .goto 1
 | some (m, e) => x = .goto 0 ∧ jac tm' 5 = .bool false ∧ jac tm' 6 = .int .i64 e ∧ jac tm' 7 = u m)
def FinB (b : Nat) (ovf : Bool) (i : Nat) (μ : Mem) : Ax → Rg → Mem → Prop := fun x r μ' => x = .ret ∧ Only μ μ' i ∧ ∃ tm', r = ⟨243, tm', [], none⟩ ∧ jac tm' 4 = u b ∧ jac tm' 5 = .bool ovf
attribute [local irreducible] jaS
theorem fb_fin (o : Option (Nat × Int)) (neg : Bool) (ho : ∀ m e, o = some (m, e) → -1023 ≤ e ∧ e < 100000) : ∃ b ovf, ∀ {X : XT} {k i : Nat} {μ0 μ : Mem} {y : Option (Ax × Rg × Mem)}, Lay μ0 → Grow μ0 μ → μ0.next ≤ i → EndsC y (Mid o neg i μ) → EndsC y (scopeC (k + 100) pZ X S0 (jaJ Tryz.f275) (FinB b ovf i μ)) := by
 cases o with
 | none =>
   obtain ⟨b, hb⟩ := fb_out 0 1024 (by decide) (by decide) true neg
   refine ⟨b, true, fun {X k i μ0 μ y} hL hG hi h => ?_⟩
   refine rzM h ?_
   rintro x r μ1 ⟨ho, ⟨D, n, dp, tr, hd⟩, tm, rfl, h0, h1, rfl⟩
   have hL1 := hL.grow (hG.only ho hi)
   have f1 : ∀ z, jal ⟨μ1.obs, z⟩ 11 1 = some (.int .u64 11) := fun z => hL1.fi1
   have f2 : ∀ z, jal ⟨μ1.obs, z⟩ 11 2 = some (.int .i64 (-1023)) := fun z => hL1.fi2
   refine ⟨_, lab1, ?_⟩
   rw [fs17]
   repeat (refine jaa rfl ?_; (try simp only [go_sem]); fail_if_success refine stk ?_)
   refine jaz (n := 12) (ms := [0, 1, 3, 7, 15, 31, 0, 64, 192, 448, 1023, 2047]) (ord := [0, 1, 2, 3, 4, 5, 6, 7, 8, 9, 10, 11]) (ds := ?_) ?_ ?_ ?_ ?_ ?_ ?_
   rotate_left
   ·kernel_rfl
   ·kernel_rfl
   ·kernel_rfl
   ·rfl
   ·rfl
   iterate 12 (refine jay (by first | rfl | (simp only [go_sem, h0, h1, jcn, jcm, jcl, jbN, jaT, f1, f2, jcC, qs1, qs6])) (by simp only [jaC, heavy, jaO, jar, go_sem, h0, h1, jcn, jcm, jcl, jbN, jaT, f1, f2, jcC, qs1, qs6]; try exact rfl) rfl ?_)
   simp only [dRun, jat, jai]
   repeat (refine jaa rfl ?_; (try simp only [go_sem]); fail_if_success refine stk ?_)
   refine rzM (hb (k := k + 35) (hL1.grow ⟨Nat.le_add_right _ _, fun _ _ => rfl⟩) (hd.up _) (by simp only [go_sem, h0]) (by simp only [go_sem, h1]) (by simp only [go_sem]) (by simp only [go_sem]) (by simp only [go_sem]; exact u_of (n := 0) (by decide))) ?_
   rintro x r μ2 ⟨rfl, ⟨c, rfl⟩, tm', rfl, h4, h5⟩
   exact ⟨rfl, ho.trans ((Only.up μ1 i 12).trans (Only.up _ _ _)), _, rfl, h4, h5⟩
 | some p =>
   obtain ⟨m, e⟩ := p
   obtain ⟨h1, h2⟩ := ho m e rfl
   obtain ⟨b, hb⟩ := fb_out m e h1 h2 false neg
   refine ⟨b, false, fun {X k i μ0 μ y} hL hG hi h => ?_⟩
   refine rzM h ?_
   rintro x r μ1 ⟨ho, ⟨D, n, dp, tr, hd⟩, tm, rfl, h0, h1, rfl, h5, h6, h7⟩
   have hL1 := hL.grow (hG.only ho hi)
   refine ⟨_, lab0, ?_⟩
   repeat (refine jaa rfl ?_; (try simp only [go_sem]); fail_if_success refine stk ?_)
   refine rzM (hb (k := k + 39) hL1 hd h0 h1 h5 h6 h7) ?_
   rintro x r μ2 ⟨rfl, ⟨c, rfl⟩, tm', rfl, h4, h5⟩
   exact ⟨rfl, ho.trans (Only.up _ _ _), _, rfl, h4, h5⟩
end
end Go.Proofs.YtlkenchibdeinaaGreatDoor.ce
