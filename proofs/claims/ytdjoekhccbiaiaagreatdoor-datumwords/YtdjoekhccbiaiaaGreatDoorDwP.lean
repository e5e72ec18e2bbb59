/-
  distafflaw05.DatumWords, part P: its walk and its law. No conditions.
-/
import Derived.Test.YtdjoekhccbiaiaaGreatDoorEvZw
import Derived.Test.YtdjoekhccbiaiaaGreatDoorEvZd
import Derived.Test.YtdjoekhccbiaiaaGreatDoorRows
import Derived.Test.YtdjoekhccbiaiaaGreatDoorDwO
import Derived.LaidLaws
import GoSem.PinnedTables
set_option maxRecDepth 20000
set_option maxHeartbeats 8000000
set_option linter.unusedSimpArgs false
set_option linter.unusedVariables false
set_option linter.unusedSectionVars false
namespace Go.Proofs.YtdjoekhccbiaiaaGreatDoor.dw
open Go Go.Proofs Go.Proofs.YtdjoekhccbiaiaaGreatDoor Go.Proofs.YtdjoekhccbiaiaaGreatDoor.Ev
noncomputable section
abbrev XT : Type := FuncId → List Value → Mem → Option (Value × Mem)
theorem gle {m n : Nat} (h : m ≤ n) : ∃ k, n = k + m := Nat.exists_eq_add_of_le' h
theorem nbl {a b : Nat} (h : Nat.ble a b = true) : a ≤ b := Nat.le_of_ble_eq_true h
attribute [go_sem] Nat.reduceLT Nat.reduceAdd Nat.reduceEqDiff reduceIte reduceCtorEq run1 run2 wanted jbm ja4 jdE aRes T.lay aOne aP aR aA aT jd2 jff aev jcY aput_mk aput_none jaV jdv jev aBin aInt Addr.add Nat.zero_add ends_some if_true jao if_false decide_true decide_false Bool.not_true Bool.not_false beq_self_eq_true beq_tf beq_ft aPick List.map_cons List.map_nil List.nil_append List.append_nil List.getElem?_cons_zero List.getElem?_cons_succ
def roms : List (Nat × List Value × TypeId) := []
def plainL : List Nat := [97, 98, 99, 100, 101, 102, 103, 104, 105, 106, 107, 108, 109, 110, 111, 112, 113, 114, 115, 116, 117, 118, 119, 120, 121, 122, 65, 66, 67, 68, 69, 70, 71, 72, 73, 74, 75, 76, 77, 78, 79, 80, 81, 82, 83, 84, 85, 86, 87, 88, 89, 90, 48, 49, 50, 51, 52, 53, 54, 55, 56, 57, 33, 36, 37, 38, 42, 47, 58, 60, 61, 62, 63, 94, 95, 126, 43, 45, 46, 64]
def fP : List Value → Option Value
 | [.int .u8 (.ofNat c)] => if c < 256 then some (.bool (plainL.contains c)) else none
 | _ => none
def fF : List Value → Option Value
 | [.int .u8 (.ofNat c)] => if c < 256 then some (.int .u8 (.ofNat (NumText.form c))) else none
 | _ => none
abbrev S0 : List (FuncId × LK) := [(4, .alive roms), (14, .plain fP), (16, .plain fP), (85, .plain fF)]
section
set_option linter.defProp false
variable {X : XT} {ev : Code → Rg → Mem → Option (Ax × Rg × Mem)}
def gg186 := go_call (P := Tryz.prog) (X := X) (ev := ev) (S := S0) Tryz.func186 rfl rfl
def jjS := go_call (P := Tryz.prog) (X := X) (ev := ev) (S := S0) Tryz.func150 rfl rfl
def gg173 := go_call (P := Tryz.prog) (X := X) (ev := ev) (S := S0) Tryz.func173 rfl rfl
def jcl := go_call (P := Tryz.prog) (X := X) (ev := ev) (S := S0) Tryz.func148 rfl rfl
def jjP := go_call (P := Tryz.prog) (X := X) (ev := ev) (S := S0) Tryz.func176 rfl rfl
def jjO := go_call (P := Tryz.prog) (X := X) (ev := ev) (S := S0) Tryz.func181 rfl rfl
def jby := go_call (P := Tryz.prog) (X := X) (ev := ev) (S := S0) Tryz.func179 rfl rfl
def gg188 := go_call (P := Tryz.prog) (X := X) (ev := ev) (S := S0) Tryz.func188 rfl rfl
def jgI := go_call (P := Tryz.prog) (X := X) (ev := ev) (S := S0) Tryz.func151 rfl rfl
def jjN := go_call (P := Tryz.prog) (X := X) (ev := ev) (S := S0) Tryz.func182 rfl rfl
def jjU := go_call (P := Tryz.prog) (X := X) (ev := ev) (S := S0) Tryz.func140 rfl rfl
def gg139 := go_call (P := Tryz.prog) (X := X) (ev := ev) (S := S0) Tryz.func139 rfl rfl
def gg184 := go_call (P := Tryz.prog) (X := X) (ev := ev) (S := S0) Tryz.func184 rfl rfl
def gg183 := go_call (P := Tryz.prog) (X := X) (ev := ev) (S := S0) Tryz.func183 rfl rfl
def jjR := go_call (P := Tryz.prog) (X := X) (ev := ev) (S := S0) Tryz.func157 rfl rfl
def jjQ := go_call (P := Tryz.prog) (X := X) (ev := ev) (S := S0) Tryz.func171 rfl rfl
end
theorem jfC : Tryz.prog.info? 3 = some Tryz.t3 := by kernel_rfl
theorem jiX : Tryz.prog.info? 4 = some Tryz.t4 := by kernel_rfl
theorem i_u8 : Tryz.prog.info? 5 = some Tryz.t5 := by kernel_rfl
theorem i_str : Tryz.prog.info? 9 = some Tryz.t9 := by kernel_rfl
theorem i_f64 : Tryz.prog.info? 24 = some Tryz.t24 := by kernel_rfl
theorem jjI : Tryz.prog.info? 85 = some Tryz.t85 := by kernel_rfl
theorem i_uint : Tryz.prog.info? 112 = some Tryz.t112 := by kernel_rfl
theorem jdJ : Tryz.prog.info? 56 = some Tryz.t56 := by kernel_rfl
theorem i_Int : Tryz.prog.info? 27 = some Tryz.t27 := by kernel_rfl
theorem i_Num : Tryz.prog.info? 29 = some Tryz.t29 := by kernel_rfl
theorem i_sc : Tryz.prog.info? 223 = some Tryz.t223 := by kernel_rfl
theorem i_pm : Tryz.prog.info? 243 = some Tryz.t243 := by kernel_rfl
theorem i_lc : Tryz.prog.info? 247 = some Tryz.t247 := by kernel_rfl
theorem i_a800 : Tryz.prog.info? 185 = some Tryz.t185 := by kernel_rfl
theorem jap (μ : Mem) (i o : Nat) : jci Tryz.prog μ 3 (.pointer (some ⟨i, o, none⟩)) = jau μ i o := jcp Tryz.underlying3 rfl μ i o
theorem jaD (μ : Mem) (i o : Nat) : jci Tryz.prog μ 4 (.pointer (some ⟨i, o, none⟩)) = jau μ i o := jcp Tryz.underlying4 rfl μ i o
theorem jaP (μ : Mem) (i o : Nat) : jci Tryz.prog μ 5 (.pointer (some ⟨i, o, none⟩)) = jau μ i o := jcp Tryz.underlying5 rfl μ i o
theorem ld_str (μ : Mem) (i o : Nat) : jci Tryz.prog μ 9 (.pointer (some ⟨i, o, none⟩)) = jau μ i o := jcp Tryz.underlying9 rfl μ i o
theorem jbs (μ : Mem) (i o : Nat) : jci Tryz.prog μ 24 (.pointer (some ⟨i, o, none⟩)) = jau μ i o := jcp Tryz.underlying24 rfl μ i o
theorem jeg (μ : Mem) (i o : Nat) : jci Tryz.prog μ 85 (.pointer (some ⟨i, o, none⟩)) = jau μ i o := jcp Tryz.underlying85 rfl μ i o
theorem jaz (μ : Mem) (i o : Nat) : jci Tryz.prog μ 112 (.pointer (some ⟨i, o, none⟩)) = jau μ i o := jcp Tryz.underlying112 rfl μ i o
theorem jbX (μ : Mem) (i o : Nat) : jci Tryz.prog μ 56 (.pointer (some ⟨i, o, none⟩)) = jau μ i o := jcp Tryz.underlying56 rfl μ i o
theorem jb1 (μ : Mem) (i o : Nat) : jci Tryz.prog μ 232 (.pointer (some ⟨i, o, none⟩)) = jau μ i o := jcp Tryz.underlying232 rfl μ i o
theorem ld_Cs (μ : Mem) (i o : Nat) : jci Tryz.prog μ 248 (.pointer (some ⟨i, o, none⟩)) = jau μ i o := jcp Tryz.underlying248 rfl μ i o
theorem jfb (μ : Mem) (i o : Nat) : jci Tryz.prog μ 88 (.pointer (some ⟨i, o, none⟩)) = jau μ i o := jcp Tryz.underlying88 rfl μ i o
theorem jdH (μ : Mem) (i o : Nat) : jci Tryz.prog μ 231 (.pointer (some ⟨i, o, none⟩)) = jau μ i o := jcp Tryz.underlying231 rfl μ i o
theorem jaG (ρ : Operand → Value) (x : Operand) : ja7 Tryz.prog ρ 178 x 0 = (match ρ x with | .pointer (some a) => some (.pointer (some (a.add 0))) | _ => none) := ja9 (ft := 112) (off := 0) Tryz.underlying178 rfl i_uint rfl ρ x
theorem jbK (ρ : Operand → Value) (x : Operand) : ja7 Tryz.prog ρ 178 x 1 = (match ρ x with | .pointer (some a) => some (.pointer (some (a.add 1))) | _ => none) := ja9 (ft := 112) (off := 1) Tryz.underlying178 rfl i_uint rfl ρ x
theorem ja8 (ρ : Operand → Value) (x : Operand) : ja7 Tryz.prog ρ 178 x 2 = (match ρ x with | .pointer (some a) => some (.pointer (some (a.add 2))) | _ => none) := ja9 (ft := 3) (off := 2) Tryz.underlying178 rfl jfC rfl ρ x
theorem jax (ρ : Operand → Value) (x : Operand) : ja7 Tryz.prog ρ 187 x 0 = (match ρ x with | .pointer (some a) => some (.pointer (some (a.add 0))) | _ => none) := ja9 (ft := 185) (off := 0) Tryz.underlying187 rfl i_a800 rfl ρ x
theorem jar (ρ : Operand → Value) (x : Operand) : ja7 Tryz.prog ρ 187 x 1 = (match ρ x with | .pointer (some a) => some (.pointer (some (a.add 800))) | _ => none) := ja9 (ft := 3) (off := 800) Tryz.underlying187 rfl jfC rfl ρ x
theorem jaw (ρ : Operand → Value) (x : Operand) : ja7 Tryz.prog ρ 187 x 2 = (match ρ x with | .pointer (some a) => some (.pointer (some (a.add 801))) | _ => none) := ja9 (ft := 3) (off := 801) Tryz.underlying187 rfl jfC rfl ρ x
theorem jbE (ρ : Operand → Value) (x : Operand) : ja7 Tryz.prog ρ 187 x 3 = (match ρ x with | .pointer (some a) => some (.pointer (some (a.add 802))) | _ => none) := ja9 (ft := 4) (off := 802) Tryz.underlying187 rfl jiX rfl ρ x
theorem jaH (ρ : Operand → Value) (x : Operand) : ja7 Tryz.prog ρ 187 x 4 = (match ρ x with | .pointer (some a) => some (.pointer (some (a.add 803))) | _ => none) := ja9 (ft := 4) (off := 803) Tryz.underlying187 rfl jiX rfl ρ x
theorem jel (ρ : Operand → Value) (x : Operand) : ja7 Tryz.prog ρ 223 x 0 = (match ρ x with | .pointer (some a) => some (.pointer (some (a.add 0))) | _ => none) := ja9 (ft := 85) (off := 0) Tryz.underlying223 rfl jjI rfl ρ x
theorem jek (ρ : Operand → Value) (x : Operand) : ja7 Tryz.prog ρ 223 x 1 = (match ρ x with | .pointer (some a) => some (.pointer (some (a.add 1))) | _ => none) := ja9 (ft := 85) (off := 1) Tryz.underlying223 rfl jjI rfl ρ x
theorem jcD (ρ : Operand → Value) (x : Operand) : ja7 Tryz.prog ρ 223 x 2 = (match ρ x with | .pointer (some a) => some (.pointer (some (a.add 2))) | _ => none) := ja9 (ft := 3) (off := 2) Tryz.underlying223 rfl jfC rfl ρ x
theorem fa_pm0 (ρ : Operand → Value) (x : Operand) : ja7 Tryz.prog ρ 243 x 0 = (match ρ x with | .pointer (some a) => some (.pointer (some (a.add 0))) | _ => none) := ja9 (ft := 85) (off := 0) Tryz.underlying243 rfl jjI rfl ρ x
theorem fa_pm1 (ρ : Operand → Value) (x : Operand) : ja7 Tryz.prog ρ 243 x 1 = (match ρ x with | .pointer (some a) => some (.pointer (some (a.add 1))) | _ => none) := ja9 (ft := 85) (off := 1) Tryz.underlying243 rfl jjI rfl ρ x
theorem fa_lc0 (ρ : Operand → Value) (x : Operand) : ja7 Tryz.prog ρ 247 x 0 = (match ρ x with | .pointer (some a) => some (.pointer (some (a.add 0))) | _ => none) := ja9 (ft := 3) (off := 0) Tryz.underlying247 rfl jfC rfl ρ x
theorem fa_lc1 (ρ : Operand → Value) (x : Operand) : ja7 Tryz.prog ρ 247 x 1 = (match ρ x with | .pointer (some a) => some (.pointer (some (a.add 1))) | _ => none) := ja9 (ft := 9) (off := 1) Tryz.underlying247 rfl i_str rfl ρ x
theorem W_ex : ∃ f : Nat → Nat, ∀ a, f a = a % 18446744073709551616 := ⟨_, fun _ => rfl⟩
def W : Nat → Nat := Classical.choose W_ex
theorem W_def (a : Nat) : W a = a % 18446744073709551616 := Classical.choose_spec W_ex a
theorem W_lt (a : Nat) : W a < 18446744073709551616 := by rw [W_def]; exact Nat.mod_lt _ (by decide)
theorem W_of {a : Nat} (h : a < 18446744073709551616) : W a = a := by rw [W_def]; exact Nat.mod_eq_of_lt h
theorem W_W (a : Nat) : W (W a) = W a := W_of (W_lt a)
theorem wrap_u64 (n : Int) : jay .u64 n = .ofNat (n % 18446744073709551616).toNat := by
 rw [jbI]
 show IntKind.wrap .u64 n = _
 unfold IntKind.wrap
 simp only [IntKind.bits, IntKind.signed]
 simp
 omega
theorem jbP (n : Nat) : jay .u64 (.ofNat n) = .ofNat (W n) := by
 rw [wrap_u64]
 rw [W_def]
 show Int.ofNat (((n : Int) % 18446744073709551616).toNat) = Int.ofNat (n % 18446744073709551616)
 exact congrArg Int.ofNat (by omega)
theorem w_add (a b : Nat) : jay .u64 (Int.add (.ofNat a) (.ofNat b)) = .ofNat (W (a + b)) := jbP (a + b)
theorem w_mul (a b : Nat) : jay .u64 (Int.mul (.ofNat a) (.ofNat b)) = .ofNat (W (a * b)) := jbP (a * b)
theorem w_sub (a b : Nat) (h : b < 18446744073709551616) : jay .u64 (Int.sub (.ofNat a) (.ofNat b)) = .ofNat (W (a + (18446744073709551616 - b))) := by
 rw [wrap_u64]
 rw [W_def]
 show Int.ofNat (((a : Int) - (b : Int)) % 18446744073709551616).toNat = Int.ofNat ((a + (18446744073709551616 - b)) % 18446744073709551616)
 exact congrArg Int.ofNat (by omega)
theorem jh1 (a b : Nat) (ha : a < 18446744073709551616) (hb : b < 18446744073709551616) : jb3 Nat.land .u64 .u64 (.ofNat a) (.ofNat b) = some (.int .u64 (.ofNat (W (a &&& b)))) := by
 unfold jb3
 simp only [decide_true, jdN]
 rw [show Nat.blt a 18446744073709551616 = true from by simpa using ha, show Nat.blt b 18446744073709551616 = true from by simpa using hb]
 simp only
 rw [jbP]; rfl
theorem w_or (a b : Nat) (ha : a < 18446744073709551616) (hb : b < 18446744073709551616) : jb3 Nat.lor .u64 .u64 (.ofNat a) (.ofNat b) = some (.int .u64 (.ofNat (W (a ||| b)))) := by
 unfold jb3
 simp only [decide_true, jdN]
 rw [show Nat.blt a 18446744073709551616 = true from by simpa using ha, show Nat.blt b 18446744073709551616 = true from by simpa using hb]
 simp only
 rw [jbP]; rfl
theorem w_shr (a y : Nat) (hy : y ≤ 64) (ha : a < 18446744073709551616) : jbg false .u64 (.ofNat a) (.ofNat y) = some (.int .u64 (.ofNat (W (a / 2 ^ y)))) := by
 unfold jbg
 simp only [jdN]
 rw [Nat.ble_eq_true_of_le hy]
 simp only
 rw [W_of (Nat.lt_of_le_of_lt (Nat.div_le_self _ _) ha)]; rfl
theorem w_shl (a y : Nat) (hy : y ≤ 64) : jbg true .u64 (.ofNat a) (.ofNat y) = some (.int .u64 (.ofNat (W (a * 2 ^ y)))) := by
 unfold jbg
 simp only [jdN]
 rw [Nat.ble_eq_true_of_le hy]
 simp only
 rw [jbP]; rfl
theorem Sh_ex : ∃ f : Nat → Nat → Nat, ∀ a y, f a y = W (a * 2 ^ y) := ⟨_, fun _ _ => rfl⟩
def Sh : Nat → Nat → Nat := Classical.choose Sh_ex
theorem Sh_def (a y : Nat) : Sh a y = W (a * 2 ^ y) := Classical.choose_spec Sh_ex a y
theorem wAdd (a b : Nat) : jay .u64 (Int.add (.ofNat (W a)) (.ofNat (W b))) = .ofNat (W (W a + W b)) := w_add _ _
theorem wMul (a b : Nat) : jay .u64 (Int.mul (.ofNat (W a)) (.ofNat (W b))) = .ofNat (W (W a * W b)) := w_mul _ _
theorem wSub (a b : Nat) : jay .u64 (Int.sub (.ofNat (W a)) (.ofNat (W b))) = .ofNat (W (W a + (18446744073709551616 - W b))) := w_sub _ _ (W_lt b)
theorem wAnd (a b : Nat) : jb3 Nat.land .u64 .u64 (.ofNat (W a)) (.ofNat (W b)) = some (.int .u64 (.ofNat (W (W a &&& W b)))) := jh1 _ _ (W_lt a) (W_lt b)
theorem wOr (a b : Nat) : jb3 Nat.lor .u64 .u64 (.ofNat (W a)) (.ofNat (W b)) = some (.int .u64 (.ofNat (W (W a ||| W b)))) := w_or _ _ (W_lt a) (W_lt b)
theorem wShr (a y : Nat) (hy : y ≤ 64) : jbg false .u64 (.ofNat (W a)) (.ofNat y) = some (.int .u64 (.ofNat (W (W a / 2 ^ y)))) := w_shr _ _ hy (W_lt a)
theorem wShl (a y : Nat) (hy : y ≤ 64) : jbg true .u64 (.ofNat (W a)) (.ofNat y) = some (.int .u64 (.ofNat (W (Sh (W a) y)))) := by rw [Sh_def, W_W]; exact w_shl (W a) y hy
theorem wShr2 (a : Nat) : jbg false .u64 (.ofNat (W a)) 2 = some (.int .u64 (.ofNat (W (W a / 2 ^ 2)))) := wShr a 2 (by decide)
theorem wShr32 (a : Nat) : jbg false .u64 (.ofNat (W a)) 32 = some (.int .u64 (.ofNat (W (W a / 2 ^ 32)))) := wShr a 32 (by decide)
theorem wShl2 (a : Nat) : jbg true .u64 (.ofNat (W a)) 2 = some (.int .u64 (.ofNat (W (Sh (W a) 2)))) := wShl a 2 (by decide)
theorem jdi (a : Nat) : jbg true .u64 (.ofNat (W a)) 52 = some (.int .u64 (.ofNat (W (Sh (W a) 52)))) := by rw [Sh_def, W_W]; exact w_shl (W a) 52 (by decide)
theorem wAndM (a : Nat) : jb3 Nat.land .u64 .u64 (.ofNat (W a)) 4294967295 = some (.int .u64 (.ofNat (W (W a &&& 4294967295)))) := jh1 _ 4294967295 (W_lt a) (by decide)
theorem jjh (a : Nat) : jb3 Nat.land .u64 .u64 (.ofNat (W a)) 1 = some (.int .u64 (.ofNat (W (W a &&& 1)))) := jh1 _ 1 (W_lt a) (by decide)
theorem jh3 (a : Nat) : jb3 Nat.land .u64 .u64 (.ofNat (W a)) 4503599627370496 = some (.int .u64 (.ofNat (W (W a &&& 4503599627370496)))) := jh1 _ 4503599627370496 (W_lt a) (by decide)
theorem wAndS (a : Nat) : jb3 Nat.land .u64 .u64 (.ofNat (W a)) 9223372036854775808 = some (.int .u64 (.ofNat (W (W a &&& 9223372036854775808)))) := jh1 _ 9223372036854775808 (W_lt a) (by decide)
theorem wOr0 (a : Nat) : jb3 Nat.lor .u64 .u64 (.ofNat (W a)) 0 = some (.int .u64 (.ofNat (W (W a ||| 0)))) := w_or _ 0 (W_lt a) (by decide)
theorem wOr1 (a : Nat) : jb3 Nat.lor .u64 .u64 (.ofNat (W a)) 1 = some (.int .u64 (.ofNat (W (W a ||| 1)))) := w_or _ 1 (W_lt a) (by decide)
theorem wOrI (a : Nat) : jb3 Nat.lor .u64 .u64 (.ofNat (W a)) 9218868437227405312 = some (.int .u64 (.ofNat (W (W a ||| 9218868437227405312)))) := w_or _ 9218868437227405312 (W_lt a) (by decide)
theorem je3 (a : Nat) : jay .u64 (Int.add (.ofNat (W a)) 1) = .ofNat (W (W a + 1)) := w_add _ 1
theorem wSub2 (a : Nat) : jay .u64 (Int.sub (.ofNat (W a)) 2) = .ofNat (W (W a + 18446744073709551614)) := w_sub _ 2 (by decide)
theorem jcx (a : Nat) : jay .u64 (Int.mul (.ofNat (W a)) 10) = .ofNat (W (W a * 10)) := w_mul _ 10
theorem jaO (a : Nat) (c : Int) (b : Nat) (h : c = .ofNat b) : ieq (.ofNat a) c = decide (a = b) := by rw [h]; exact jb7 a b
theorem jbx (a : Nat) (c : Int) (b : Nat) (h : c = .ofNat b) : ilt (.ofNat a) c = decide (a < b) := by rw [h]; exact jav a b
theorem jdf (a : Nat) (c : Int) (b : Nat) (h : c = .ofNat b) : ilt c (.ofNat a) = decide (b < a) := by rw [h]; exact jav b a
abbrev u (a : Nat) : Value := .int .u64 (.ofNat (W a))
theorem u_of {n : Nat} (h : n < 18446744073709551616) : Value.int .u64 (.ofNat n) = u n := by show _ = Value.int .u64 (.ofNat (W n)); rw [W_of h]
theorem jbq (a b : Int) : ilt a b = decide (a < b) := jgh a b
theorem wrap_i64 (n : Int) (h : -9223372036854775808 ≤ n) (h2 : n < 9223372036854775808) : jay .i64 n = n := by
 rw [jbI]; exact IntWalk.i64_in _ (by omega)
theorem jfD (a b : Int) (h : -4611686018427387904 < a + b) (h2 : a + b < 4611686018427387904) : jay .i64 (Int.add a b) = a + b := wrap_i64 (a + b) (by omega) (by omega)
theorem jdK (a b : Int) (h : -4611686018427387904 < a - b) (h2 : a - b < 4611686018427387904) : jay .i64 (Int.sub a b) = a - b := wrap_i64 (a - b) (by omega) (by omega)
theorem i_mul (a b : Int) (h : -4611686018427387904 < a * b) (h2 : a * b < 4611686018427387904) : jay .i64 (Int.mul a b) = a * b := wrap_i64 (a * b) (by omega) (by omega)
theorem jcZ {ρ : Operand → Value} {d : Option Tmp} {t ty : TypeId} {x : Operand} {ps : String} {af : Array Edge} {gd : Option (Nat × Bool)} {n : Int} (hx : ρ x = .int .i64 n) (h : -4611686018427387904 < n) (h2 : n < 4611686018427387904) : ja0 Tryz.prog ρ ⟨d, .unOp .neg t x, ty, ps, af, gd⟩ = some (.int .i64 (-n)) := by
 unfold ja0
 have e : pv Tryz.prog (execOp ρ ⟨d, .unOp .neg t x, ty, ps, af, gd⟩) = some (.value (.int .i64 (-n))) := by
  simp only [execOp, hx]
  show some (Next.value (.int .i64 (IntKind.i64.wrap (0 - n)))) = _
  rw [IntWalk.i64_in _ (by omega), Int.zero_sub]
 simp only [opsOf, jb6, hx, jaV, e]
end
noncomputable section
variable {X : XT}
def b2 (t : Bool) : Nat := if t then 1 else 0
theorem b2_le (t : Bool) : b2 t ≤ 1 := by cases t <;> decide
set_option maxHeartbeats 4000000 in
theorem jhK {g : Nat} {t : Bool} {μ : Mem} (hg : 10 ≤ g) : aFun Tryz.prog (jat Tryz.prog X S0 g) 148 [.bool t] μ = some (u (b2 t), μ) := by
 obtain ⟨k, rfl⟩ := gle hg
 refine jaQ ?_
 cases t with
 | true =>
   refine jan Tryz.func148 rfl rfl (nbl rfl) ?_
   simp only [go_sem, Tryz.ntmps148]
   repeat (first | refine jaf ?_ | ((first | (refine jad ?_ ?_; (focus rfl)) | (refine jac (gs := ?_) ?_ ?_; rotate_left; (focus rfl))); simp only [run1, go_sem]) | (refine jab ?_ ?_; (focus (simp only [go_sem]; done))) | (refine jaa ?_ ?_; (focus (simp only [go_sem]; done))) | ((first | refine jaj ?_ | refine jai ?_ | refine jak ?_); try simp only [go_sem]) | refine jah ?_)
   refine jam ?_
   refine ⟨rfl, _, ?_, rfl, rfl⟩
   simp only [go_sem, Tryz.results148]
   exact congrArg some (u_of (n := 1) (by decide))
 | false =>
   refine jan Tryz.func148 rfl rfl (nbl rfl) ?_
   simp only [go_sem, Tryz.ntmps148]
   repeat (first | refine jaf ?_ | ((first | (refine jad ?_ ?_; (focus rfl)) | (refine jac (gs := ?_) ?_ ?_; rotate_left; (focus rfl))); simp only [run1, go_sem]) | (refine jab ?_ ?_; (focus (simp only [go_sem]; done))) | (refine jaa ?_ ?_; (focus (simp only [go_sem]; done))) | ((first | refine jaj ?_ | refine jai ?_ | refine jak ?_); try simp only [go_sem]) | refine jah ?_)
   refine jam ?_
   refine ⟨rfl, _, ?_, rfl, rfl⟩
   simp only [go_sem, Tryz.results148]
   exact congrArg some (u_of (n := 0) (by decide))
set_option maxHeartbeats 4000000 in
theorem bool2i_eq {g : Nat} {t : Bool} {μ : Mem} (hg : 10 ≤ g) : aFun Tryz.prog (jat Tryz.prog X S0 g) 173 [.bool t] μ = some (.int .i64 (.ofNat (b2 t)), μ) := by
 obtain ⟨k, rfl⟩ := gle hg
 refine jaQ ?_
 cases t with
 | true =>
   refine jan Tryz.func173 rfl rfl (nbl rfl) ?_
   simp only [go_sem, Tryz.ntmps173]
   repeat (first | refine jaf ?_ | ((first | (refine jad ?_ ?_; (focus rfl)) | (refine jac (gs := ?_) ?_ ?_; rotate_left; (focus rfl))); simp only [run1, go_sem]) | (refine jab ?_ ?_; (focus (simp only [go_sem]; done))) | (refine jaa ?_ ?_; (focus (simp only [go_sem]; done))) | ((first | refine jaj ?_ | refine jai ?_ | refine jak ?_); try simp only [go_sem]) | refine jah ?_)
   refine jam ?_
   refine ⟨rfl, _, ?_, rfl, rfl⟩
   simp only [go_sem, Tryz.results173]
   rfl
 | false =>
   refine jan Tryz.func173 rfl rfl (nbl rfl) ?_
   simp only [go_sem, Tryz.ntmps173]
   repeat (first | refine jaf ?_ | ((first | (refine jad ?_ ?_; (focus rfl)) | (refine jac (gs := ?_) ?_ ?_; rotate_left; (focus rfl))); simp only [run1, go_sem]) | (refine jab ?_ ?_; (focus (simp only [go_sem]; done))) | (refine jaa ?_ ?_; (focus (simp only [go_sem]; done))) | ((first | refine jaj ?_ | refine jai ?_ | refine jak ?_); try simp only [go_sem]) | refine jah ?_)
   refine jam ?_
   refine ⟨rfl, _, ?_, rfl, rfl⟩
   simp only [go_sem, Tryz.results173]
   rfl
set_option maxHeartbeats 4000000 in
theorem jiS (a b : Nat) : ∃ h l, ∀ {X : XT} {g : Nat} {μ : Mem}, 30 ≤ g → aFun Tryz.prog (jat Tryz.prog X S0 g) 171 [u a, u b] μ = some (.tuple #[u h, u l], μ) := by
 refine ⟨?_, ?_, fun {X g μ} hg => ?_⟩
 rotate_left 2
 ·obtain ⟨k, rfl⟩ := gle hg
  refine jaQ ?_
  refine jan Tryz.func171 rfl rfl (nbl rfl) ?_
  simp only [go_sem, Tryz.ntmps171]
  repeat (first | refine jaf ?_ | ((first | (refine jad ?_ ?_; (focus rfl)) | (refine jac (gs := ?_) ?_ ?_; rotate_left; (focus rfl))); simp only [run1, go_sem, wAdd, wMul, wAnd, wAndM, wShr32]) | (refine jab ?_ ?_; (focus (simp only [go_sem, wAdd, wMul, wAnd, wAndM, wShr32]; done))) | (refine jaa ?_ ?_; (focus (simp only [go_sem, wAdd, wMul, wAnd, wAndM, wShr32]; done))) | ((first | refine jaj ?_ | refine jai ?_ | refine jak ?_); try simp only [go_sem]) | refine jah ?_)
  refine jam ?_
  refine ⟨rfl, _, ?_, rfl, rfl⟩
  simp only [go_sem, Tryz.results171]
  rfl
set_option maxHeartbeats 4000000 in
theorem unmin_ex (a : Nat) : ∃ r, ∀ {X : XT} {g : Nat} {μ : Mem}, 10 ≤ g → aFun Tryz.prog (jat Tryz.prog X S0 g) 184 [u a] μ = some (u r, μ) := by
 refine ⟨?_, fun {X g μ} hg => ?_⟩
 rotate_left 1
 ·obtain ⟨k, rfl⟩ := gle hg
  refine jaQ ?_
  refine jan Tryz.func184 rfl rfl (nbl rfl) ?_
  simp only [go_sem, Tryz.ntmps184]
  repeat (first | refine jaf ?_ | ((first | (refine jad ?_ ?_; (focus rfl)) | (refine jac (gs := ?_) ?_ ?_; rotate_left; (focus rfl))); simp only [run1, go_sem, wShl2, wSub2]) | (refine jab ?_ ?_; (focus (simp only [go_sem, wShl2, wSub2]; done))) | (refine jaa ?_ ?_; (focus (simp only [go_sem, wShl2, wSub2]; done))) | ((first | refine jaj ?_ | refine jai ?_ | refine jak ?_); try simp only [go_sem]) | refine jah ?_)
  refine jam ?_
  refine ⟨rfl, _, ?_, rfl, rfl⟩
  simp only [go_sem, Tryz.results184]
  rfl
set_option maxHeartbeats 4000000 in
theorem round_ex (a : Nat) : ∃ r, ∀ {X : XT} {g : Nat} {μ : Mem}, 10 ≤ g → aFun Tryz.prog (jat Tryz.prog X S0 g) 186 [u a] μ = some (u r, μ) := by
 refine ⟨?_, fun {X g μ} hg => ?_⟩
 rotate_left 1
 ·obtain ⟨k, rfl⟩ := gle hg
  refine jaQ ?_
  refine jan Tryz.func186 rfl rfl (nbl rfl) ?_
  simp only [go_sem, Tryz.ntmps186]
  repeat (first | refine jaf ?_ | ((first | (refine jad ?_ ?_; (focus rfl)) | (refine jac (gs := ?_) ?_ ?_; rotate_left; (focus rfl))); simp only [run1, go_sem, wShr2, je3, jjh, wAdd]) | (refine jab ?_ ?_; (focus (simp only [go_sem, wShr2, je3, jjh, wAdd]; done))) | (refine jaa ?_ ?_; (focus (simp only [go_sem, wShr2, je3, jjh, wAdd]; done))) | ((first | refine jaj ?_ | refine jai ?_ | refine jak ?_); try simp only [go_sem]) | refine jah ?_)
  refine jam ?_
  refine ⟨rfl, _, ?_, rfl, rfl⟩
  simp only [go_sem, Tryz.results186]
  rfl
theorem jfB {ρ : Operand → Value} {x y : Operand} {s : ByteArray} {kd : IntKind} {m : Nat} {b : UInt8} (hx : ρ x = .string s) (hy : ρ y = .int kd (.ofNat m)) (hb : s.data.toList[m]? = some b) : jbi Tryz.prog ρ 9 x y = some (.int .u8 (.ofNat b.toNat)) := by
 unfold jbi
 simp only [hx, hy, Tryz.underlying9, hb]
 rfl
abbrev len8 : ByteArray := ⟨List.toArray (List.append (List.append [0, 1, 2, 2, 3, 3, 3, 3, 4, 4, 4, 4, 4, 4, 4, 4, 5, 5, 5, 5, 5, 5, 5, 5, 5, 5, 5, 5, 5, 5, 5, 5, 6, 6, 6, 6, 6, 6, 6, 6, 6, 6, 6, 6, 6, 6, 6, 6, 6, 6, 6, 6, 6, 6, 6, 6, 6, 6, 6, 6, 6, 6, 6, 6] [7, 7, 7, 7, 7, 7, 7, 7, 7, 7, 7, 7, 7, 7, 7, 7, 7, 7, 7, 7, 7, 7, 7, 7, 7, 7, 7, 7, 7, 7, 7, 7, 7, 7, 7, 7, 7, 7, 7, 7, 7, 7, 7, 7, 7, 7, 7, 7, 7, 7, 7, 7, 7, 7, 7, 7, 7, 7, 7, 7, 7, 7, 7, 7]) (List.append [8, 8, 8, 8, 8, 8, 8, 8, 8, 8, 8, 8, 8, 8, 8, 8, 8, 8, 8, 8, 8, 8, 8, 8, 8, 8, 8, 8, 8, 8, 8, 8, 8, 8, 8, 8, 8, 8, 8, 8, 8, 8, 8, 8, 8, 8, 8, 8, 8, 8, 8, 8, 8, 8, 8, 8, 8, 8, 8, 8, 8, 8, 8, 8] [8, 8, 8, 8, 8, 8, 8, 8, 8, 8, 8, 8, 8, 8, 8, 8, 8, 8, 8, 8, 8, 8, 8, 8, 8, 8, 8, 8, 8, 8, 8, 8, 8, 8, 8, 8, 8, 8, 8, 8, 8, 8, 8, 8, 8, 8, 8, 8, 8, 8, 8, 8, 8, 8, 8, 8, 8, 8, 8, 8, 8, 8, 8, 8]))⟩
theorem len8_all : ∀ m, m < 256 → ∃ b, len8.data.toList[m]? = some b ∧ b.toNat ≤ 8 ∧ m < 2 ^ b.toNat := by
 intro m hm
 have h : ∀ m, m < 256 → (match len8.data.toList[m]? with | some b => decide (b.toNat ≤ 8) && decide (m < 2 ^ b.toNat) | none => false) = true := by decide +kernel
 have := h m hm
 split at this
 ·rename_i b hb
  simp only [Bool.and_eq_true, decide_eq_true_eq] at this
  exact ⟨b, hb, this.1, this.2⟩
 ·cases this
theorem jbp (n : Int) : jbb Tryz.prog 85 5 (.int .u64 n) = some (.int .u8 (jay .u8 n)) := by
 simp only [jbb, Tryz.underlying85, Tryz.underlying5]
theorem ja3 (n : Int) : jbb Tryz.prog 5 3 (.int .u8 n) = some (.int .i64 (jay .i64 n)) := by
 simp only [jbb, Tryz.underlying3, Tryz.underlying5]
theorem jcs (n : Int) : jbb Tryz.prog 5 85 (.int .u8 n) = some (.int .u64 (jay .u64 n)) := by
 simp only [jbb, Tryz.underlying85, Tryz.underlying5]
theorem qu8 (m : Nat) (h : m < 256) : jay .u8 (.ofNat m) = .ofNat m := by
 rw [jbI]
 show IntKind.wrap .u8 _ = _
 unfold IntKind.wrap
 simp only [IntKind.bits, IntKind.signed]
 simp
 omega
theorem len64_ex (a : Nat) : ∃ b, b ≤ 64 ∧ W a < 2 ^ b ∧ ∀ {X : XT} {g : Nat} {μ : Mem}, 40 ≤ g → aFun Tryz.prog (jat Tryz.prog X S0 g) 157 [u a] μ = some (.int .i64 (.ofNat b), μ) := by
 have st : ∀ (x c : Nat) (t y : Nat), ∃ (big : Bool) (x' c' : Nat), (decide (x < t) = !big) ∧ (big = true → x' = x / 2 ^ y ∧ c' = c + y) ∧ (big = false → x' = x ∧ c' = c) := fun x c t y => by
  by_cases h : x < t
  ·exact ⟨false, x, c, by simp [h], (fun h => by cases h), fun _ => ⟨rfl, rfl⟩⟩
  ·exact ⟨true, x / 2 ^ y, c + y, by simp [h], (fun _ => ⟨rfl, rfl⟩), fun h => by cases h⟩
 obtain ⟨b1, x1, c1, h1, t1, f1⟩ := st (W a) 0 4294967296 32
 obtain ⟨b2, x2, c2, h2, t2, f2⟩ := st x1 c1 65536 16
 obtain ⟨b3, x3, c3, h3, t3, f3⟩ := st x2 c2 256 8
 have l0 := W_lt a
 have k1 : x1 < 4294967296 ∧ c1 ≤ 32 ∧ W a < (x1 + 1) * 2 ^ c1 := by
  cases b1 with
  | true => obtain ⟨rfl, rfl⟩ := t1 rfl; omega
  | false => obtain ⟨rfl, rfl⟩ := f1 rfl; simp at h1; omega
 have up : ∀ (x c y : Nat), W a < (x + 1) * 2 ^ c → W a < (x / 2 ^ y + 1) * 2 ^ (c + y) := fun x c y h => by
  refine Nat.lt_of_lt_of_le h ?_
  rw [Nat.pow_add, Nat.mul_comm (2 ^ c), ← Nat.mul_assoc]
  refine Nat.mul_le_mul_right _ ?_
  have := Nat.lt_div_mul_add (a := x) (b := 2 ^ y) (Nat.pow_pos (by decide))
  rw [Nat.add_mul, Nat.one_mul]; exact this
 have k2 : x2 < 65536 ∧ c2 ≤ 48 ∧ W a < (x2 + 1) * 2 ^ c2 := by
  obtain ⟨p, q, r⟩ := k1
  cases b2 with
  | true => obtain ⟨rfl, rfl⟩ := t2 rfl; exact ⟨by omega, by omega, up _ _ _ r⟩
  | false => obtain ⟨rfl, rfl⟩ := f2 rfl; simp at h2; exact ⟨by omega, by omega, r⟩
 have k3 : x3 < 256 ∧ c3 ≤ 56 ∧ W a < (x3 + 1) * 2 ^ c3 := by
  obtain ⟨p, q, r⟩ := k2
  cases b3 with
  | true => obtain ⟨rfl, rfl⟩ := t3 rfl; exact ⟨by omega, by omega, up _ _ _ r⟩
  | false => obtain ⟨rfl, rfl⟩ := f3 rfl; simp at h3; exact ⟨by omega, by omega, r⟩
 obtain ⟨d, hd, hd8, hdx⟩ := len8_all x3 k3.1
 refine ⟨c3 + d.toNat, by have := k3.2.1; omega, ?_, fun {X g μ} hg => ?_⟩
 ·refine Nat.lt_of_lt_of_le k3.2.2 ?_
  rw [Nat.pow_add, Nat.mul_comm]
  exact Nat.mul_le_mul_left _ hdx
 ·obtain ⟨k, rfl⟩ := gle hg
  refine jaQ ?_
  have e1 : ilt (.ofNat (W a)) 4294967296 = !b1 := (jav _ 4294967296).trans h1
  have e2 : ilt (.ofNat x1) 65536 = !b2 := (jav _ 65536).trans h2
  have e3 : ilt (.ofNat x2) 256 = !b3 := (jav _ 256).trans h3
  have s32 : ∀ m, m < 18446744073709551616 → jbg false .u64 (.ofNat m) 32 = some (.int .u64 (.ofNat (m / 2 ^ 32))) := fun m h => (w_shr m 32 (by decide) h).trans (by rw [W_of (Nat.lt_of_le_of_lt (Nat.div_le_self _ _) h)])
  have s16 : ∀ m, m < 18446744073709551616 → jbg false .u64 (.ofNat m) 16 = some (.int .u64 (.ofNat (m / 2 ^ 16))) := fun m h => (w_shr m 16 (by decide) h).trans (by rw [W_of (Nat.lt_of_le_of_lt (Nat.div_le_self _ _) h)])
  have s8 : ∀ m, m < 18446744073709551616 → jbg false .u64 (.ofNat m) 8 = some (.int .u64 (.ofNat (m / 2 ^ 8))) := fun m h => (w_shr m 8 (by decide) h).trans (by rw [W_of (Nat.lt_of_le_of_lt (Nat.div_le_self _ _) h)])
  have fin : ∀ (r : Rg) (p : Operand), aev Tryz.prog r p = .int .u8 (.ofNat x3) → jbi Tryz.prog (aev Tryz.prog r) 9 (.const (.string len8)) p = some (.int .u8 (.ofNat d.toNat)) := fun r p hp => jfB (s := len8) rfl hp hd
  have q1 := qu8 x3 k3.1
  have q2 : jay .i64 (.ofNat d.toNat) = .ofNat d.toNat := q64 _ (by omega)
  have q3 : jay .i64 (Int.add (.ofNat c3) (.ofNat d.toNat)) = .ofNat (c3 + d.toNat) := ja2 _ _ (by have := k3.2.1; omega)
  have lx1 : x1 < 18446744073709551616 := by have := k1.1; omega
  have lx2 : x2 < 18446744073709551616 := by have := k2.1; omega
  have z32 := s32 (W a) l0
  have z16 := s16 x1 lx1
  have z8 := s8 x2 lx2
  have a16 : jay .i64 (Int.add (.ofNat c1) 16) = .ofNat (c1 + 16) := ja2 c1 16 (by have := k1.2.1; omega)
  have a8 : jay .i64 (Int.add (.ofNat c2) 8) = .ofNat (c2 + 8) := ja2 c2 8 (by have := k2.2.1; omega)
  refine jan Tryz.func157 rfl rfl (nbl rfl) ?_
  simp only [go_sem, Tryz.ntmps157]
  cases b1 with
  | true =>
    obtain ⟨rfl, rfl⟩ := t1 rfl
    rw [show (.ofNat (0 + 32) : Int) = 32 from rfl] at a16
    cases b2 with
    | true =>
      obtain ⟨rfl, rfl⟩ := t2 rfl
      cases b3 with
      | true =>
        obtain ⟨rfl, rfl⟩ := t3 rfl
        repeat (first | refine jaf ?_ | ((first | (refine jad ?_ ?_; (focus rfl)) | (refine jac (gs := ?_) ?_ ?_; rotate_left; (focus rfl))); simp only [run1, go_sem, e1, e2, e3, z32, z16, z8, a16, a8, jbp, q1, fin, ja3, q2, q3]) | (refine jab ?_ ?_; (focus (simp only [go_sem, e1, e2, e3, z32, z16, z8, a16, a8, jbp, q1, fin, ja3, q2, q3]; done))) | (refine jaa ?_ ?_; (focus (simp only [go_sem, e1, e2, e3, z32, z16, z8, a16, a8, jbp, q1, fin, ja3, q2, q3]; done))) | ((first | refine jaj ?_ | refine jai ?_ | refine jak ?_); try simp only [go_sem]) | refine jah ?_)
        refine jam ?_
        refine ⟨rfl, _, ?_, rfl, rfl⟩
        simp only [go_sem, Tryz.results157]
      | false =>
        obtain ⟨rfl, rfl⟩ := f3 rfl
        repeat (first | refine jaf ?_ | ((first | (refine jad ?_ ?_; (focus rfl)) | (refine jac (gs := ?_) ?_ ?_; rotate_left; (focus rfl))); simp only [run1, go_sem, e1, e2, e3, z32, z16, z8, a16, a8, jbp, q1, fin, ja3, q2, q3]) | (refine jab ?_ ?_; (focus (simp only [go_sem, e1, e2, e3, z32, z16, z8, a16, a8, jbp, q1, fin, ja3, q2, q3]; done))) | (refine jaa ?_ ?_; (focus (simp only [go_sem, e1, e2, e3, z32, z16, z8, a16, a8, jbp, q1, fin, ja3, q2, q3]; done))) | ((first | refine jaj ?_ | refine jai ?_ | refine jak ?_); try simp only [go_sem]) | refine jah ?_)
        refine jam ?_
        refine ⟨rfl, _, ?_, rfl, rfl⟩
        simp only [go_sem, Tryz.results157]
    | false =>
      obtain ⟨rfl, rfl⟩ := f2 rfl
      rw [show (.ofNat (0 + 32) : Int) = 32 from rfl] at a8
      cases b3 with
      | true =>
        obtain ⟨rfl, rfl⟩ := t3 rfl
        repeat (first | refine jaf ?_ | ((first | (refine jad ?_ ?_; (focus rfl)) | (refine jac (gs := ?_) ?_ ?_; rotate_left; (focus rfl))); simp only [run1, go_sem, e1, e2, e3, z32, z16, z8, a16, a8, jbp, q1, fin, ja3, q2, q3]) | (refine jab ?_ ?_; (focus (simp only [go_sem, e1, e2, e3, z32, z16, z8, a16, a8, jbp, q1, fin, ja3, q2, q3]; done))) | (refine jaa ?_ ?_; (focus (simp only [go_sem, e1, e2, e3, z32, z16, z8, a16, a8, jbp, q1, fin, ja3, q2, q3]; done))) | ((first | refine jaj ?_ | refine jai ?_ | refine jak ?_); try simp only [go_sem]) | refine jah ?_)
        refine jam ?_
        refine ⟨rfl, _, ?_, rfl, rfl⟩
        simp only [go_sem, Tryz.results157]
      | false =>
        obtain ⟨rfl, rfl⟩ := f3 rfl
        rw [show (.ofNat (0 + 32) : Int) = 32 from rfl] at q3
        repeat (first | refine jaf ?_ | ((first | (refine jad ?_ ?_; (focus rfl)) | (refine jac (gs := ?_) ?_ ?_; rotate_left; (focus rfl))); simp only [run1, go_sem, e1, e2, e3, z32, z16, z8, a16, a8, jbp, q1, fin, ja3, q2, q3]) | (refine jab ?_ ?_; (focus (simp only [go_sem, e1, e2, e3, z32, z16, z8, a16, a8, jbp, q1, fin, ja3, q2, q3]; done))) | (refine jaa ?_ ?_; (focus (simp only [go_sem, e1, e2, e3, z32, z16, z8, a16, a8, jbp, q1, fin, ja3, q2, q3]; done))) | ((first | refine jaj ?_ | refine jai ?_ | refine jak ?_); try simp only [go_sem]) | refine jah ?_)
        refine jam ?_
        refine ⟨rfl, _, ?_, rfl, rfl⟩
        simp only [go_sem, Tryz.results157]
  | false =>
    obtain ⟨rfl, rfl⟩ := f1 rfl
    rw [show (.ofNat 0 : Int) = 0 from rfl] at a16
    cases b2 with
    | true =>
      obtain ⟨rfl, rfl⟩ := t2 rfl
      cases b3 with
      | true =>
        obtain ⟨rfl, rfl⟩ := t3 rfl
        repeat (first | refine jaf ?_ | ((first | (refine jad ?_ ?_; (focus rfl)) | (refine jac (gs := ?_) ?_ ?_; rotate_left; (focus rfl))); simp only [run1, go_sem, e1, e2, e3, z32, z16, z8, a16, a8, jbp, q1, fin, ja3, q2, q3]) | (refine jab ?_ ?_; (focus (simp only [go_sem, e1, e2, e3, z32, z16, z8, a16, a8, jbp, q1, fin, ja3, q2, q3]; done))) | (refine jaa ?_ ?_; (focus (simp only [go_sem, e1, e2, e3, z32, z16, z8, a16, a8, jbp, q1, fin, ja3, q2, q3]; done))) | ((first | refine jaj ?_ | refine jai ?_ | refine jak ?_); try simp only [go_sem]) | refine jah ?_)
        refine jam ?_
        refine ⟨rfl, _, ?_, rfl, rfl⟩
        simp only [go_sem, Tryz.results157]
      | false =>
        obtain ⟨rfl, rfl⟩ := f3 rfl
        repeat (first | refine jaf ?_ | ((first | (refine jad ?_ ?_; (focus rfl)) | (refine jac (gs := ?_) ?_ ?_; rotate_left; (focus rfl))); simp only [run1, go_sem, e1, e2, e3, z32, z16, z8, a16, a8, jbp, q1, fin, ja3, q2, q3]) | (refine jab ?_ ?_; (focus (simp only [go_sem, e1, e2, e3, z32, z16, z8, a16, a8, jbp, q1, fin, ja3, q2, q3]; done))) | (refine jaa ?_ ?_; (focus (simp only [go_sem, e1, e2, e3, z32, z16, z8, a16, a8, jbp, q1, fin, ja3, q2, q3]; done))) | ((first | refine jaj ?_ | refine jai ?_ | refine jak ?_); try simp only [go_sem]) | refine jah ?_)
        refine jam ?_
        refine ⟨rfl, _, ?_, rfl, rfl⟩
        simp only [go_sem, Tryz.results157]
    | false =>
      obtain ⟨rfl, rfl⟩ := f2 rfl
      rw [show (.ofNat 0 : Int) = 0 from rfl] at a8
      cases b3 with
      | true =>
        obtain ⟨rfl, rfl⟩ := t3 rfl
        repeat (first | refine jaf ?_ | ((first | (refine jad ?_ ?_; (focus rfl)) | (refine jac (gs := ?_) ?_ ?_; rotate_left; (focus rfl))); simp only [run1, go_sem, e1, e2, e3, z32, z16, z8, a16, a8, jbp, q1, fin, ja3, q2, q3]) | (refine jab ?_ ?_; (focus (simp only [go_sem, e1, e2, e3, z32, z16, z8, a16, a8, jbp, q1, fin, ja3, q2, q3]; done))) | (refine jaa ?_ ?_; (focus (simp only [go_sem, e1, e2, e3, z32, z16, z8, a16, a8, jbp, q1, fin, ja3, q2, q3]; done))) | ((first | refine jaj ?_ | refine jai ?_ | refine jak ?_); try simp only [go_sem]) | refine jah ?_)
        refine jam ?_
        refine ⟨rfl, _, ?_, rfl, rfl⟩
        simp only [go_sem, Tryz.results157]
      | false =>
        obtain ⟨rfl, rfl⟩ := f3 rfl
        rw [show (.ofNat 0 : Int) = 0 from rfl] at q3
        repeat (first | refine jaf ?_ | ((first | (refine jad ?_ ?_; (focus rfl)) | (refine jac (gs := ?_) ?_ ?_; rotate_left; (focus rfl))); simp only [run1, go_sem, e1, e2, e3, z32, z16, z8, a16, a8, jbp, q1, fin, ja3, q2, q3]) | (refine jab ?_ ?_; (focus (simp only [go_sem, e1, e2, e3, z32, z16, z8, a16, a8, jbp, q1, fin, ja3, q2, q3]; done))) | (refine jaa ?_ ?_; (focus (simp only [go_sem, e1, e2, e3, z32, z16, z8, a16, a8, jbp, q1, fin, ja3, q2, q3]; done))) | ((first | refine jaj ?_ | refine jai ?_ | refine jak ?_); try simp only [go_sem]) | refine jah ?_)
        refine jam ?_
        refine ⟨rfl, _, ?_, rfl, rfl⟩
        simp only [go_sem, Tryz.results157]
end
noncomputable section
theorem shr15_any (v : Int) : pv Tryz.prog (Op.shift .shr .i64 v .u64 15) = some (.int .i64 (v / 32768)) := by
 show some (Value.int .i64 (Int.fdiv v (2 ^ 15))) = _
 rw [Int.fdiv_eq_ediv_of_nonneg _ (by decide)]; rfl
theorem shr15_neg (v : Int) (h : v < 0) : jbg false .i64 v 15 = none := by
 cases v with
 | ofNat m => exact absurd h (by simp only [Int.ofNat_eq_natCast]; omega)
 | negSucc m => rfl
theorem shr15_pos (v : Int) (h : 0 ≤ v) : jbg false .i64 v 15 = some (.int .i64 (v / 32768)) := by
 cases v with
 | ofNat m =>
   unfold jbg
   simp only [jdN]
   rfl
 | negSucc m => omega
set_option maxHeartbeats 4000000 in
theorem log2_eq {X : XT} {g : Nat} {p : Int} {μ : Mem} (hg : 20 ≤ g) (h1 : -100000 < p) (h2 : p < 100000) : aFun Tryz.prog (jat Tryz.prog X S0 g) 181 [.int .i64 p] μ = some (.int .i64 (p * 108853 / 32768), μ) := by
 obtain ⟨k, rfl⟩ := gle hg
 refine jaQ ?_
 have e1 : jay .i64 (Int.mul p 108853) = p * 108853 := i_mul p 108853 (by omega) (by omega)
 obtain ⟨v, hv⟩ : ∃ v, v = p * 108853 := ⟨_, rfl⟩
 rw [← hv] at e1 ⊢
 by_cases h0 : v < 0
 ·have e2 := shr15_neg v h0
  have e3 := shr15_any v
  refine jan Tryz.func181 rfl rfl (nbl rfl) ?_
  simp only [go_sem, Tryz.ntmps181]
  repeat (first | refine jaf ?_ | ((first | (refine jad ?_ ?_; (focus rfl)) | (refine jac (gs := ?_) ?_ ?_; rotate_left; (focus rfl))); simp only [run1, go_sem, e1, e2, e3]) | (refine jab ?_ ?_; (focus (simp only [go_sem, e1, e2, e3]; done))) | (refine jaa ?_ ?_; (focus (simp only [go_sem, e1, e2, e3]; done))) | ((first | refine jaj ?_ | refine jai ?_ | refine jak ?_); try simp only [go_sem]) | refine jah ?_)
  refine jam ?_
  refine ⟨rfl, _, ?_, rfl, rfl⟩
  simp only [go_sem, Tryz.results181]
 ·have e2 := shr15_pos v (by omega)
  refine jan Tryz.func181 rfl rfl (nbl rfl) ?_
  simp only [go_sem, Tryz.ntmps181]
  repeat (first | refine jaf ?_ | ((first | (refine jad ?_ ?_; (focus rfl)) | (refine jac (gs := ?_) ?_ ?_; rotate_left; (focus rfl))); simp only [run1, go_sem, e1, e2]) | (refine jab ?_ ?_; (focus (simp only [go_sem, e1, e2]; done))) | (refine jaa ?_ ?_; (focus (simp only [go_sem, e1, e2]; done))) | ((first | refine jaj ?_ | refine jai ?_ | refine jak ?_); try simp only [go_sem]) | refine jah ?_)
  refine jam ?_
  refine ⟨rfl, _, ?_, rfl, rfl⟩
  simp only [go_sem, Tryz.results181]
theorem i_and63 (s : Nat) (h : s < 1000000) : jb3 Nat.land .i64 .i64 (.ofNat s) 63 = some (.int .i64 (.ofNat (s &&& 63))) := by
 unfold jb3
 simp only [decide_true, jdN]
 rw [show Nat.blt s 18446744073709551616 = true from by simp; omega]
 show some (Value.int .i64 (jay .i64 (.ofNat (s &&& 63)))) = _
 rw [q64 _ (Nat.lt_of_le_of_lt Nat.and_le_right (by decide))]
theorem uscale_ex (x h l s : Nat) (hs : s < 1000000) : ∃ r d, ∀ {X : XT} {g : Nat} {μ : Mem} {i : Nat}, 80 ≤ g → jau μ i 0 = some (u h) → jau μ i 1 = some (u l) → jau μ i 2 = some (.int .i64 (.ofNat s)) →
  aFun Tryz.prog (jat Tryz.prog X S0 g) 183 [u x, .pointer (some ⟨i, 0, none⟩)] μ = some (u r, ⟨μ.obs, μ.next + d⟩) := by
 obtain ⟨a, b, hm1⟩ := jiS x h
 obtain ⟨c, e, hm2⟩ := jiS x l
 obtain ⟨t, ht⟩ : ∃ t, t = s &&& 63 := ⟨_, rfl⟩
 have ht64 : t ≤ 64 := by rw [ht]; exact Nat.le_trans Nat.and_le_right (by decide)
 have ea := i_and63 s hs
 rw [← ht] at ea
 have er := fun m => wShr m t ht64
 have el := fun m => wShl m t ht64
 by_cases hc : W (Sh (W (W a / 2 ^ t)) t) = W a
 ·have ec : ieq (.ofNat (W (Sh (W (W a / 2 ^ t)) t))) (.ofNat (W a)) = true := (jb7 _ _).trans (decide_eq_true hc)
  refine ⟨?_, 10, fun {X g μ i} hg c0 c1 c2 => ?_⟩
  rotate_left 1
  ·obtain ⟨k, rfl⟩ := gle hg
   refine jaQ ?_
   have hm1' : ∀ (g' : Nat) (μ' : Mem), 30 ≤ g' → aFun Tryz.prog (jat Tryz.prog X S0 g') 171 [u x, u h] μ' = some (.tuple #[u a, u b], μ') := fun g' μ' h => hm1 h
   have hm2' : ∀ (g' : Nat) (μ' : Mem), 30 ≤ g' → aFun Tryz.prog (jat Tryz.prog X S0 g') 171 [u x, u l] μ' = some (.tuple #[u c, u e], μ') := fun g' μ' h => hm2 h
   have hb : ∀ (g' : Nat) (q : Bool) (μ' : Mem), 10 ≤ g' → aFun Tryz.prog (jat Tryz.prog X S0 g') 148 [.bool q] μ' = some (u (b2 q), μ') := fun g' q μ' h => jhK h
   have il := jav (W b) (W c)
   have il2 : ∀ m, ilt 1 (.ofNat (W m)) = decide (1 < W m) := fun m => jav 1 (W m)
   refine jan Tryz.func183 rfl rfl (nbl rfl) ?_
   simp only [go_sem, Tryz.ntmps183]
   repeat (first | refine jaf ?_ | ((first | (refine jad ?_ ?_; (focus rfl)) | (refine jac (gs := ?_) ?_ ?_; rotate_left; (focus rfl))); simp only [run1, go_sem, jel, jek, jcD, jeg, jap, c0, c1, c2, jjQ, hm1', hm2', Nat.reduceLeDiff, ea, er, el, ec, il, jcl, hb, wSub]) | (refine jab ?_ ?_; (focus (simp only [go_sem, jel, jek, jcD, jeg, jap, c0, c1, c2, jjQ, hm1', hm2', Nat.reduceLeDiff, ea, er, el, ec, il, jcl, hb, wSub]; done))) | (refine jaa ?_ ?_; (focus (simp only [go_sem, jel, jek, jcD, jeg, jap, c0, c1, c2, jjQ, hm1', hm2', Nat.reduceLeDiff, ea, er, el, ec, il, jcl, hb, wSub]; done))) | ((first | refine jaj ?_ | refine jai ?_ | refine jak ?_); try simp only [go_sem]) | refine jah ?_)
   refine jaU (n := 10) (ms := [0, 0, 3, 0, 0, 24, 56, 120, 255, 511]) (ord := [3, 4, 5, 6, 7, 0, 1, 2, 8, 9]) (ds := ?_) ?_ ?_ ?_ ?_ ?_ ?_
   rotate_left
   ·kernel_rfl
   ·kernel_rfl
   ·kernel_rfl
   ·rfl
   ·rfl
   iterate 10 (refine jaS (by first | rfl | (simp only [go_sem, er, wSub, il2, jcl, hb, Nat.reduceLeDiff, wOr])) (by simp only [jaT, heavy, jba, jaJ, go_sem, er, wSub, il2, jcl, hb, Nat.reduceLeDiff, wOr]; try exact rfl) rfl ?_)
   simp only [dRun, jaM, jao]
   refine jam ?_
   refine ⟨rfl, _, ?_, rfl, rfl⟩
   simp only [go_sem, Tryz.results183]
   rfl
 ·have ec : ieq (.ofNat (W (Sh (W (W a / 2 ^ t)) t))) (.ofNat (W a)) = false := (jb7 _ _).trans (decide_eq_false hc)
  refine ⟨?_, 0, fun {X g μ i} hg c0 c1 c2 => ?_⟩
  rotate_left 1
  ·obtain ⟨k, rfl⟩ := gle hg
   refine jaQ ?_
   have hm1' : ∀ (g' : Nat) (μ' : Mem), 30 ≤ g' → aFun Tryz.prog (jat Tryz.prog X S0 g') 171 [u x, u h] μ' = some (.tuple #[u a, u b], μ') := fun g' μ' h => hm1 h
   refine jan Tryz.func183 rfl rfl (nbl rfl) ?_
   simp only [go_sem, Tryz.ntmps183]
   repeat (first | refine jaf ?_ | ((first | (refine jad ?_ ?_; (focus rfl)) | (refine jac (gs := ?_) ?_ ?_; rotate_left; (focus rfl))); simp only [run1, go_sem, jel, jek, jcD, jeg, jap, c0, c1, c2, jjQ, hm1', Nat.reduceLeDiff, ea, er, el, ec, wOr1]) | (refine jab ?_ ?_; (focus (simp only [go_sem, jel, jek, jcD, jeg, jap, c0, c1, c2, jjQ, hm1', Nat.reduceLeDiff, ea, er, el, ec, wOr1]; done))) | (refine jaa ?_ ?_; (focus (simp only [go_sem, jel, jek, jcD, jeg, jap, c0, c1, c2, jjQ, hm1', Nat.reduceLeDiff, ea, er, el, ec, wOr1]; done))) | ((first | refine jaj ?_ | refine jai ?_ | refine jak ?_); try simp only [go_sem]) | refine jah ?_)
   refine jam ?_
   refine ⟨rfl, _, ?_, rfl, rfl⟩
   simp only [go_sem, Tryz.results183]
   rfl
end
noncomputable section
theorem andn_ex (a : Nat) : ∃ r, bits .andNot .u64 (.ofNat a) 4503599627370496 = .ofNat (W r) := by
 unfold bits
 dsimp only
 generalize BitVec.toNat _ = N
 exact ⟨N, by rw [← jbI]; exact jbP N⟩
theorem jdS (v : Value) : pv Tryz.prog (pure v) = some v := rfl
theorem wI (n : Int) : jay .u64 n = .ofNat (W (n % 18446744073709551616).toNat) := by rw [wrap_u64, W_of (by omega)]
theorem jcE (n : Int) : jbb Tryz.prog 3 85 (.int .i64 n) = some (.int .u64 (jay .u64 n)) := by
 simp only [jbb, Tryz.underlying3, Tryz.underlying85]
def jbr (X : XT) : Prop := ∀ a μ, X 149 [u a] μ = some (.float .f64 (W a), μ)
theorem jbC {X : XT} {ev : Code → Rg → Mem → Option (Ax × Rg × Mem)} (args : List Value) (μ : Mem) : aGo Tryz.prog X (jbL Tryz.prog ev S0) 149 args μ = X 149 args μ := by
 unfold aGo
 rw [Tryz.func149]
 rfl
theorem pack64_ex (m : Nat) (e : Int) (h1 : -100000 < e) (h2 : e < 100000) : ∃ f v, ∀ {X : XT} {g : Nat} {μ : Mem}, jbr X → 20 ≤ g →
  aFun Tryz.prog (jat Tryz.prog X S0 g) 188 [u m, .int .i64 e] μ = some (.tuple #[.float .f64 f, v], μ) ∧ (v = .nilIface ∨ v = .iface 134 (.int .i64 1)) := by
 obtain ⟨n, hn⟩ := andn_ex (W m)
 have a1 := jh3 m
 obtain ⟨q, hq⟩ : ∃ q, q = W (W m &&& 4503599627370496) := ⟨_, rfl⟩
 rw [← hq] at a1
 by_cases hz : q = 0
 ·have ez : ieq (.ofNat q) 0 = true := by rw [hz]; rfl
  refine ⟨W m, .nilIface, fun {X g μ} hX hg => ⟨?_, .inl rfl⟩⟩
  obtain ⟨k, rfl⟩ := gle hg
  have x1 := hX m
  refine jaQ ?_
  refine jan Tryz.func188 rfl rfl (nbl rfl) ?_
  simp only [go_sem, Tryz.ntmps188]
  repeat (first | refine jaf ?_ | ((first | (refine jad ?_ ?_; (focus rfl)) | (refine jac (gs := ?_) ?_ ?_; rotate_left; (focus rfl))); simp only [run1, go_sem, a1, ez, jbC, x1]) | (refine jab ?_ ?_; (focus (simp only [go_sem, a1, ez, jbC, x1]; done))) | (refine jaa ?_ ?_; (focus (simp only [go_sem, a1, ez, jbC, x1]; done))) | ((first | refine jaj ?_ | refine jai ?_ | refine jak ?_); try simp only [go_sem]) | refine jah ?_)
  refine jam ?_
  refine ⟨rfl, _, ?_, rfl, rfl⟩
  simp only [go_sem, Tryz.results188]
 ·have ez : ieq (.ofNat q) 0 = false := (jaO q 0 0 rfl).trans (decide_eq_false hz)
  by_cases he : e < 972
  ·obtain ⟨z, hz'⟩ : ∃ z, jay .u64 (1075 + e) = .ofNat (W z) := ⟨_, wI _⟩
   have el : ilt e 972 = true := (jbq _ _).trans (decide_eq_true he)
   have e1 : jay .i64 (Int.add 1075 e) = 1075 + e := jfD 1075 e (by omega) (by omega)
   refine ⟨W (W n ||| W (Sh (W z) 52)), .nilIface, fun {X g μ} hX hg => ⟨?_, .inl rfl⟩⟩
   ·obtain ⟨k, rfl⟩ := gle hg
    refine jaQ ?_
    have x1 : ∀ a μ, X 149 [u a] μ = some (.float .f64 (W a), μ) := hX
    refine jan Tryz.func188 rfl rfl (nbl rfl) ?_
    simp only [go_sem, Tryz.ntmps188]
    repeat (first | refine jaf ?_ | ((first | (refine jad ?_ ?_; (focus rfl)) | (refine jac (gs := ?_) ?_ ?_; rotate_left; (focus rfl))); simp only [run1, go_sem, a1, ez]) | (refine jab ?_ ?_; (focus (simp only [go_sem, a1, ez]; done))) | (refine jaa ?_ ?_; (focus (simp only [go_sem, a1, ez]; done))) | ((first | refine jaj ?_ | refine jai ?_ | refine jak ?_); try simp only [go_sem]) | refine jah ?_)
    refine jaa ?_ ?_
    ·simp only [go_sem, el, Bool.not_true]
    refine jaj ?_
    simp only [jao]
    refine jaf ?_
    refine jad ?_ ?_
    ·rfl
    refine jcz (v := u m) (jii (by simp only [aP, go_sem, e1, hn, jdS, jcE, hz', jdi, wOr])) rfl (by decide) ?_
    refine jcz (v := .int .u64 (.ofNat (W n))) (jii (by simp only [aP, go_sem, e1, hn, jdS, jcE, hz', jdi, wOr])) rfl (by decide) ?_
    refine jcz (v := .int .i64 e) (jii (by simp only [aP, go_sem, e1, hn, jdS, jcE, hz', jdi, wOr])) rfl (by decide) ?_
    refine jcz (v := .int .i64 (1075 + e)) (jii (by simp only [aP, go_sem, e1, hn, jdS, jcE, hz', jdi, wOr])) rfl (by decide) ?_
    refine jcz (v := .int .u64 (.ofNat (W z))) (jii (by simp only [aP, go_sem, e1, hn, jdS, jcE, hz', jdi, wOr])) rfl (by decide) ?_
    refine jcz (v := .int .u64 (.ofNat (W (Sh (W z) 52)))) (jii (by simp only [aP, go_sem, e1, hn, jdS, jcE, hz', jdi, wOr])) rfl (by decide) ?_
    refine jcz (v := .int .u64 (.ofNat (W (W n ||| W (Sh (W z) 52))))) (jii (by simp only [aP, go_sem, e1, hn, jdS, jcE, hz', jdi, wOr])) rfl (by decide) ?_
    simp only [go_sem, jbC, x1]
    refine jam ?_
    refine ⟨rfl, _, ?_, rfl, rfl⟩
    simp only [go_sem, Tryz.results188]
  ·have el : ilt e 972 = false := (jbq _ _).trans (decide_eq_false he)
   have o1 : ∀ a, jb3 Nat.lor .u64 .u64 (.ofNat (W a)) 9218868437227405312 = some (.int .u64 (.ofNat (W (W a ||| 9218868437227405312)))) := wOrI
   refine ⟨?_, .iface 134 (.int .i64 1), fun {X g μ} hX hg => ⟨?_, .inr rfl⟩⟩
   rotate_left 1
   ·obtain ⟨k, rfl⟩ := gle hg
    refine jaQ ?_
    have x1 : ∀ a μ, X 149 [u a] μ = some (.float .f64 (W a), μ) := hX
    have mi : ∀ (r : Rg), jbu Tryz.prog (aev Tryz.prog r) 134 (.const (.int .i64 1)) = some (.iface 134 (.int .i64 1)) := fun r => by
     unfold jbu
     rw [Tryz.underlying134]
     rfl
    refine jan Tryz.func188 rfl rfl (nbl rfl) ?_
    simp only [go_sem, Tryz.ntmps188]
    repeat (first | refine jaf ?_ | ((first | (refine jad ?_ ?_; (focus rfl)) | (refine jac (gs := ?_) ?_ ?_; rotate_left; (focus rfl))); simp only [run1, go_sem, a1, ez, el, wAndS, o1, jbC, x1, mi]) | (refine jab ?_ ?_; (focus (simp only [go_sem, a1, ez, el, wAndS, o1, jbC, x1, mi]; done))) | (refine jaa ?_ ?_; (focus (simp only [go_sem, a1, ez, el, wAndS, o1, jbC, x1, mi]; done))) | ((first | refine jaj ?_ | refine jai ?_ | refine jak ?_); try simp only [go_sem]) | refine jah ?_)
    refine jam ?_
    refine ⟨rfl, _, ?_, rfl, rfl⟩
    simp only [go_sem, Tryz.results188]
    with_reducible rfl
end
noncomputable section
def natOf : Value → Nat
 | .int _ (.ofNat n) => n
 | _ => 0
def ptab : List Value := (flatL 3 Go.Pinned.pow10Tab).getD []
def hiT (k : Nat) : Nat := natOf (ptab.getD (2 * k) undef)
def loT (k : Nat) : Nat := natOf (ptab.getD (2 * k + 1) undef)
def fpows : List Nat := [4607182418800017408, 4621819117588971520, 4636737291354636288, 4652007308841189376, 4666723172467343360, 4681608360884174848, 4696837146684686336, 4711630319722168320, 4726483295884279808, 4741671816366391296, 4756540486875873280, 4771362005757984768, 4786511204640096256, 4801453603149578240, 4816244402031689728, 4831355200913801216, 4846369599423283200, 4861130398305394688, 4876203697187506176, 4891288408196988160, 4906019910204099648, 4921056587992461136, 4936209963552724370]
def powts : List Nat := [1, 3, 6, 9, 13, 16, 19, 23, 26]
def dlt (k : Nat) : Nat := (Go.Pinned.cheatRows.getD k (0, [])).1
def cut (k : Nat) : ByteArray := ⟨(Go.Pinned.cheatRows.getD k (0, [])).2.toArray⟩
structure Lay (μ : Mem) : Prop where
 opt : jau μ 7 0 = some (.bool true)
 fi0 : jau μ 8 0 = some (.int .u64 52)
 fi1 : jau μ 8 1 = some (.int .u64 11)
 fi2 : jau μ 8 2 = some (.int .i64 (-1023))
 pt : ∀ k, k < 696 → jau μ 13 (2 * k) = some (u (hiT k)) ∧ jau μ 13 (2 * k + 1) = some (u (loT k))
 fp : ∃ b o c, jau μ 12 0 = some (.slice (some ⟨b, o, none⟩) 23 c) ∧ b < μ.next ∧ ∀ k, k < 23 → jau μ b (o + k) = some (.float .f64 (fpows.getD k 0))
 pw : ∃ b o c, jau μ 11 0 = some (.slice (some ⟨b, o, none⟩) 9 c) ∧ b < μ.next ∧ ∀ k, k < 9 → jau μ b (o + k) = some (.int .i64 (.ofNat (powts.getD k 0)))
 lc : ∃ b o c, jau μ 14 0 = some (.slice (some ⟨b, o, none⟩) 61 c) ∧ b < μ.next ∧ ∀ k, k < 61 → jau μ b (o + 2 * k) = some (.int .i64 (.ofNat (dlt k))) ∧ jau μ b (o + 2 * k + 1) = some (.string (cut k))
 er : ∃ v, jau μ 5 0 = some v ∧ one v = true
 es : ∃ v, jau μ 4 0 = some v ∧ one v = true
 lt : 20 < μ.next
theorem jbZ {μ μ' : Mem} {i : Nat} (g : Grow μ μ') (h : i < μ.next) (o : Nat) : jau μ' i o = jau μ i o := by unfold jau; rw [g.2 i h]
theorem Lay.grow {μ μ' : Mem} (h : Lay μ) (g : Grow μ μ') : Lay μ' := by
 have c : ∀ i, i ≤ 20 → ∀ o, jau μ' i o = jau μ i o := fun i hi o => jbZ g (Nat.lt_of_le_of_lt hi h.lt) o
 refine ⟨(c _ (by decide) _).trans h.opt, (c _ (by decide) _).trans h.fi0, (c _ (by decide) _).trans h.fi1, (c _ (by decide) _).trans h.fi2, fun k hk => ?_, ?_, ?_, ?_, ?_, ?_, Nat.lt_of_lt_of_le h.lt g.1⟩
 ·rw [c _ (by decide), c _ (by decide)]; exact h.pt k hk
 ·obtain ⟨b, o, cc, h1, h2, h3⟩ := h.fp
  exact ⟨b, o, cc, (c _ (by decide) _).trans h1, Nat.lt_of_lt_of_le h2 g.1, fun k hk => (jbZ g h2 _).trans (h3 k hk)⟩
 ·obtain ⟨b, o, cc, h1, h2, h3⟩ := h.pw
  exact ⟨b, o, cc, (c _ (by decide) _).trans h1, Nat.lt_of_lt_of_le h2 g.1, fun k hk => (jbZ g h2 _).trans (h3 k hk)⟩
 ·obtain ⟨b, o, cc, h1, h2, h3⟩ := h.lc
  exact ⟨b, o, cc, (c _ (by decide) _).trans h1, Nat.lt_of_lt_of_le h2 g.1, fun k hk => ⟨(jbZ g h2 _).trans (h3 k hk).1, (jbZ g h2 _).trans (h3 k hk).2⟩⟩
 ·obtain ⟨v, h1, h2⟩ := h.er
  exact ⟨v, (c _ (by decide) _).trans h1, h2⟩
 ·obtain ⟨v, h1, h2⟩ := h.es
  exact ⟨v, (c _ (by decide) _).trans h1, h2⟩
theorem glob (g : Nat) (hg : Nat.blt g Tryz.prog.globals.size = true) (r : Rg) : aev Tryz.prog r (.global g) = .pointer (some ⟨g, 0, none⟩) := by
 show (match Nat.blt g Tryz.prog.globals.size with | true => Value.pointer (some ⟨g, 0, none⟩) | false => Value.chan none) = _
 rw [hg]
theorem gP (r : Rg) : aev Tryz.prog r (.global 13) = .pointer (some ⟨13, 0, none⟩) := glob _ (by kernel_rfl) r
theorem nF : Nat.blt 12 Tryz.prog.globals.size = true := by kernel_rfl
theorem nW : Nat.blt 11 Tryz.prog.globals.size = true := by kernel_rfl
theorem nL : Nat.blt 14 Tryz.prog.globals.size = true := by kernel_rfl
theorem nO : Nat.blt 7 Tryz.prog.globals.size = true := by kernel_rfl
theorem nI : Nat.blt 8 Tryz.prog.globals.size = true := by kernel_rfl
theorem nR : Nat.blt 5 Tryz.prog.globals.size = true := by kernel_rfl
theorem nS : Nat.blt 4 Tryz.prog.globals.size = true := by kernel_rfl
theorem blk_up {μ : Mem} {i n t m : Nat} (h : Blk μ i n t) : Blk ⟨μ.obs, m⟩ i n t := h
theorem jid {X : XT} {g i k s : Nat} {x p lp : Int} {μ : Mem} (hg : 40 ≤ g) (hL : Lay μ) (hb : Blk μ i 3 223) (hi : 20 < i) (hk : k < 696) (hp : p - (-348) = .ofNat k) (b1 : -100000 < x) (b2 : x < 100000) (b3 : -100000 < lp) (b4 : lp < 100000) (hs : -(x + lp + 3) = .ofNat s) :
  aFun Tryz.prog (jat Tryz.prog X S0 g) 182 [.pointer (some ⟨i, 0, none⟩), .int .i64 x, .int .i64 p, .int .i64 lp] μ = some (.tuple #[], putL (putL (putL μ i 0 [u (hiT k)]) i 1 [u (loT k)]) i 2 [.int .i64 (.ofNat s)]) := by
 obtain ⟨f, rfl⟩ := gle hg
 refine jaQ ?_
 have hp' : p - (-348) = (k : Int) := hp
 have q1 : jay .i64 (Int.sub p (-348)) = .ofNat k := by rw [← hp]; exact jdK p (-348) (by omega) (by omega)
 have q2 : jay .i64 (Int.add x lp) = x + lp := jfD x lp (by omega) (by omega)
 have q3 : jay .i64 (Int.add (x + lp) 3) = x + lp + 3 := jfD (x + lp) 3 (by omega) (by omega)
 obtain ⟨y, hy⟩ : ∃ y, y = x + lp + 3 := ⟨_, rfl⟩
 rw [← hy] at q3 hs
 have np : ∀ (ρ : Operand → Value) (d : Option Tmp) (t ty : TypeId) (a : Operand) (ps : String) (af : Array Edge) (gd : Option (Nat × Bool)), ρ a = .int .i64 y → ja0 Tryz.prog ρ ⟨d, .unOp .neg t a, ty, ps, af, gd⟩ = some (.int .i64 (.ofNat s)) := fun ρ d t ty a ps af gd h => by rw [← hs]; exact jcZ h (by omega) (by omega)
 have hix : ∀ (r : Rg) (b' : Operand), aev Tryz.prog r b' = .int .i64 (.ofNat k) → jaE Tryz.prog (aev Tryz.prog r) 244 (.global 13) b' = some (.pointer (some ⟨13, 2 * k, none⟩)) := fun r b' g2 => by
  unfold jaE
  simp only [g2, gP, Tryz.underlying244, aIdx, i_pm]
  rw [show Nat.blt k 696 = true from by simpa using hk]
  simp only [Addr.add]
  rw [show Nat.mul k Tryz.t243.size = 2 * k from Nat.mul_comm k 2, Nat.zero_add]
  split
  ·rename_i h; rw [h]
  ·rfl
 have hpt := hL.pt k hk
 have ne : 13 ≠ i := Nat.ne_of_lt (Nat.lt_of_le_of_lt (by decide : 13 ≤ 20) hi)
 have s0 := jb4 (P := Tryz.prog) (t := 85) (v := u (hiT k)) jjI rfl rfl hb (show 0 < 3 by decide)
 have hb1 := Blk.put (i := i) 0 [u (hiT k)] hb
 have s1 := jb4 (P := Tryz.prog) (t := 85) (v := u (loT k)) jjI rfl rfl hb1 (show 1 < 3 by decide)
 have hb2 := Blk.put (i := i) 1 [u (loT k)] hb1
 have s2 := jb4 (P := Tryz.prog) (t := 3) (v := .int .i64 (.ofNat s)) jfC rfl rfl hb2 (show 2 < 3 by decide)
 have c1 : jau (putL μ i 0 [u (hiT k)]) 13 (2 * k + 1) = some (u (loT k)) := (cells_off ne).trans hpt.2
 have a1 : ∀ n, Addr.add ⟨13, 2 * k, none⟩ n = ⟨13, 2 * k + n, none⟩ := fun n => by
  unfold Addr.add
  by_cases h : n = 0
  ·subst h; rfl
  ·rw [if_neg h]
 refine jan Tryz.func182 rfl rfl (nbl rfl) ?_
 simp only [go_sem, Tryz.ntmps182]
 repeat (first | refine jaf ?_ | ((first | (refine jad ?_ ?_; (focus rfl)) | (refine jac (gs := ?_) ?_ ?_; rotate_left; (focus rfl))); simp only [run1, go_sem, q1, q2, q3, np, hix, fa_pm0, fa_pm1, jel, jek, jcD, jeg, a1, Nat.add_zero, hpt.1, c1, s0, s1, s2]) | (refine jab ?_ ?_; (focus (simp only [go_sem, q1, q2, q3, np, hix, fa_pm0, fa_pm1, jel, jek, jcD, jeg, a1, Nat.add_zero, hpt.1, c1, s0, s1, s2]; done))) | (refine jaa ?_ ?_; (focus (simp only [go_sem, q1, q2, q3, np, hix, fa_pm0, fa_pm1, jel, jek, jcD, jeg, a1, Nat.add_zero, hpt.1, c1, s0, s1, s2]; done))) | ((first | refine jaj ?_ | refine jai ?_ | refine jak ?_); try simp only [go_sem]) | refine jah ?_)
 refine ⟨rfl, _, ?_, rfl, rfl⟩
 simp only [go_sem, Tryz.results182]
end
noncomputable section
def obS : Ob := .cells 3 223 #[.int .u64 0, .int .u64 0, .int .i64 0] .e 0 0 false false
theorem z_sc : jbn Tryz.prog 223 = some (.agg #[.int .u64 0, .int .u64 0, .int .i64 0]) := by unfold jbn; rw [i_sc]; rfl
theorem jj7 : je2 Tryz.prog 223 = some (obS, fun id => .pointer (some ⟨id, 0, none⟩)) := by unfold je2; rw [z_sc]; rfl
theorem three {μ : Mem} {i t : Nat} {a b c : Value} (h : Blk μ i 3 t) : jau (putL (putL (putL μ i 0 [a]) i 1 [b]) i 2 [c]) i 0 = some a ∧ jau (putL (putL (putL μ i 0 [a]) i 1 [b]) i 2 [c]) i 1 = some b ∧ jau (putL (putL (putL μ i 0 [a]) i 1 [b]) i 2 [c]) i 2 = some c := by
 have h1 := Blk.put (i := i) 0 [a] h
 have h2 := Blk.put (i := i) 1 [b] h1
 refine ⟨?_, ?_, ?_⟩
 ·rw [jcG h2 (by simp : 2 + [c].length ≤ 3), dif_neg (by simp), jcG h1 (by simp : 1 + [b].length ≤ 3), dif_neg (by simp), jcG h (by simp : 0 + [a].length ≤ 3), dif_pos (by simp)]; rfl
 ·rw [jcG h2 (by simp : 2 + [c].length ≤ 3), dif_neg (by simp), jcG h1 (by simp : 1 + [b].length ≤ 3), dif_pos (by simp)]; rfl
 ·rw [jcG h2 (by simp : 2 + [c].length ≤ 3), dif_pos (by simp)]; rfl
def NoErr (v : Value) : Prop := v = .nilIface ∨ v = .iface 134 (.int .i64 1)
theorem jge (d s : Nat) (p : Int) (hp1 : -349 < p) (hp2 : p < 348) : ∃ f v, NoErr v ∧ ∀ {X : XT} {g : Nat} {μ : Mem}, jbr X → Lay μ → 200 ≤ g →
  ∃ μ', aFun Tryz.prog (jat Tryz.prog X S0 g) 151 [u d, .int .i64 p, u s] μ = some (.tuple #[.float .f64 f, v], μ') ∧ Grow μ μ' := by
 obtain ⟨b, hb64, _, hlen⟩ := len64_ex d
 obtain ⟨lp, hlp⟩ : ∃ lp, lp = p * 108853 / 32768 := ⟨_, rfl⟩
 have hl1 : -1200 < lp ∧ lp < 1200 := by omega
 obtain ⟨x1, hx1⟩ : ∃ x1 : Int, x1 = 53 - (b : Int) := ⟨_, rfl⟩
 obtain ⟨x2, hx2⟩ : ∃ x2 : Int, x2 = x1 - lp := ⟨_, rfl⟩
 obtain ⟨e, he⟩ : ∃ e : Int, (if x2 < 1074 then x2 else 1074) = e := ⟨_, rfl⟩
 have he' : e ≤ x2 ∧ e ≤ 1074 ∧ (e = x2 ∨ e = 1074) := by split at he <;> omega
 obtain ⟨x4, hx4⟩ : ∃ x4 : Int, x4 = e - ((64 - b : Nat) : Int) := ⟨_, rfl⟩
 obtain ⟨sn, hsn⟩ : ∃ sn : Nat, -(x4 + lp + 3) = .ofNat sn := Int.eq_ofNat_of_zero_le (by omega)
 have hsn1 : sn < 1000000 := by have : ((sn : Nat) : Int) = -(x4 + lp + 3) := hsn.symm; omega
 obtain ⟨k, hk⟩ : ∃ k : Nat, p - (-348) = .ofNat k := Int.eq_ofNat_of_zero_le (by omega)
 have hk1 : k < 696 := by have : ((k : Nat) : Int) = p - (-348) := hk.symm; omega
 have q1 : jay .i64 (Int.sub 53 (.ofNat b)) = x1 := by rw [hx1]; exact jdK 53 (b : Int) (by omega) (by omega)
 have q2 : jay .i64 (Int.sub x1 lp) = x2 := by rw [hx2]; exact jdK x1 lp (by omega) (by omega)
 have q3 : jay .i64 (Int.sub 64 (.ofNat b)) = .ofNat (64 - b) := jco 64 b hb64 (by decide)
 have q4 : jay .i64 (Int.sub e (.ofNat (64 - b))) = x4 := by rw [hx4]; exact jdK e ((64 - b : Nat) : Int) (by omega) (by omega)
 have pre : ∀ {X : XT} {μ : Mem}, Lay μ → ∃ μ2, (∀ g, 40 ≤ g → aFun Tryz.prog (jat Tryz.prog X S0 g) 182 [.pointer (some ⟨μ.next, 0, none⟩), .int .i64 x4, .int .i64 p, .int .i64 lp] ⟨μ.obs.set μ.next obS, μ.next + 1⟩ = some (.tuple #[], μ2)) ∧
   jau μ2 μ.next 0 = some (u (hiT k)) ∧ jau μ2 μ.next 1 = some (u (loT k)) ∧ jau μ2 μ.next 2 = some (.int .i64 (.ofNat sn)) ∧ Grow μ μ2 := fun {X μ} hL => by
  have hb : Blk ⟨μ.obs.set μ.next obS, μ.next + 1⟩ μ.next 3 223 := ⟨_, _, _, _, by show T.get _ _ = _; rw [T.get_set, if_pos rfl]; rfl⟩
  obtain ⟨t0, t1, t2⟩ := three (a := u (hiT k)) (b := u (loT k)) (c := .int .i64 (.ofNat sn)) hb
  refine ⟨_, fun g hg => jid hg (hL.grow (jb2 μ obS)) hb hL.lt hk1 hk (by omega) (by omega) (by omega) (by omega) hsn, t0, t1, t2, ?_⟩
  exact ((((jb2 μ obS).put_new (Nat.le_refl _)).put_new (Nat.le_refl _)).put_new (Nat.le_refl _))
 by_cases h64 : sn < 64
 ·have c1 : ilt (.ofNat sn) 64 = true := (jav sn 64).trans (decide_eq_true h64)
  obtain ⟨r, dd, hus⟩ := uscale_ex (Sh (W d) (64 - b)) (hiT k) (loT k) sn hsn1
  obtain ⟨r2, hum⟩ := unmin_ex 9007199254740992
  rw [← u_of (n := 9007199254740992) (by decide)] at hum
  obtain ⟨t, ht⟩ : ∃ t, t = !(decide (W r < W r2)) := ⟨_, rfl⟩
  have c2 : (!ilt (.ofNat (W r)) (.ofNat (W r2))) = t := by rw [jav, ht]
  obtain ⟨rr, hro⟩ := round_ex (W (W r / 2 ^ b2 t) ||| W (W r &&& 1))
  obtain ⟨x6, hx6⟩ : ∃ x6 : Int, x6 = e - (b2 t : Int) := ⟨_, rfl⟩
  have hbt := b2_le t
  have q6 : jay .i64 (Int.sub e (.ofNat (b2 t))) = x6 := by rw [hx6]; exact jdK e (b2 t : Int) (by omega) (by omega)
  obtain ⟨f, v, hpk⟩ := pack64_ex (W s ||| W rr) (-x6) (by omega) (by omega)
  have hv : NoErr v := (hpk (X := fun _ a μ => match a with | [.int .u64 (.ofNat n)] => some (.float .f64 n, μ) | _ => none) (g := 20) (μ := ⟨.e, 0⟩) (fun a μ => rfl) (Nat.le_refl _)).2
  refine ⟨f, v, hv, fun {X g μ} hX hL hg => ?_⟩
  obtain ⟨μ2, hpre, t0, t1, t2, g2⟩ := pre (X := X) hL
  obtain ⟨n, rfl⟩ := gle hg
  refine ⟨⟨μ2.obs, μ2.next + dd⟩, ?_, g2.trans (jdr μ2 dd)⟩
  refine jaQ ?_
  have h1 : ∀ g μ, 40 ≤ g → aFun Tryz.prog (jat Tryz.prog X S0 g) 157 [u d] μ = some (.int .i64 (.ofNat b), μ) := fun g μ h => hlen h
  have h2 : ∀ g μ, 20 ≤ g → aFun Tryz.prog (jat Tryz.prog X S0 g) 181 [.int .i64 p] μ = some (.int .i64 lp, μ) := fun g μ h => by rw [hlp]; exact log2_eq h (by omega) (by omega)
  have h3 : ∀ g, 80 ≤ g → aFun Tryz.prog (jat Tryz.prog X S0 g) 183 [u (Sh (W d) (64 - b)), .pointer (some ⟨μ.next, 0, none⟩)] μ2 = some (u r, ⟨μ2.obs, μ2.next + dd⟩) := fun g h => hus h t0 t1 t2
  have h4 : ∀ g μ, 10 ≤ g → aFun Tryz.prog (jat Tryz.prog X S0 g) 184 [.int .u64 9007199254740992] μ = some (u r2, μ) := fun g μ h => hum h
  have h5 : ∀ g μ, 10 ≤ g → aFun Tryz.prog (jat Tryz.prog X S0 g) 173 [.bool t] μ = some (.int .i64 (.ofNat (b2 t)), μ) := fun g μ h => bool2i_eq h
  have h6 : ∀ g μ, 10 ≤ g → aFun Tryz.prog (jat Tryz.prog X S0 g) 186 [u (W (W r / 2 ^ b2 t) ||| W (W r &&& 1))] μ = some (u rr, μ) := fun g μ h => hro h
  have h7 : ∀ g μ, 20 ≤ g → aFun Tryz.prog (jat Tryz.prog X S0 g) 188 [u (W s ||| W rr), .int .i64 (-x6)] μ = some (.tuple #[.float .f64 f, v], μ) := fun g μ h => (hpk hX h).1
  have sh := wShl d (64 - b) (by omega)
  have sr : ∀ m, jbg false .u64 (.ofNat (W m)) (.ofNat (b2 t)) = some (.int .u64 (.ofNat (W (W m / 2 ^ b2 t)))) := fun m => wShr m (b2 t) (by omega)
  have np : ∀ (ρ : Operand → Value) (d : Option Tmp) (t ty : TypeId) (a : Operand) (ps : String) (af : Array Edge) (gd : Option (Nat × Bool)), ρ a = .int .i64 x6 → ja0 Tryz.prog ρ ⟨d, .unOp .neg t a, ty, ps, af, gd⟩ = some (.int .i64 (-x6)) := fun ρ d t ty a ps af gd h => jcZ h (by omega) (by omega)
  refine jan Tryz.func151 rfl rfl (nbl rfl) ?_
  simp only [go_sem, Tryz.ntmps151]
  repeat (first | refine jaf ?_ | ((first | (refine jad ?_ ?_; (focus rfl)) | (refine jac (gs := ?_) ?_ ?_; rotate_left; (focus rfl))); simp only [run1, go_sem, q1, q2, q3, q4, he, jae, jj7, Nat.add_eq, jjR, h1, jjO, h2, jjN, hpre, Nat.reduceLeDiff, jcD, jap, t2, c1, sh, gg183, h3, gg184, h4, c2, gg173, h5, sr, jjh, wOr, q6, gg186, h6, np, gg188, h7]) | (refine jab ?_ ?_; (focus (simp only [go_sem, q1, q2, q3, q4, he, jae, jj7, Nat.add_eq, jjR, h1, jjO, h2, jjN, hpre, Nat.reduceLeDiff, jcD, jap, t2, c1, sh, gg183, h3, gg184, h4, c2, gg173, h5, sr, jjh, wOr, q6, gg186, h6, np, gg188, h7]; done))) | (refine jaa ?_ ?_; (focus (simp only [go_sem, q1, q2, q3, q4, he, jae, jj7, Nat.add_eq, jjR, h1, jjO, h2, jjN, hpre, Nat.reduceLeDiff, jcD, jap, t2, c1, sh, gg183, h3, gg184, h4, c2, gg173, h5, sr, jjh, wOr, q6, gg186, h6, np, gg188, h7]; done))) | ((first | refine jaj ?_ | refine jai ?_ | refine jak ?_); try simp only [go_sem]) | refine jah ?_)
  refine jam ?_
  refine ⟨rfl, _, ?_, rfl, rfl⟩
  simp only [go_sem, Tryz.results151]
 ·have c1 : ilt (.ofNat sn) 64 = false := (jav sn 64).trans (decide_eq_false h64)
  refine ⟨W (W s ||| 0), .nilIface, .inl rfl, fun {X g μ} hX hL hg => ?_⟩
  obtain ⟨μ2, hpre, t0, t1, t2, g2⟩ := pre (X := X) hL
  obtain ⟨n, rfl⟩ := gle hg
  refine ⟨μ2, ?_, g2⟩
  refine jaQ ?_
  have x1' : ∀ a μ, X 149 [u a] μ = some (.float .f64 (W a), μ) := hX
  have h1 : ∀ g μ, 40 ≤ g → aFun Tryz.prog (jat Tryz.prog X S0 g) 157 [u d] μ = some (.int .i64 (.ofNat b), μ) := fun g μ h => hlen h
  have h2 : ∀ g μ, 20 ≤ g → aFun Tryz.prog (jat Tryz.prog X S0 g) 181 [.int .i64 p] μ = some (.int .i64 lp, μ) := fun g μ h => by rw [hlp]; exact log2_eq h (by omega) (by omega)
  refine jan Tryz.func151 rfl rfl (nbl rfl) ?_
  simp only [go_sem, Tryz.ntmps151]
  repeat (first | refine jaf ?_ | ((first | (refine jad ?_ ?_; (focus rfl)) | (refine jac (gs := ?_) ?_ ?_; rotate_left; (focus rfl))); simp only [run1, go_sem, q1, q2, q3, q4, he, jae, jj7, Nat.add_eq, jjR, h1, jjO, h2, jjN, hpre, Nat.reduceLeDiff, jcD, jap, t2, c1, wOr0, jbC, x1']) | (refine jab ?_ ?_; (focus (simp only [go_sem, q1, q2, q3, q4, he, jae, jj7, Nat.add_eq, jjR, h1, jjO, h2, jjN, hpre, Nat.reduceLeDiff, jcD, jap, t2, c1, wOr0, jbC, x1']; done))) | (refine jaa ?_ ?_; (focus (simp only [go_sem, q1, q2, q3, q4, he, jae, jj7, Nat.add_eq, jjR, h1, jjO, h2, jjN, hpre, Nat.reduceLeDiff, jcD, jap, t2, c1, wOr0, jbC, x1']; done))) | ((first | refine jaj ?_ | refine jai ?_ | refine jak ?_); try simp only [go_sem]) | refine jah ?_)
  refine jam ?_
  refine ⟨rfl, _, ?_, rfl, rfl⟩
  simp only [go_sem, Tryz.results151]
end
noncomputable section
def NN (b : Nat) : Prop := b % 9223372036854775808 ≤ 9218868437227405312
theorem jh0 (neg : Bool) (r : Nat) (h : r ≤ 9218868437227405312) : NN (Ieee.double.word neg r) := by
 unfold NN Ieee.Format.word
 have e : Ieee.double.signWeight = 9223372036854775808 := by decide
 rw [e]
 split <;> omega
theorem jfg (s : Bool) (m : Nat) (e : Int) : NN (Ieee.double.write (.number s m e)) := by
 show NN (Ieee.double.nearest s m e)
 unfold Ieee.Format.nearest
 have hi : Ieee.double.infRung = 9218868437227405312 := by decide
 split
 ·exact jh0 s 0 (by decide)
 ·exact jh0 s _ (by rw [hi]; exact Nat.min_le_right _ _)
theorem jg8 (s : Bool) : NN (Ieee.double.write (.infinity s)) := jh0 s _ (by decide)
theorem read_nn {b : Nat} (h : NN b) : (∃ s m e, Ieee.double.read b = .number s m e) ∨ ∃ s, Ieee.double.read b = .infinity s := by
 unfold NN at h
 unfold Ieee.Format.read
 have e1 : Ieee.double.signWeight = 9223372036854775808 := by decide
 have e2 : Ieee.double.infRung = 9218868437227405312 := by decide
 simp only [e1, e2]
 split
 ·exact .inl ⟨_, _, _, rfl⟩
 ·split
  ·exact .inl ⟨_, _, _, rfl⟩
  ·split
   ·exact .inr ⟨_, rfl⟩
   ·omega
def IsPow (b : Nat) : Prop := ∃ s m e, Ieee.double.read b = .number s m e ∧ m ≠ 0
theorem jeh : ∀ k, k < 23 → IsPow (fpows.getD k 0) := by
 intro k h
 have : ∀ k, k < 23 → (match Ieee.double.read (fpows.getD k 0) with | .number _ m _ => m != 0 | _ => false) = true := by decide +kernel
 have := this k h
 split at this
 ·rename_i s m e hr
  exact ⟨s, m, e, hr, by simpa using this⟩
 ·cases this
theorem mul_nn {a b : Nat} (ha : NN a) (hb : IsPow b) : ∃ r, Ieee.double.mul a b = some r ∧ NN r := by
 obtain ⟨t, n, j, hb, hn⟩ := hb
 unfold Ieee.Format.mul
 rw [hb]
 rcases read_nn ha with ⟨s, m, e, h⟩ | ⟨s, h⟩
 ·rw [h]; exact ⟨_, rfl, jfg _ _ _⟩
 ·rw [h]
  refine ⟨Ieee.double.write (.infinity (s ^^ t)), ?_, jg8 _⟩
  simp only [Ieee.Datum.product, if_neg hn, Option.map_some]
theorem div_nn {a b : Nat} (ha : NN a) (hb : IsPow b) : ∃ r, Ieee.double.div a b = some r ∧ NN r := by
 obtain ⟨t, n, j, hb, hn⟩ := hb
 unfold Ieee.Format.div
 rw [hb]
 rcases read_nn ha with ⟨s, m, e, h⟩ | ⟨s, h⟩
 ·rw [h]
  simp only [Ieee.Datum.quotient, if_neg hn, Option.map_some]
  exact ⟨_, rfl, jfg _ _ _⟩
 ·rw [h]
  exact ⟨_, rfl, jg8 _⟩
theorem neg_nn {a : Nat} (ha : NN a) : NN (Op.negFloat .f64 a) := by
 unfold NN at ha ⊢
 show (a ^^^ 2 ^ 63) % 2 ^ 63 ≤ _
 rw [Nat.xor_mod_two_pow, show 2 ^ 63 % 2 ^ 63 = 0 from by decide, Nat.xor_zero]
 exact ha
theorem near_nn (n : Int) : NN (FloatKind.f64.nearest n) := jfg _ _ _
theorem jaN (n : Int) : jbb Tryz.prog 85 24 (.int .u64 n) = none := by
 simp only [jbb, Tryz.underlying85, Tryz.underlying24]
theorem plain_uf {ρ : Operand → Value} {d : Option Tmp} {ty : TypeId} {x : Operand} {ps : String} {af : Array Edge} {gd : Option (Nat × Bool)} {n : Int} (hx : ρ x = .int .u64 n) : ja0 Tryz.prog ρ ⟨d, .convert 85 24 x, ty, ps, af, gd⟩ = some (.float .f64 (FloatKind.f64.nearest n)) := by
 unfold ja0
 have e : pv Tryz.prog (execOp ρ ⟨d, .convert 85 24 x, ty, ps, af, gd⟩) = some (.value (.float .f64 (FloatKind.f64.nearest n))) := by
  simp only [execOp, hx]
  kernel_rfl
 simp only [opsOf, jb6, hx, jaV, e]
theorem jju {ρ : Operand → Value} {d : Option Tmp} {t ty : TypeId} {x : Operand} {ps : String} {af : Array Edge} {gd : Option (Nat × Bool)} {a : Nat} (hx : ρ x = .float .f64 a) : ja0 Tryz.prog ρ ⟨d, .unOp .neg t x, ty, ps, af, gd⟩ = some (.float .f64 (Op.negFloat .f64 a)) := by
 unfold ja0
 have e : pv Tryz.prog (execOp ρ ⟨d, .unOp .neg t x, ty, ps, af, gd⟩) = some (.value (.float .f64 (Op.negFloat .f64 a))) := by
  simp only [execOp, hx]
  kernel_rfl
 simp only [opsOf, jb6, hx, jaV, e]
theorem anf (t : TypeId) (k j : FloatKind) (a b : Nat) : aNil Tryz.prog t (.float k a) (.float j b) = false := rfl
theorem jeC {ρ : Operand → Value} {d : Option Tmp} {t yt ty : TypeId} {x y : Operand} {ps : String} {af : Array Edge} {gd : Option (Nat × Bool)} {a b r : Nat} (hx : ρ x = .float .f64 a) (hy : ρ y = .float .f64 b) (h : Ieee.double.mul a b = some r) : ja0 Tryz.prog ρ ⟨d, .binOp .mul t x y yt, ty, ps, af, gd⟩ = some (.float .f64 r) := by
 unfold ja0
 have e : pv Tryz.prog (execOp ρ ⟨d, .binOp .mul t x y yt, ty, ps, af, gd⟩) = some (.value (.float .f64 r)) := by
  simp only [execOp, hx, hy]
  show pv Tryz.prog (do let v ← (match Ieee.double.mul a b with | some r => (pure (Value.float .f64 r) : Sem Value) | none => do pure (Value.float .f64 (← choose (.nanBits .f64 a b)))); pure (Next.value v)) = _
  rw [h]
  rfl
 simp only [opsOf, jb6, hx, hy, jaV, e]
theorem jjt {ρ : Operand → Value} {d : Option Tmp} {t yt ty : TypeId} {x y : Operand} {ps : String} {af : Array Edge} {gd : Option (Nat × Bool)} {a b r : Nat} (hx : ρ x = .float .f64 a) (hy : ρ y = .float .f64 b) (h : Ieee.double.div a b = some r) : ja0 Tryz.prog ρ ⟨d, .binOp .quo t x y yt, ty, ps, af, gd⟩ = some (.float .f64 r) := by
 unfold ja0
 have e : pv Tryz.prog (execOp ρ ⟨d, .binOp .quo t x y yt, ty, ps, af, gd⟩) = some (.value (.float .f64 r)) := by
  simp only [execOp, hx, hy]
  show pv Tryz.prog (do let v ← (match Ieee.double.div a b with | some r => (pure (Value.float .f64 r) : Sem Value) | none => do pure (Value.float .f64 (← choose (.nanBits .f64 a b)))); pure (Next.value v)) = _
  rw [h]
  rfl
 simp only [opsOf, jb6, hx, hy, jaV, e]
def fgt (a b : Nat) : Bool := Ieee.double.order a b == some .gt
def flt (a b : Nat) : Bool := Ieee.double.order a b == some .lt
theorem jhq {ρ : Operand → Value} {d : Option Tmp} {t yt ty : TypeId} {x y : Operand} {ps : String} {af : Array Edge} {gd : Option (Nat × Bool)} {a b : Nat} (hx : ρ x = .float .f64 a) (hy : ρ y = .float .f64 b) : ja0 Tryz.prog ρ ⟨d, .binOp .gtr t x y yt, ty, ps, af, gd⟩ = some (.bool (fgt a b)) := by
 unfold ja0
 have e : pv Tryz.prog (execOp ρ ⟨d, .binOp .gtr t x y yt, ty, ps, af, gd⟩) = some (.value (.bool (fgt a b))) := by
  simp only [execOp, hx, hy]
  kernel_rfl
 simp only [opsOf, jb6, hx, hy, jaV, e]
theorem jhp {ρ : Operand → Value} {d : Option Tmp} {t yt ty : TypeId} {x y : Operand} {ps : String} {af : Array Edge} {gd : Option (Nat × Bool)} {a b : Nat} (hx : ρ x = .float .f64 a) (hy : ρ y = .float .f64 b) : ja0 Tryz.prog ρ ⟨d, .binOp .lss t x y yt, ty, ps, af, gd⟩ = some (.bool (flt a b)) := by
 unfold ja0
 have e : pv Tryz.prog (execOp ρ ⟨d, .binOp .lss t x y yt, ty, ps, af, gd⟩) = some (.value (.bool (flt a b))) := by
  simp only [execOp, hx, hy]
  kernel_rfl
 simp only [opsOf, jb6, hx, hy, jaV, e]
end
noncomputable section
theorem jaY (a : Nat) : jbg false .u64 (.ofNat (W a)) 52 = some (.int .u64 (.ofNat (W (W a / 2 ^ 52)))) := wShr a 52 (by decide)
set_option maxHeartbeats 16000000 in
theorem exact_ex (m : Nat) (e : Int) (neg : Bool) (he1 : -100000 < e) (he2 : e < 100000) : ∃ f ok, ∀ {X : XT} {g : Nat} {μ : Mem}, Lay μ → 60 ≤ g →
  aFun Tryz.prog (jat Tryz.prog X S0 g) 150 [u m, .int .i64 e, .bool neg] μ = some (.tuple #[.float .f64 f, .bool ok], μ) := by
 by_cases hz : W (W m / 2 ^ 52) = 0
 rotate_left
 ·have ez : ieq (.ofNat (W (W m / 2 ^ 52))) 0 = false := (jaO _ 0 0 rfl).trans (decide_eq_false hz)
  refine ⟨0, false, fun {X g μ} hL hg => ?_⟩
  obtain ⟨n, rfl⟩ := gle hg
  refine jaQ ?_
  refine jan Tryz.func150 rfl rfl (nbl rfl) ?_
  simp only [go_sem, Tryz.ntmps150]
  repeat (first | refine jaf ?_ | ((first | (refine jad ?_ ?_; (focus rfl)) | (refine jac (gs := ?_) ?_ ?_; rotate_left; (focus rfl))); simp only [run1, go_sem, nI, jaG, jaz, hL.fi0, jaY, ez]) | (refine jab ?_ ?_; (focus (simp only [go_sem, nI, jaG, jaz, hL.fi0, jaY, ez]; done))) | (refine jaa ?_ ?_; (focus (simp only [go_sem, nI, jaG, jaz, hL.fi0, jaY, ez]; done))) | ((first | refine jaj ?_ | refine jai ?_ | refine jak ?_); try simp only [go_sem]) | refine jah ?_)
  refine jam ?_
  refine ⟨rfl, _, ?_, rfl, rfl⟩
  simp only [go_sem, Tryz.results150]
 have ez : ieq (.ofNat (W (W m / 2 ^ 52))) 0 = true := (jaO _ 0 0 rfl).trans (decide_eq_true hz)
 obtain ⟨F0, hF0⟩ : ∃ F0, F0 = FloatKind.f64.nearest (.ofNat (W m)) := ⟨_, rfl⟩
 have n0 : NN F0 := by rw [hF0]; exact near_nn _
 have pf : ∀ (ρ : Operand → Value) (d : Option Tmp) (ty : TypeId) (x : Operand) (ps : String) (af : Array Edge) (gd : Option (Nat × Bool)), ρ x = u m → ja0 Tryz.prog ρ ⟨d, .convert 85 24 x, ty, ps, af, gd⟩ = some (.float .f64 F0) := fun ρ d ty x ps af gd h => by rw [hF0]; exact plain_uf h
 obtain ⟨F1, hF1⟩ : ∃ F1, F1 = (if neg then Op.negFloat .f64 F0 else F0) := ⟨_, rfl⟩
 have n1 : NN F1 := by rw [hF1]; split; exact neg_nn n0; exact n0
 have pn : neg = true → ∀ (ρ : Operand → Value) (d : Option Tmp) (t ty : TypeId) (x : Operand) (ps : String) (af : Array Edge) (gd : Option (Nat × Bool)), ρ x = .float .f64 F0 → ja0 Tryz.prog ρ ⟨d, .unOp .neg t x, ty, ps, af, gd⟩ = some (.float .f64 F1) := fun hn ρ d t ty x ps af gd h => by rw [hF1, if_pos hn]; exact jju h
 have p0 : neg = false → F0 = F1 := fun hn => by rw [hF1, if_neg (by rw [hn]; decide)]
 by_cases e0 : e = 0
 ·have x0 : ieq e 0 = true := by rw [jeZ]; simp [e0]
  refine ⟨F1, true, fun {X g μ} hL hg => ?_⟩
  obtain ⟨n, rfl⟩ := gle hg
  refine jaQ ?_
  cases neg with
  | true =>
    have pn := pn rfl
    refine jan Tryz.func150 rfl rfl (nbl rfl) ?_
    simp only [go_sem, Tryz.ntmps150]
    repeat (first | refine jaf ?_ | ((first | (refine jad ?_ ?_; (focus rfl)) | (refine jac (gs := ?_) ?_ ?_; rotate_left; (focus rfl))); simp only [run1, go_sem, nI, jaG, jaz, hL.fi0, jaY, ez, jaN, pf, pn, x0]) | (refine jab ?_ ?_; (focus (simp only [go_sem, nI, jaG, jaz, hL.fi0, jaY, ez, jaN, pf, pn, x0]; done))) | (refine jaa ?_ ?_; (focus (simp only [go_sem, nI, jaG, jaz, hL.fi0, jaY, ez, jaN, pf, pn, x0]; done))) | ((first | refine jaj ?_ | refine jai ?_ | refine jak ?_); try simp only [go_sem]) | refine jah ?_)
    refine jam ?_
    refine ⟨rfl, _, ?_, rfl, rfl⟩
    simp only [go_sem, Tryz.results150]
  | false =>
    obtain rfl := p0 rfl
    refine jan Tryz.func150 rfl rfl (nbl rfl) ?_
    simp only [go_sem, Tryz.ntmps150]
    repeat (first | refine jaf ?_ | ((first | (refine jad ?_ ?_; (focus rfl)) | (refine jac (gs := ?_) ?_ ?_; rotate_left; (focus rfl))); simp only [run1, go_sem, nI, jaG, jaz, hL.fi0, jaY, ez, jaN, pf, x0]) | (refine jab ?_ ?_; (focus (simp only [go_sem, nI, jaG, jaz, hL.fi0, jaY, ez, jaN, pf, x0]; done))) | (refine jaa ?_ ?_; (focus (simp only [go_sem, nI, jaG, jaz, hL.fi0, jaY, ez, jaN, pf, x0]; done))) | ((first | refine jaj ?_ | refine jai ?_ | refine jak ?_); try simp only [go_sem]) | refine jah ?_)
    refine jam ?_
    refine ⟨rfl, _, ?_, rfl, rfl⟩
    simp only [go_sem, Tryz.results150]
 have x0 : ieq e 0 = false := by rw [jeZ]; simp [e0]
 by_cases ep : 0 < e
 ·have x1 : ilt 0 e = true := (jbq _ _).trans (decide_eq_true ep)
  by_cases e37 : e ≤ 37
  rotate_left
  ·have x2 : ilt 37 e = true := (jbq _ _).trans (decide_eq_true (by omega))
   have x3 : ilt e 0 = false := (jbq _ _).trans (decide_eq_false (by omega))
   refine ⟨F1, false, fun {X g μ} hL hg => ?_⟩
   obtain ⟨n, rfl⟩ := gle hg
   refine jaQ ?_
   cases neg with
   | true =>
     have pn := pn rfl
     refine jan Tryz.func150 rfl rfl (nbl rfl) ?_
     simp only [go_sem, Tryz.ntmps150]
     repeat (first | refine jaf ?_ | ((first | (refine jad ?_ ?_; (focus rfl)) | (refine jac (gs := ?_) ?_ ?_; rotate_left; (focus rfl))); simp only [run1, go_sem, nI, jaG, jaz, hL.fi0, jaY, ez, jaN, pf, pn, x0, x1, x2, x3]) | (refine jab ?_ ?_; (focus (simp only [go_sem, nI, jaG, jaz, hL.fi0, jaY, ez, jaN, pf, pn, x0, x1, x2, x3]; done))) | (refine jaa ?_ ?_; (focus (simp only [go_sem, nI, jaG, jaz, hL.fi0, jaY, ez, jaN, pf, pn, x0, x1, x2, x3]; done))) | ((first | refine jaj ?_ | refine jai ?_ | refine jak ?_); try simp only [go_sem]) | refine jah ?_)
     refine jam ?_
     refine ⟨rfl, _, ?_, rfl, rfl⟩
     simp only [go_sem, Tryz.results150]
   | false =>
     obtain rfl := p0 rfl
     refine jan Tryz.func150 rfl rfl (nbl rfl) ?_
     simp only [go_sem, Tryz.ntmps150]
     repeat (first | refine jaf ?_ | ((first | (refine jad ?_ ?_; (focus rfl)) | (refine jac (gs := ?_) ?_ ?_; rotate_left; (focus rfl))); simp only [run1, go_sem, nI, jaG, jaz, hL.fi0, jaY, ez, jaN, pf, x0, x1, x2, x3]) | (refine jab ?_ ?_; (focus (simp only [go_sem, nI, jaG, jaz, hL.fi0, jaY, ez, jaN, pf, x0, x1, x2, x3]; done))) | (refine jaa ?_ ?_; (focus (simp only [go_sem, nI, jaG, jaz, hL.fi0, jaY, ez, jaN, pf, x0, x1, x2, x3]; done))) | ((first | refine jaj ?_ | refine jai ?_ | refine jak ?_); try simp only [go_sem]) | refine jah ?_)
     refine jam ?_
     refine ⟨rfl, _, ?_, rfl, rfl⟩
     simp only [go_sem, Tryz.results150]
  have x2 : ilt 37 e = false := (jbq _ _).trans (decide_eq_false (by omega))
  by_cases e22 : 22 < e
  ·have x4 : ilt 22 e = true := (jbq _ _).trans (decide_eq_true e22)
   obtain ⟨j, hj⟩ : ∃ j : Nat, e - 22 = .ofNat j := Int.eq_ofNat_of_zero_le (by omega)
   have hj1 : j < 23 := by have : ((j : Nat) : Int) = e - 22 := hj.symm; omega
   have q1 : jay .i64 (Int.sub e 22) = .ofNat j := by rw [← hj]; exact jdK e 22 (by omega) (by omega)
   obtain ⟨F2, hm2, n2⟩ := mul_nn n1 (jeh j hj1)
   have pm : ∀ (ρ : Operand → Value) (d : Option Tmp) (t yt ty : TypeId) (x y : Operand) (ps : String) (af : Array Edge) (gd : Option (Nat × Bool)), ρ x = .float .f64 F1 → ρ y = .float .f64 (fpows.getD j 0) → ja0 Tryz.prog ρ ⟨d, .binOp .mul t x y yt, ty, ps, af, gd⟩ = some (.float .f64 F2) := fun ρ d t yt ty x y ps af gd h h' => jeC h h' hm2
   obtain ⟨P22, hP22⟩ : ∃ P, P = fpows.getD 22 0 := ⟨_, rfl⟩
   have ip22 : IsPow P22 := by rw [hP22]; exact jeh 22 (by decide)
   obtain ⟨F3, hm3, n3⟩ := mul_nn n2 ip22
   have pm3 : ∀ (ρ : Operand → Value) (d : Option Tmp) (t yt ty : TypeId) (x y : Operand) (ps : String) (af : Array Edge) (gd : Option (Nat × Bool)), ρ x = .float .f64 F2 → ρ y = .float .f64 P22 → ja0 Tryz.prog ρ ⟨d, .binOp .mul t x y yt, ty, ps, af, gd⟩ = some (.float .f64 F3) := fun ρ d t yt ty x y ps af gd h h' => jeC h h' hm3
   obtain ⟨G, hG⟩ : ∃ G, G = fgt F2 4831355200913801216 := ⟨_, rfl⟩
   obtain ⟨H, hH⟩ : ∃ H, H = flt F2 14054727237768577024 := ⟨_, rfl⟩
   have pg : ∀ (r : Rg) (d : Option Tmp) (t yt ty : TypeId) (x : Operand) (ps : String) (af : Array Edge) (gd : Option (Nat × Bool)), aev Tryz.prog r x = .float .f64 F2 → ja0 Tryz.prog (aev Tryz.prog r) ⟨d, .binOp .gtr t x (.const (.float .f64 4831355200913801216)) yt, ty, ps, af, gd⟩ = some (.bool G) := fun r d t yt ty x ps af gd h => by rw [hG]; exact jhq h rfl
   have pl : ∀ (r : Rg) (d : Option Tmp) (t yt ty : TypeId) (x : Operand) (ps : String) (af : Array Edge) (gd : Option (Nat × Bool)), aev Tryz.prog r x = .float .f64 F2 → ja0 Tryz.prog (aev Tryz.prog r) ⟨d, .binOp .lss t x (.const (.float .f64 14054727237768577024)) yt, ty, ps, af, gd⟩ = some (.bool H) := fun r d t yt ty x ps af gd h => by rw [hH]; exact jhp h rfl
   refine ⟨if G || H then F2 else F3, !(G || H), fun {X g μ} hL hg => ?_⟩
   obtain ⟨n, rfl⟩ := gle hg
   refine jaQ ?_
   obtain ⟨fb, fo, fc, hs, _, hfp⟩ := hL.fp
   have c1 := hfp j hj1
   have c2 : jau μ fb (fo + 22) = some (.float .f64 P22) := (hfp 22 (by decide)).trans (by rw [hP22])
   have hix : ∀ (r : Rg) (a b : Operand), aev Tryz.prog r a = .slice (some ⟨fb, fo, none⟩) 23 fc → aev Tryz.prog r b = .int .i64 (.ofNat j) → jaE Tryz.prog (aev Tryz.prog r) 232 a b = some (.pointer (some ⟨fb, fo + j, none⟩)) := fun r a b h1 h2 => jaZ Tryz.underlying232 i_f64 rfl h1 h2 hj1
   have hix2 : ∀ (r : Rg) (a b : Operand), aev Tryz.prog r a = .slice (some ⟨fb, fo, none⟩) 23 fc → aev Tryz.prog r b = .int .i64 22 → jaE Tryz.prog (aev Tryz.prog r) 232 a b = some (.pointer (some ⟨fb, fo + 22, none⟩)) := fun r a b h1 h2 => jaZ Tryz.underlying232 i_f64 rfl h1 (m := 22) h2 (by decide)
   cases neg with
   | true =>
     have pn := pn rfl
     cases G with
     | true =>
       refine jan Tryz.func150 rfl rfl (nbl rfl) ?_
       simp only [go_sem, Tryz.ntmps150]
       repeat (first | refine jaf ?_ | ((first | (refine jad ?_ ?_; (focus rfl)) | (refine jac (gs := ?_) ?_ ?_; rotate_left; (focus rfl))); simp only [run1, go_sem, nI, nF, jaG, jaz, hL.fi0, jaY, ez, jaN, pf, pn, x0, x1, x2, x4, jb1, hs, q1, hix, jbs, c1, anf, pm, pg]) | (refine jab ?_ ?_; (focus (simp only [go_sem, nI, nF, jaG, jaz, hL.fi0, jaY, ez, jaN, pf, pn, x0, x1, x2, x4, jb1, hs, q1, hix, jbs, c1, anf, pm, pg]; done))) | (refine jaa ?_ ?_; (focus (simp only [go_sem, nI, nF, jaG, jaz, hL.fi0, jaY, ez, jaN, pf, pn, x0, x1, x2, x4, jb1, hs, q1, hix, jbs, c1, anf, pm, pg]; done))) | ((first | refine jaj ?_ | refine jai ?_ | refine jak ?_); try simp only [go_sem]) | refine jah ?_)
       refine jam ?_
       refine ⟨rfl, _, ?_, rfl, rfl⟩
       simp only [go_sem, Tryz.results150]
       rfl
     | false =>
       cases H with
       | true =>
         refine jan Tryz.func150 rfl rfl (nbl rfl) ?_
         simp only [go_sem, Tryz.ntmps150]
         repeat (first | refine jaf ?_ | ((first | (refine jad ?_ ?_; (focus rfl)) | (refine jac (gs := ?_) ?_ ?_; rotate_left; (focus rfl))); simp only [run1, go_sem, nI, nF, jaG, jaz, hL.fi0, jaY, ez, jaN, pf, pn, x0, x1, x2, x4, jb1, hs, q1, hix, jbs, c1, anf, pm, pg, pl]) | (refine jab ?_ ?_; (focus (simp only [go_sem, nI, nF, jaG, jaz, hL.fi0, jaY, ez, jaN, pf, pn, x0, x1, x2, x4, jb1, hs, q1, hix, jbs, c1, anf, pm, pg, pl]; done))) | (refine jaa ?_ ?_; (focus (simp only [go_sem, nI, nF, jaG, jaz, hL.fi0, jaY, ez, jaN, pf, pn, x0, x1, x2, x4, jb1, hs, q1, hix, jbs, c1, anf, pm, pg, pl]; done))) | ((first | refine jaj ?_ | refine jai ?_ | refine jak ?_); try simp only [go_sem]) | refine jah ?_)
         refine jam ?_
         refine ⟨rfl, _, ?_, rfl, rfl⟩
         simp only [go_sem, Tryz.results150]
         rfl
       | false =>
         refine jan Tryz.func150 rfl rfl (nbl rfl) ?_
         simp only [go_sem, Tryz.ntmps150]
         repeat (first | refine jaf ?_ | ((first | (refine jad ?_ ?_; (focus rfl)) | (refine jac (gs := ?_) ?_ ?_; rotate_left; (focus rfl))); simp only [run1, go_sem, nI, nF, jaG, jaz, hL.fi0, jaY, ez, jaN, pf, pn, x0, x1, x2, x4, jb1, hs, q1, hix, hix2, jbs, c1, c2, anf, pm, pm3, pg, pl]) | (refine jab ?_ ?_; (focus (simp only [go_sem, nI, nF, jaG, jaz, hL.fi0, jaY, ez, jaN, pf, pn, x0, x1, x2, x4, jb1, hs, q1, hix, hix2, jbs, c1, c2, anf, pm, pm3, pg, pl]; done))) | (refine jaa ?_ ?_; (focus (simp only [go_sem, nI, nF, jaG, jaz, hL.fi0, jaY, ez, jaN, pf, pn, x0, x1, x2, x4, jb1, hs, q1, hix, hix2, jbs, c1, c2, anf, pm, pm3, pg, pl]; done))) | ((first | refine jaj ?_ | refine jai ?_ | refine jak ?_); try simp only [go_sem]) | refine jah ?_)
         refine jam ?_
         refine ⟨rfl, _, ?_, rfl, rfl⟩
         simp only [go_sem, Tryz.results150]
         rfl
   | false =>
     obtain rfl := p0 rfl
     cases G with
     | true =>
       refine jan Tryz.func150 rfl rfl (nbl rfl) ?_
       simp only [go_sem, Tryz.ntmps150]
       repeat (first | refine jaf ?_ | ((first | (refine jad ?_ ?_; (focus rfl)) | (refine jac (gs := ?_) ?_ ?_; rotate_left; (focus rfl))); simp only [run1, go_sem, nI, nF, jaG, jaz, hL.fi0, jaY, ez, jaN, pf, x0, x1, x2, x4, jb1, hs, q1, hix, jbs, c1, anf, pm, pg]) | (refine jab ?_ ?_; (focus (simp only [go_sem, nI, nF, jaG, jaz, hL.fi0, jaY, ez, jaN, pf, x0, x1, x2, x4, jb1, hs, q1, hix, jbs, c1, anf, pm, pg]; done))) | (refine jaa ?_ ?_; (focus (simp only [go_sem, nI, nF, jaG, jaz, hL.fi0, jaY, ez, jaN, pf, x0, x1, x2, x4, jb1, hs, q1, hix, jbs, c1, anf, pm, pg]; done))) | ((first | refine jaj ?_ | refine jai ?_ | refine jak ?_); try simp only [go_sem]) | refine jah ?_)
       refine jam ?_
       refine ⟨rfl, _, ?_, rfl, rfl⟩
       simp only [go_sem, Tryz.results150]
       rfl
     | false =>
       cases H with
       | true =>
         refine jan Tryz.func150 rfl rfl (nbl rfl) ?_
         simp only [go_sem, Tryz.ntmps150]
         repeat (first | refine jaf ?_ | ((first | (refine jad ?_ ?_; (focus rfl)) | (refine jac (gs := ?_) ?_ ?_; rotate_left; (focus rfl))); simp only [run1, go_sem, nI, nF, jaG, jaz, hL.fi0, jaY, ez, jaN, pf, x0, x1, x2, x4, jb1, hs, q1, hix, jbs, c1, anf, pm, pg, pl]) | (refine jab ?_ ?_; (focus (simp only [go_sem, nI, nF, jaG, jaz, hL.fi0, jaY, ez, jaN, pf, x0, x1, x2, x4, jb1, hs, q1, hix, jbs, c1, anf, pm, pg, pl]; done))) | (refine jaa ?_ ?_; (focus (simp only [go_sem, nI, nF, jaG, jaz, hL.fi0, jaY, ez, jaN, pf, x0, x1, x2, x4, jb1, hs, q1, hix, jbs, c1, anf, pm, pg, pl]; done))) | ((first | refine jaj ?_ | refine jai ?_ | refine jak ?_); try simp only [go_sem]) | refine jah ?_)
         refine jam ?_
         refine ⟨rfl, _, ?_, rfl, rfl⟩
         simp only [go_sem, Tryz.results150]
         rfl
       | false =>
         refine jan Tryz.func150 rfl rfl (nbl rfl) ?_
         simp only [go_sem, Tryz.ntmps150]
         repeat (first | refine jaf ?_ | ((first | (refine jad ?_ ?_; (focus rfl)) | (refine jac (gs := ?_) ?_ ?_; rotate_left; (focus rfl))); simp only [run1, go_sem, nI, nF, jaG, jaz, hL.fi0, jaY, ez, jaN, pf, x0, x1, x2, x4, jb1, hs, q1, hix, hix2, jbs, c1, c2, anf, pm, pm3, pg, pl]) | (refine jab ?_ ?_; (focus (simp only [go_sem, nI, nF, jaG, jaz, hL.fi0, jaY, ez, jaN, pf, x0, x1, x2, x4, jb1, hs, q1, hix, hix2, jbs, c1, c2, anf, pm, pm3, pg, pl]; done))) | (refine jaa ?_ ?_; (focus (simp only [go_sem, nI, nF, jaG, jaz, hL.fi0, jaY, ez, jaN, pf, x0, x1, x2, x4, jb1, hs, q1, hix, hix2, jbs, c1, c2, anf, pm, pm3, pg, pl]; done))) | ((first | refine jaj ?_ | refine jai ?_ | refine jak ?_); try simp only [go_sem]) | refine jah ?_)
         refine jam ?_
         refine ⟨rfl, _, ?_, rfl, rfl⟩
         simp only [go_sem, Tryz.results150]
         rfl
  ·have x4 : ilt 22 e = false := (jbq _ _).trans (decide_eq_false (by omega))
   obtain ⟨j, hj⟩ : ∃ j : Nat, e = .ofNat j := Int.eq_ofNat_of_zero_le (by omega)
   have hj1 : j < 23 := by have : ((j : Nat) : Int) = e := hj.symm; omega
   obtain ⟨F3, hm3, n3⟩ := mul_nn n1 (jeh j hj1)
   have pm3 : ∀ (ρ : Operand → Value) (d : Option Tmp) (t yt ty : TypeId) (x y : Operand) (ps : String) (af : Array Edge) (gd : Option (Nat × Bool)), ρ x = .float .f64 F1 → ρ y = .float .f64 (fpows.getD j 0) → ja0 Tryz.prog ρ ⟨d, .binOp .mul t x y yt, ty, ps, af, gd⟩ = some (.float .f64 F3) := fun ρ d t yt ty x y ps af gd h h' => jeC h h' hm3
   obtain ⟨G, hG⟩ : ∃ G, G = fgt F1 4831355200913801216 := ⟨_, rfl⟩
   obtain ⟨H, hH⟩ : ∃ H, H = flt F1 14054727237768577024 := ⟨_, rfl⟩
   have pg : ∀ (r : Rg) (d : Option Tmp) (t yt ty : TypeId) (x : Operand) (ps : String) (af : Array Edge) (gd : Option (Nat × Bool)), aev Tryz.prog r x = .float .f64 F1 → ja0 Tryz.prog (aev Tryz.prog r) ⟨d, .binOp .gtr t x (.const (.float .f64 4831355200913801216)) yt, ty, ps, af, gd⟩ = some (.bool G) := fun r d t yt ty x ps af gd h => by rw [hG]; exact jhq h rfl
   have pl : ∀ (r : Rg) (d : Option Tmp) (t yt ty : TypeId) (x : Operand) (ps : String) (af : Array Edge) (gd : Option (Nat × Bool)), aev Tryz.prog r x = .float .f64 F1 → ja0 Tryz.prog (aev Tryz.prog r) ⟨d, .binOp .lss t x (.const (.float .f64 14054727237768577024)) yt, ty, ps, af, gd⟩ = some (.bool H) := fun r d t yt ty x ps af gd h => by rw [hH]; exact jhp h rfl
   refine ⟨if G || H then F1 else F3, !(G || H), fun {X g μ} hL hg => ?_⟩
   obtain ⟨n, rfl⟩ := gle hg
   refine jaQ ?_
   obtain ⟨fb, fo, fc, hs, _, hfp⟩ := hL.fp
   have c1 := hfp j hj1
   have hix : ∀ (r : Rg) (a b : Operand), aev Tryz.prog r a = .slice (some ⟨fb, fo, none⟩) 23 fc → aev Tryz.prog r b = .int .i64 e → jaE Tryz.prog (aev Tryz.prog r) 232 a b = some (.pointer (some ⟨fb, fo + j, none⟩)) := fun r a b h1 h2 => jaZ Tryz.underlying232 i_f64 rfl h1 (h2.trans (by rw [hj])) hj1
   cases neg with
   | true =>
     have pn := pn rfl
     cases G with
     | true =>
       refine jan Tryz.func150 rfl rfl (nbl rfl) ?_
       simp only [go_sem, Tryz.ntmps150]
       repeat (first | refine jaf ?_ | ((first | (refine jad ?_ ?_; (focus rfl)) | (refine jac (gs := ?_) ?_ ?_; rotate_left; (focus rfl))); simp only [run1, go_sem, nI, nF, jaG, jaz, hL.fi0, jaY, ez, jaN, pf, pn, x0, x1, x2, x4, anf, pg]) | (refine jab ?_ ?_; (focus (simp only [go_sem, nI, nF, jaG, jaz, hL.fi0, jaY, ez, jaN, pf, pn, x0, x1, x2, x4, anf, pg]; done))) | (refine jaa ?_ ?_; (focus (simp only [go_sem, nI, nF, jaG, jaz, hL.fi0, jaY, ez, jaN, pf, pn, x0, x1, x2, x4, anf, pg]; done))) | ((first | refine jaj ?_ | refine jai ?_ | refine jak ?_); try simp only [go_sem]) | refine jah ?_)
       refine jam ?_
       refine ⟨rfl, _, ?_, rfl, rfl⟩
       simp only [go_sem, Tryz.results150]
       rfl
     | false =>
       cases H with
       | true =>
         refine jan Tryz.func150 rfl rfl (nbl rfl) ?_
         simp only [go_sem, Tryz.ntmps150]
         repeat (first | refine jaf ?_ | ((first | (refine jad ?_ ?_; (focus rfl)) | (refine jac (gs := ?_) ?_ ?_; rotate_left; (focus rfl))); simp only [run1, go_sem, nI, nF, jaG, jaz, hL.fi0, jaY, ez, jaN, pf, pn, x0, x1, x2, x4, anf, pg, pl]) | (refine jab ?_ ?_; (focus (simp only [go_sem, nI, nF, jaG, jaz, hL.fi0, jaY, ez, jaN, pf, pn, x0, x1, x2, x4, anf, pg, pl]; done))) | (refine jaa ?_ ?_; (focus (simp only [go_sem, nI, nF, jaG, jaz, hL.fi0, jaY, ez, jaN, pf, pn, x0, x1, x2, x4, anf, pg, pl]; done))) | ((first | refine jaj ?_ | refine jai ?_ | refine jak ?_); try simp only [go_sem]) | refine jah ?_)
         refine jam ?_
         refine ⟨rfl, _, ?_, rfl, rfl⟩
         simp only [go_sem, Tryz.results150]
         rfl
       | false =>
         refine jan Tryz.func150 rfl rfl (nbl rfl) ?_
         simp only [go_sem, Tryz.ntmps150]
         repeat (first | refine jaf ?_ | ((first | (refine jad ?_ ?_; (focus rfl)) | (refine jac (gs := ?_) ?_ ?_; rotate_left; (focus rfl))); simp only [run1, go_sem, nI, nF, jaG, jaz, hL.fi0, jaY, ez, jaN, pf, pn, x0, x1, x2, x4, jb1, hs, hix, jbs, c1, anf, pm3, pg, pl]) | (refine jab ?_ ?_; (focus (simp only [go_sem, nI, nF, jaG, jaz, hL.fi0, jaY, ez, jaN, pf, pn, x0, x1, x2, x4, jb1, hs, hix, jbs, c1, anf, pm3, pg, pl]; done))) | (refine jaa ?_ ?_; (focus (simp only [go_sem, nI, nF, jaG, jaz, hL.fi0, jaY, ez, jaN, pf, pn, x0, x1, x2, x4, jb1, hs, hix, jbs, c1, anf, pm3, pg, pl]; done))) | ((first | refine jaj ?_ | refine jai ?_ | refine jak ?_); try simp only [go_sem]) | refine jah ?_)
         refine jam ?_
         refine ⟨rfl, _, ?_, rfl, rfl⟩
         simp only [go_sem, Tryz.results150]
         rfl
   | false =>
     obtain rfl := p0 rfl
     cases G with
     | true =>
       refine jan Tryz.func150 rfl rfl (nbl rfl) ?_
       simp only [go_sem, Tryz.ntmps150]
       repeat (first | refine jaf ?_ | ((first | (refine jad ?_ ?_; (focus rfl)) | (refine jac (gs := ?_) ?_ ?_; rotate_left; (focus rfl))); simp only [run1, go_sem, nI, nF, jaG, jaz, hL.fi0, jaY, ez, jaN, pf, x0, x1, x2, x4, anf, pg]) | (refine jab ?_ ?_; (focus (simp only [go_sem, nI, nF, jaG, jaz, hL.fi0, jaY, ez, jaN, pf, x0, x1, x2, x4, anf, pg]; done))) | (refine jaa ?_ ?_; (focus (simp only [go_sem, nI, nF, jaG, jaz, hL.fi0, jaY, ez, jaN, pf, x0, x1, x2, x4, anf, pg]; done))) | ((first | refine jaj ?_ | refine jai ?_ | refine jak ?_); try simp only [go_sem]) | refine jah ?_)
       refine jam ?_
       refine ⟨rfl, _, ?_, rfl, rfl⟩
       simp only [go_sem, Tryz.results150]
       rfl
     | false =>
       cases H with
       | true =>
         refine jan Tryz.func150 rfl rfl (nbl rfl) ?_
         simp only [go_sem, Tryz.ntmps150]
         repeat (first | refine jaf ?_ | ((first | (refine jad ?_ ?_; (focus rfl)) | (refine jac (gs := ?_) ?_ ?_; rotate_left; (focus rfl))); simp only [run1, go_sem, nI, nF, jaG, jaz, hL.fi0, jaY, ez, jaN, pf, x0, x1, x2, x4, anf, pg, pl]) | (refine jab ?_ ?_; (focus (simp only [go_sem, nI, nF, jaG, jaz, hL.fi0, jaY, ez, jaN, pf, x0, x1, x2, x4, anf, pg, pl]; done))) | (refine jaa ?_ ?_; (focus (simp only [go_sem, nI, nF, jaG, jaz, hL.fi0, jaY, ez, jaN, pf, x0, x1, x2, x4, anf, pg, pl]; done))) | ((first | refine jaj ?_ | refine jai ?_ | refine jak ?_); try simp only [go_sem]) | refine jah ?_)
         refine jam ?_
         refine ⟨rfl, _, ?_, rfl, rfl⟩
         simp only [go_sem, Tryz.results150]
         rfl
       | false =>
         refine jan Tryz.func150 rfl rfl (nbl rfl) ?_
         simp only [go_sem, Tryz.ntmps150]
         repeat (first | refine jaf ?_ | ((first | (refine jad ?_ ?_; (focus rfl)) | (refine jac (gs := ?_) ?_ ?_; rotate_left; (focus rfl))); simp only [run1, go_sem, nI, nF, jaG, jaz, hL.fi0, jaY, ez, jaN, pf, x0, x1, x2, x4, jb1, hs, hix, jbs, c1, anf, pm3, pg, pl]) | (refine jab ?_ ?_; (focus (simp only [go_sem, nI, nF, jaG, jaz, hL.fi0, jaY, ez, jaN, pf, x0, x1, x2, x4, jb1, hs, hix, jbs, c1, anf, pm3, pg, pl]; done))) | (refine jaa ?_ ?_; (focus (simp only [go_sem, nI, nF, jaG, jaz, hL.fi0, jaY, ez, jaN, pf, x0, x1, x2, x4, jb1, hs, hix, jbs, c1, anf, pm3, pg, pl]; done))) | ((first | refine jaj ?_ | refine jai ?_ | refine jak ?_); try simp only [go_sem]) | refine jah ?_)
         refine jam ?_
         refine ⟨rfl, _, ?_, rfl, rfl⟩
         simp only [go_sem, Tryz.results150]
         rfl
 ·have x1 : ilt 0 e = false := (jbq _ _).trans (decide_eq_false (by omega))
  have x3 : ilt e 0 = true := (jbq _ _).trans (decide_eq_true (by omega))
  by_cases em : -22 ≤ e
  ·have x4 : ilt e (-22) = false := (jbq _ _).trans (decide_eq_false (by omega))
   obtain ⟨j, hj⟩ : ∃ j : Nat, -e = .ofNat j := Int.eq_ofNat_of_zero_le (by omega)
   have hj1 : j < 23 := by have : ((j : Nat) : Int) = -e := hj.symm; omega
   obtain ⟨F3, hm3, n3⟩ := div_nn n1 (jeh j hj1)
   have pm3 : ∀ (ρ : Operand → Value) (d : Option Tmp) (t yt ty : TypeId) (x y : Operand) (ps : String) (af : Array Edge) (gd : Option (Nat × Bool)), ρ x = .float .f64 F1 → ρ y = .float .f64 (fpows.getD j 0) → ja0 Tryz.prog ρ ⟨d, .binOp .quo t x y yt, ty, ps, af, gd⟩ = some (.float .f64 F3) := fun ρ d t yt ty x y ps af gd h h' => jjt h h' hm3
   have np : ∀ (ρ : Operand → Value) (d : Option Tmp) (t ty : TypeId) (a : Operand) (ps : String) (af : Array Edge) (gd : Option (Nat × Bool)), ρ a = .int .i64 e → ja0 Tryz.prog ρ ⟨d, .unOp .neg t a, ty, ps, af, gd⟩ = some (.int .i64 (.ofNat j)) := fun ρ d t ty a ps af gd h => by rw [← hj]; exact jcZ h (by omega) (by omega)
   refine ⟨F3, true, fun {X g μ} hL hg => ?_⟩
   obtain ⟨n, rfl⟩ := gle hg
   refine jaQ ?_
   obtain ⟨fb, fo, fc, hs, _, hfp⟩ := hL.fp
   have c1 := hfp j hj1
   have hix : ∀ (r : Rg) (a b : Operand), aev Tryz.prog r a = .slice (some ⟨fb, fo, none⟩) 23 fc → aev Tryz.prog r b = .int .i64 (.ofNat j) → jaE Tryz.prog (aev Tryz.prog r) 232 a b = some (.pointer (some ⟨fb, fo + j, none⟩)) := fun r a b h1 h2 => jaZ Tryz.underlying232 i_f64 rfl h1 h2 hj1
   cases neg with
   | true =>
     have pn := pn rfl
     refine jan Tryz.func150 rfl rfl (nbl rfl) ?_
     simp only [go_sem, Tryz.ntmps150]
     repeat (first | refine jaf ?_ | ((first | (refine jad ?_ ?_; (focus rfl)) | (refine jac (gs := ?_) ?_ ?_; rotate_left; (focus rfl))); simp only [run1, go_sem, nI, nF, jaG, jaz, hL.fi0, jaY, ez, jaN, pf, pn, x0, x1, x3, x4, np, jb1, hs, hix, jbs, c1, anf, pm3]) | (refine jab ?_ ?_; (focus (simp only [go_sem, nI, nF, jaG, jaz, hL.fi0, jaY, ez, jaN, pf, pn, x0, x1, x3, x4, np, jb1, hs, hix, jbs, c1, anf, pm3]; done))) | (refine jaa ?_ ?_; (focus (simp only [go_sem, nI, nF, jaG, jaz, hL.fi0, jaY, ez, jaN, pf, pn, x0, x1, x3, x4, np, jb1, hs, hix, jbs, c1, anf, pm3]; done))) | ((first | refine jaj ?_ | refine jai ?_ | refine jak ?_); try simp only [go_sem]) | refine jah ?_)
     refine jam ?_
     refine ⟨rfl, _, ?_, rfl, rfl⟩
     simp only [go_sem, Tryz.results150]
   | false =>
     obtain rfl := p0 rfl
     refine jan Tryz.func150 rfl rfl (nbl rfl) ?_
     simp only [go_sem, Tryz.ntmps150]
     repeat (first | refine jaf ?_ | ((first | (refine jad ?_ ?_; (focus rfl)) | (refine jac (gs := ?_) ?_ ?_; rotate_left; (focus rfl))); simp only [run1, go_sem, nI, nF, jaG, jaz, hL.fi0, jaY, ez, jaN, pf, x0, x1, x3, x4, np, jb1, hs, hix, jbs, c1, anf, pm3]) | (refine jab ?_ ?_; (focus (simp only [go_sem, nI, nF, jaG, jaz, hL.fi0, jaY, ez, jaN, pf, x0, x1, x3, x4, np, jb1, hs, hix, jbs, c1, anf, pm3]; done))) | (refine jaa ?_ ?_; (focus (simp only [go_sem, nI, nF, jaG, jaz, hL.fi0, jaY, ez, jaN, pf, x0, x1, x3, x4, np, jb1, hs, hix, jbs, c1, anf, pm3]; done))) | ((first | refine jaj ?_ | refine jai ?_ | refine jak ?_); try simp only [go_sem]) | refine jah ?_)
     refine jam ?_
     refine ⟨rfl, _, ?_, rfl, rfl⟩
     simp only [go_sem, Tryz.results150]
  ·have x4 : ilt e (-22) = true := (jbq _ _).trans (decide_eq_true (by omega))
   refine ⟨F1, false, fun {X g μ} hL hg => ?_⟩
   obtain ⟨n, rfl⟩ := gle hg
   refine jaQ ?_
   cases neg with
   | true =>
     have pn := pn rfl
     refine jan Tryz.func150 rfl rfl (nbl rfl) ?_
     simp only [go_sem, Tryz.ntmps150]
     repeat (first | refine jaf ?_ | ((first | (refine jad ?_ ?_; (focus rfl)) | (refine jac (gs := ?_) ?_ ?_; rotate_left; (focus rfl))); simp only [run1, go_sem, nI, jaG, jaz, hL.fi0, jaY, ez, jaN, pf, pn, x0, x1, x3, x4]) | (refine jab ?_ ?_; (focus (simp only [go_sem, nI, jaG, jaz, hL.fi0, jaY, ez, jaN, pf, pn, x0, x1, x3, x4]; done))) | (refine jaa ?_ ?_; (focus (simp only [go_sem, nI, jaG, jaz, hL.fi0, jaY, ez, jaN, pf, pn, x0, x1, x3, x4]; done))) | ((first | refine jaj ?_ | refine jai ?_ | refine jak ?_); try simp only [go_sem]) | refine jah ?_)
     refine jam ?_
     refine ⟨rfl, _, ?_, rfl, rfl⟩
     simp only [go_sem, Tryz.results150]
   | false =>
     obtain rfl := p0 rfl
     refine jan Tryz.func150 rfl rfl (nbl rfl) ?_
     simp only [go_sem, Tryz.ntmps150]
     repeat (first | refine jaf ?_ | ((first | (refine jad ?_ ?_; (focus rfl)) | (refine jac (gs := ?_) ?_ ?_; rotate_left; (focus rfl))); simp only [run1, go_sem, nI, jaG, jaz, hL.fi0, jaY, ez, jaN, pf, x0, x1, x3, x4]) | (refine jab ?_ ?_; (focus (simp only [go_sem, nI, jaG, jaz, hL.fi0, jaY, ez, jaN, pf, x0, x1, x3, x4]; done))) | (refine jaa ?_ ?_; (focus (simp only [go_sem, nI, jaG, jaz, hL.fi0, jaY, ez, jaN, pf, x0, x1, x3, x4]; done))) | ((first | refine jaj ?_ | refine jai ?_ | refine jak ?_); try simp only [go_sem]) | refine jah ?_)
     refine jam ?_
     refine ⟨rfl, _, ?_, rfl, rfl⟩
     simp only [go_sem, Tryz.results150]
end
noncomputable section
open Go.Proofs.YtdjoekhccbiaiaaGreatDoor.NumText (numB dig isE isS)
def bys (s : ByteArray) : List Nat := s.data.toList.map UInt8.toNat
theorem jfI (s : ByteArray) : (bys s).length = s.data.toList.length := List.length_map _
theorem jbA {s : ByteArray} {i : Nat} (h : i < (bys s).length) {ρ : Operand → Value} {x y : Operand} {kd : IntKind} (hx : ρ x = .string s) (hy : ρ y = .int kd (.ofNat i)) : jbi Tryz.prog ρ 9 x y = some (.int .u8 (.ofNat ((bys s)[i]'h))) := by
 have h' : i < s.data.toList.length := by rw [← jfI]; exact h
 have e : (bys s)[i]'h = (s.data.toList[i]'h').toNat := List.getElem_map ..
 rw [jfB hx hy (List.getElem?_eq_getElem h'), e]
theorem ja5 (s : ByteArray) : aLen Tryz.prog 9 (.string s) = some (bys s).length := by
 unfold aLen
 simp only [Tryz.underlying9, jfI]
def jcv (s : ByteArray) (k : Nat) : ByteArray := ⟨(s.data.toList.drop k).toArray⟩
theorem jdC (s : ByteArray) (k : Nat) : bys (jcv s k) = (bys s).drop k := by unfold bys jcv; simp
theorem jbV {ρ : Operand → Value} {x y : Operand} {s : ByteArray} {k : Nat} {kd : IntKind} (hx : ρ x = .string s) (hy : ρ y = .int kd (.ofNat k)) (hk : k ≤ (bys s).length) : jbG Tryz.prog ρ 9 x (some y) none none = some (.string (jcv s k)) := by
 unfold jbG
 have h' : k ≤ s.data.toList.length := by rw [← jfI]; exact hk
 have e1 : Nat.ble k s.data.toList.length = true := Nat.ble_eq_true_of_le h'
 simp only [hx, Tryz.underlying9, jbv, jcb, hy, e1]
 have e2 : Nat.ble s.data.toList.length s.data.toList.length = true := Nat.ble_eq_true_of_le (Nat.le_refl _)
 try simp only [e2]
 exact congrArg (fun l : List UInt8 => some (Value.string ⟨l.toArray⟩)) (List.take_of_length_le (by rw [List.length_drop]; exact Nat.le_refl _))
def jjJ (s : ByteArray) (k : Nat) : ByteArray := ⟨(s.data.toList.take k).toArray⟩
theorem ji2 (s : ByteArray) (k : Nat) : bys (jjJ s k) = (bys s).take k := by unfold bys jjJ; simp
theorem slice_to {ρ : Operand → Value} {x y : Operand} {s : ByteArray} {k : Nat} {kd : IntKind} (hx : ρ x = .string s) (hy : ρ y = .int kd (.ofNat k)) (hk : k ≤ (bys s).length) : jbG Tryz.prog ρ 9 x none (some y) none = some (.string (jjJ s k)) := by
 unfold jbG
 have h' : k ≤ s.data.toList.length := by rw [← jfI]; exact hk
 have e1 : Nat.ble k s.data.toList.length = true := Nat.ble_eq_true_of_le h'
 simp only [hx, Tryz.underlying9, jbv, jcb, hy, e1]
 rfl
theorem anb (t : TypeId) (a b : Bool) : aNil Tryz.prog t (.bool a) (.bool b) = false := rfl
theorem eqb {ρ : Operand → Value} {d : Option Tmp} {ty : TypeId} {x y : Operand} {ps : String} {af : Array Edge} {gd : Option (Nat × Bool)} {a b : Bool} (hx : ρ x = .bool a) (hy : ρ y = .bool b) : ja0 Tryz.prog ρ ⟨d, .binOp .eql 4 x y 4, ty, ps, af, gd⟩ = some (.bool (a == b)) := by
 unfold ja0
 simp only [opsOf, jb6, hx, hy, jaV, execOp]
 show (_ : Option Value) = _
 kernel_rfl
theorem eqbT (r : Rg) {d : Option Tmp} {ty : TypeId} {y : Operand} {ps : String} {af : Array Edge} {gd : Option (Nat × Bool)} (hy : aev Tryz.prog r y = .bool true) : ja0 Tryz.prog (aev Tryz.prog r) ⟨d, .binOp .eql 4 (.const (.bool true)) y 4, ty, ps, af, gd⟩ = some (.bool true) := eqb (a := true) rfl hy
theorem eqbF (r : Rg) {d : Option Tmp} {ty : TypeId} {y : Operand} {ps : String} {af : Array Edge} {gd : Option (Nat × Bool)} (hy : aev Tryz.prog r y = .bool false) : ja0 Tryz.prog (aev Tryz.prog r) ⟨d, .binOp .eql 4 (.const (.bool true)) y 4, ty, ps, af, gd⟩ = some (.bool false) := eqb (a := true) rfl hy
def nums : List Nat := [43, 45, 46, 48, 49, 50, 51, 52, 53, 54, 55, 56, 57, 69, 101]
theorem jef : ∀ c ∈ nums, c ≠ 105 ∧ c ≠ 73 ∧ c ≠ 110 ∧ c ≠ 78 ∧ c ≠ 95 := by decide
theorem jgB : ∀ c ∈ nums, c < 256 := by decide
def lw (c : Nat) : Nat := if c < 64 then (if c < 48 then c else c) else 101
theorem lw_ne : ∀ c ∈ nums, lw c ≠ 120 := by decide
theorem lower_eq {X : XT} {g c : Nat} {μ : Mem} (hg : 10 ≤ g) (h : c ∈ nums) : aFun Tryz.prog (jat Tryz.prog X S0 g) 179 [.int .u8 (.ofNat c)] μ = some (.int .u8 (.ofNat (lw c)), μ) := by
 obtain ⟨k, rfl⟩ := gle hg
 simp only [nums, List.mem_cons, List.not_mem_nil, or_false] at h
 rcases h with rfl | rfl | rfl | rfl | rfl | rfl | rfl | rfl | rfl | rfl | rfl | rfl | rfl | rfl | rfl <;> kernel_rfl
theorem cpl_eq {X : XT} {g : Nat} {s : ByteArray} {μ : Mem} (hg : 60 ≤ g) (hs : ∀ c ∈ bys s, c ∈ nums) : aFun Tryz.prog (jat Tryz.prog X S0 g) 176 [.string s, .string ⟨List.toArray [105, 110, 102, 105, 110, 105, 116, 121]⟩] μ = some (.int .i64 0, μ) := by
 obtain ⟨k, rfl⟩ := gle hg
 refine jaQ ?_
 have l8 : aLen Tryz.prog 9 (.string ⟨List.toArray [105, 110, 102, 105, 110, 105, 116, 121]⟩) = some 8 := by kernel_rfl
 have ls := ja5 s
 cases hl : bys s with
 | nil =>
   rw [hl] at ls
   have ls : aLen Tryz.prog 9 (.string s) = some 0 := ls
   have m0 : (if (Int.ofNat 0 : Int) < Int.ofNat 8 then (Int.ofNat 0 : Int) else Int.ofNat 8) = 0 := rfl
   have i0 : ilt 0 0 = false := rfl
   refine jan Tryz.func176 rfl rfl (nbl rfl) ?_
   simp only [go_sem, Tryz.ntmps176]
   repeat (first | refine jaf ?_ | ((first | (refine jad ?_ ?_; (focus rfl)) | (refine jac (gs := ?_) ?_ ?_; rotate_left; (focus rfl))); simp only [run1, go_sem, jae, l8, ls, jag, m0, i0]) | (refine jab ?_ ?_; (focus (simp only [go_sem, jae, l8, ls, jag, m0, i0]; done))) | (refine jaa ?_ ?_; (focus (simp only [go_sem, jae, l8, ls, jag, m0, i0]; done))) | ((first | refine jaj ?_ | refine jai ?_ | refine jak ?_); try simp only [go_sem]) | refine jah ?_ | refine jas ?_)
   refine jam ?_
   refine ⟨rfl, _, ?_, rfl, rfl⟩
   simp only [go_sem, Tryz.results176]
 | cons c l =>
   have hc : c ∈ nums := hs c (by rw [hl]; exact List.mem_cons_self ..)
   obtain ⟨n, hn⟩ : ∃ n, (bys s).length = n + 1 := ⟨l.length, by rw [hl]; rfl⟩
   rw [hn] at ls
   obtain ⟨m, hm⟩ : ∃ m : Nat, (if (Int.ofNat (n + 1) : Int) < Int.ofNat 8 then (Int.ofNat (n + 1) : Int) else Int.ofNat 8) = Int.ofNat (m + 1) := by
    by_cases h : (Int.ofNat (n + 1) : Int) < Int.ofNat 8
    ·exact ⟨n, if_pos h⟩
    ·exact ⟨7, if_neg h⟩
   have i0 : ilt 0 (.ofNat (m + 1)) = true := (jav 0 (m + 1)).trans (decide_eq_true (Nat.succ_pos m))
   have hx : ∀ (r : Rg) (x y : Operand), aev Tryz.prog r x = .string s → aev Tryz.prog r y = .int .i64 0 → jbi Tryz.prog (aev Tryz.prog r) 9 x y = some (.int .u8 (.ofNat c)) := fun r x y h1 h2 => by
    rw [jbA (i := 0) (by omega) h1 h2]
    simp only [hl, List.getElem_cons_zero]
   have h8 : ∀ (r : Rg) (x y : Operand), aev Tryz.prog r x = .string ⟨List.toArray [105, 110, 102, 105, 110, 105, 116, 121]⟩ → aev Tryz.prog r y = .int .i64 0 → jbi Tryz.prog (aev Tryz.prog r) 9 x y = some (.int .u8 105) := fun r x y h1 h2 => jfB (m := 0) (b := 105) h1 h2 rfl
   have fin : ∀ (up : Bool) (c' : Nat), ((!ilt (.ofNat c) 65) && (!ilt 90 (.ofNat c))) = up → (up = true → jay .u8 (Int.add (.ofNat c) 32) = .ofNat c') → (up = false → c' = c) → ieq (.ofNat c') 105 = false →
     EndsF (aFun Tryz.prog (jat Tryz.prog X S0 (k + 60)) 176 [.string s, .string ⟨List.toArray [105, 110, 102, 105, 110, 105, 116, 121]⟩] μ) fun v' μ' => v' = .int .i64 0 ∧ μ' = μ := fun up c' hup h1 h2 h3 => by
    by_cases a : ilt (.ofNat c) 65 = true
    ·have hu : up = false := by rw [← hup, a]; rfl
     obtain rfl := h2 hu
     refine jan Tryz.func176 rfl rfl (nbl rfl) ?_
     simp only [go_sem, Tryz.ntmps176]
     repeat (first | refine jaf ?_ | ((first | (refine jad ?_ ?_; (focus rfl)) | (refine jac (gs := ?_) ?_ ?_; rotate_left; (focus rfl))); simp only [run1, go_sem, jae, l8, ls, jag, hm, i0, hx, h8, a, h3]) | (refine jab ?_ ?_; (focus (simp only [go_sem, jae, l8, ls, jag, hm, i0, hx, h8, a, h3]; done))) | (refine jaa ?_ ?_; (focus (simp only [go_sem, jae, l8, ls, jag, hm, i0, hx, h8, a, h3]; done))) | ((first | refine jaj ?_ | refine jai ?_ | refine jak ?_); try simp only [go_sem]) | refine jah ?_ | refine jas ?_)
     refine jam ?_
     refine ⟨rfl, _, ?_, rfl, rfl⟩
     simp only [go_sem, Tryz.results176]
    ·have a : ilt (.ofNat c) 65 = false := by simpa using a
     by_cases b : ilt 90 (.ofNat c) = true
     ·have hu : up = false := by rw [← hup, a, b]; rfl
      obtain rfl := h2 hu
      refine jan Tryz.func176 rfl rfl (nbl rfl) ?_
      simp only [go_sem, Tryz.ntmps176]
      repeat (first | refine jaf ?_ | ((first | (refine jad ?_ ?_; (focus rfl)) | (refine jac (gs := ?_) ?_ ?_; rotate_left; (focus rfl))); simp only [run1, go_sem, jae, l8, ls, jag, hm, i0, hx, h8, a, b, h3]) | (refine jab ?_ ?_; (focus (simp only [go_sem, jae, l8, ls, jag, hm, i0, hx, h8, a, b, h3]; done))) | (refine jaa ?_ ?_; (focus (simp only [go_sem, jae, l8, ls, jag, hm, i0, hx, h8, a, b, h3]; done))) | ((first | refine jaj ?_ | refine jai ?_ | refine jak ?_); try simp only [go_sem]) | refine jah ?_ | refine jas ?_)
      refine jam ?_
      refine ⟨rfl, _, ?_, rfl, rfl⟩
      simp only [go_sem, Tryz.results176]
     ·have b : ilt 90 (.ofNat c) = false := by simpa using b
      have hu : up = true := by rw [← hup, a, b]; rfl
      have q := h1 hu
      refine jan Tryz.func176 rfl rfl (nbl rfl) ?_
      simp only [go_sem, Tryz.ntmps176]
      repeat (first | refine jaf ?_ | ((first | (refine jad ?_ ?_; (focus rfl)) | (refine jac (gs := ?_) ?_ ?_; rotate_left; (focus rfl))); simp only [run1, go_sem, jae, l8, ls, jag, hm, i0, hx, h8, a, b, q, h3]) | (refine jab ?_ ?_; (focus (simp only [go_sem, jae, l8, ls, jag, hm, i0, hx, h8, a, b, q, h3]; done))) | (refine jaa ?_ ?_; (focus (simp only [go_sem, jae, l8, ls, jag, hm, i0, hx, h8, a, b, q, h3]; done))) | ((first | refine jaj ?_ | refine jai ?_ | refine jak ?_); try simp only [go_sem]) | refine jah ?_ | refine jas ?_)
      refine jam ?_
      refine ⟨rfl, _, ?_, rfl, rfl⟩
      simp only [go_sem, Tryz.results176]
   clear hx hs hl
   simp only [nums, List.mem_cons, List.not_mem_nil, or_false] at hc
   rcases hc with rfl | rfl | rfl | rfl | rfl | rfl | rfl | rfl | rfl | rfl | rfl | rfl | rfl | rfl | rfl
   all_goals first
    | exact fin false _ rfl (fun h => by cases h) (fun _ => rfl) rfl
    | exact fin true 101 rfl (fun _ => rfl) (fun h => by cases h) rfl
theorem jjn {X : XT} {g : Nat} {s : ByteArray} {μ : Mem} (hg : 100 ≤ g) (hs : ∀ c ∈ bys s, c ∈ nums) (h0 : 0 < (bys s).length) : aFun Tryz.prog (jat Tryz.prog X S0 g) 139 [.string s] μ = some (.tuple #[.float .f64 0, .int .i64 0, .bool false], μ) := by
 obtain ⟨k, rfl⟩ := gle hg
 refine jaQ ?_
 obtain ⟨c, hc⟩ : ∃ c, c = (bys s)[0]'h0 := ⟨_, rfl⟩
 have hcn : c ∈ nums := by rw [hc]; exact hs _ (List.getElem_mem h0)
 have hx : ∀ (r : Rg) (x : Operand), aev Tryz.prog r x = .string s → jbi Tryz.prog (aev Tryz.prog r) 9 x (.const (.int .i64 0)) = some (.int .u8 (.ofNat c)) := fun r x h1 => by rw [hc]; exact jbA h0 h1 (kd := .i64) rfl
 have hsl : ∀ (r : Rg) (x : Operand), aev Tryz.prog r x = .string s → jbG Tryz.prog (aev Tryz.prog r) 9 x (some (.const (.int .i64 1))) none none = some (.string (jcv s 1)) := fun r x h1 => jbV (k := 1) h1 (kd := .i64) rfl h0
 have hcp : ∀ g, 60 ≤ g → aFun Tryz.prog (jat Tryz.prog X S0 g) 176 [.string (jcv s 1), .string ⟨List.toArray [105, 110, 102, 105, 110, 105, 116, 121]⟩] μ = some (.int .i64 0, μ) := fun g h => cpl_eq h fun x hx => hs x (by rw [jdC] at hx; exact List.mem_of_mem_drop hx)
 obtain ⟨n, hn⟩ : ∃ n, (bys s).length = n + 1 := ⟨(bys s).length - 1, by omega⟩
 have ls := ja5 s
 rw [hn] at ls
 have ln : ieq (.ofNat (n + 1)) 0 = false := (jaO _ 0 0 rfl).trans (decide_eq_false (by omega))
 clear hc hs h0
 have f1 : ilt 3 0 = false := rfl
 have f2 : ieq 0 3 = false := rfl
 have f3 : ieq 0 8 = false := rfl
 by_cases e1 : c = 43
 ·subst e1
  have a1 : ieq (.ofNat 43) 43 = true := rfl
  have a2 : ieq (.ofNat 43) 45 = false := rfl
  refine jan Tryz.func139 rfl rfl (nbl rfl) ?_
  simp only [go_sem, Tryz.ntmps139]
  repeat (first | refine jaf ?_ | ((first | (refine jad ?_ ?_; (focus rfl)) | (refine jac (gs := ?_) ?_ ?_; rotate_left; (focus rfl))); simp only [run1, go_sem, jae, jag, ls, ln, hx, hsl, a1, a2, jjP, hcp, Nat.reduceLeDiff, f1, f2, f3]) | (refine jab ?_ ?_; (focus (simp only [go_sem, jae, jag, ls, ln, hx, hsl, a1, a2, jjP, hcp, Nat.reduceLeDiff, f1, f2, f3]; done))) | (refine jaa ?_ ?_; (focus (simp only [go_sem, jae, jag, ls, ln, hx, hsl, a1, a2, jjP, hcp, Nat.reduceLeDiff, f1, f2, f3]; done))) | ((first | refine jaj ?_ | refine jai ?_ | refine jak ?_); try simp only [go_sem]) | refine jah ?_)
  refine jam ?_
  refine ⟨rfl, _, ?_, rfl, rfl⟩
  simp only [go_sem, Tryz.results139]
 ·by_cases e2 : c = 45
  ·subst e2
   have a1 : ieq (.ofNat 45) 43 = false := rfl
   have a2 : ieq (.ofNat 45) 45 = true := rfl
   refine jan Tryz.func139 rfl rfl (nbl rfl) ?_
   simp only [go_sem, Tryz.ntmps139]
   repeat (first | refine jaf ?_ | ((first | (refine jad ?_ ?_; (focus rfl)) | (refine jac (gs := ?_) ?_ ?_; rotate_left; (focus rfl))); simp only [run1, go_sem, jae, jag, ls, ln, hx, hsl, a1, a2, jjP, hcp, Nat.reduceLeDiff, f1, f2, f3]) | (refine jab ?_ ?_; (focus (simp only [go_sem, jae, jag, ls, ln, hx, hsl, a1, a2, jjP, hcp, Nat.reduceLeDiff, f1, f2, f3]; done))) | (refine jaa ?_ ?_; (focus (simp only [go_sem, jae, jag, ls, ln, hx, hsl, a1, a2, jjP, hcp, Nat.reduceLeDiff, f1, f2, f3]; done))) | ((first | refine jaj ?_ | refine jai ?_ | refine jak ?_); try simp only [go_sem]) | refine jah ?_)
   refine jam ?_
   refine ⟨rfl, _, ?_, rfl, rfl⟩
   simp only [go_sem, Tryz.results139]
  ·obtain ⟨n1, n2, n3, n4, _⟩ := jef c hcn
   have a1 : ieq (.ofNat c) 43 = false := (jaO c 43 43 rfl).trans (decide_eq_false e1)
   have a2 : ieq (.ofNat c) 45 = false := (jaO c 45 45 rfl).trans (decide_eq_false e2)
   have a3 : ieq (.ofNat c) 105 = false := (jaO c 105 105 rfl).trans (decide_eq_false (n1))
   have a4 : ieq (.ofNat c) 73 = false := (jaO c 73 73 rfl).trans (decide_eq_false (n2))
   have a5 : ieq (.ofNat c) 110 = false := (jaO c 110 110 rfl).trans (decide_eq_false (n3))
   have a6 : ieq (.ofNat c) 78 = false := (jaO c 78 78 rfl).trans (decide_eq_false (n4))
   refine jan Tryz.func139 rfl rfl (nbl rfl) ?_
   simp only [go_sem, Tryz.ntmps139]
   repeat (first | refine jaf ?_ | ((first | (refine jad ?_ ?_; (focus rfl)) | (refine jac (gs := ?_) ?_ ?_; rotate_left; (focus rfl))); simp only [run1, go_sem, jae, jag, ls, ln, hx, a1, a2, a3, a4, a5, a6]) | (refine jab ?_ ?_; (focus (simp only [go_sem, jae, jag, ls, ln, hx, a1, a2, a3, a4, a5, a6]; done))) | (refine jaa ?_ ?_; (focus (simp only [go_sem, jae, jag, ls, ln, hx, a1, a2, a3, a4, a5, a6]; done))) | ((first | refine jaj ?_ | refine jai ?_ | refine jak ?_); try simp only [go_sem]) | refine jah ?_)
   refine jam ?_
   refine ⟨rfl, _, ?_, rfl, rfl⟩
   simp only [go_sem, Tryz.results139]
end
noncomputable section
def jcC : Nat → Code → Code
 | n + 1, .seq _ b => jcC n b
 | _, c => c
def jaR (fn : Func) : Code := match fn.body with
 | some (.seq _ (.scope c)) => c
 | _ => .skip
structure RegR (tm : T Value) (s : ByteArray) (i a nd nm : Nat) (dp : Int) (neg tr sd sg : Bool) : Prop where
 r0 : jaq tm 0 = .string s
 r2 : jaq tm 2 = u a
 r3 : jaq tm 3 = .int .i64 0
 r4 : jaq tm 4 = .bool neg
 r5 : jaq tm 5 = .bool tr
 r6 : jaq tm 6 = .bool false
 r7 : jaq tm 7 = .int .i64 (.ofNat i)
 r8 : jaq tm 8 = .bool false
 r9 : jaq tm 9 = .bool false
 r10 : jaq tm 10 = .int .u64 10
 r11 : jaq tm 11 = .int .i64 19
 r12 : jaq tm 12 = .int .u8 101
 r13 : jaq tm 13 = .bool sd
 r14 : jaq tm 14 = .bool sg
 r15 : jaq tm 15 = .int .i64 (.ofNat nd)
 r16 : jaq tm 16 = .int .i64 (.ofNat nm)
 r17 : jaq tm 17 = .int .i64 dp
structure RegF (tm : T Value) (a : Nat) (e : Int) (neg tr : Bool) (i : Nat) (ok : Bool) : Prop where
 r2 : jaq tm 2 = u a
 r3 : jaq tm 3 = .int .i64 e
 r4 : jaq tm 4 = .bool neg
 r5 : jaq tm 5 = .bool tr
 r6 : jaq tm 6 = .bool false
 r7 : jaq tm 7 = .int .i64 (.ofNat i)
 r8 : jaq tm 8 = .bool ok
def FinR (a : Nat) (e : Int) (neg tr : Bool) (i : Nat) (ok : Bool) (μ : Mem) : Ax → Rg → Mem → Prop := fun x r μ' => x = .ret ∧ μ' = μ ∧ ∃ tm, r = ⟨253, tm, [], none⟩ ∧ RegF tm a e neg tr i ok
theorem jcq : ieq 10 16 = false := rfl
set_option maxHeartbeats 4000000 in
theorem rf18 (s : ByteArray) (i a nd nm : Nat) (dp : Int) (neg tr sd sg : Bool) (hd1 : -150000 < dp) (hd2 : dp < 150000) (hn : nm ≤ 19) : ∃ e, -200000 < e ∧ e < 200000 ∧ ∀ {X : XT} {k : Nat} {tm : T Value} {μ : Mem}, RegR tm s i a nd nm dp neg tr sd sg →
  EndsC (jat Tryz.prog X S0 (k + 30) (jcC 18 (jaR Tryz.f140)) ⟨253, tm, [], none⟩ μ) (FinR a e neg tr i true μ) := by
 by_cases ha : W a = 0
 ·have a0 : ieq (.ofNat (W a)) 0 = true := (jaO _ 0 0 rfl).trans (decide_eq_true ha)
  refine ⟨0, by omega, by omega, fun {X k tm μ} h => ?_⟩
  repeat (first | refine jaf ?_ | ((first | (refine jad ?_ ?_; (focus rfl)) | (refine jac (gs := ?_) ?_ ?_; rotate_left; (focus rfl))); simp only [run1, go_sem, h.r0, h.r2, h.r3, h.r4, h.r5, h.r6, h.r7, h.r8, h.r9, h.r10, h.r11, h.r12, h.r13, h.r14, h.r15, h.r16, h.r17, a0]) | (refine jab ?_ ?_; (focus (simp only [go_sem, h.r0, h.r2, h.r3, h.r4, h.r5, h.r6, h.r7, h.r8, h.r9, h.r10, h.r11, h.r12, h.r13, h.r14, h.r15, h.r16, h.r17, a0]; done))) | (refine jaa ?_ ?_; (focus (simp only [go_sem, h.r0, h.r2, h.r3, h.r4, h.r5, h.r6, h.r7, h.r8, h.r9, h.r10, h.r11, h.r12, h.r13, h.r14, h.r15, h.r16, h.r17, a0]; done))) | ((first | refine jaj ?_ | refine jai ?_ | refine jak ?_); try simp only [go_sem]) | refine jah ?_)
  refine jam ?_
  exact ⟨by trivial, by trivial, _, rfl, (by constructor <;> simp only [go_sem, h.r0, h.r2, h.r3, h.r4, h.r5, h.r6, h.r7, h.r8, h.r9, h.r10, h.r11, h.r12, h.r13, h.r14, h.r15, h.r16, h.r17])⟩
 ·have a0 : ieq (.ofNat (W a)) 0 = false := (jaO _ 0 0 rfl).trans (decide_eq_false ha)
  have q : jay .i64 (Int.sub dp (.ofNat nm)) = dp - (nm : Int) := jdK dp (nm : Int) (by omega) (by omega)
  refine ⟨dp - (nm : Int), by omega, by omega, fun {X k tm μ} h => ?_⟩
  repeat (first | refine jaf ?_ | ((first | (refine jad ?_ ?_; (focus rfl)) | (refine jac (gs := ?_) ?_ ?_; rotate_left; (focus rfl))); simp only [run1, go_sem, h.r0, h.r2, h.r3, h.r4, h.r5, h.r6, h.r7, h.r8, h.r9, h.r10, h.r11, h.r12, h.r13, h.r14, h.r15, h.r16, h.r17, a0, q]) | (refine jab ?_ ?_; (focus (simp only [go_sem, h.r0, h.r2, h.r3, h.r4, h.r5, h.r6, h.r7, h.r8, h.r9, h.r10, h.r11, h.r12, h.r13, h.r14, h.r15, h.r16, h.r17, a0, q]; done))) | (refine jaa ?_ ?_; (focus (simp only [go_sem, h.r0, h.r2, h.r3, h.r4, h.r5, h.r6, h.r7, h.r8, h.r9, h.r10, h.r11, h.r12, h.r13, h.r14, h.r15, h.r16, h.r17, a0, q]; done))) | ((first | refine jaj ?_ | refine jai ?_ | refine jak ?_); try simp only [go_sem]) | refine jah ?_)
  refine jam ?_
  exact ⟨by trivial, by trivial, _, rfl, (by constructor <;> simp only [go_sem, h.r0, h.r2, h.r3, h.r4, h.r5, h.r6, h.r7, h.r8, h.r9, h.r10, h.r11, h.r12, h.r13, h.r14, h.r15, h.r16, h.r17])⟩
set_option maxHeartbeats 4000000 in
theorem rf_exp {s : ByteArray} (hs : ∀ c ∈ bys s, c ∈ nums) (hl : (bys s).length ≤ 1000) (a nd nm : Nat) (dp : Int) (neg tr sd sg : Bool) : ∀ (m i v : Nat), i + m = (bys s).length → v < 110000 →
  ∃ i' v', i ≤ i' ∧ i' ≤ (bys s).length ∧ v' < 110000 ∧ ∀ {X : XT} {e : Nat} {tm : T Value} {μ : Mem} {es : Value}, RegR tm s i a nd nm dp neg tr sd sg → jaq tm 20 = .int .i64 (.ofNat v) → jaq tm 19 = es →
   EndsC (jat Tryz.prog X S0 (e + m + 30) (.loop (jaL Tryz.f140 1)) ⟨253, tm, [], none⟩ μ) fun x r μ' => x = .exit 5 ∧ μ' = μ ∧ ∃ tm', r = ⟨253, tm', [], none⟩ ∧ RegR tm' s i' a nd nm dp neg tr sd sg ∧ jaq tm' 20 = .int .i64 (.ofNat v') ∧ jaq tm' 19 = es := by
 have ls := ja5 s
 intro m
 induction m with
 | zero =>
   intro i v hi hv
   have hi : i = (bys s).length := hi
   have e1 : ilt (.ofNat i) (.ofNat (bys s).length) = false := (jav _ _).trans (decide_eq_false (by omega))
   refine ⟨i, v, Nat.le_refl _, by omega, hv, fun {X e tm μ es} h h20 h19 => ?_⟩
   refine jas ?_
   refine jaf ?_
   refine jaf ?_
   refine jac (gs := ?_) ?_ ?_
   rotate_left
   ·rfl
   iterate 5 (refine jal (by first | rfl | (simp only [go_sem, undef, h.r0, h.r2, h.r3, h.r4, h.r5, h.r6, h.r7, h.r8, h.r9, h.r10, h.r11, h.r12, h.r13, h.r14, h.r15, h.r16, h.r17, jae, ls, jag, e1])) (by simp only [go_sem, undef, h.r0, h.r2, h.r3, h.r4, h.r5, h.r6, h.r7, h.r8, h.r9, h.r10, h.r11, h.r12, h.r13, h.r14, h.r15, h.r16, h.r17, jae, ls, jag, e1]; try exact rfl) rfl ?_)
   iterate 16 (refine jaA (by simp only [go_sem, undef, h.r0, h.r2, h.r3, h.r4, h.r5, h.r6, h.r7, h.r8, h.r9, h.r10, h.r11, h.r12, h.r13, h.r14, h.r15, h.r16, h.r17, jae, ls, jag, e1]) rfl ?_)
   refine jal (by first | rfl | (simp only [go_sem, undef, h.r0, h.r2, h.r3, h.r4, h.r5, h.r6, h.r7, h.r8, h.r9, h.r10, h.r11, h.r12, h.r13, h.r14, h.r15, h.r16, h.r17, jae, ls, jag, e1])) (by simp only [go_sem, undef, h.r0, h.r2, h.r3, h.r4, h.r5, h.r6, h.r7, h.r8, h.r9, h.r10, h.r11, h.r12, h.r13, h.r14, h.r15, h.r16, h.r17, jae, ls, jag, e1]; try exact rfl) rfl ?_
   simp only [go_sem]
   repeat (first | refine jaf ?_ | ((first | (refine jad ?_ ?_; (focus rfl)) | (refine jac (gs := ?_) ?_ ?_; rotate_left; (focus rfl))); simp only [run1, go_sem, undef, h.r0, h.r2, h.r3, h.r4, h.r5, h.r6, h.r7, h.r8, h.r9, h.r10, h.r11, h.r12, h.r13, h.r14, h.r15, h.r16, h.r17, jae, ls, jag, e1]) | (refine jab ?_ ?_; (focus (simp only [go_sem, undef, h.r0, h.r2, h.r3, h.r4, h.r5, h.r6, h.r7, h.r8, h.r9, h.r10, h.r11, h.r12, h.r13, h.r14, h.r15, h.r16, h.r17, jae, ls, jag, e1]; done))) | (refine jaa ?_ ?_; (focus (simp only [go_sem, undef, h.r0, h.r2, h.r3, h.r4, h.r5, h.r6, h.r7, h.r8, h.r9, h.r10, h.r11, h.r12, h.r13, h.r14, h.r15, h.r16, h.r17, jae, ls, jag, e1]; done))) | ((first | refine jaj ?_ | refine jai ?_ | refine jak ?_); try simp only [go_sem]) | refine jah ?_)
   exact ⟨by trivial, by trivial, _, rfl, (by constructor <;> simp only [go_sem, h.r0, h.r2, h.r3, h.r4, h.r5, h.r6, h.r7, h.r8, h.r9, h.r10, h.r11, h.r12, h.r13, h.r14, h.r15, h.r16, h.r17]), by simp only [go_sem, h20], by simp only [go_sem, h19]⟩
 | succ m ih =>
   intro i v hi hv
   have hlt : i < (bys s).length := by omega
   obtain ⟨c, hc⟩ : ∃ c, c = (bys s)[i]'hlt := ⟨_, rfl⟩
   have hcn : c ∈ nums := by rw [hc]; exact hs _ (List.getElem_mem hlt)
   have hc256 := jgB c hcn
   have hx : ∀ (r : Rg) (x y : Operand), aev Tryz.prog r x = .string s → aev Tryz.prog r y = .int .i64 (.ofNat i) → jbi Tryz.prog (aev Tryz.prog r) 9 x y = some (.int .u8 (.ofNat c)) := fun r x y h1 h2 => by rw [hc]; exact jbA hlt h1 h2
   have e1 : ilt (.ofNat i) (.ofNat (bys s).length) = true := (jav _ _).trans (decide_eq_true hlt)
   have e95 : ieq (.ofNat c) 95 = false := (jaO c 95 95 rfl).trans (decide_eq_false (jef c hcn).2.2.2.2)
   have a1 : jay .i64 (Int.add (.ofNat i) 1) = .ofNat (i + 1) := ja2 i 1 (by omega)
   clear hc
   by_cases hd : 48 ≤ c ∧ c ≤ 57
   ·have d1 : ilt (.ofNat c) 48 = false := (jbx c 48 48 rfl).trans (decide_eq_false (by omega))
    have d2 : ilt 57 (.ofNat c) = false := (jdf c 57 57 rfl).trans (decide_eq_false (by omega))
    by_cases hv2 : v < 10000
    ·obtain ⟨i', v', b1, b2, b3, hih⟩ := ih (i + 1) (v * 10 + c - 48) (by omega) (by omega)
     have v1 : ilt (.ofNat v) 10000 = true := (jbx v 10000 10000 rfl).trans (decide_eq_true hv2)
     have q1 : jay .i64 (Int.mul (.ofNat v) 10) = .ofNat (v * 10) := mul_nat v 10 (by omega)
     have q2 : jay .i64 (.ofNat c) = .ofNat c := q64 c (by omega)
     have q3 : jay .i64 (Int.add (.ofNat (v * 10)) (.ofNat c)) = .ofNat (v * 10 + c) := ja2 _ _ (by omega)
     have q4 : jay .i64 (Int.sub (.ofNat (v * 10 + c)) 48) = .ofNat (v * 10 + c - 48) := jco (v * 10 + c) 48 (by omega) (by omega)
     refine ⟨i', v', by omega, b2, b3, fun {X e tm μ es} h h20 h19 => ?_⟩
     refine jas ?_
     refine jaf ?_
     refine jaf ?_
     refine jac (gs := ?_) ?_ ?_
     rotate_left
     ·rfl
     iterate 16 (refine jal (by first | rfl | (simp only [go_sem, undef, h.r0, h.r2, h.r3, h.r4, h.r5, h.r6, h.r7, h.r8, h.r9, h.r10, h.r11, h.r12, h.r13, h.r14, h.r15, h.r16, h.r17, h20, jae, ls, jag, e1, hx, e95, d1, d2, v1, q1, ja3, q2, q3, q4, a1])) (by simp only [go_sem, undef, h.r0, h.r2, h.r3, h.r4, h.r5, h.r6, h.r7, h.r8, h.r9, h.r10, h.r11, h.r12, h.r13, h.r14, h.r15, h.r16, h.r17, h20, jae, ls, jag, e1, hx, e95, d1, d2, v1, q1, ja3, q2, q3, q4, a1]; try exact rfl) rfl ?_)
     iterate 4 (refine jaA (by simp only [go_sem, undef, h.r0, h.r2, h.r3, h.r4, h.r5, h.r6, h.r7, h.r8, h.r9, h.r10, h.r11, h.r12, h.r13, h.r14, h.r15, h.r16, h.r17, h20, jae, ls, jag, e1, hx, e95, d1, d2, v1, q1, ja3, q2, q3, q4, a1]) rfl ?_)
     iterate 2 (refine jal (by first | rfl | (simp only [go_sem, undef, h.r0, h.r2, h.r3, h.r4, h.r5, h.r6, h.r7, h.r8, h.r9, h.r10, h.r11, h.r12, h.r13, h.r14, h.r15, h.r16, h.r17, h20, jae, ls, jag, e1, hx, e95, d1, d2, v1, q1, ja3, q2, q3, q4, a1])) (by simp only [go_sem, undef, h.r0, h.r2, h.r3, h.r4, h.r5, h.r6, h.r7, h.r8, h.r9, h.r10, h.r11, h.r12, h.r13, h.r14, h.r15, h.r16, h.r17, h20, jae, ls, jag, e1, hx, e95, d1, d2, v1, q1, ja3, q2, q3, q4, a1]; try exact rfl) rfl ?_)
     simp only [go_sem]
     repeat (first | refine jaf ?_ | ((first | (refine jad ?_ ?_; (focus rfl)) | (refine jac (gs := ?_) ?_ ?_; rotate_left; (focus rfl))); simp only [run1, go_sem, undef, h.r0, h.r2, h.r3, h.r4, h.r5, h.r6, h.r7, h.r8, h.r9, h.r10, h.r11, h.r12, h.r13, h.r14, h.r15, h.r16, h.r17, h20, jae, ls, jag, e1, hx, e95, d1, d2, v1, q1, ja3, q2, q3, q4, a1]) | (refine jab ?_ ?_; (focus (simp only [go_sem, undef, h.r0, h.r2, h.r3, h.r4, h.r5, h.r6, h.r7, h.r8, h.r9, h.r10, h.r11, h.r12, h.r13, h.r14, h.r15, h.r16, h.r17, h20, jae, ls, jag, e1, hx, e95, d1, d2, v1, q1, ja3, q2, q3, q4, a1]; done))) | (refine jaa ?_ ?_; (focus (simp only [go_sem, undef, h.r0, h.r2, h.r3, h.r4, h.r5, h.r6, h.r7, h.r8, h.r9, h.r10, h.r11, h.r12, h.r13, h.r14, h.r15, h.r16, h.r17, h20, jae, ls, jag, e1, hx, e95, d1, d2, v1, q1, ja3, q2, q3, q4, a1]; done))) | ((first | refine jaj ?_ | refine jai ?_ | refine jak ?_); try simp only [go_sem]) | refine jah ?_)
     rw [show e + (m + 1) + 29 = e + m + 30 from by omega]
     exact hih (by constructor <;> simp only [go_sem, h.r0, h.r2, h.r3, h.r4, h.r5, h.r6, h.r7, h.r8, h.r9, h.r10, h.r11, h.r12, h.r13, h.r14, h.r15, h.r16, h.r17]) (by simp only [go_sem]) (by simp only [go_sem, h19])
    ·obtain ⟨i', v', b1, b2, b3, hih⟩ := ih (i + 1) v (by omega) hv
     have v1 : ilt (.ofNat v) 10000 = false := (jbx v 10000 10000 rfl).trans (decide_eq_false hv2)
     refine ⟨i', v', by omega, b2, b3, fun {X e tm μ es} h h20 h19 => ?_⟩
     refine jas ?_
     refine jaf ?_
     refine jaf ?_
     refine jac (gs := ?_) ?_ ?_
     rotate_left
     ·rfl
     iterate 16 (refine jal (by first | rfl | (simp only [go_sem, undef, h.r0, h.r2, h.r3, h.r4, h.r5, h.r6, h.r7, h.r8, h.r9, h.r10, h.r11, h.r12, h.r13, h.r14, h.r15, h.r16, h.r17, h20, jae, ls, jag, e1, hx, e95, d1, d2, v1, a1])) (by simp only [go_sem, undef, h.r0, h.r2, h.r3, h.r4, h.r5, h.r6, h.r7, h.r8, h.r9, h.r10, h.r11, h.r12, h.r13, h.r14, h.r15, h.r16, h.r17, h20, jae, ls, jag, e1, hx, e95, d1, d2, v1, a1]; try exact rfl) rfl ?_)
     iterate 4 (refine jaA (by simp only [go_sem, undef, h.r0, h.r2, h.r3, h.r4, h.r5, h.r6, h.r7, h.r8, h.r9, h.r10, h.r11, h.r12, h.r13, h.r14, h.r15, h.r16, h.r17, h20, jae, ls, jag, e1, hx, e95, d1, d2, v1, a1]) rfl ?_)
     iterate 2 (refine jal (by first | rfl | (simp only [go_sem, undef, h.r0, h.r2, h.r3, h.r4, h.r5, h.r6, h.r7, h.r8, h.r9, h.r10, h.r11, h.r12, h.r13, h.r14, h.r15, h.r16, h.r17, h20, jae, ls, jag, e1, hx, e95, d1, d2, v1, a1])) (by simp only [go_sem, undef, h.r0, h.r2, h.r3, h.r4, h.r5, h.r6, h.r7, h.r8, h.r9, h.r10, h.r11, h.r12, h.r13, h.r14, h.r15, h.r16, h.r17, h20, jae, ls, jag, e1, hx, e95, d1, d2, v1, a1]; try exact rfl) rfl ?_)
     simp only [go_sem]
     repeat (first | refine jaf ?_ | ((first | (refine jad ?_ ?_; (focus rfl)) | (refine jac (gs := ?_) ?_ ?_; rotate_left; (focus rfl))); simp only [run1, go_sem, undef, h.r0, h.r2, h.r3, h.r4, h.r5, h.r6, h.r7, h.r8, h.r9, h.r10, h.r11, h.r12, h.r13, h.r14, h.r15, h.r16, h.r17, h20, jae, ls, jag, e1, hx, e95, d1, d2, v1, a1]) | (refine jab ?_ ?_; (focus (simp only [go_sem, undef, h.r0, h.r2, h.r3, h.r4, h.r5, h.r6, h.r7, h.r8, h.r9, h.r10, h.r11, h.r12, h.r13, h.r14, h.r15, h.r16, h.r17, h20, jae, ls, jag, e1, hx, e95, d1, d2, v1, a1]; done))) | (refine jaa ?_ ?_; (focus (simp only [go_sem, undef, h.r0, h.r2, h.r3, h.r4, h.r5, h.r6, h.r7, h.r8, h.r9, h.r10, h.r11, h.r12, h.r13, h.r14, h.r15, h.r16, h.r17, h20, jae, ls, jag, e1, hx, e95, d1, d2, v1, a1]; done))) | ((first | refine jaj ?_ | refine jai ?_ | refine jak ?_); try simp only [go_sem]) | refine jah ?_)
     rw [show e + (m + 1) + 29 = e + m + 30 from by omega]
     exact hih (by constructor <;> simp only [go_sem, h.r0, h.r2, h.r3, h.r4, h.r5, h.r6, h.r7, h.r8, h.r9, h.r10, h.r11, h.r12, h.r13, h.r14, h.r15, h.r16, h.r17]) (by simp only [go_sem, h20]) (by simp only [go_sem, h19])
   ·refine ⟨i, v, Nat.le_refl _, by omega, hv, fun {X e tm μ es} h h20 h19 => ?_⟩
    by_cases h48 : c < 48
    ·have d1 : ilt (.ofNat c) 48 = true := (jbx c 48 48 rfl).trans (decide_eq_true h48)
     refine jas ?_
     refine jaf ?_
     refine jaf ?_
     refine jac (gs := ?_) ?_ ?_
     rotate_left
     ·rfl
     iterate 10 (refine jal (by first | rfl | (simp only [go_sem, undef, h.r0, h.r2, h.r3, h.r4, h.r5, h.r6, h.r7, h.r8, h.r9, h.r10, h.r11, h.r12, h.r13, h.r14, h.r15, h.r16, h.r17, jae, ls, jag, e1, hx, e95, d1])) (by simp only [go_sem, undef, h.r0, h.r2, h.r3, h.r4, h.r5, h.r6, h.r7, h.r8, h.r9, h.r10, h.r11, h.r12, h.r13, h.r14, h.r15, h.r16, h.r17, jae, ls, jag, e1, hx, e95, d1]; try exact rfl) rfl ?_)
     iterate 4 (refine jaA (by simp only [go_sem, undef, h.r0, h.r2, h.r3, h.r4, h.r5, h.r6, h.r7, h.r8, h.r9, h.r10, h.r11, h.r12, h.r13, h.r14, h.r15, h.r16, h.r17, jae, ls, jag, e1, hx, e95, d1]) rfl ?_)
     iterate 8 (refine jal (by first | rfl | (simp only [go_sem, undef, h.r0, h.r2, h.r3, h.r4, h.r5, h.r6, h.r7, h.r8, h.r9, h.r10, h.r11, h.r12, h.r13, h.r14, h.r15, h.r16, h.r17, jae, ls, jag, e1, hx, e95, d1])) (by simp only [go_sem, undef, h.r0, h.r2, h.r3, h.r4, h.r5, h.r6, h.r7, h.r8, h.r9, h.r10, h.r11, h.r12, h.r13, h.r14, h.r15, h.r16, h.r17, jae, ls, jag, e1, hx, e95, d1]; try exact rfl) rfl ?_)
     simp only [go_sem]
     repeat (first | refine jaf ?_ | ((first | (refine jad ?_ ?_; (focus rfl)) | (refine jac (gs := ?_) ?_ ?_; rotate_left; (focus rfl))); simp only [run1, go_sem, undef, h.r0, h.r2, h.r3, h.r4, h.r5, h.r6, h.r7, h.r8, h.r9, h.r10, h.r11, h.r12, h.r13, h.r14, h.r15, h.r16, h.r17, jae, ls, jag, e1, hx, e95, d1]) | (refine jab ?_ ?_; (focus (simp only [go_sem, undef, h.r0, h.r2, h.r3, h.r4, h.r5, h.r6, h.r7, h.r8, h.r9, h.r10, h.r11, h.r12, h.r13, h.r14, h.r15, h.r16, h.r17, jae, ls, jag, e1, hx, e95, d1]; done))) | (refine jaa ?_ ?_; (focus (simp only [go_sem, undef, h.r0, h.r2, h.r3, h.r4, h.r5, h.r6, h.r7, h.r8, h.r9, h.r10, h.r11, h.r12, h.r13, h.r14, h.r15, h.r16, h.r17, jae, ls, jag, e1, hx, e95, d1]; done))) | ((first | refine jaj ?_ | refine jai ?_ | refine jak ?_); try simp only [go_sem]) | refine jah ?_)
     exact ⟨by trivial, by trivial, _, rfl, (by constructor <;> simp only [go_sem, h.r0, h.r2, h.r3, h.r4, h.r5, h.r6, h.r7, h.r8, h.r9, h.r10, h.r11, h.r12, h.r13, h.r14, h.r15, h.r16, h.r17]), by simp only [go_sem, h20], by simp only [go_sem, h19]⟩
    ·have d1 : ilt (.ofNat c) 48 = false := (jbx c 48 48 rfl).trans (decide_eq_false h48)
     have d2 : ilt 57 (.ofNat c) = true := (jdf c 57 57 rfl).trans (decide_eq_true (by omega))
     refine jas ?_
     refine jaf ?_
     refine jaf ?_
     refine jac (gs := ?_) ?_ ?_
     rotate_left
     ·rfl
     iterate 22 (refine jal (by first | rfl | (simp only [go_sem, undef, h.r0, h.r2, h.r3, h.r4, h.r5, h.r6, h.r7, h.r8, h.r9, h.r10, h.r11, h.r12, h.r13, h.r14, h.r15, h.r16, h.r17, jae, ls, jag, e1, hx, e95, d1, d2])) (by simp only [go_sem, undef, h.r0, h.r2, h.r3, h.r4, h.r5, h.r6, h.r7, h.r8, h.r9, h.r10, h.r11, h.r12, h.r13, h.r14, h.r15, h.r16, h.r17, jae, ls, jag, e1, hx, e95, d1, d2]; try exact rfl) rfl ?_)
     simp only [go_sem]
     repeat (first | refine jaf ?_ | ((first | (refine jad ?_ ?_; (focus rfl)) | (refine jac (gs := ?_) ?_ ?_; rotate_left; (focus rfl))); simp only [run1, go_sem, undef, h.r0, h.r2, h.r3, h.r4, h.r5, h.r6, h.r7, h.r8, h.r9, h.r10, h.r11, h.r12, h.r13, h.r14, h.r15, h.r16, h.r17, jae, ls, jag, e1, hx, e95, d1, d2]) | (refine jab ?_ ?_; (focus (simp only [go_sem, undef, h.r0, h.r2, h.r3, h.r4, h.r5, h.r6, h.r7, h.r8, h.r9, h.r10, h.r11, h.r12, h.r13, h.r14, h.r15, h.r16, h.r17, jae, ls, jag, e1, hx, e95, d1, d2]; done))) | (refine jaa ?_ ?_; (focus (simp only [go_sem, undef, h.r0, h.r2, h.r3, h.r4, h.r5, h.r6, h.r7, h.r8, h.r9, h.r10, h.r11, h.r12, h.r13, h.r14, h.r15, h.r16, h.r17, jae, ls, jag, e1, hx, e95, d1, d2]; done))) | ((first | refine jaj ?_ | refine jai ?_ | refine jak ?_); try simp only [go_sem]) | refine jah ?_)
     exact ⟨by trivial, by trivial, _, rfl, (by constructor <;> simp only [go_sem, h.r0, h.r2, h.r3, h.r4, h.r5, h.r6, h.r7, h.r8, h.r9, h.r10, h.r11, h.r12, h.r13, h.r14, h.r15, h.r16, h.r17]), by simp only [go_sem, h20], by simp only [go_sem, h19]⟩
end
noncomputable section
theorem num_48 (c : Nat) (h : 48 ≤ c ∧ c ≤ 57) : jay .u8 (Int.sub (.ofNat c) 48) = .ofNat (c - 48) := by
 have : Int.sub (.ofNat c) 48 = .ofNat (c - 48) := by show (c : Int) - 48 = ((c - 48 : Nat) : Int); omega
 rw [this]; exact qu8 _ (by omega)
theorem RegR.fin {tm : T Value} {s : ByteArray} {i a nd nm : Nat} {dp : Int} {neg tr sd sg : Bool} (h : RegR tm s i a nd nm dp neg tr sd sg) : RegF tm a 0 neg tr i false := ⟨h.r2, h.r3, h.r4, h.r5, h.r6, h.r7, h.r8⟩
theorem rf_loop {s : ByteArray} (hs : ∀ c ∈ bys s, c ∈ nums) (hl : (bys s).length ≤ 1000) (neg : Bool) : ∀ (m i a nd nm : Nat) (dp : Int) (tr sd sg : Bool), i + m = (bys s).length → nd ≤ i → nm ≤ 19 → -(i : Int) ≤ dp → dp ≤ i →
  ∃ i' a' nd' nm' dp' tr' sd' sg', i ≤ i' ∧ i' ≤ (bys s).length ∧ nd' ≤ i' ∧ nm' ≤ 19 ∧ -(i' : Int) ≤ dp' ∧ dp' ≤ i' ∧ ∀ {X : XT} {e : Nat} {tm : T Value} {μ : Mem}, RegR tm s i a nd nm dp neg tr sd sg →
   EndsC (jat Tryz.prog X S0 (e + m + 40) (.loop (jaL Tryz.f140 0)) ⟨253, tm, [], none⟩ μ) fun x r μ' => x = .exit 1 ∧ μ' = μ ∧ ∃ tm', r = ⟨253, tm', [], none⟩ ∧ RegR tm' s i' a' nd' nm' dp' neg tr' sd' sg' := by
 have ls := ja5 s
 intro m
 induction m with
 | zero =>
   intro i a nd nm dp tr sd sg hi h1 h2 h3 h4
   have hi : i = (bys s).length := hi
   have e1 : ilt (.ofNat i) (.ofNat (bys s).length) = false := (jav _ _).trans (decide_eq_false (by omega))
   refine ⟨i, a, nd, nm, dp, tr, sd, sg, Nat.le_refl _, by omega, h1, h2, h3, h4, fun {X e tm μ} h => ?_⟩
   refine jas ?_
   repeat (first | refine jaf ?_ | ((first | (refine jad ?_ ?_; (focus rfl)) | (refine jac (gs := ?_) ?_ ?_; rotate_left; (focus rfl))); simp only [run1, go_sem, h.r0, h.r2, h.r3, h.r4, h.r5, h.r6, h.r7, h.r8, h.r9, h.r10, h.r11, h.r12, h.r13, h.r14, h.r15, h.r16, h.r17, jae, ls, jag, e1]) | (refine jab ?_ ?_; (focus (simp only [go_sem, h.r0, h.r2, h.r3, h.r4, h.r5, h.r6, h.r7, h.r8, h.r9, h.r10, h.r11, h.r12, h.r13, h.r14, h.r15, h.r16, h.r17, jae, ls, jag, e1]; done))) | (refine jaa ?_ ?_; (focus (simp only [go_sem, h.r0, h.r2, h.r3, h.r4, h.r5, h.r6, h.r7, h.r8, h.r9, h.r10, h.r11, h.r12, h.r13, h.r14, h.r15, h.r16, h.r17, jae, ls, jag, e1]; done))) | ((first | refine jaj ?_ | refine jai ?_ | refine jak ?_); try simp only [go_sem]) | refine jah ?_)
   exact ⟨by trivial, by trivial, _, rfl, (by constructor <;> simp only [go_sem, h.r0, h.r2, h.r3, h.r4, h.r5, h.r6, h.r7, h.r8, h.r9, h.r10, h.r11, h.r12, h.r13, h.r14, h.r15, h.r16, h.r17])⟩
 | succ m ih =>
   intro i a nd nm dp tr sd sg hi h1 h2 h3 h4
   have hlt : i < (bys s).length := by omega
   obtain ⟨c, hc⟩ : ∃ c, c = (bys s)[i]'hlt := ⟨_, rfl⟩
   have hcn : c ∈ nums := by rw [hc]; exact hs _ (List.getElem_mem hlt)
   have hc256 := jgB c hcn
   have hx : ∀ (r : Rg) (x y : Operand), aev Tryz.prog r x = .string s → aev Tryz.prog r y = .int .i64 (.ofNat i) → jbi Tryz.prog (aev Tryz.prog r) 9 x y = some (.int .u8 (.ofNat c)) := fun r x y h1 h2 => by rw [hc]; exact jbA hlt h1 h2
   have e1 : ilt (.ofNat i) (.ofNat (bys s).length) = true := (jav _ _).trans (decide_eq_true hlt)
   have e95 : ieq (.ofNat c) 95 = false := (jaO c 95 95 rfl).trans (decide_eq_false (jef c hcn).2.2.2.2)
   have a1 : jay .i64 (Int.add (.ofNat i) 1) = .ofNat (i + 1) := ja2 i 1 (by omega)
   clear hc
   by_cases hp : c = 46
   ·have e46 : ieq (.ofNat c) 46 = true := (jaO c 46 46 rfl).trans (decide_eq_true hp)
    cases sd with
    | true =>
      refine ⟨i, a, nd, nm, dp, tr, true, sg, Nat.le_refl _, by omega, h1, h2, h3, h4, fun {X e tm μ} h => ?_⟩
      refine jas ?_
      repeat (first | refine jaf ?_ | ((first | (refine jad ?_ ?_; (focus rfl)) | (refine jac (gs := ?_) ?_ ?_; rotate_left; (focus rfl))); simp only [run1, go_sem, h.r0, h.r2, h.r3, h.r4, h.r5, h.r6, h.r7, h.r8, h.r9, h.r10, h.r11, h.r12, h.r13, h.r14, h.r15, h.r16, h.r17, jae, ls, jag, e1, hx, e95, e46, anb, eqbT, eqbF]) | (refine jab ?_ ?_; (focus (simp only [go_sem, h.r0, h.r2, h.r3, h.r4, h.r5, h.r6, h.r7, h.r8, h.r9, h.r10, h.r11, h.r12, h.r13, h.r14, h.r15, h.r16, h.r17, jae, ls, jag, e1, hx, e95, e46, anb, eqbT, eqbF]; done))) | (refine jaa ?_ ?_; (focus (simp only [go_sem, h.r0, h.r2, h.r3, h.r4, h.r5, h.r6, h.r7, h.r8, h.r9, h.r10, h.r11, h.r12, h.r13, h.r14, h.r15, h.r16, h.r17, jae, ls, jag, e1, hx, e95, e46, anb, eqbT, eqbF]; done))) | ((first | refine jaj ?_ | refine jai ?_ | refine jak ?_); try simp only [go_sem]) | refine jah ?_)
      exact ⟨by trivial, by trivial, _, rfl, (by constructor <;> simp only [go_sem, h.r0, h.r2, h.r3, h.r4, h.r5, h.r6, h.r7, h.r8, h.r9, h.r10, h.r11, h.r12, h.r13, h.r14, h.r15, h.r16, h.r17])⟩
    | false =>
      obtain ⟨i', a', nd', nm', dp', tr', sd', sg', b1, b2, b3, b4, b5, b6, hih⟩ := ih (i + 1) a nd nm (.ofNat nd) tr true sg (by omega) (by omega) h2 (by show _ ≤ (nd : Int); omega) (by show (nd : Int) ≤ _; omega)
      refine ⟨i', a', nd', nm', dp', tr', sd', sg', by omega, b2, b3, b4, b5, b6, fun {X e tm μ} h => ?_⟩
      refine jas ?_
      repeat (first | refine jaf ?_ | ((first | (refine jad ?_ ?_; (focus rfl)) | (refine jac (gs := ?_) ?_ ?_; rotate_left; (focus rfl))); simp only [run1, go_sem, h.r0, h.r2, h.r3, h.r4, h.r5, h.r6, h.r7, h.r8, h.r9, h.r10, h.r11, h.r12, h.r13, h.r14, h.r15, h.r16, h.r17, jae, ls, jag, e1, hx, e95, e46, anb, eqbT, eqbF, a1]) | (refine jab ?_ ?_; (focus (simp only [go_sem, h.r0, h.r2, h.r3, h.r4, h.r5, h.r6, h.r7, h.r8, h.r9, h.r10, h.r11, h.r12, h.r13, h.r14, h.r15, h.r16, h.r17, jae, ls, jag, e1, hx, e95, e46, anb, eqbT, eqbF, a1]; done))) | (refine jaa ?_ ?_; (focus (simp only [go_sem, h.r0, h.r2, h.r3, h.r4, h.r5, h.r6, h.r7, h.r8, h.r9, h.r10, h.r11, h.r12, h.r13, h.r14, h.r15, h.r16, h.r17, jae, ls, jag, e1, hx, e95, e46, anb, eqbT, eqbF, a1]; done))) | ((first | refine jaj ?_ | refine jai ?_ | refine jak ?_); try simp only [go_sem]) | refine jah ?_)
      rw [show e + (m + 1) + 39 = e + m + 40 from by omega]
      exact hih (by constructor <;> simp only [go_sem, h.r0, h.r2, h.r3, h.r4, h.r5, h.r6, h.r7, h.r8, h.r9, h.r10, h.r11, h.r12, h.r13, h.r14, h.r15, h.r16, h.r17])
   ·have e46 : ieq (.ofNat c) 46 = false := (jaO c 46 46 rfl).trans (decide_eq_false hp)
    by_cases hd : 48 ≤ c ∧ c ≤ 57
    ·have d1 : ilt (.ofNat c) 48 = false := (jbx c 48 48 rfl).trans (decide_eq_false (by omega))
     have d2 : ilt 57 (.ofNat c) = false := (jdf c 57 57 rfl).trans (decide_eq_false (by omega))
     have cnt : (c ≠ 48 ∨ nd ≠ 0) → ∃ i' a' nd' nm' dp' tr' sd' sg', i ≤ i' ∧ i' ≤ (bys s).length ∧ nd' ≤ i' ∧ nm' ≤ 19 ∧ -(i' : Int) ≤ dp' ∧ dp' ≤ i' ∧ ∀ (z1 z2 : Bool) {X : XT} {e : Nat} {tm : T Value} {μ : Mem}, ieq (.ofNat c) 48 = z1 → (z1 = true → ieq (.ofNat nd) 0 = false) → RegR tm s i a nd nm dp neg tr sd sg →
       EndsC (jat Tryz.prog X S0 (e + (m + 1) + 40) (.loop (jaL Tryz.f140 0)) ⟨253, tm, [], none⟩ μ) fun x r μ' => x = .exit 1 ∧ μ' = μ ∧ ∃ tm', r = ⟨253, tm', [], none⟩ ∧ RegR tm' s i' a' nd' nm' dp' neg tr' sd' sg' := by
      intro hcnt
      have n1 : jay .i64 (Int.add (.ofNat nd) 1) = .ofNat (nd + 1) := ja2 nd 1 (by omega)
      by_cases h19 : nm < 19
      ·have l19 : ilt (.ofNat nm) 19 = true := (jbx nm 19 19 rfl).trans (decide_eq_true h19)
       have n2 : jay .i64 (Int.add (.ofNat nm) 1) = .ofNat (nm + 1) := ja2 nm 1 (by omega)
       have q1 := num_48 c hd
       have q2 : jay .u64 (.ofNat (c - 48)) = .ofNat (W (c - 48)) := jbP _
       obtain ⟨i', a', nd', nm', dp', tr', sd', sg', b1, b2, b3, b4, b5, b6, hih⟩ := ih (i + 1) (W (W a * 10) + W (c - 48)) (nd + 1) (nm + 1) dp tr sd true (by omega) (by omega) (by omega) (by omega) (by omega)
       refine ⟨i', a', nd', nm', dp', tr', sd', sg', by omega, b2, b3, b4, b5, b6, fun z1 z2 {X e tm μ} k1 k2 h => ?_⟩
       cases z1 with
       | true =>
         have k2 := k2 rfl
         refine jas ?_
         repeat (first | refine jaf ?_ | ((first | (refine jad ?_ ?_; (focus rfl)) | (refine jac (gs := ?_) ?_ ?_; rotate_left; (focus rfl))); simp only [run1, go_sem, h.r0, h.r2, h.r3, h.r4, h.r5, h.r6, h.r7, h.r8, h.r9, h.r10, h.r11, h.r12, h.r13, h.r14, h.r15, h.r16, h.r17, jae, ls, jag, e1, hx, e95, e46, anb, eqbT, eqbF, d1, d2, k1, k2, n1, n2, l19, q1, q2, jcs, jcx, wAdd, a1]) | (refine jab ?_ ?_; (focus (simp only [go_sem, h.r0, h.r2, h.r3, h.r4, h.r5, h.r6, h.r7, h.r8, h.r9, h.r10, h.r11, h.r12, h.r13, h.r14, h.r15, h.r16, h.r17, jae, ls, jag, e1, hx, e95, e46, anb, eqbT, eqbF, d1, d2, k1, k2, n1, n2, l19, q1, q2, jcs, jcx, wAdd, a1]; done))) | (refine jaa ?_ ?_; (focus (simp only [go_sem, h.r0, h.r2, h.r3, h.r4, h.r5, h.r6, h.r7, h.r8, h.r9, h.r10, h.r11, h.r12, h.r13, h.r14, h.r15, h.r16, h.r17, jae, ls, jag, e1, hx, e95, e46, anb, eqbT, eqbF, d1, d2, k1, k2, n1, n2, l19, q1, q2, jcs, jcx, wAdd, a1]; done))) | ((first | refine jaj ?_ | refine jai ?_ | refine jak ?_); try simp only [go_sem]) | refine jah ?_)
         rw [show e + (m + 1) + 39 = e + m + 40 from by omega]
         exact hih (by constructor <;> simp only [go_sem, h.r0, h.r2, h.r3, h.r4, h.r5, h.r6, h.r7, h.r8, h.r9, h.r10, h.r11, h.r12, h.r13, h.r14, h.r15, h.r16, h.r17])
       | false =>
         refine jas ?_
         repeat (first | refine jaf ?_ | ((first | (refine jad ?_ ?_; (focus rfl)) | (refine jac (gs := ?_) ?_ ?_; rotate_left; (focus rfl))); simp only [run1, go_sem, h.r0, h.r2, h.r3, h.r4, h.r5, h.r6, h.r7, h.r8, h.r9, h.r10, h.r11, h.r12, h.r13, h.r14, h.r15, h.r16, h.r17, jae, ls, jag, e1, hx, e95, e46, anb, eqbT, eqbF, d1, d2, k1, n1, n2, l19, q1, q2, jcs, jcx, wAdd, a1]) | (refine jab ?_ ?_; (focus (simp only [go_sem, h.r0, h.r2, h.r3, h.r4, h.r5, h.r6, h.r7, h.r8, h.r9, h.r10, h.r11, h.r12, h.r13, h.r14, h.r15, h.r16, h.r17, jae, ls, jag, e1, hx, e95, e46, anb, eqbT, eqbF, d1, d2, k1, n1, n2, l19, q1, q2, jcs, jcx, wAdd, a1]; done))) | (refine jaa ?_ ?_; (focus (simp only [go_sem, h.r0, h.r2, h.r3, h.r4, h.r5, h.r6, h.r7, h.r8, h.r9, h.r10, h.r11, h.r12, h.r13, h.r14, h.r15, h.r16, h.r17, jae, ls, jag, e1, hx, e95, e46, anb, eqbT, eqbF, d1, d2, k1, n1, n2, l19, q1, q2, jcs, jcx, wAdd, a1]; done))) | ((first | refine jaj ?_ | refine jai ?_ | refine jak ?_); try simp only [go_sem]) | refine jah ?_)
         rw [show e + (m + 1) + 39 = e + m + 40 from by omega]
         exact hih (by constructor <;> simp only [go_sem, h.r0, h.r2, h.r3, h.r4, h.r5, h.r6, h.r7, h.r8, h.r9, h.r10, h.r11, h.r12, h.r13, h.r14, h.r15, h.r16, h.r17])
      ·have l19 : ilt (.ofNat nm) 19 = false := (jbx nm 19 19 rfl).trans (decide_eq_false h19)
       obtain ⟨i', a', nd', nm', dp', tr', sd', sg', b1, b2, b3, b4, b5, b6, hih⟩ := ih (i + 1) a (nd + 1) nm dp (if c = 48 then tr else true) sd true (by omega) (by omega) (by omega) (by omega) (by omega)
       refine ⟨i', a', nd', nm', dp', tr', sd', sg', by omega, b2, b3, b4, b5, b6, fun z1 z2 {X e tm μ} k1 k2 h => ?_⟩
       by_cases h48 : c = 48
       ·rw [if_pos h48] at hih
        obtain rfl : z1 = true := k1.symm.trans ((jaO c 48 48 rfl).trans (decide_eq_true h48))
        have k2 := k2 rfl
        refine jas ?_
        repeat (first | refine jaf ?_ | ((first | (refine jad ?_ ?_; (focus rfl)) | (refine jac (gs := ?_) ?_ ?_; rotate_left; (focus rfl))); simp only [run1, go_sem, h.r0, h.r2, h.r3, h.r4, h.r5, h.r6, h.r7, h.r8, h.r9, h.r10, h.r11, h.r12, h.r13, h.r14, h.r15, h.r16, h.r17, jae, ls, jag, e1, hx, e95, e46, anb, eqbT, eqbF, d1, d2, k1, k2, n1, l19, a1]) | (refine jab ?_ ?_; (focus (simp only [go_sem, h.r0, h.r2, h.r3, h.r4, h.r5, h.r6, h.r7, h.r8, h.r9, h.r10, h.r11, h.r12, h.r13, h.r14, h.r15, h.r16, h.r17, jae, ls, jag, e1, hx, e95, e46, anb, eqbT, eqbF, d1, d2, k1, k2, n1, l19, a1]; done))) | (refine jaa ?_ ?_; (focus (simp only [go_sem, h.r0, h.r2, h.r3, h.r4, h.r5, h.r6, h.r7, h.r8, h.r9, h.r10, h.r11, h.r12, h.r13, h.r14, h.r15, h.r16, h.r17, jae, ls, jag, e1, hx, e95, e46, anb, eqbT, eqbF, d1, d2, k1, k2, n1, l19, a1]; done))) | ((first | refine jaj ?_ | refine jai ?_ | refine jak ?_); try simp only [go_sem]) | refine jah ?_)
        rw [show e + (m + 1) + 39 = e + m + 40 from by omega]
        exact hih (by constructor <;> simp only [go_sem, h.r0, h.r2, h.r3, h.r4, h.r5, h.r6, h.r7, h.r8, h.r9, h.r10, h.r11, h.r12, h.r13, h.r14, h.r15, h.r16, h.r17])
       ·rw [if_neg h48] at hih
        obtain rfl : z1 = false := k1.symm.trans ((jaO c 48 48 rfl).trans (decide_eq_false h48))
        refine jas ?_
        repeat (first | refine jaf ?_ | ((first | (refine jad ?_ ?_; (focus rfl)) | (refine jac (gs := ?_) ?_ ?_; rotate_left; (focus rfl))); simp only [run1, go_sem, h.r0, h.r2, h.r3, h.r4, h.r5, h.r6, h.r7, h.r8, h.r9, h.r10, h.r11, h.r12, h.r13, h.r14, h.r15, h.r16, h.r17, jae, ls, jag, e1, hx, e95, e46, anb, eqbT, eqbF, d1, d2, k1, n1, l19, a1]) | (refine jab ?_ ?_; (focus (simp only [go_sem, h.r0, h.r2, h.r3, h.r4, h.r5, h.r6, h.r7, h.r8, h.r9, h.r10, h.r11, h.r12, h.r13, h.r14, h.r15, h.r16, h.r17, jae, ls, jag, e1, hx, e95, e46, anb, eqbT, eqbF, d1, d2, k1, n1, l19, a1]; done))) | (refine jaa ?_ ?_; (focus (simp only [go_sem, h.r0, h.r2, h.r3, h.r4, h.r5, h.r6, h.r7, h.r8, h.r9, h.r10, h.r11, h.r12, h.r13, h.r14, h.r15, h.r16, h.r17, jae, ls, jag, e1, hx, e95, e46, anb, eqbT, eqbF, d1, d2, k1, n1, l19, a1]; done))) | ((first | refine jaj ?_ | refine jai ?_ | refine jak ?_); try simp only [go_sem]) | refine jah ?_)
        rw [show e + (m + 1) + 39 = e + m + 40 from by omega]
        exact hih (by constructor <;> simp only [go_sem, h.r0, h.r2, h.r3, h.r4, h.r5, h.r6, h.r7, h.r8, h.r9, h.r10, h.r11, h.r12, h.r13, h.r14, h.r15, h.r16, h.r17])
     by_cases h48 : c = 48
     ·have k1 : ieq (.ofNat c) 48 = true := (jaO c 48 48 rfl).trans (decide_eq_true h48)
      by_cases h0 : nd = 0
      ·have k2 : ieq (.ofNat nd) 0 = true := (jaO nd 0 0 rfl).trans (decide_eq_true h0)
       have n1 : jay .i64 (Int.sub dp 1) = dp - 1 := jdK dp 1 (by omega) (by omega)
       obtain ⟨i', a', nd', nm', dp', tr', sd', sg', b1, b2, b3, b4, b5, b6, hih⟩ := ih (i + 1) a nd nm (dp - 1) tr sd true (by omega) (by omega) (by omega) (by omega) (by omega)
       refine ⟨i', a', nd', nm', dp', tr', sd', sg', by omega, b2, b3, b4, b5, b6, fun {X e tm μ} h => ?_⟩
       refine jas ?_
       repeat (first | refine jaf ?_ | ((first | (refine jad ?_ ?_; (focus rfl)) | (refine jac (gs := ?_) ?_ ?_; rotate_left; (focus rfl))); simp only [run1, go_sem, h.r0, h.r2, h.r3, h.r4, h.r5, h.r6, h.r7, h.r8, h.r9, h.r10, h.r11, h.r12, h.r13, h.r14, h.r15, h.r16, h.r17, jae, ls, jag, e1, hx, e95, e46, anb, eqbT, eqbF, d1, d2, k1, k2, n1, a1]) | (refine jab ?_ ?_; (focus (simp only [go_sem, h.r0, h.r2, h.r3, h.r4, h.r5, h.r6, h.r7, h.r8, h.r9, h.r10, h.r11, h.r12, h.r13, h.r14, h.r15, h.r16, h.r17, jae, ls, jag, e1, hx, e95, e46, anb, eqbT, eqbF, d1, d2, k1, k2, n1, a1]; done))) | (refine jaa ?_ ?_; (focus (simp only [go_sem, h.r0, h.r2, h.r3, h.r4, h.r5, h.r6, h.r7, h.r8, h.r9, h.r10, h.r11, h.r12, h.r13, h.r14, h.r15, h.r16, h.r17, jae, ls, jag, e1, hx, e95, e46, anb, eqbT, eqbF, d1, d2, k1, k2, n1, a1]; done))) | ((first | refine jaj ?_ | refine jai ?_ | refine jak ?_); try simp only [go_sem]) | refine jah ?_)
       rw [show e + (m + 1) + 39 = e + m + 40 from by omega]
       exact hih (by constructor <;> simp only [go_sem, h.r0, h.r2, h.r3, h.r4, h.r5, h.r6, h.r7, h.r8, h.r9, h.r10, h.r11, h.r12, h.r13, h.r14, h.r15, h.r16, h.r17])
      ·obtain ⟨i', a', nd', nm', dp', tr', sd', sg', b1, b2, b3, b4, b5, b6, hih⟩ := cnt (.inr h0)
       exact ⟨i', a', nd', nm', dp', tr', sd', sg', b1, b2, b3, b4, b5, b6, fun {X e tm μ} h => hih true true k1 (fun _ => (jaO nd 0 0 rfl).trans (decide_eq_false h0)) h⟩
     ·have k1 : ieq (.ofNat c) 48 = false := (jaO c 48 48 rfl).trans (decide_eq_false h48)
      obtain ⟨i', a', nd', nm', dp', tr', sd', sg', b1, b2, b3, b4, b5, b6, hih⟩ := cnt (.inl h48)
      exact ⟨i', a', nd', nm', dp', tr', sd', sg', b1, b2, b3, b4, b5, b6, fun {X e tm μ} h => hih false true k1 (fun h => by cases h) h⟩
    ·refine ⟨i, a, nd, nm, dp, tr, sd, sg, Nat.le_refl _, by omega, h1, h2, h3, h4, fun {X e tm μ} h => ?_⟩
     by_cases h48 : c < 48
     ·have d1 : ilt (.ofNat c) 48 = true := (jbx c 48 48 rfl).trans (decide_eq_true h48)
      refine jas ?_
      repeat (first | refine jaf ?_ | ((first | (refine jad ?_ ?_; (focus rfl)) | (refine jac (gs := ?_) ?_ ?_; rotate_left; (focus rfl))); simp only [run1, go_sem, h.r0, h.r2, h.r3, h.r4, h.r5, h.r6, h.r7, h.r8, h.r9, h.r10, h.r11, h.r12, h.r13, h.r14, h.r15, h.r16, h.r17, jae, ls, jag, e1, hx, e95, e46, anb, eqbT, eqbF, d1, jcq]) | (refine jab ?_ ?_; (focus (simp only [go_sem, h.r0, h.r2, h.r3, h.r4, h.r5, h.r6, h.r7, h.r8, h.r9, h.r10, h.r11, h.r12, h.r13, h.r14, h.r15, h.r16, h.r17, jae, ls, jag, e1, hx, e95, e46, anb, eqbT, eqbF, d1, jcq]; done))) | (refine jaa ?_ ?_; (focus (simp only [go_sem, h.r0, h.r2, h.r3, h.r4, h.r5, h.r6, h.r7, h.r8, h.r9, h.r10, h.r11, h.r12, h.r13, h.r14, h.r15, h.r16, h.r17, jae, ls, jag, e1, hx, e95, e46, anb, eqbT, eqbF, d1, jcq]; done))) | ((first | refine jaj ?_ | refine jai ?_ | refine jak ?_); try simp only [go_sem]) | refine jah ?_)
      exact ⟨by trivial, by trivial, _, rfl, (by constructor <;> simp only [go_sem, h.r0, h.r2, h.r3, h.r4, h.r5, h.r6, h.r7, h.r8, h.r9, h.r10, h.r11, h.r12, h.r13, h.r14, h.r15, h.r16, h.r17])⟩
     ·have d1 : ilt (.ofNat c) 48 = false := (jbx c 48 48 rfl).trans (decide_eq_false h48)
      have d2 : ilt 57 (.ofNat c) = true := (jdf c 57 57 rfl).trans (decide_eq_true (by omega))
      refine jas ?_
      repeat (first | refine jaf ?_ | ((first | (refine jad ?_ ?_; (focus rfl)) | (refine jac (gs := ?_) ?_ ?_; rotate_left; (focus rfl))); simp only [run1, go_sem, h.r0, h.r2, h.r3, h.r4, h.r5, h.r6, h.r7, h.r8, h.r9, h.r10, h.r11, h.r12, h.r13, h.r14, h.r15, h.r16, h.r17, jae, ls, jag, e1, hx, e95, e46, anb, eqbT, eqbF, d1, d2, jcq]) | (refine jab ?_ ?_; (focus (simp only [go_sem, h.r0, h.r2, h.r3, h.r4, h.r5, h.r6, h.r7, h.r8, h.r9, h.r10, h.r11, h.r12, h.r13, h.r14, h.r15, h.r16, h.r17, jae, ls, jag, e1, hx, e95, e46, anb, eqbT, eqbF, d1, d2, jcq]; done))) | (refine jaa ?_ ?_; (focus (simp only [go_sem, h.r0, h.r2, h.r3, h.r4, h.r5, h.r6, h.r7, h.r8, h.r9, h.r10, h.r11, h.r12, h.r13, h.r14, h.r15, h.r16, h.r17, jae, ls, jag, e1, hx, e95, e46, anb, eqbT, eqbF, d1, d2, jcq]; done))) | ((first | refine jaj ?_ | refine jai ?_ | refine jak ?_); try simp only [go_sem]) | refine jah ?_)
      exact ⟨by trivial, by trivial, _, rfl, (by constructor <;> simp only [go_sem, h.r0, h.r2, h.r3, h.r4, h.r5, h.r6, h.r7, h.r8, h.r9, h.r10, h.r11, h.r12, h.r13, h.r14, h.r15, h.r16, h.r17])⟩
end
noncomputable section
def jfk : Code → Code
 | .seq _ (.cond _ a _) => a
 | _ => .skip
def nthC : Nat → Code → Code
 | n + 1, .seq _ b => nthC n b
 | 0, .seq a _ => a
 | _, c => c
def outX (done : Bool) : Ax := if done then .normal else .ret
theorem rfE {s : ByteArray} (hs : ∀ c ∈ bys s, c ∈ nums) (hl : (bys s).length ≤ 1000) (i a nd nm : Nat) (dp : Int) (neg tr sd sg : Bool) (es : Int) (hes : es = 1 ∨ es = -1) (hi : i ≤ (bys s).length) (hd1 : -2000 < dp) (hd2 : dp < 2000) : ∃ done i' dp', i' ≤ (bys s).length ∧ -150000 < dp' ∧ dp' < 150000 ∧ ∀ {X : XT} {k : Nat} {tm : T Value} {μ : Mem}, RegR tm s i a nd nm dp neg tr sd sg → jaq tm 19 = .int .i64 es →
  EndsC (jat Tryz.prog X S0 (k + 1100) (jcC 4 (jfk (nthC 17 (jaR Tryz.f140)))) ⟨253, tm, [], none⟩ μ) fun x r μ' => x = outX done ∧ μ' = μ ∧ ∃ tm', r = ⟨253, tm', [], none⟩ ∧ RegR tm' s i' a nd nm dp' neg tr sd sg := by
 have ls := ja5 s
 by_cases hlt : i < (bys s).length
 rotate_left
 ·have e1 : ilt (.ofNat i) (.ofNat (bys s).length) = false := (jav _ _).trans (decide_eq_false hlt)
  refine ⟨false, i, dp, hi, by omega, by omega, fun {X k tm μ} h h19 => ?_⟩
  refine jaf ?_
  refine jaf ?_
  refine jac (gs := ?_) ?_ ?_
  rotate_left
  ·rfl
  iterate 5 (refine jal (by first | rfl | (simp only [go_sem, undef, h.r0, h.r2, h.r3, h.r4, h.r5, h.r6, h.r7, h.r8, h.r9, h.r10, h.r11, h.r12, h.r13, h.r14, h.r15, h.r16, h.r17, jae, ls, jag, e1])) (by simp only [go_sem, undef, h.r0, h.r2, h.r3, h.r4, h.r5, h.r6, h.r7, h.r8, h.r9, h.r10, h.r11, h.r12, h.r13, h.r14, h.r15, h.r16, h.r17, jae, ls, jag, e1]; try exact rfl) rfl ?_)
  iterate 4 (refine jaA (by simp only [go_sem, undef, h.r0, h.r2, h.r3, h.r4, h.r5, h.r6, h.r7, h.r8, h.r9, h.r10, h.r11, h.r12, h.r13, h.r14, h.r15, h.r16, h.r17, jae, ls, jag, e1]) rfl ?_)
  iterate 2 (refine jal (by first | rfl | (simp only [go_sem, undef, h.r0, h.r2, h.r3, h.r4, h.r5, h.r6, h.r7, h.r8, h.r9, h.r10, h.r11, h.r12, h.r13, h.r14, h.r15, h.r16, h.r17, jae, ls, jag, e1])) (by simp only [go_sem, undef, h.r0, h.r2, h.r3, h.r4, h.r5, h.r6, h.r7, h.r8, h.r9, h.r10, h.r11, h.r12, h.r13, h.r14, h.r15, h.r16, h.r17, jae, ls, jag, e1]; try exact rfl) rfl ?_)
  iterate 4 (refine jaA (by simp only [go_sem, undef, h.r0, h.r2, h.r3, h.r4, h.r5, h.r6, h.r7, h.r8, h.r9, h.r10, h.r11, h.r12, h.r13, h.r14, h.r15, h.r16, h.r17, jae, ls, jag, e1]) rfl ?_)
  refine jal (by first | rfl | (simp only [go_sem, undef, h.r0, h.r2, h.r3, h.r4, h.r5, h.r6, h.r7, h.r8, h.r9, h.r10, h.r11, h.r12, h.r13, h.r14, h.r15, h.r16, h.r17, jae, ls, jag, e1])) (by simp only [go_sem, undef, h.r0, h.r2, h.r3, h.r4, h.r5, h.r6, h.r7, h.r8, h.r9, h.r10, h.r11, h.r12, h.r13, h.r14, h.r15, h.r16, h.r17, jae, ls, jag, e1]; try exact rfl) rfl ?_
  simp only [go_sem]
  repeat (first | refine jaf ?_ | ((first | (refine jad ?_ ?_; (focus rfl)) | (refine jac (gs := ?_) ?_ ?_; rotate_left; (focus rfl))); simp only [run1, go_sem, undef, h.r0, h.r2, h.r3, h.r4, h.r5, h.r6, h.r7, h.r8, h.r9, h.r10, h.r11, h.r12, h.r13, h.r14, h.r15, h.r16, h.r17, jae, ls, jag, e1]) | (refine jab ?_ ?_; (focus (simp only [go_sem, undef, h.r0, h.r2, h.r3, h.r4, h.r5, h.r6, h.r7, h.r8, h.r9, h.r10, h.r11, h.r12, h.r13, h.r14, h.r15, h.r16, h.r17, jae, ls, jag, e1]; done))) | (refine jaa ?_ ?_; (focus (simp only [go_sem, undef, h.r0, h.r2, h.r3, h.r4, h.r5, h.r6, h.r7, h.r8, h.r9, h.r10, h.r11, h.r12, h.r13, h.r14, h.r15, h.r16, h.r17, jae, ls, jag, e1]; done))) | ((first | refine jaj ?_ | refine jai ?_ | refine jak ?_); try simp only [go_sem]) | refine jah ?_)
  refine jam ?_
  exact ⟨by trivial, by trivial, _, rfl, (by constructor <;> simp only [go_sem, h.r0, h.r2, h.r3, h.r4, h.r5, h.r6, h.r7, h.r8, h.r9, h.r10, h.r11, h.r12, h.r13, h.r14, h.r15, h.r16, h.r17])⟩
 have e1 : ilt (.ofNat i) (.ofNat (bys s).length) = true := (jav _ _).trans (decide_eq_true hlt)
 obtain ⟨c, hc⟩ : ∃ c, c = (bys s)[i]'hlt := ⟨_, rfl⟩
 have hx : ∀ (r : Rg) (x y : Operand), aev Tryz.prog r x = .string s → aev Tryz.prog r y = .int .i64 (.ofNat i) → jbi Tryz.prog (aev Tryz.prog r) 9 x y = some (.int .u8 (.ofNat c)) := fun r x y h1 h2 => by rw [hc]; exact jbA hlt h1 h2
 clear hc
 by_cases h48 : c < 48
 ·have d1 : ilt (.ofNat c) 48 = true := (jbx c 48 48 rfl).trans (decide_eq_true h48)
  refine ⟨false, i, dp, hi, by omega, by omega, fun {X k tm μ} h h19 => ?_⟩
  refine jaf ?_
  refine jaf ?_
  refine jac (gs := ?_) ?_ ?_
  rotate_left
  ·rfl
  iterate 11 (refine jal (by first | rfl | (simp only [go_sem, undef, h.r0, h.r2, h.r3, h.r4, h.r5, h.r6, h.r7, h.r8, h.r9, h.r10, h.r11, h.r12, h.r13, h.r14, h.r15, h.r16, h.r17, jae, ls, jag, e1, hx, d1])) (by simp only [go_sem, undef, h.r0, h.r2, h.r3, h.r4, h.r5, h.r6, h.r7, h.r8, h.r9, h.r10, h.r11, h.r12, h.r13, h.r14, h.r15, h.r16, h.r17, jae, ls, jag, e1, hx, d1]; try exact rfl) rfl ?_)
  iterate 4 (refine jaA (by simp only [go_sem, undef, h.r0, h.r2, h.r3, h.r4, h.r5, h.r6, h.r7, h.r8, h.r9, h.r10, h.r11, h.r12, h.r13, h.r14, h.r15, h.r16, h.r17, jae, ls, jag, e1, hx, d1]) rfl ?_)
  refine jal (by first | rfl | (simp only [go_sem, undef, h.r0, h.r2, h.r3, h.r4, h.r5, h.r6, h.r7, h.r8, h.r9, h.r10, h.r11, h.r12, h.r13, h.r14, h.r15, h.r16, h.r17, jae, ls, jag, e1, hx, d1])) (by simp only [go_sem, undef, h.r0, h.r2, h.r3, h.r4, h.r5, h.r6, h.r7, h.r8, h.r9, h.r10, h.r11, h.r12, h.r13, h.r14, h.r15, h.r16, h.r17, jae, ls, jag, e1, hx, d1]; try exact rfl) rfl ?_
  simp only [go_sem]
  repeat (first | refine jaf ?_ | ((first | (refine jad ?_ ?_; (focus rfl)) | (refine jac (gs := ?_) ?_ ?_; rotate_left; (focus rfl))); simp only [run1, go_sem, undef, h.r0, h.r2, h.r3, h.r4, h.r5, h.r6, h.r7, h.r8, h.r9, h.r10, h.r11, h.r12, h.r13, h.r14, h.r15, h.r16, h.r17, jae, ls, jag, e1, hx, d1]) | (refine jab ?_ ?_; (focus (simp only [go_sem, undef, h.r0, h.r2, h.r3, h.r4, h.r5, h.r6, h.r7, h.r8, h.r9, h.r10, h.r11, h.r12, h.r13, h.r14, h.r15, h.r16, h.r17, jae, ls, jag, e1, hx, d1]; done))) | (refine jaa ?_ ?_; (focus (simp only [go_sem, undef, h.r0, h.r2, h.r3, h.r4, h.r5, h.r6, h.r7, h.r8, h.r9, h.r10, h.r11, h.r12, h.r13, h.r14, h.r15, h.r16, h.r17, jae, ls, jag, e1, hx, d1]; done))) | ((first | refine jaj ?_ | refine jai ?_ | refine jak ?_); try simp only [go_sem]) | refine jah ?_)
  refine jam ?_
  exact ⟨by trivial, by trivial, _, rfl, (by constructor <;> simp only [go_sem, h.r0, h.r2, h.r3, h.r4, h.r5, h.r6, h.r7, h.r8, h.r9, h.r10, h.r11, h.r12, h.r13, h.r14, h.r15, h.r16, h.r17])⟩
 have d1 : ilt (.ofNat c) 48 = false := (jbx c 48 48 rfl).trans (decide_eq_false h48)
 by_cases h57 : 57 < c
 ·have d2 : ilt 57 (.ofNat c) = true := (jdf c 57 57 rfl).trans (decide_eq_true h57)
  refine ⟨false, i, dp, hi, by omega, by omega, fun {X k tm μ} h h19 => ?_⟩
  refine jaf ?_
  refine jaf ?_
  refine jac (gs := ?_) ?_ ?_
  rotate_left
  ·rfl
  iterate 16 (refine jal (by first | rfl | (simp only [go_sem, undef, h.r0, h.r2, h.r3, h.r4, h.r5, h.r6, h.r7, h.r8, h.r9, h.r10, h.r11, h.r12, h.r13, h.r14, h.r15, h.r16, h.r17, jae, ls, jag, e1, hx, d1, d2])) (by simp only [go_sem, undef, h.r0, h.r2, h.r3, h.r4, h.r5, h.r6, h.r7, h.r8, h.r9, h.r10, h.r11, h.r12, h.r13, h.r14, h.r15, h.r16, h.r17, jae, ls, jag, e1, hx, d1, d2]; try exact rfl) rfl ?_)
  simp only [go_sem]
  repeat (first | refine jaf ?_ | ((first | (refine jad ?_ ?_; (focus rfl)) | (refine jac (gs := ?_) ?_ ?_; rotate_left; (focus rfl))); simp only [run1, go_sem, undef, h.r0, h.r2, h.r3, h.r4, h.r5, h.r6, h.r7, h.r8, h.r9, h.r10, h.r11, h.r12, h.r13, h.r14, h.r15, h.r16, h.r17, jae, ls, jag, e1, hx, d1, d2]) | (refine jab ?_ ?_; (focus (simp only [go_sem, undef, h.r0, h.r2, h.r3, h.r4, h.r5, h.r6, h.r7, h.r8, h.r9, h.r10, h.r11, h.r12, h.r13, h.r14, h.r15, h.r16, h.r17, jae, ls, jag, e1, hx, d1, d2]; done))) | (refine jaa ?_ ?_; (focus (simp only [go_sem, undef, h.r0, h.r2, h.r3, h.r4, h.r5, h.r6, h.r7, h.r8, h.r9, h.r10, h.r11, h.r12, h.r13, h.r14, h.r15, h.r16, h.r17, jae, ls, jag, e1, hx, d1, d2]; done))) | ((first | refine jaj ?_ | refine jai ?_ | refine jak ?_); try simp only [go_sem]) | refine jah ?_)
  refine jam ?_
  exact ⟨by trivial, by trivial, _, rfl, (by constructor <;> simp only [go_sem, h.r0, h.r2, h.r3, h.r4, h.r5, h.r6, h.r7, h.r8, h.r9, h.r10, h.r11, h.r12, h.r13, h.r14, h.r15, h.r16, h.r17])⟩
 have d2 : ilt 57 (.ofNat c) = false := (jdf c 57 57 rfl).trans (decide_eq_false h57)
 obtain ⟨i', v', b1, b2, b3, hlp⟩ := rf_exp hs hl a nd nm dp neg tr sd sg ((bys s).length - i) i 0 (by omega) (by decide)
 have q1 : jay .i64 (Int.mul (.ofNat v') es) = (v' : Int) * es := i_mul (v' : Int) es (by rcases hes with rfl | rfl <;> omega) (by rcases hes with rfl | rfl <;> omega)
 obtain ⟨pe, hpe⟩ : ∃ pe, pe = (v' : Int) * es := ⟨_, rfl⟩
 have hpe1 : -110000 < pe ∧ pe < 110000 := by rw [hpe]; rcases hes with rfl | rfl <;> omega
 rw [← hpe] at q1
 have q2 : jay .i64 (Int.add dp pe) = dp + pe := jfD dp pe (by omega) (by omega)
 refine ⟨true, i', dp + pe, b2, by omega, by omega, fun {X k tm μ} h h19 => ?_⟩
 refine jaf ?_
 refine jaf ?_
 refine jac (gs := ?_) ?_ ?_
 rotate_left
 ·rfl
 iterate 16 (refine jal (by first | rfl | (simp only [go_sem, undef, h.r0, h.r2, h.r3, h.r4, h.r5, h.r6, h.r7, h.r8, h.r9, h.r10, h.r11, h.r12, h.r13, h.r14, h.r15, h.r16, h.r17, jae, ls, jag, e1, hx, d1, d2])) (by simp only [go_sem, undef, h.r0, h.r2, h.r3, h.r4, h.r5, h.r6, h.r7, h.r8, h.r9, h.r10, h.r11, h.r12, h.r13, h.r14, h.r15, h.r16, h.r17, jae, ls, jag, e1, hx, d1, d2]; try exact rfl) rfl ?_)
 simp only [go_sem]
 repeat (first | refine jaf ?_ | ((first | (refine jad ?_ ?_; (focus rfl)) | (refine jac (gs := ?_) ?_ ?_; rotate_left; (focus rfl))); simp only [run1, go_sem, undef, h.r0, h.r2, h.r3, h.r4, h.r5, h.r6, h.r7, h.r8, h.r9, h.r10, h.r11, h.r12, h.r13, h.r14, h.r15, h.r16, h.r17, jae, ls, jag, e1, hx, d1, d2]) | (refine jab ?_ ?_; (focus (simp only [go_sem, undef, h.r0, h.r2, h.r3, h.r4, h.r5, h.r6, h.r7, h.r8, h.r9, h.r10, h.r11, h.r12, h.r13, h.r14, h.r15, h.r16, h.r17, jae, ls, jag, e1, hx, d1, d2]; done))) | (refine jaa ?_ ?_; (focus (simp only [go_sem, undef, h.r0, h.r2, h.r3, h.r4, h.r5, h.r6, h.r7, h.r8, h.r9, h.r10, h.r11, h.r12, h.r13, h.r14, h.r15, h.r16, h.r17, jae, ls, jag, e1, hx, d1, d2]; done))) | ((first | refine jaj ?_ | refine jai ?_ | refine jak ?_); try simp only [go_sem]) | refine jah ?_)
 rw [show k + 1096 = (k + 1066 - ((bys s).length - i)) + ((bys s).length - i) + 30 from by omega]
 refine EndsC.mono (hlp (es := .int .i64 es) (by constructor <;> simp only [go_sem, h.r0, h.r2, h.r3, h.r4, h.r5, h.r6, h.r7, h.r8, h.r9, h.r10, h.r11, h.r12, h.r13, h.r14, h.r15, h.r16, h.r17]) (by simp only [go_sem]; try rfl) (by simp only [go_sem, h19])) ?_
 rintro x r μ' ⟨rfl, rfl, tm', rfl, h, h20, h19⟩
 simp only [ja4, reduceIte, jao]
 repeat (first | refine jaf ?_ | ((first | (refine jad ?_ ?_; (focus rfl)) | (refine jac (gs := ?_) ?_ ?_; rotate_left; (focus rfl))); simp only [run1, go_sem, h.r0, h.r2, h.r3, h.r4, h.r5, h.r6, h.r7, h.r8, h.r9, h.r10, h.r11, h.r12, h.r13, h.r14, h.r15, h.r16, h.r17, h20, h19, q1, q2]) | (refine jab ?_ ?_; (focus (simp only [go_sem, h.r0, h.r2, h.r3, h.r4, h.r5, h.r6, h.r7, h.r8, h.r9, h.r10, h.r11, h.r12, h.r13, h.r14, h.r15, h.r16, h.r17, h20, h19, q1, q2]; done))) | (refine jaa ?_ ?_; (focus (simp only [go_sem, h.r0, h.r2, h.r3, h.r4, h.r5, h.r6, h.r7, h.r8, h.r9, h.r10, h.r11, h.r12, h.r13, h.r14, h.r15, h.r16, h.r17, h20, h19, q1, q2]; done))) | ((first | refine jaj ?_ | refine jai ?_ | refine jak ?_); try simp only [go_sem]) | refine jah ?_)
 exact ⟨by trivial, by trivial, _, rfl, (by constructor <;> simp only [go_sem, h.r0, h.r2, h.r3, h.r4, h.r5, h.r6, h.r7, h.r8, h.r9, h.r10, h.r11, h.r12, h.r13, h.r14, h.r15, h.r16, h.r17])⟩
def seqA : Code → Code
 | .seq a _ => a
 | c => c
def elsC : Code → Code
 | .seq _ (.cond _ _ b) => b
 | _ => .skip
theorem sp0 : jaR Tryz.f140 = .seq (nthC 0 (jaR Tryz.f140)) (.seq (nthC 1 (jaR Tryz.f140)) (.seq (nthC 2 (jaR Tryz.f140)) (jcC 3 (jaR Tryz.f140)))) := by kernel_rfl
theorem sp3 : jcC 3 (jaR Tryz.f140) = .seq (nthC 3 (jaR Tryz.f140)) (.seq (nthC 4 (jaR Tryz.f140)) (.seq (nthC 5 (jaR Tryz.f140)) (.seq (nthC 6 (jaR Tryz.f140)) (jcC 7 (jaR Tryz.f140))))) := by kernel_rfl
theorem sp7 : jcC 7 (jaR Tryz.f140) = .seq (nthC 7 (jaR Tryz.f140)) (.seq (nthC 8 (jaR Tryz.f140)) (.seq (nthC 9 (jaR Tryz.f140)) (.seq (nthC 10 (jaR Tryz.f140)) (.seq (nthC 11 (jaR Tryz.f140)) (.seq (nthC 12 (jaR Tryz.f140)) (.seq (nthC 13 (jaR Tryz.f140)) (jcC 14 (jaR Tryz.f140)))))))) := by kernel_rfl
theorem sp14 : jcC 14 (jaR Tryz.f140) = .seq (nthC 14 (jaR Tryz.f140)) (.seq (nthC 15 (jaR Tryz.f140)) (.seq (nthC 16 (jaR Tryz.f140)) (jcC 17 (jaR Tryz.f140)))) := by kernel_rfl
theorem sp17 : jcC 17 (jaR Tryz.f140) = .seq (nthC 17 (jaR Tryz.f140)) (jcC 18 (jaR Tryz.f140)) := by kernel_rfl
theorem it17 : nthC 17 (jaR Tryz.f140) = .seq (seqA (nthC 17 (jaR Tryz.f140))) (.cond (.tmp 161) (.seq (nthC 0 (jfk (nthC 17 (jaR Tryz.f140)))) (.seq (nthC 1 (jfk (nthC 17 (jaR Tryz.f140)))) (.seq (nthC 2 (jfk (nthC 17 (jaR Tryz.f140)))) (.seq (nthC 3 (jfk (nthC 17 (jaR Tryz.f140)))) (jcC 4 (jfk (nthC 17 (jaR Tryz.f140)))))))) (elsC (nthC 17 (jaR Tryz.f140)))) := by kernel_rfl
attribute [local irreducible] jcC
theorem rf17 {s : ByteArray} (hs : ∀ c ∈ bys s, c ∈ nums) (hl : (bys s).length ≤ 1000) (i a nd nm : Nat) (dp : Int) (neg tr sd sg : Bool) (hi : i ≤ (bys s).length) (hd1 : -2000 < dp) (hd2 : dp < 2000) (hn : nm ≤ 19) : ∃ e i' ok, -200000 < e ∧ e < 200000 ∧ i' ≤ (bys s).length ∧ ∀ {X : XT} {k : Nat} {tm : T Value} {μ : Mem}, RegR tm s i a nd nm dp neg tr sd sg →
  EndsC (jat Tryz.prog X S0 (k + 1200) (jcC 17 (jaR Tryz.f140)) ⟨253, tm, [], none⟩ μ) (FinR a e neg tr i' ok μ) := by
 have ls := ja5 s
 by_cases hlt : i < (bys s).length
 rotate_left
 ·have e1 : ilt (.ofNat i) (.ofNat (bys s).length) = false := (jav _ _).trans (decide_eq_false hlt)
  obtain ⟨e, b1, b2, h18⟩ := rf18 s i a nd nm dp neg tr sd sg (by omega) (by omega) hn
  refine ⟨e, i, true, b1, b2, hi, fun {X k tm μ} h => ?_⟩
  rw [sp17, it17]
  refine jaf ?_
  refine jaf ?_
  refine jac (gs := ?_) ?_ ?_
  rotate_left
  ·rfl
  iterate 5 (refine jal (by first | rfl | (simp only [go_sem, undef, h.r0, h.r2, h.r3, h.r4, h.r5, h.r6, h.r7, h.r8, h.r9, h.r10, h.r11, h.r12, h.r13, h.r14, h.r15, h.r16, h.r17, jae, ls, jag, e1, jcq])) (by simp only [go_sem, undef, h.r0, h.r2, h.r3, h.r4, h.r5, h.r6, h.r7, h.r8, h.r9, h.r10, h.r11, h.r12, h.r13, h.r14, h.r15, h.r16, h.r17, jae, ls, jag, e1, jcq]; try exact rfl) rfl ?_)
  iterate 6 (refine jaA (by simp only [go_sem, undef, h.r0, h.r2, h.r3, h.r4, h.r5, h.r6, h.r7, h.r8, h.r9, h.r10, h.r11, h.r12, h.r13, h.r14, h.r15, h.r16, h.r17, jae, ls, jag, e1, jcq]) rfl ?_)
  refine jal (by first | rfl | (simp only [go_sem, undef, h.r0, h.r2, h.r3, h.r4, h.r5, h.r6, h.r7, h.r8, h.r9, h.r10, h.r11, h.r12, h.r13, h.r14, h.r15, h.r16, h.r17, jae, ls, jag, e1, jcq])) (by simp only [go_sem, undef, h.r0, h.r2, h.r3, h.r4, h.r5, h.r6, h.r7, h.r8, h.r9, h.r10, h.r11, h.r12, h.r13, h.r14, h.r15, h.r16, h.r17, jae, ls, jag, e1, jcq]; try exact rfl) rfl ?_
  simp only [go_sem]
  repeat (first | refine jaf ?_ | ((first | (refine jad ?_ ?_; (focus rfl)) | (refine jac (gs := ?_) ?_ ?_; rotate_left; (focus rfl))); simp only [run1, go_sem, h.r0, h.r2, h.r3, h.r4, h.r5, h.r6, h.r7, h.r8, h.r9, h.r10, h.r11, h.r12, h.r13, h.r14, h.r15, h.r16, h.r17, jae, ls, jag, e1, jcq]) | (refine jab ?_ ?_; (focus (simp only [go_sem, h.r0, h.r2, h.r3, h.r4, h.r5, h.r6, h.r7, h.r8, h.r9, h.r10, h.r11, h.r12, h.r13, h.r14, h.r15, h.r16, h.r17, jae, ls, jag, e1, jcq]; done))) | (refine jaa ?_ ?_; (focus (simp only [go_sem, h.r0, h.r2, h.r3, h.r4, h.r5, h.r6, h.r7, h.r8, h.r9, h.r10, h.r11, h.r12, h.r13, h.r14, h.r15, h.r16, h.r17, jae, ls, jag, e1, jcq]; done))) | ((first | refine jaj ?_ | refine jai ?_ | refine jak ?_); try simp only [go_sem]) | refine jah ?_)
  exact h18 (by constructor <;> simp only [go_sem, h.r0, h.r2, h.r3, h.r4, h.r5, h.r6, h.r7, h.r8, h.r9, h.r10, h.r11, h.r12, h.r13, h.r14, h.r15, h.r16, h.r17])
 have e1 : ilt (.ofNat i) (.ofNat (bys s).length) = true := (jav _ _).trans (decide_eq_true hlt)
 obtain ⟨c, hc⟩ : ∃ c, c = (bys s)[i]'hlt := ⟨_, rfl⟩
 have hcn : c ∈ nums := by rw [hc]; exact hs _ (List.getElem_mem hlt)
 have hx : ∀ (r : Rg) (x y : Operand), aev Tryz.prog r x = .string s → aev Tryz.prog r y = .int .i64 (.ofNat i) → jbi Tryz.prog (aev Tryz.prog r) 9 x y = some (.int .u8 (.ofNat c)) := fun r x y h1 h2 => by rw [hc]; exact jbA hlt h1 h2
 clear hc
 have lo : ∀ {X : XT} (g : Nat) (μ : Mem), 10 ≤ g → aFun Tryz.prog (jat Tryz.prog X S0 g) 179 [.int .u8 (.ofNat c)] μ = some (.int .u8 (.ofNat (lw c)), μ) := fun g μ h => lower_eq h hcn
 by_cases he : lw c = 101
 rotate_left
 ·have l1 : ieq (.ofNat (lw c)) 101 = false := (jaO _ 101 101 rfl).trans (decide_eq_false he)
  obtain ⟨e, b1, b2, h18⟩ := rf18 s i a nd nm dp neg tr sd sg (by omega) (by omega) hn
  refine ⟨e, i, true, b1, b2, hi, fun {X k tm μ} h => ?_⟩
  rw [sp17, it17]
  refine jaf ?_
  refine jaf ?_
  refine jac (gs := ?_) ?_ ?_
  rotate_left
  ·rfl
  iterate 12 (refine jal (by first | rfl | (simp only [go_sem, undef, h.r0, h.r2, h.r3, h.r4, h.r5, h.r6, h.r7, h.r8, h.r9, h.r10, h.r11, h.r12, h.r13, h.r14, h.r15, h.r16, h.r17, jae, ls, jag, e1, hx, jby, lo, Nat.reduceLeDiff, l1, jcq])) (by simp only [go_sem, undef, h.r0, h.r2, h.r3, h.r4, h.r5, h.r6, h.r7, h.r8, h.r9, h.r10, h.r11, h.r12, h.r13, h.r14, h.r15, h.r16, h.r17, jae, ls, jag, e1, hx, jby, lo, Nat.reduceLeDiff, l1, jcq]; try exact rfl) rfl ?_)
  simp only [go_sem]
  repeat (first | refine jaf ?_ | ((first | (refine jad ?_ ?_; (focus rfl)) | (refine jac (gs := ?_) ?_ ?_; rotate_left; (focus rfl))); simp only [run1, go_sem, h.r0, h.r2, h.r3, h.r4, h.r5, h.r6, h.r7, h.r8, h.r9, h.r10, h.r11, h.r12, h.r13, h.r14, h.r15, h.r16, h.r17, jae, ls, jag, e1, hx, jby, lo, Nat.reduceLeDiff, l1, jcq]) | (refine jab ?_ ?_; (focus (simp only [go_sem, h.r0, h.r2, h.r3, h.r4, h.r5, h.r6, h.r7, h.r8, h.r9, h.r10, h.r11, h.r12, h.r13, h.r14, h.r15, h.r16, h.r17, jae, ls, jag, e1, hx, jby, lo, Nat.reduceLeDiff, l1, jcq]; done))) | (refine jaa ?_ ?_; (focus (simp only [go_sem, h.r0, h.r2, h.r3, h.r4, h.r5, h.r6, h.r7, h.r8, h.r9, h.r10, h.r11, h.r12, h.r13, h.r14, h.r15, h.r16, h.r17, jae, ls, jag, e1, hx, jby, lo, Nat.reduceLeDiff, l1, jcq]; done))) | ((first | refine jaj ?_ | refine jai ?_ | refine jak ?_); try simp only [go_sem]) | refine jah ?_)
  exact h18 (by constructor <;> simp only [go_sem, h.r0, h.r2, h.r3, h.r4, h.r5, h.r6, h.r7, h.r8, h.r9, h.r10, h.r11, h.r12, h.r13, h.r14, h.r15, h.r16, h.r17])
 have l1 : ieq (.ofNat (lw c)) 101 = true := (jaO _ 101 101 rfl).trans (decide_eq_true he)
 have a1 : jay .i64 (Int.add (.ofNat i) 1) = .ofNat (i + 1) := ja2 i 1 (by omega)
 by_cases hlt2 : i + 1 < (bys s).length
 rotate_left
 ·have e2 : ilt (.ofNat (i + 1)) (.ofNat (bys s).length) = false := (jav _ _).trans (decide_eq_false hlt2)
  refine ⟨0, i + 1, false, by omega, by omega, by omega, fun {X k tm μ} h => ?_⟩
  rw [sp17, it17]
  refine jaf ?_
  refine jaf ?_
  refine jac (gs := ?_) ?_ ?_
  rotate_left
  ·rfl
  iterate 12 (refine jal (by first | rfl | (simp only [go_sem, undef, h.r0, h.r2, h.r3, h.r4, h.r5, h.r6, h.r7, h.r8, h.r9, h.r10, h.r11, h.r12, h.r13, h.r14, h.r15, h.r16, h.r17, jae, ls, jag, e1, hx, jby, lo, Nat.reduceLeDiff, l1, a1, e2])) (by simp only [go_sem, undef, h.r0, h.r2, h.r3, h.r4, h.r5, h.r6, h.r7, h.r8, h.r9, h.r10, h.r11, h.r12, h.r13, h.r14, h.r15, h.r16, h.r17, jae, ls, jag, e1, hx, jby, lo, Nat.reduceLeDiff, l1, a1, e2]; try exact rfl) rfl ?_)
  simp only [go_sem]
  repeat (first | refine jaf ?_ | ((first | (refine jad ?_ ?_; (focus rfl)) | (refine jac (gs := ?_) ?_ ?_; rotate_left; (focus rfl))); simp only [run1, go_sem, h.r0, h.r2, h.r3, h.r4, h.r5, h.r6, h.r7, h.r8, h.r9, h.r10, h.r11, h.r12, h.r13, h.r14, h.r15, h.r16, h.r17, jae, ls, jag, e1, hx, jby, lo, Nat.reduceLeDiff, l1, a1, e2]) | (refine jab ?_ ?_; (focus (simp only [go_sem, h.r0, h.r2, h.r3, h.r4, h.r5, h.r6, h.r7, h.r8, h.r9, h.r10, h.r11, h.r12, h.r13, h.r14, h.r15, h.r16, h.r17, jae, ls, jag, e1, hx, jby, lo, Nat.reduceLeDiff, l1, a1, e2]; done))) | (refine jaa ?_ ?_; (focus (simp only [go_sem, h.r0, h.r2, h.r3, h.r4, h.r5, h.r6, h.r7, h.r8, h.r9, h.r10, h.r11, h.r12, h.r13, h.r14, h.r15, h.r16, h.r17, jae, ls, jag, e1, hx, jby, lo, Nat.reduceLeDiff, l1, a1, e2]; done))) | ((first | refine jaj ?_ | refine jai ?_ | refine jak ?_); try simp only [go_sem]) | refine jah ?_)
  refine jam ?_
  exact ⟨by trivial, by trivial, _, rfl, (RegR.fin (s := s) (nd := nd) (nm := nm) (dp := dp) (sd := sd) (sg := sg) (by constructor <;> simp only [go_sem, h.r0, h.r2, h.r3, h.r4, h.r5, h.r6, h.r7, h.r8, h.r9, h.r10, h.r11, h.r12, h.r13, h.r14, h.r15, h.r16, h.r17]))⟩
 have e2 : ilt (.ofNat (i + 1)) (.ofNat (bys s).length) = true := (jav _ _).trans (decide_eq_true hlt2)
 obtain ⟨c1, hc1⟩ : ∃ c, c = (bys s)[i + 1]'hlt2 := ⟨_, rfl⟩
 have hx1 : ∀ (r : Rg) (x y : Operand), aev Tryz.prog r x = .string s → aev Tryz.prog r y = .int .i64 (.ofNat (i + 1)) → jbi Tryz.prog (aev Tryz.prog r) 9 x y = some (.int .u8 (.ofNat c1)) := fun r x y h1 h2 => by rw [hc1]; exact jbA hlt2 h1 h2
 clear hc1
 have a2 : jay .i64 (Int.add (.ofNat (i + 1)) 1) = .ofNat (i + 2) := ja2 (i + 1) 1 (by omega)
 have go : ∀ (i2 : Nat) (es : Int), i2 ≤ (bys s).length → (es = 1 ∨ es = -1) → ∃ e i' ok, -200000 < e ∧ e < 200000 ∧ i' ≤ (bys s).length ∧ ∀ {X : XT} {k q : Nat} {tm : T Value} {μ : Mem}, RegR tm s i2 a nd nm dp neg tr sd sg → jaq tm 19 = .int .i64 es →
   EndsC (jat Tryz.prog X S0 (k + 1100) (jcC 4 (jfk (nthC 17 (jaR Tryz.f140)))) ⟨253, tm, [], none⟩ μ) (jha (q + 30) Tryz.prog X S0 (jcC 18 (jaR Tryz.f140)) (FinR a e neg tr i' ok μ)) := fun i2 es hi2 hes => by
  obtain ⟨done, i', dp', c1, c2, c3, hE⟩ := rfE hs hl i2 a nd nm dp neg tr sd sg es hes hi2 hd1 hd2
  obtain ⟨e, d1, d2, h18⟩ := rf18 s i' a nd nm dp' neg tr sd sg c2 c3 hn
  cases done with
  | true =>
    refine ⟨e, i', true, d1, d2, c1, fun {X k q tm μ} h h19 => ?_⟩
    refine EndsC.mono (hE h h19) ?_
    rintro x r μ' ⟨rfl, rfl, tm', rfl, h⟩
    exact h18 h
  | false =>
    refine ⟨0, i', false, by omega, by omega, c1, fun {X k q tm μ} h h19 => ?_⟩
    refine EndsC.mono (hE h h19) ?_
    rintro x r μ' ⟨rfl, rfl, tm', rfl, h⟩
    exact ⟨by trivial, by trivial, _, rfl, h.fin⟩
 by_cases p1 : c1 = 43
 ·have s1 : ieq (.ofNat c1) 43 = true := (jaO _ 43 43 rfl).trans (decide_eq_true p1)
  obtain ⟨e, i', ok, b1, b2, b3, hgo⟩ := go (i + 2) 1 (by omega) (.inl rfl)
  refine ⟨e, i', ok, b1, b2, b3, fun {X k tm μ} h => ?_⟩
  rw [sp17, it17]
  refine jaf ?_
  refine jaf ?_
  refine jac (gs := ?_) ?_ ?_
  rotate_left
  ·rfl
  iterate 12 (refine jal (by first | rfl | (simp only [go_sem, undef, h.r0, h.r2, h.r3, h.r4, h.r5, h.r6, h.r7, h.r8, h.r9, h.r10, h.r11, h.r12, h.r13, h.r14, h.r15, h.r16, h.r17, jae, ls, jag, e1, hx, jby, lo, Nat.reduceLeDiff, l1, a1, e2, hx1, s1, a2])) (by simp only [go_sem, undef, h.r0, h.r2, h.r3, h.r4, h.r5, h.r6, h.r7, h.r8, h.r9, h.r10, h.r11, h.r12, h.r13, h.r14, h.r15, h.r16, h.r17, jae, ls, jag, e1, hx, jby, lo, Nat.reduceLeDiff, l1, a1, e2, hx1, s1, a2]; try exact rfl) rfl ?_)
  simp only [go_sem]
  repeat (first | refine jaf ?_ | ((first | (refine jad ?_ ?_; (focus rfl)) | (refine jac (gs := ?_) ?_ ?_; rotate_left; (focus rfl))); simp only [run1, go_sem, h.r0, h.r2, h.r3, h.r4, h.r5, h.r6, h.r7, h.r8, h.r9, h.r10, h.r11, h.r12, h.r13, h.r14, h.r15, h.r16, h.r17, jae, ls, jag, e1, hx, jby, lo, Nat.reduceLeDiff, l1, a1, e2, hx1, s1, a2]) | (refine jab ?_ ?_; (focus (simp only [go_sem, h.r0, h.r2, h.r3, h.r4, h.r5, h.r6, h.r7, h.r8, h.r9, h.r10, h.r11, h.r12, h.r13, h.r14, h.r15, h.r16, h.r17, jae, ls, jag, e1, hx, jby, lo, Nat.reduceLeDiff, l1, a1, e2, hx1, s1, a2]; done))) | (refine jaa ?_ ?_; (focus (simp only [go_sem, h.r0, h.r2, h.r3, h.r4, h.r5, h.r6, h.r7, h.r8, h.r9, h.r10, h.r11, h.r12, h.r13, h.r14, h.r15, h.r16, h.r17, jae, ls, jag, e1, hx, jby, lo, Nat.reduceLeDiff, l1, a1, e2, hx1, s1, a2]; done))) | ((first | refine jaj ?_ | refine jai ?_ | refine jak ?_); try simp only [go_sem]) | refine jah ?_)
  try simp only [ja4, jao]
  exact hgo (k := k + 93) (q := k + 1169) (by constructor <;> simp only [go_sem, h.r0, h.r2, h.r3, h.r4, h.r5, h.r6, h.r7, h.r8, h.r9, h.r10, h.r11, h.r12, h.r13, h.r14, h.r15, h.r16, h.r17]) (by simp only [go_sem])
 ·have s1 : ieq (.ofNat c1) 43 = false := (jaO _ 43 43 rfl).trans (decide_eq_false p1)
  by_cases p2 : c1 = 45
  ·have s2 : ieq (.ofNat c1) 45 = true := (jaO _ 45 45 rfl).trans (decide_eq_true p2)
   obtain ⟨e, i', ok, b1, b2, b3, hgo⟩ := go (i + 2) (-1) (by omega) (.inr rfl)
   refine ⟨e, i', ok, b1, b2, b3, fun {X k tm μ} h => ?_⟩
   rw [sp17, it17]
   refine jaf ?_
   refine jaf ?_
   refine jac (gs := ?_) ?_ ?_
   rotate_left
   ·rfl
   iterate 12 (refine jal (by first | rfl | (simp only [go_sem, undef, h.r0, h.r2, h.r3, h.r4, h.r5, h.r6, h.r7, h.r8, h.r9, h.r10, h.r11, h.r12, h.r13, h.r14, h.r15, h.r16, h.r17, jae, ls, jag, e1, hx, jby, lo, Nat.reduceLeDiff, l1, a1, e2, hx1, s1, s2, a2])) (by simp only [go_sem, undef, h.r0, h.r2, h.r3, h.r4, h.r5, h.r6, h.r7, h.r8, h.r9, h.r10, h.r11, h.r12, h.r13, h.r14, h.r15, h.r16, h.r17, jae, ls, jag, e1, hx, jby, lo, Nat.reduceLeDiff, l1, a1, e2, hx1, s1, s2, a2]; try exact rfl) rfl ?_)
   simp only [go_sem]
   repeat (first | refine jaf ?_ | ((first | (refine jad ?_ ?_; (focus rfl)) | (refine jac (gs := ?_) ?_ ?_; rotate_left; (focus rfl))); simp only [run1, go_sem, h.r0, h.r2, h.r3, h.r4, h.r5, h.r6, h.r7, h.r8, h.r9, h.r10, h.r11, h.r12, h.r13, h.r14, h.r15, h.r16, h.r17, jae, ls, jag, e1, hx, jby, lo, Nat.reduceLeDiff, l1, a1, e2, hx1, s1, s2, a2]) | (refine jab ?_ ?_; (focus (simp only [go_sem, h.r0, h.r2, h.r3, h.r4, h.r5, h.r6, h.r7, h.r8, h.r9, h.r10, h.r11, h.r12, h.r13, h.r14, h.r15, h.r16, h.r17, jae, ls, jag, e1, hx, jby, lo, Nat.reduceLeDiff, l1, a1, e2, hx1, s1, s2, a2]; done))) | (refine jaa ?_ ?_; (focus (simp only [go_sem, h.r0, h.r2, h.r3, h.r4, h.r5, h.r6, h.r7, h.r8, h.r9, h.r10, h.r11, h.r12, h.r13, h.r14, h.r15, h.r16, h.r17, jae, ls, jag, e1, hx, jby, lo, Nat.reduceLeDiff, l1, a1, e2, hx1, s1, s2, a2]; done))) | ((first | refine jaj ?_ | refine jai ?_ | refine jak ?_); try simp only [go_sem]) | refine jah ?_)
   try simp only [ja4, jao]
   exact hgo (k := k + 93) (q := k + 1169) (by constructor <;> simp only [go_sem, h.r0, h.r2, h.r3, h.r4, h.r5, h.r6, h.r7, h.r8, h.r9, h.r10, h.r11, h.r12, h.r13, h.r14, h.r15, h.r16, h.r17]) (by simp only [go_sem])
  ·have s2 : ieq (.ofNat c1) 45 = false := (jaO _ 45 45 rfl).trans (decide_eq_false p2)
   obtain ⟨e, i', ok, b1, b2, b3, hgo⟩ := go (i + 1) 1 (by omega) (.inl rfl)
   refine ⟨e, i', ok, b1, b2, b3, fun {X k tm μ} h => ?_⟩
   rw [sp17, it17]
   refine jaf ?_
   refine jaf ?_
   refine jac (gs := ?_) ?_ ?_
   rotate_left
   ·rfl
   iterate 12 (refine jal (by first | rfl | (simp only [go_sem, undef, h.r0, h.r2, h.r3, h.r4, h.r5, h.r6, h.r7, h.r8, h.r9, h.r10, h.r11, h.r12, h.r13, h.r14, h.r15, h.r16, h.r17, jae, ls, jag, e1, hx, jby, lo, Nat.reduceLeDiff, l1, a1, e2, hx1, s1, s2])) (by simp only [go_sem, undef, h.r0, h.r2, h.r3, h.r4, h.r5, h.r6, h.r7, h.r8, h.r9, h.r10, h.r11, h.r12, h.r13, h.r14, h.r15, h.r16, h.r17, jae, ls, jag, e1, hx, jby, lo, Nat.reduceLeDiff, l1, a1, e2, hx1, s1, s2]; try exact rfl) rfl ?_)
   simp only [go_sem]
   repeat (first | refine jaf ?_ | ((first | (refine jad ?_ ?_; (focus rfl)) | (refine jac (gs := ?_) ?_ ?_; rotate_left; (focus rfl))); simp only [run1, go_sem, h.r0, h.r2, h.r3, h.r4, h.r5, h.r6, h.r7, h.r8, h.r9, h.r10, h.r11, h.r12, h.r13, h.r14, h.r15, h.r16, h.r17, jae, ls, jag, e1, hx, jby, lo, Nat.reduceLeDiff, l1, a1, e2, hx1, s1, s2]) | (refine jab ?_ ?_; (focus (simp only [go_sem, h.r0, h.r2, h.r3, h.r4, h.r5, h.r6, h.r7, h.r8, h.r9, h.r10, h.r11, h.r12, h.r13, h.r14, h.r15, h.r16, h.r17, jae, ls, jag, e1, hx, jby, lo, Nat.reduceLeDiff, l1, a1, e2, hx1, s1, s2]; done))) | (refine jaa ?_ ?_; (focus (simp only [go_sem, h.r0, h.r2, h.r3, h.r4, h.r5, h.r6, h.r7, h.r8, h.r9, h.r10, h.r11, h.r12, h.r13, h.r14, h.r15, h.r16, h.r17, jae, ls, jag, e1, hx, jby, lo, Nat.reduceLeDiff, l1, a1, e2, hx1, s1, s2]; done))) | ((first | refine jaj ?_ | refine jai ?_ | refine jak ?_); try simp only [go_sem]) | refine jah ?_)
   try simp only [ja4, jao]
   exact hgo (k := k + 93) (q := k + 1169) (by constructor <;> simp only [go_sem, h.r0, h.r2, h.r3, h.r4, h.r5, h.r6, h.r7, h.r8, h.r9, h.r10, h.r11, h.r12, h.r13, h.r14, h.r15, h.r16, h.r17]) (by simp only [go_sem])
end
noncomputable section
attribute [local irreducible] jcC
theorem rf14 {s : ByteArray} (hs : ∀ c ∈ bys s, c ∈ nums) (hl : (bys s).length ≤ 1000) (i a nd nm : Nat) (dp : Int) (neg tr sd sg : Bool) (hi : i ≤ (bys s).length) (hnd : nd ≤ i) (hd1 : -2000 < dp) (hd2 : dp < 2000) (hn : nm ≤ 19) : ∃ e i' ok, -200000 < e ∧ e < 200000 ∧ i' ≤ (bys s).length ∧ ∀ {X : XT} {k : Nat} {tm : T Value} {μ : Mem}, RegR tm s i a nd nm dp neg tr sd sg →
  EndsC (jat Tryz.prog X S0 (k + 1300) (jcC 14 (jaR Tryz.f140)) ⟨253, tm, [], none⟩ μ) (FinR a e neg tr i' ok μ) := by
 cases sg with
 | false =>
   refine ⟨0, i, false, by omega, by omega, hi, fun {X k tm μ} h => ?_⟩
   rw [sp14]
   repeat (first | refine jaf ?_ | ((first | (refine jad ?_ ?_; (focus rfl)) | (refine jac (gs := ?_) ?_ ?_; rotate_left; (focus rfl))); simp only [run1, go_sem, h.r0, h.r2, h.r3, h.r4, h.r5, h.r6, h.r7, h.r8, h.r9, h.r10, h.r11, h.r12, h.r13, h.r14, h.r15, h.r16, h.r17]) | (refine jab ?_ ?_; (focus (simp only [go_sem, h.r0, h.r2, h.r3, h.r4, h.r5, h.r6, h.r7, h.r8, h.r9, h.r10, h.r11, h.r12, h.r13, h.r14, h.r15, h.r16, h.r17]; done))) | (refine jaa ?_ ?_; (focus (simp only [go_sem, h.r0, h.r2, h.r3, h.r4, h.r5, h.r6, h.r7, h.r8, h.r9, h.r10, h.r11, h.r12, h.r13, h.r14, h.r15, h.r16, h.r17]; done))) | ((first | refine jaj ?_ | refine jai ?_ | refine jak ?_); try simp only [go_sem]) | refine jah ?_)
   refine jam ?_
   exact ⟨by trivial, by trivial, _, rfl, (RegR.fin (s := s) (nd := nd) (nm := nm) (dp := dp) (sd := sd) (sg := false) (by constructor <;> simp only [go_sem, h.r0, h.r2, h.r3, h.r4, h.r5, h.r6, h.r7, h.r8, h.r9, h.r10, h.r11, h.r12, h.r13, h.r14, h.r15, h.r16, h.r17]))⟩
 | true =>
   cases sd with
   | true =>
     obtain ⟨e, i', ok, b1, b2, b3, h17⟩ := rf17 hs hl i a nd nm dp neg tr true true hi hd1 hd2 hn
     refine ⟨e, i', ok, b1, b2, b3, fun {X k tm μ} h => ?_⟩
     have st : EndsC (jat Tryz.prog X S0 (k + 1299) (nthC 14 (jaR Tryz.f140)) ⟨253, tm, [], none⟩ μ) fun x r μ' => x = .normal ∧ μ' = μ ∧ ∃ tm', r = ⟨253, tm', [], none⟩ ∧ RegR tm' s i a nd nm dp neg tr true true := by
      repeat (first | refine jaf ?_ | ((first | (refine jad ?_ ?_; (focus rfl)) | (refine jac (gs := ?_) ?_ ?_; rotate_left; (focus rfl))); simp only [run1, go_sem, h.r0, h.r2, h.r3, h.r4, h.r5, h.r6, h.r7, h.r8, h.r9, h.r10, h.r11, h.r12, h.r13, h.r14, h.r15, h.r16, h.r17]) | (refine jab ?_ ?_; (focus (simp only [go_sem, h.r0, h.r2, h.r3, h.r4, h.r5, h.r6, h.r7, h.r8, h.r9, h.r10, h.r11, h.r12, h.r13, h.r14, h.r15, h.r16, h.r17]; done))) | (refine jaa ?_ ?_; (focus (simp only [go_sem, h.r0, h.r2, h.r3, h.r4, h.r5, h.r6, h.r7, h.r8, h.r9, h.r10, h.r11, h.r12, h.r13, h.r14, h.r15, h.r16, h.r17]; done))) | ((first | refine jaj ?_ | refine jai ?_ | refine jak ?_); try simp only [go_sem]) | refine jah ?_)
      exact ⟨by trivial, by trivial, _, rfl, (by constructor <;> simp only [go_sem, h.r0, h.r2, h.r3, h.r4, h.r5, h.r6, h.r7, h.r8, h.r9, h.r10, h.r11, h.r12, h.r13, h.r14, h.r15, h.r16, h.r17])⟩
     rw [sp14]
     refine jaf (EndsC.mono st ?_)
     rintro x r μ' ⟨rfl, rfl, tm, rfl, h⟩
     simp only [jao]
     have st : EndsC (jat Tryz.prog X S0 (k + 1298) (nthC 15 (jaR Tryz.f140)) ⟨253, tm, [], none⟩ μ') fun x r μ => x = .normal ∧ μ = μ' ∧ ∃ tm', r = ⟨253, tm', [], none⟩ ∧ RegR tm' s i a nd nm dp neg tr true true := by
      repeat (first | refine jaf ?_ | ((first | (refine jad ?_ ?_; (focus rfl)) | (refine jac (gs := ?_) ?_ ?_; rotate_left; (focus rfl))); simp only [run1, go_sem, h.r0, h.r2, h.r3, h.r4, h.r5, h.r6, h.r7, h.r8, h.r9, h.r10, h.r11, h.r12, h.r13, h.r14, h.r15, h.r16, h.r17]) | (refine jab ?_ ?_; (focus (simp only [go_sem, h.r0, h.r2, h.r3, h.r4, h.r5, h.r6, h.r7, h.r8, h.r9, h.r10, h.r11, h.r12, h.r13, h.r14, h.r15, h.r16, h.r17]; done))) | (refine jaa ?_ ?_; (focus (simp only [go_sem, h.r0, h.r2, h.r3, h.r4, h.r5, h.r6, h.r7, h.r8, h.r9, h.r10, h.r11, h.r12, h.r13, h.r14, h.r15, h.r16, h.r17]; done))) | ((first | refine jaj ?_ | refine jai ?_ | refine jak ?_); try simp only [go_sem]) | refine jah ?_)
      exact ⟨by trivial, by trivial, _, rfl, (by constructor <;> simp only [go_sem, h.r0, h.r2, h.r3, h.r4, h.r5, h.r6, h.r7, h.r8, h.r9, h.r10, h.r11, h.r12, h.r13, h.r14, h.r15, h.r16, h.r17])⟩
     refine jaf (EndsC.mono st ?_)
     rintro x r μ' ⟨rfl, rfl, tm, rfl, h⟩
     simp only [jao]
     have st : EndsC (jat Tryz.prog X S0 (k + 1297) (nthC 16 (jaR Tryz.f140)) ⟨253, tm, [], none⟩ μ') fun x r μ => x = .normal ∧ μ = μ' ∧ ∃ tm', r = ⟨253, tm', [], none⟩ ∧ RegR tm' s i a nd nm dp neg tr true true := by
      repeat (first | refine jaf ?_ | ((first | (refine jad ?_ ?_; (focus rfl)) | (refine jac (gs := ?_) ?_ ?_; rotate_left; (focus rfl))); simp only [run1, go_sem, h.r0, h.r2, h.r3, h.r4, h.r5, h.r6, h.r7, h.r8, h.r9, h.r10, h.r11, h.r12, h.r13, h.r14, h.r15, h.r16, h.r17, jcq]) | (refine jab ?_ ?_; (focus (simp only [go_sem, h.r0, h.r2, h.r3, h.r4, h.r5, h.r6, h.r7, h.r8, h.r9, h.r10, h.r11, h.r12, h.r13, h.r14, h.r15, h.r16, h.r17, jcq]; done))) | (refine jaa ?_ ?_; (focus (simp only [go_sem, h.r0, h.r2, h.r3, h.r4, h.r5, h.r6, h.r7, h.r8, h.r9, h.r10, h.r11, h.r12, h.r13, h.r14, h.r15, h.r16, h.r17, jcq]; done))) | ((first | refine jaj ?_ | refine jai ?_ | refine jak ?_); try simp only [go_sem]) | refine jah ?_)
      exact ⟨by trivial, by trivial, _, rfl, (by constructor <;> simp only [go_sem, h.r0, h.r2, h.r3, h.r4, h.r5, h.r6, h.r7, h.r8, h.r9, h.r10, h.r11, h.r12, h.r13, h.r14, h.r15, h.r16, h.r17])⟩
     refine jaf (EndsC.mono st ?_)
     rintro x r μ' ⟨rfl, rfl, tm, rfl, h⟩
     simp only [jao]
     exact h17 (k := k + 97) h
   | false =>
     obtain ⟨e, i', ok, b1, b2, b3, h17⟩ := rf17 hs hl i a nd nm (.ofNat nd) neg tr false true hi (by show _ < (nd : Int); omega) (by show (nd : Int) < _; omega) hn
     refine ⟨e, i', ok, b1, b2, b3, fun {X k tm μ} h => ?_⟩
     have st : EndsC (jat Tryz.prog X S0 (k + 1299) (nthC 14 (jaR Tryz.f140)) ⟨253, tm, [], none⟩ μ) fun x r μ' => x = .normal ∧ μ' = μ ∧ ∃ tm', r = ⟨253, tm', [], none⟩ ∧ RegR tm' s i a nd nm dp neg tr false true := by
      repeat (first | refine jaf ?_ | ((first | (refine jad ?_ ?_; (focus rfl)) | (refine jac (gs := ?_) ?_ ?_; rotate_left; (focus rfl))); simp only [run1, go_sem, h.r0, h.r2, h.r3, h.r4, h.r5, h.r6, h.r7, h.r8, h.r9, h.r10, h.r11, h.r12, h.r13, h.r14, h.r15, h.r16, h.r17]) | (refine jab ?_ ?_; (focus (simp only [go_sem, h.r0, h.r2, h.r3, h.r4, h.r5, h.r6, h.r7, h.r8, h.r9, h.r10, h.r11, h.r12, h.r13, h.r14, h.r15, h.r16, h.r17]; done))) | (refine jaa ?_ ?_; (focus (simp only [go_sem, h.r0, h.r2, h.r3, h.r4, h.r5, h.r6, h.r7, h.r8, h.r9, h.r10, h.r11, h.r12, h.r13, h.r14, h.r15, h.r16, h.r17]; done))) | ((first | refine jaj ?_ | refine jai ?_ | refine jak ?_); try simp only [go_sem]) | refine jah ?_)
      exact ⟨by trivial, by trivial, _, rfl, (by constructor <;> simp only [go_sem, h.r0, h.r2, h.r3, h.r4, h.r5, h.r6, h.r7, h.r8, h.r9, h.r10, h.r11, h.r12, h.r13, h.r14, h.r15, h.r16, h.r17])⟩
     rw [sp14]
     refine jaf (EndsC.mono st ?_)
     rintro x r μ' ⟨rfl, rfl, tm, rfl, h⟩
     simp only [jao]
     have st : EndsC (jat Tryz.prog X S0 (k + 1298) (nthC 15 (jaR Tryz.f140)) ⟨253, tm, [], none⟩ μ') fun x r μ => x = .normal ∧ μ = μ' ∧ ∃ tm', r = ⟨253, tm', [], none⟩ ∧ RegR tm' s i a nd nm (.ofNat nd) neg tr false true := by
      repeat (first | refine jaf ?_ | ((first | (refine jad ?_ ?_; (focus rfl)) | (refine jac (gs := ?_) ?_ ?_; rotate_left; (focus rfl))); simp only [run1, go_sem, h.r0, h.r2, h.r3, h.r4, h.r5, h.r6, h.r7, h.r8, h.r9, h.r10, h.r11, h.r12, h.r13, h.r14, h.r15, h.r16, h.r17]) | (refine jab ?_ ?_; (focus (simp only [go_sem, h.r0, h.r2, h.r3, h.r4, h.r5, h.r6, h.r7, h.r8, h.r9, h.r10, h.r11, h.r12, h.r13, h.r14, h.r15, h.r16, h.r17]; done))) | (refine jaa ?_ ?_; (focus (simp only [go_sem, h.r0, h.r2, h.r3, h.r4, h.r5, h.r6, h.r7, h.r8, h.r9, h.r10, h.r11, h.r12, h.r13, h.r14, h.r15, h.r16, h.r17]; done))) | ((first | refine jaj ?_ | refine jai ?_ | refine jak ?_); try simp only [go_sem]) | refine jah ?_)
      exact ⟨by trivial, by trivial, _, rfl, (by constructor <;> simp only [go_sem, h.r0, h.r2, h.r3, h.r4, h.r5, h.r6, h.r7, h.r8, h.r9, h.r10, h.r11, h.r12, h.r13, h.r14, h.r15, h.r16, h.r17])⟩
     refine jaf (EndsC.mono st ?_)
     rintro x r μ' ⟨rfl, rfl, tm, rfl, h⟩
     simp only [jao]
     have st : EndsC (jat Tryz.prog X S0 (k + 1297) (nthC 16 (jaR Tryz.f140)) ⟨253, tm, [], none⟩ μ') fun x r μ => x = .normal ∧ μ = μ' ∧ ∃ tm', r = ⟨253, tm', [], none⟩ ∧ RegR tm' s i a nd nm (.ofNat nd) neg tr false true := by
      repeat (first | refine jaf ?_ | ((first | (refine jad ?_ ?_; (focus rfl)) | (refine jac (gs := ?_) ?_ ?_; rotate_left; (focus rfl))); simp only [run1, go_sem, h.r0, h.r2, h.r3, h.r4, h.r5, h.r6, h.r7, h.r8, h.r9, h.r10, h.r11, h.r12, h.r13, h.r14, h.r15, h.r16, h.r17, jcq]) | (refine jab ?_ ?_; (focus (simp only [go_sem, h.r0, h.r2, h.r3, h.r4, h.r5, h.r6, h.r7, h.r8, h.r9, h.r10, h.r11, h.r12, h.r13, h.r14, h.r15, h.r16, h.r17, jcq]; done))) | (refine jaa ?_ ?_; (focus (simp only [go_sem, h.r0, h.r2, h.r3, h.r4, h.r5, h.r6, h.r7, h.r8, h.r9, h.r10, h.r11, h.r12, h.r13, h.r14, h.r15, h.r16, h.r17, jcq]; done))) | ((first | refine jaj ?_ | refine jai ?_ | refine jak ?_); try simp only [go_sem]) | refine jah ?_)
      exact ⟨by trivial, by trivial, _, rfl, (by constructor <;> simp only [go_sem, h.r0, h.r2, h.r3, h.r4, h.r5, h.r6, h.r7, h.r8, h.r9, h.r10, h.r11, h.r12, h.r13, h.r14, h.r15, h.r16, h.r17])⟩
     refine jaf (EndsC.mono st ?_)
     rintro x r μ' ⟨rfl, rfl, tm, rfl, h⟩
     simp only [jao]
     exact h17 (k := k + 97) h
structure PreR (tm : T Value) (s : ByteArray) (i : Nat) (neg : Bool) : Prop where
 r0 : jaq tm 0 = .string s
 r2 : jaq tm 2 = .int .u64 0
 r3 : jaq tm 3 = .int .i64 0
 r4 : jaq tm 4 = .bool neg
 r5 : jaq tm 5 = .bool false
 r6 : jaq tm 6 = .bool false
 r7 : jaq tm 7 = .int .i64 (.ofNat i)
 r8 : jaq tm 8 = .bool false
 r9 : jaq tm 9 = .bool false
theorem u_zero : Value.int .u64 0 = u 0 := u_of (n := 0) (by decide)
theorem rf7 {s : ByteArray} (hs : ∀ c ∈ bys s, c ∈ nums) (hl : (bys s).length ≤ 1000) (i : Nat) (neg : Bool) (hi : i ≤ (bys s).length) : ∃ a e tr i' ok, -200000 < e ∧ e < 200000 ∧ i' ≤ (bys s).length ∧ ∀ {X : XT} {k : Nat} {tm : T Value} {μ : Mem}, PreR tm s i neg → jaq tm 10 = .int .u64 10 → jaq tm 11 = .int .i64 19 → jaq tm 12 = .int .u8 101 →
  EndsC (jat Tryz.prog X S0 (k + 1400) (jcC 7 (jaR Tryz.f140)) ⟨253, tm, [], none⟩ μ) (FinR a e neg tr i' ok μ) := by
 obtain ⟨i1, a1, nd1, nm1, dp1, tr1, sd1, sg1, b1, b2, b3, b4, b5, b6, hlp⟩ := rf_loop hs hl neg ((bys s).length - i) i 0 0 0 0 false false false (by omega) (by omega) (by omega) (by omega) (by omega)
 obtain ⟨e, i', ok, c1, c2, c3, h14⟩ := rf14 hs hl i1 a1 nd1 nm1 dp1 neg tr1 sd1 sg1 b2 b3 (by omega) (by omega) b4
 refine ⟨a1, e, tr1, i', ok, c1, c2, c3, fun {X k tm μ} h h10 h11 h12 => ?_⟩
 rw [sp7]
 repeat (first | refine jaf ?_ | ((first | (refine jad ?_ ?_; (focus rfl)) | (refine jac (gs := ?_) ?_ ?_; rotate_left; (focus rfl))); simp only [run1, go_sem, h.r0, h.r2, h.r3, h.r4, h.r5, h.r6, h.r7, h.r8, h.r9, h10, h11, h12]) | (refine jab ?_ ?_; (focus (simp only [go_sem, h.r0, h.r2, h.r3, h.r4, h.r5, h.r6, h.r7, h.r8, h.r9, h10, h11, h12]; done))) | (refine jaa ?_ ?_; (focus (simp only [go_sem, h.r0, h.r2, h.r3, h.r4, h.r5, h.r6, h.r7, h.r8, h.r9, h10, h11, h12]; done))) | ((first | refine jaj ?_ | refine jai ?_ | refine jak ?_); try simp only [go_sem]) | refine jah ?_)
 rw [show k + 1392 = (k + 1352 - ((bys s).length - i)) + ((bys s).length - i) + 40 from by omega]
 refine EndsC.mono (hlp ?_) ?_
 ·constructor
  ·simp only [go_sem, h.r0]
  ·simp only [go_sem, h.r2]; exact u_zero
  all_goals (simp only [go_sem, h.r0, h.r2, h.r3, h.r4, h.r5, h.r6, h.r7, h.r8, h.r9, h10, h11, h12]; try rfl)
 ·rintro x r μ' ⟨rfl, rfl, tm', rfl, h⟩
  simp only [ja4, reduceIte, jao]
  exact h14 (k := k + 93) h
theorem rf3 {s : ByteArray} (hs : ∀ c ∈ bys s, c ∈ nums) (hl : (bys s).length ≤ 1000) (i : Nat) (neg : Bool) (hi : i ≤ (bys s).length) : ∃ a e tr i' ok, -200000 < e ∧ e < 200000 ∧ i' ≤ (bys s).length ∧ ∀ {X : XT} {k : Nat} {tm : T Value} {μ : Mem}, PreR tm s i neg →
  EndsC (jat Tryz.prog X S0 (k + 1500) (jcC 3 (jaR Tryz.f140)) ⟨253, tm, [], none⟩ μ) (FinR a e neg tr i' ok μ) := by
 have ls := ja5 s
 obtain ⟨a, e, tr, i', ok, c1, c2, c3, h7⟩ := rf7 hs hl i neg hi
 refine ⟨a, e, tr, i', ok, c1, c2, c3, fun {X k tm μ} h => ?_⟩
 have q1 : jay .i64 (Int.add (.ofNat i) 2) = .ofNat (i + 2) := ja2 i 2 (by omega)
 have q2 : jay .i64 (Int.add (.ofNat i) 1) = .ofNat (i + 1) := ja2 i 1 (by omega)
 by_cases hlt : i + 2 < (bys s).length
 rotate_left
 ·have e1 : ilt (.ofNat (i + 2)) (.ofNat (bys s).length) = false := (jav _ _).trans (decide_eq_false hlt)
  have st : EndsC (jat Tryz.prog X S0 (k + 1496) (nthC 6 (jaR Tryz.f140)) ⟨253, ((tm.set 10 (.int .u64 10)).set 11 (.int .i64 19)).set 12 (.int .u8 101), [], none⟩ μ) fun x r μ' => x = .normal ∧ μ' = μ ∧ ∃ tm', r = ⟨253, tm', [], none⟩ ∧ PreR tm' s i neg ∧ jaq tm' 10 = .int .u64 10 ∧ jaq tm' 11 = .int .i64 19 ∧ jaq tm' 12 = .int .u8 101 := by
   refine jaf ?_
   refine jac (gs := ?_) ?_ ?_
   rotate_left
   ·rfl
   iterate 6 (refine jal (by first | rfl | (simp only [go_sem, undef, h.r0, h.r2, h.r3, h.r4, h.r5, h.r6, h.r7, h.r8, h.r9, jae, ls, jag, q1, e1])) (by simp only [go_sem, undef, h.r0, h.r2, h.r3, h.r4, h.r5, h.r6, h.r7, h.r8, h.r9, jae, ls, jag, q1, e1]; try exact rfl) rfl ?_)
   iterate 4 (refine jaA (by simp only [go_sem, undef, h.r0, h.r2, h.r3, h.r4, h.r5, h.r6, h.r7, h.r8, h.r9, jae, ls, jag, q1, e1]) rfl ?_)
   iterate 2 (refine jal (by first | rfl | (simp only [go_sem, undef, h.r0, h.r2, h.r3, h.r4, h.r5, h.r6, h.r7, h.r8, h.r9, jae, ls, jag, q1, e1])) (by simp only [go_sem, undef, h.r0, h.r2, h.r3, h.r4, h.r5, h.r6, h.r7, h.r8, h.r9, jae, ls, jag, q1, e1]; try exact rfl) rfl ?_)
   iterate 6 (refine jaA (by simp only [go_sem, undef, h.r0, h.r2, h.r3, h.r4, h.r5, h.r6, h.r7, h.r8, h.r9, jae, ls, jag, q1, e1]) rfl ?_)
   refine jal (by first | rfl | (simp only [go_sem, undef, h.r0, h.r2, h.r3, h.r4, h.r5, h.r6, h.r7, h.r8, h.r9, jae, ls, jag, q1, e1])) (by simp only [go_sem, undef, h.r0, h.r2, h.r3, h.r4, h.r5, h.r6, h.r7, h.r8, h.r9, jae, ls, jag, q1, e1]; try exact rfl) rfl ?_
   simp only [go_sem]
   repeat (first | refine jaf ?_ | ((first | (refine jad ?_ ?_; (focus rfl)) | (refine jac (gs := ?_) ?_ ?_; rotate_left; (focus rfl))); simp only [run1, go_sem, undef, h.r0, h.r2, h.r3, h.r4, h.r5, h.r6, h.r7, h.r8, h.r9, jae, ls, jag, q1, e1]) | (refine jab ?_ ?_; (focus (simp only [go_sem, undef, h.r0, h.r2, h.r3, h.r4, h.r5, h.r6, h.r7, h.r8, h.r9, jae, ls, jag, q1, e1]; done))) | (refine jaa ?_ ?_; (focus (simp only [go_sem, undef, h.r0, h.r2, h.r3, h.r4, h.r5, h.r6, h.r7, h.r8, h.r9, jae, ls, jag, q1, e1]; done))) | ((first | refine jaj ?_ | refine jai ?_ | refine jak ?_); try simp only [go_sem]) | refine jah ?_)
   exact ⟨by trivial, by trivial, _, rfl, (by constructor <;> simp only [go_sem, h.r0, h.r2, h.r3, h.r4, h.r5, h.r6, h.r7, h.r8, h.r9]), by simp only [go_sem], by simp only [go_sem], by simp only [go_sem]⟩
  rw [sp3]
  refine jaf (jad rfl ?_)
  simp only [go_sem]
  refine jaf (jad rfl ?_)
  simp only [go_sem]
  refine jaf (jad rfl ?_)
  simp only [go_sem]
  refine jaf (EndsC.mono st ?_)
  rintro x r μ' ⟨rfl, rfl, tm', rfl, h, h10, h11, h12⟩
  simp only [jao]
  exact h7 (k := k + 96) h h10 h11 h12
 have e1 : ilt (.ofNat (i + 2)) (.ofNat (bys s).length) = true := (jav _ _).trans (decide_eq_true hlt)
 have hlt0 : i < (bys s).length := by omega
 have hlt1 : i + 1 < (bys s).length := by omega
 obtain ⟨c, hc⟩ : ∃ c, c = (bys s)[i]'hlt0 := ⟨_, rfl⟩
 obtain ⟨d, hd⟩ : ∃ d, d = (bys s)[i + 1]'hlt1 := ⟨_, rfl⟩
 have hdn : d ∈ nums := by rw [hd]; exact hs _ (List.getElem_mem hlt1)
 have hx : ∀ (r : Rg) (x y : Operand), aev Tryz.prog r x = .string s → aev Tryz.prog r y = .int .i64 (.ofNat i) → jbi Tryz.prog (aev Tryz.prog r) 9 x y = some (.int .u8 (.ofNat c)) := fun r x y h1 h2 => by rw [hc]; exact jbA hlt0 h1 h2
 have hx1 : ∀ (r : Rg) (x y : Operand), aev Tryz.prog r x = .string s → aev Tryz.prog r y = .int .i64 (.ofNat (i + 1)) → jbi Tryz.prog (aev Tryz.prog r) 9 x y = some (.int .u8 (.ofNat d)) := fun r x y h1 h2 => by rw [hd]; exact jbA hlt1 h1 h2
 clear hc hd
 have lo : ∀ (g : Nat) (μ : Mem), 10 ≤ g → aFun Tryz.prog (jat Tryz.prog X S0 g) 179 [.int .u8 (.ofNat d)] μ = some (.int .u8 (.ofNat (lw d)), μ) := fun g μ h => lower_eq h hdn
 have l1 : ieq (.ofNat (lw d)) 120 = false := (jaO _ 120 120 rfl).trans (decide_eq_false (lw_ne d hdn))
 have st : ∀ z, ieq (.ofNat c) 48 = z → EndsC (jat Tryz.prog X S0 (k + 1496) (nthC 6 (jaR Tryz.f140)) ⟨253, ((tm.set 10 (.int .u64 10)).set 11 (.int .i64 19)).set 12 (.int .u8 101), [], none⟩ μ) fun x r μ' => x = .normal ∧ μ' = μ ∧ ∃ tm', r = ⟨253, tm', [], none⟩ ∧ PreR tm' s i neg ∧ jaq tm' 10 = .int .u64 10 ∧ jaq tm' 11 = .int .i64 19 ∧ jaq tm' 12 = .int .u8 101 := by
  intro z hz
  cases z with
  | true =>
    refine jaf ?_
    refine jac (gs := ?_) ?_ ?_
    rotate_left
    ·rfl
    iterate 19 (refine jal (by first | rfl | (simp only [go_sem, undef, h.r0, h.r2, h.r3, h.r4, h.r5, h.r6, h.r7, h.r8, h.r9, jae, ls, jag, q1, q2, e1, hx, hx1, hz, jby, lo, Nat.reduceLeDiff, l1])) (by simp only [go_sem, undef, h.r0, h.r2, h.r3, h.r4, h.r5, h.r6, h.r7, h.r8, h.r9, jae, ls, jag, q1, q2, e1, hx, hx1, hz, jby, lo, Nat.reduceLeDiff, l1]; try exact rfl) rfl ?_)
    simp only [go_sem]
    repeat (first | refine jaf ?_ | ((first | (refine jad ?_ ?_; (focus rfl)) | (refine jac (gs := ?_) ?_ ?_; rotate_left; (focus rfl))); simp only [run1, go_sem, undef, h.r0, h.r2, h.r3, h.r4, h.r5, h.r6, h.r7, h.r8, h.r9, jae, ls, jag, q1, q2, e1, hx, hx1, hz, jby, lo, Nat.reduceLeDiff, l1]) | (refine jab ?_ ?_; (focus (simp only [go_sem, undef, h.r0, h.r2, h.r3, h.r4, h.r5, h.r6, h.r7, h.r8, h.r9, jae, ls, jag, q1, q2, e1, hx, hx1, hz, jby, lo, Nat.reduceLeDiff, l1]; done))) | (refine jaa ?_ ?_; (focus (simp only [go_sem, undef, h.r0, h.r2, h.r3, h.r4, h.r5, h.r6, h.r7, h.r8, h.r9, jae, ls, jag, q1, q2, e1, hx, hx1, hz, jby, lo, Nat.reduceLeDiff, l1]; done))) | ((first | refine jaj ?_ | refine jai ?_ | refine jak ?_); try simp only [go_sem]) | refine jah ?_)
    exact ⟨by trivial, by trivial, _, rfl, (by constructor <;> simp only [go_sem, h.r0, h.r2, h.r3, h.r4, h.r5, h.r6, h.r7, h.r8, h.r9]), by simp only [go_sem], by simp only [go_sem], by simp only [go_sem]⟩
  | false =>
    refine jaf ?_
    refine jac (gs := ?_) ?_ ?_
    rotate_left
    ·rfl
    iterate 12 (refine jal (by first | rfl | (simp only [go_sem, undef, h.r0, h.r2, h.r3, h.r4, h.r5, h.r6, h.r7, h.r8, h.r9, jae, ls, jag, q1, q2, e1, hx, hz])) (by simp only [go_sem, undef, h.r0, h.r2, h.r3, h.r4, h.r5, h.r6, h.r7, h.r8, h.r9, jae, ls, jag, q1, q2, e1, hx, hz]; try exact rfl) rfl ?_)
    iterate 6 (refine jaA (by simp only [go_sem, undef, h.r0, h.r2, h.r3, h.r4, h.r5, h.r6, h.r7, h.r8, h.r9, jae, ls, jag, q1, q2, e1, hx, hz]) rfl ?_)
    refine jal (by first | rfl | (simp only [go_sem, undef, h.r0, h.r2, h.r3, h.r4, h.r5, h.r6, h.r7, h.r8, h.r9, jae, ls, jag, q1, q2, e1, hx, hz])) (by simp only [go_sem, undef, h.r0, h.r2, h.r3, h.r4, h.r5, h.r6, h.r7, h.r8, h.r9, jae, ls, jag, q1, q2, e1, hx, hz]; try exact rfl) rfl ?_
    simp only [go_sem]
    repeat (first | refine jaf ?_ | ((first | (refine jad ?_ ?_; (focus rfl)) | (refine jac (gs := ?_) ?_ ?_; rotate_left; (focus rfl))); simp only [run1, go_sem, undef, h.r0, h.r2, h.r3, h.r4, h.r5, h.r6, h.r7, h.r8, h.r9, jae, ls, jag, q1, q2, e1, hx, hz]) | (refine jab ?_ ?_; (focus (simp only [go_sem, undef, h.r0, h.r2, h.r3, h.r4, h.r5, h.r6, h.r7, h.r8, h.r9, jae, ls, jag, q1, q2, e1, hx, hz]; done))) | (refine jaa ?_ ?_; (focus (simp only [go_sem, undef, h.r0, h.r2, h.r3, h.r4, h.r5, h.r6, h.r7, h.r8, h.r9, jae, ls, jag, q1, q2, e1, hx, hz]; done))) | ((first | refine jaj ?_ | refine jai ?_ | refine jak ?_); try simp only [go_sem]) | refine jah ?_)
    exact ⟨by trivial, by trivial, _, rfl, (by constructor <;> simp only [go_sem, h.r0, h.r2, h.r3, h.r4, h.r5, h.r6, h.r7, h.r8, h.r9]), by simp only [go_sem], by simp only [go_sem], by simp only [go_sem]⟩
 have st := st _ rfl
 rw [sp3]
 refine jaf (jad rfl ?_)
 simp only [go_sem]
 refine jaf (jad rfl ?_)
 simp only [go_sem]
 refine jaf (jad rfl ?_)
 simp only [go_sem]
 refine jaf (EndsC.mono st ?_)
 rintro x r μ' ⟨rfl, rfl, tm', rfl, h, h10, h11, h12⟩
 simp only [jao]
 exact h7 (k := k + 96) h h10 h11 h12
end
noncomputable section
attribute [local irreducible] jcC
theorem jhl {s : ByteArray} (hs : ∀ c ∈ bys s, c ∈ nums) (hl : (bys s).length ≤ 1000) (h0 : 0 < (bys s).length) : ∃ a e neg tr i ok, -200000 < e ∧ e < 200000 ∧ i ≤ (bys s).length ∧ ∀ {X : XT} {g : Nat} {μ : Mem}, 2000 ≤ g →
  aFun Tryz.prog (jat Tryz.prog X S0 g) 140 [.string s] μ = some (.tuple #[u a, .int .i64 e, .bool neg, .bool tr, .bool false, .int .i64 (.ofNat i), .bool ok], μ) := by
 have ls := ja5 s
 obtain ⟨c, hc⟩ : ∃ c, c = (bys s)[0]'h0 := ⟨_, rfl⟩
 have hx : ∀ (r : Rg) (x y : Operand), aev Tryz.prog r x = .string s → aev Tryz.prog r y = .int .i64 0 → jbi Tryz.prog (aev Tryz.prog r) 9 x y = some (.int .u8 (.ofNat c)) := fun r x y h1 h2 => by rw [hc]; exact jbA (i := 0) h0 h1 h2
 clear hc
 have e1 : ilt 0 (.ofNat (bys s).length) = true := (jav 0 _).trans (decide_eq_true h0)
 have key : ∀ (i0 : Nat) (neg : Bool), i0 ≤ (bys s).length → ∃ a e tr i ok, -200000 < e ∧ e < 200000 ∧ i ≤ (bys s).length ∧ ∀ {X : XT} {g : Nat} {μ : Mem}, 2000 ≤ g →
   (∀ {k : Nat} {tm : T Value} (Q : Ax → Rg → Mem → Prop), (∀ x r μ', FinR a e neg tr i ok μ x r μ' → Q x r μ') → PreR tm s i0 neg → EndsC (jat Tryz.prog X S0 (k + 1500) (jcC 3 (jaR Tryz.f140)) ⟨253, tm, [], none⟩ μ) Q) := fun i0 neg hi0 => by
  obtain ⟨a, e, tr, i', ok, c1, c2, c3, h3⟩ := rf3 hs hl i0 neg hi0
  exact ⟨a, e, tr, i', ok, c1, c2, c3, fun {X g μ} hg {k tm} Q hQ h => EndsC.mono (h3 h) hQ⟩
 have r1 : jay .i64 (Int.add 0 1) = 1 := rfl
 by_cases p1 : c = 43
 ·have s1 : ieq (.ofNat c) 43 = true := (jaO _ 43 43 rfl).trans (decide_eq_true p1)
  obtain ⟨a, e, tr, i', ok, c1, c2, c3, h3⟩ := key 1 false h0
  refine ⟨a, e, false, tr, i', ok, c1, c2, c3, fun {X g μ} hg => ?_⟩
  have h3 := @h3 X g μ hg
  obtain ⟨k, rfl⟩ := gle hg
  refine jaQ ?_
  refine jan Tryz.func140 rfl rfl (nbl rfl) ?_
  simp only [go_sem, Tryz.ntmps140]
  refine jaf (jad rfl ?_)
  simp only [go_sem]
  refine jdA ?_
  change EndsC (jat Tryz.prog X S0 _ (jaR Tryz.f140) _ _) _
  rw [sp0]
  repeat (first | refine jaf ?_ | ((first | (refine jad ?_ ?_; (focus rfl)) | (refine jac (gs := ?_) ?_ ?_; rotate_left; (focus rfl))); simp only [run1, go_sem, jae, ls, jag, e1, hx, s1, r1]) | (refine jab ?_ ?_; (focus (simp only [go_sem, jae, ls, jag, e1, hx, s1, r1]; done))) | (refine jaa ?_ ?_; (focus (simp only [go_sem, jae, ls, jag, e1, hx, s1, r1]; done))) | ((first | refine jaj ?_ | refine jai ?_ | refine jak ?_); try simp only [go_sem]) | refine jah ?_)
  try simp only [ja4, jao]
  refine h3 (k := k + 495) _ ?_ ?_
  ·rintro x r μ' ⟨rfl, rfl, tm, rfl, h⟩
   refine ⟨rfl, _, ?_, rfl, rfl⟩
   simp only [go_sem, Tryz.results140]
   simp only [h.r2, h.r3, h.r4, h.r5, h.r6, h.r7, h.r8]
  ·constructor <;> (simp only [go_sem]; try rfl)
 ·have s1 : ieq (.ofNat c) 43 = false := (jaO _ 43 43 rfl).trans (decide_eq_false p1)
  by_cases p2 : c = 45
  ·have s2 : ieq (.ofNat c) 45 = true := (jaO _ 45 45 rfl).trans (decide_eq_true p2)
   obtain ⟨a, e, tr, i', ok, c1, c2, c3, h3⟩ := key 1 true h0
   refine ⟨a, e, true, tr, i', ok, c1, c2, c3, fun {X g μ} hg => ?_⟩
   have h3 := @h3 X g μ hg
   obtain ⟨k, rfl⟩ := gle hg
   refine jaQ ?_
   refine jan Tryz.func140 rfl rfl (nbl rfl) ?_
   simp only [go_sem, Tryz.ntmps140]
   refine jaf (jad rfl ?_)
   simp only [go_sem]
   refine jdA ?_
   change EndsC (jat Tryz.prog X S0 _ (jaR Tryz.f140) _ _) _
   rw [sp0]
   repeat (first | refine jaf ?_ | ((first | (refine jad ?_ ?_; (focus rfl)) | (refine jac (gs := ?_) ?_ ?_; rotate_left; (focus rfl))); simp only [run1, go_sem, jae, ls, jag, e1, hx, s1, s2, r1]) | (refine jab ?_ ?_; (focus (simp only [go_sem, jae, ls, jag, e1, hx, s1, s2, r1]; done))) | (refine jaa ?_ ?_; (focus (simp only [go_sem, jae, ls, jag, e1, hx, s1, s2, r1]; done))) | ((first | refine jaj ?_ | refine jai ?_ | refine jak ?_); try simp only [go_sem]) | refine jah ?_)
   try simp only [ja4, jao]
   refine h3 (k := k + 495) _ ?_ ?_
   ·rintro x r μ' ⟨rfl, rfl, tm, rfl, h⟩
    refine ⟨rfl, _, ?_, rfl, rfl⟩
    simp only [go_sem, Tryz.results140]
    simp only [h.r2, h.r3, h.r4, h.r5, h.r6, h.r7, h.r8]
   ·constructor <;> (simp only [go_sem]; try rfl)
  ·have s2 : ieq (.ofNat c) 45 = false := (jaO _ 45 45 rfl).trans (decide_eq_false p2)
   obtain ⟨a, e, tr, i', ok, c1, c2, c3, h3⟩ := key 0 false (Nat.zero_le _)
   refine ⟨a, e, false, tr, i', ok, c1, c2, c3, fun {X g μ} hg => ?_⟩
   have h3 := @h3 X g μ hg
   obtain ⟨k, rfl⟩ := gle hg
   refine jaQ ?_
   refine jan Tryz.func140 rfl rfl (nbl rfl) ?_
   simp only [go_sem, Tryz.ntmps140]
   refine jaf (jad rfl ?_)
   simp only [go_sem]
   refine jdA ?_
   change EndsC (jat Tryz.prog X S0 _ (jaR Tryz.f140) _ _) _
   rw [sp0]
   repeat (first | refine jaf ?_ | ((first | (refine jad ?_ ?_; (focus rfl)) | (refine jac (gs := ?_) ?_ ?_; rotate_left; (focus rfl))); simp only [run1, go_sem, jae, ls, jag, e1, hx, s1, s2]) | (refine jab ?_ ?_; (focus (simp only [go_sem, jae, ls, jag, e1, hx, s1, s2]; done))) | (refine jaa ?_ ?_; (focus (simp only [go_sem, jae, ls, jag, e1, hx, s1, s2]; done))) | ((first | refine jaj ?_ | refine jai ?_ | refine jak ?_); try simp only [go_sem]) | refine jah ?_)
   try simp only [ja4, jao]
   refine h3 (k := k + 495) _ ?_ ?_
   ·rintro x r μ' ⟨rfl, rfl, tm, rfl, h⟩
    refine ⟨rfl, _, ?_, rfl, rfl⟩
    simp only [go_sem, Tryz.results140]
    simp only [h.r2, h.r3, h.r4, h.r5, h.r6, h.r7, h.r8]
   ·constructor <;> (simp only [go_sem]; try rfl)
end
noncomputable section
open Go.Proofs.YtdjoekhccbiaiaaGreatDoor.DecM (val Dg low carry less Cheat)
structure Dec (μ : Mem) (i : Nat) (D : Nat → Nat) (nd : Nat) (dp : Int) (neg tr : Bool) : Prop where
 blk : Blk μ i 804 187
 d : ∀ k, k < 800 → jau μ i k = some (.int .u8 (.ofNat (D k)))
 n : jau μ i 800 = some (.int .i64 (.ofNat nd))
 p : jau μ i 801 = some (.int .i64 dp)
 g : jau μ i 802 = some (.bool neg)
 t : jau μ i 803 = some (.bool tr)
def put1 (D : Nat → Nat) (k v : Nat) : Nat → Nat := fun j => if j = k then v else D j
section
variable {μ : Mem} {i : Nat} {D : Nat → Nat} {nd : Nat} {dp : Int} {neg tr : Bool}
theorem jdt {μ : Mem} {i n t o k : Nat} {v : Value} (h : Blk μ i n t) (ho : o < n) : jau (putL μ i o [v]) i k = if k = o then some v else jau μ i k := by
 rw [jcG h (by show o + 1 ≤ n; omega)]
 by_cases e : k = o
 ·subst e; rw [dif_pos ⟨rfl, Nat.le_refl _, by simp⟩, if_pos rfl]; simp
 ·rw [dif_neg (by rintro ⟨_, h1, h2⟩; simp at h2; omega), if_neg e]
theorem Dec.setD (h : Dec μ i D nd dp neg tr) {k v : Nat} (hk : k < 800) : Dec (putL μ i k [.int .u8 (.ofNat v)]) i (put1 D k v) nd dp neg tr := by
 have c := fun j => jdt (k := j) (v := .int .u8 (.ofNat v)) h.blk (show k < 804 by omega)
 refine ⟨h.blk.put _ _, fun j hj => ?_, ?_, ?_, ?_, ?_⟩
 ·rw [c]; unfold put1
  by_cases e : j = k
  ·rw [if_pos e, if_pos e]
  ·rw [if_neg e, if_neg e]; exact h.d j hj
 ·rw [c, if_neg (by omega)]; exact h.n
 ·rw [c, if_neg (by omega)]; exact h.p
 ·rw [c, if_neg (by omega)]; exact h.g
 ·rw [c, if_neg (by omega)]; exact h.t
theorem Dec.setN (h : Dec μ i D nd dp neg tr) (v : Nat) : Dec (putL μ i 800 [.int .i64 (.ofNat v)]) i D v dp neg tr := by
 have c := fun j => jdt (k := j) (v := .int .i64 (.ofNat v)) h.blk (show 800 < 804 by omega)
 refine ⟨h.blk.put _ _, fun j hj => ?_, ?_, ?_, ?_, ?_⟩
 ·rw [c, if_neg (by omega)]; exact h.d j hj
 ·rw [c, if_pos rfl]
 ·rw [c, if_neg (by omega)]; exact h.p
 ·rw [c, if_neg (by omega)]; exact h.g
 ·rw [c, if_neg (by omega)]; exact h.t
theorem Dec.setP (h : Dec μ i D nd dp neg tr) (v : Int) : Dec (putL μ i 801 [.int .i64 v]) i D nd v neg tr := by
 have c := fun j => jdt (k := j) (v := .int .i64 v) h.blk (show 801 < 804 by omega)
 refine ⟨h.blk.put _ _, fun j hj => ?_, ?_, ?_, ?_, ?_⟩
 ·rw [c, if_neg (by omega)]; exact h.d j hj
 ·rw [c, if_neg (by omega)]; exact h.n
 ·rw [c, if_pos rfl]
 ·rw [c, if_neg (by omega)]; exact h.g
 ·rw [c, if_neg (by omega)]; exact h.t
theorem Dec.setG (h : Dec μ i D nd dp neg tr) (v : Bool) : Dec (putL μ i 802 [.bool v]) i D nd dp v tr := by
 have c := fun j => jdt (k := j) (v := .bool v) h.blk (show 802 < 804 by omega)
 refine ⟨h.blk.put _ _, fun j hj => ?_, ?_, ?_, ?_, ?_⟩
 ·rw [c, if_neg (by omega)]; exact h.d j hj
 ·rw [c, if_neg (by omega)]; exact h.n
 ·rw [c, if_neg (by omega)]; exact h.p
 ·rw [c, if_pos rfl]
 ·rw [c, if_neg (by omega)]; exact h.t
theorem Dec.setT (h : Dec μ i D nd dp neg tr) (v : Bool) : Dec (putL μ i 803 [.bool v]) i D nd dp neg v := by
 have c := fun j => jdt (k := j) (v := .bool v) h.blk (show 803 < 804 by omega)
 refine ⟨h.blk.put _ _, fun j hj => ?_, ?_, ?_, ?_, ?_⟩
 ·rw [c, if_neg (by omega)]; exact h.d j hj
 ·rw [c, if_neg (by omega)]; exact h.n
 ·rw [c, if_neg (by omega)]; exact h.p
 ·rw [c, if_neg (by omega)]; exact h.g
 ·rw [c, if_pos rfl]
theorem Dec.up (h : Dec μ i D nd dp neg tr) (m : Nat) : Dec ⟨μ.obs, m⟩ i D nd dp neg tr := ⟨h.blk, h.d, h.n, h.p, h.g, h.t⟩
end
theorem st_d {μ : Mem} {i k v : Nat} (h : Blk μ i 804 187) (hk : k < 800) : jbM Tryz.prog μ 5 (.pointer (some ⟨i, k, none⟩)) (.int .u8 (.ofNat v)) = some (undef, putL μ i k [.int .u8 (.ofNat v)]) := jb4 i_u8 rfl rfl h (by omega)
theorem st_n {μ : Mem} {i : Nat} {v : Int} (h : Blk μ i 804 187) : jbM Tryz.prog μ 3 (.pointer (some ⟨i, 800, none⟩)) (.int .i64 v) = some (undef, putL μ i 800 [.int .i64 v]) := jb4 jfC rfl rfl h (by omega)
theorem st_p {μ : Mem} {i : Nat} {v : Int} (h : Blk μ i 804 187) : jbM Tryz.prog μ 3 (.pointer (some ⟨i, 801, none⟩)) (.int .i64 v) = some (undef, putL μ i 801 [.int .i64 v]) := jb4 jfC rfl rfl h (by omega)
theorem st_g {μ : Mem} {i : Nat} {v : Bool} (h : Blk μ i 804 187) : jbM Tryz.prog μ 4 (.pointer (some ⟨i, 802, none⟩)) (.bool v) = some (undef, putL μ i 802 [.bool v]) := jb4 jiX rfl rfl h (by omega)
theorem st_t {μ : Mem} {i : Nat} {v : Bool} (h : Blk μ i 804 187) : jbM Tryz.prog μ 4 (.pointer (some ⟨i, 803, none⟩)) (.bool v) = some (undef, putL μ i 803 [.bool v]) := jb4 jiX rfl rfl h (by omega)
theorem jc7 {ρ : Operand → Value} {a b : Operand} {i m : Nat} (hm : m < 800) (h1 : ρ a = .pointer (some ⟨i, 0, none⟩)) (h2 : ρ b = .int .i64 (.ofNat m)) : jaE Tryz.prog ρ 185 a b = some (.pointer (some ⟨i, m, none⟩)) := by
 unfold jaE
 simp only [h1, h2, Tryz.underlying185, aIdx, i_u8]
 rw [show Nat.blt m 800 = true from by simpa using hm]
 simp only [Addr.add]
 rw [show Nat.mul m Tryz.t5.size = m from Nat.mul_one m, Nat.zero_add]
 split
 ·rename_i h; rw [h]
 ·rfl
def Only (μ μ' : Mem) (i : Nat) : Prop := μ.next ≤ μ'.next ∧ ∀ j, j < μ.next → j ≠ i → μ'.obs.get j = μ.obs.get j
theorem Only.refl (μ : Mem) (i : Nat) : Only μ μ i := ⟨Nat.le_refl _, fun _ _ _ => rfl⟩
theorem Only.trans {a b c : Mem} {i : Nat} (h : Only a b i) (g : Only b c i) : Only a c i := ⟨Nat.le_trans h.1 g.1, fun j hj hn => (g.2 j (Nat.lt_of_lt_of_le hj h.1) hn).trans (h.2 j hj hn)⟩
theorem Only.put (μ : Mem) (i o : Nat) (vs : List Value) : Only μ (putL μ i o vs) i := ⟨by rw [jfr]; exact Nat.le_refl _, fun j _ hn => jdy _ _ _ _ hn⟩
theorem Only.up (μ : Mem) (i d : Nat) : Only μ ⟨μ.obs, μ.next + d⟩ i := ⟨Nat.le_add_right _ _, fun _ _ _ => rfl⟩
theorem Only.grow {a b : Mem} {i : Nat} (h : Grow a b) : Only a b i := ⟨h.1, fun j hj _ => h.2 j hj⟩
set_option maxHeartbeats 4000000 in
theorem trim_loop (D : Nat → Nat) : ∀ n, n ≤ 800 → ∃ n', n' ≤ n ∧ (n' = 0 ∨ D (n' - 1) ≠ 48) ∧ (∀ j, n' ≤ j → j < n → D j = 48) ∧ ∀ {X : XT} {e i : Nat} {tm : T Value} {μ : Mem} {dp : Int} {neg tr : Bool}, Dec μ i D n dp neg tr → jaq tm 0 = .pointer (some ⟨i, 0, none⟩) →
  EndsC (jat Tryz.prog X S0 (e + n + 20) (.loop (jaL Tryz.f196 0)) ⟨35, tm, [], none⟩ μ) fun x r μ' => x = .exit 0 ∧ Dec μ' i D n' dp neg tr ∧ Only μ μ' i ∧ ∃ tm', r = ⟨35, tm', [], none⟩ ∧ jaq tm' 0 = .pointer (some ⟨i, 0, none⟩) := by
 intro n
 induction n with
 | zero =>
   intro _
   refine ⟨0, Nat.le_refl _, .inl rfl, fun j h1 h2 => by omega, fun {X e i tm μ dp neg tr} h h0 => ?_⟩
   have hc := (h.up (μ.next + 18)).n
   have e1 : ilt 0 (.ofNat 0) = false := rfl
   refine jas ?_
   refine jaf ?_
   refine jaf ?_
   refine jaU (n := 18) (ms := [0, 1, 3, 7, 15, 31, 63, 63, 191, 447, 959, 1983, 127, 4223, 16383, 32767, 65535, 131071]) (ord := [0, 1, 2, 3, 4, 5, 6, 7, 8, 9, 10, 11, 12, 13, 14, 15, 16, 17]) (ds := ?_) ?_ ?_ ?_ ?_ ?_ ?_
   rotate_left
   ·kernel_rfl
   ·kernel_rfl
   ·kernel_rfl
   ·rfl
   ·rfl
   iterate 6 (refine jaS (by first | rfl | (simp only [go_sem, undef, h0, jar, jap, hc, e1])) (by simp only [jaT, heavy, jba, jaJ, go_sem, undef, h0, jar, jap, hc, e1]; try exact rfl) rfl ?_)
   iterate 11 (refine jgk (by simp only [go_sem, undef, h0, jar, jap, hc, e1]) rfl ?_)
   refine jaS (by first | rfl | (simp only [go_sem, undef, h0, jar, jap, hc, e1])) (by simp only [jaT, heavy, jba, jaJ, go_sem, undef, h0, jar, jap, hc, e1]; try exact rfl) rfl ?_
   simp only [dRun, jaM, jao]
   refine jaa ?_ ?_
   ·simp only [go_sem]
   refine jak ?_
   simp only [jbm]
   exact ⟨by trivial, h.up _, Only.up _ _ _, _, rfl, by simp only [go_sem, h0]⟩
 | succ n ih =>
   intro hn
   have e1 : ilt 0 (.ofNat (n + 1)) = true := (jav 0 (n + 1)).trans (decide_eq_true (Nat.succ_pos n))
   have q1 : jay .i64 (Int.sub (.ofNat (n + 1)) 1) = .ofNat n := jco (n + 1) 1 (by omega) (by omega)
   have hix : ∀ (i : Nat) (r : Rg) (a b : Operand), aev Tryz.prog r a = .pointer (some ⟨i, 0, none⟩) → aev Tryz.prog r b = .int .i64 (.ofNat n) → jaE Tryz.prog (aev Tryz.prog r) 185 a b = some (.pointer (some ⟨i, n, none⟩)) := fun i r a b h1 h2 => jc7 (by omega) h1 h2
   by_cases h48 : D n = 48
   ·have e2 : ieq (.ofNat (D n)) 48 = true := (jaO _ 48 48 rfl).trans (decide_eq_true h48)
    obtain ⟨n', b1, b2, b3, hih⟩ := ih (by omega)
    refine ⟨n', by omega, b2, fun j h1 h2 => ?_, fun {X e i tm μ dp neg tr} h h0 => ?_⟩
    ·by_cases e : j = n
     ·rw [e]; exact h48
     ·exact b3 j h1 (by omega)
    have hu := h.up (μ.next + 18)
    have hc := hu.n
    have hd := hu.d n (by omega)
    have hs := st_n (v := .ofNat n) hu.blk
    have hix := hix i
    refine jas ?_
    refine jaf ?_
    refine jaf ?_
    refine jaU (n := 18) (ms := [0, 1, 3, 7, 15, 31, 63, 63, 191, 447, 959, 1983, 127, 4223, 16383, 32767, 65535, 131071]) (ord := [0, 1, 2, 3, 4, 5, 6, 7, 8, 9, 10, 11, 12, 13, 14, 15, 16, 17]) (ds := ?_) ?_ ?_ ?_ ?_ ?_ ?_
    rotate_left
    ·kernel_rfl
    ·kernel_rfl
    ·kernel_rfl
    ·rfl
    ·rfl
    iterate 18 (refine jaS (by first | rfl | (simp only [go_sem, h0, jax, jar, jap, jaP, hc, hd, e1, q1, hix, e2])) (by simp only [jaT, heavy, jba, jaJ, go_sem, h0, jax, jar, jap, jaP, hc, hd, e1, q1, hix, e2]; try exact rfl) rfl ?_)
    simp only [dRun, jaM, jao]
    repeat (first | refine jaf ?_ | ((first | (refine jad ?_ ?_; (focus rfl)) | (refine jac (gs := ?_) ?_ ?_; rotate_left; (focus rfl))); simp only [run1, go_sem, h0, jar, jap, hc, q1, hs]) | (refine jab ?_ ?_; (focus (simp only [go_sem, h0, jar, jap, hc, q1, hs]; done))) | (refine jaa ?_ ?_; (focus (simp only [go_sem, h0, jar, jap, hc, q1, hs]; done))) | ((first | refine jaj ?_ | refine jai ?_ | refine jak ?_); try simp only [go_sem]) | refine jah ?_)
    rw [show e + (n + 1) + 19 = e + n + 20 from by omega]
    refine EndsC.mono (hih (hu.setN n) (by simp only [go_sem, h0])) ?_
    rintro x r μ' ⟨hx, g1, g2, g3⟩
    exact ⟨hx, g1, (Only.up μ i 18).trans ((Only.put ⟨μ.obs, μ.next + 18⟩ i 800 _).trans g2), g3⟩
   ·have e2 : ieq (.ofNat (D n)) 48 = false := (jaO _ 48 48 rfl).trans (decide_eq_false h48)
    refine ⟨n + 1, Nat.le_refl _, .inr h48, fun j h1 h2 => by omega, fun {X e i tm μ dp neg tr} h h0 => ?_⟩
    have hu := h.up (μ.next + 18)
    have hc := hu.n
    have hd := hu.d n (by omega)
    have hix := hix i
    refine jas ?_
    refine jaf ?_
    refine jaf ?_
    refine jaU (n := 18) (ms := [0, 1, 3, 7, 15, 31, 63, 63, 191, 447, 959, 1983, 127, 4223, 16383, 32767, 65535, 131071]) (ord := [0, 1, 2, 3, 4, 5, 6, 7, 8, 9, 10, 11, 12, 13, 14, 15, 16, 17]) (ds := ?_) ?_ ?_ ?_ ?_ ?_ ?_
    rotate_left
    ·kernel_rfl
    ·kernel_rfl
    ·kernel_rfl
    ·rfl
    ·rfl
    iterate 18 (refine jaS (by first | rfl | (simp only [go_sem, h0, jax, jar, jap, jaP, hc, hd, e1, q1, hix, e2])) (by simp only [jaT, heavy, jba, jaJ, go_sem, h0, jax, jar, jap, jaP, hc, hd, e1, q1, hix, e2]; try exact rfl) rfl ?_)
    simp only [dRun, jaM, jao]
    refine jaa ?_ ?_
    ·simp only [go_sem]
    refine jak ?_
    simp only [jbm]
    exact ⟨by trivial, hu, Only.up _ _ _, _, rfl, by simp only [go_sem, h0]⟩
set_option maxHeartbeats 4000000 in
theorem trim_ex (D : Nat → Nat) (n : Nat) (hn : n ≤ 800) : ∃ n', n' ≤ n ∧ (∀ j, n' ≤ j → j < n → D j = 48) ∧ ∀ {X : XT} {g i : Nat} {μ : Mem} {dp : Int} {neg tr : Bool}, 900 ≤ g → Dec μ i D n dp neg tr →
  ∃ μ', aFun Tryz.prog (jat Tryz.prog X S0 g) 196 [.pointer (some ⟨i, 0, none⟩)] μ = some (.tuple #[], μ') ∧ Dec μ' i D n' (if n' = 0 then 0 else dp) neg tr ∧ Only μ μ' i := by
 obtain ⟨n', b1, b2, b3, hlp⟩ := trim_loop D n hn
 refine ⟨n', b1, b3, fun {X g i μ dp neg tr} hg h => ?_⟩
 obtain ⟨k, rfl⟩ := gle hg
 have key : EndsF (aFun Tryz.prog (jat Tryz.prog X S0 (k + 900)) 196 [.pointer (some ⟨i, 0, none⟩)] μ) fun v μ' => v = .tuple #[] ∧ Dec μ' i D n' (if n' = 0 then 0 else dp) neg tr ∧ Only μ μ' i := by
  refine jan Tryz.func196 rfl rfl (nbl rfl) ?_
  simp only [go_sem, Tryz.ntmps196]
  refine jaf ?_
  refine jah ?_
  rw [show k + 898 = (k + 878 - n) + n + 20 from by omega]
  refine EndsC.mono (hlp h (by simp only [go_sem])) ?_
  rintro x r μ' ⟨rfl, g1, g2, tm', rfl, h0⟩
  simp only [ja4, reduceIte, jao]
  have hc := g1.n
  by_cases hz : n' = 0
  ·have e1 : ieq (.ofNat n') 0 = true := (jaO _ 0 0 rfl).trans (decide_eq_true hz)
   have hs := st_p (v := 0) g1.blk
   rw [if_pos hz]
   repeat (first | refine jaf ?_ | ((first | (refine jad ?_ ?_; (focus rfl)) | (refine jac (gs := ?_) ?_ ?_; rotate_left; (focus rfl))); simp only [run1, go_sem, h0, jar, jaw, jap, hc, e1, hs]) | (refine jab ?_ ?_; (focus (simp only [go_sem, h0, jar, jaw, jap, hc, e1, hs]; done))) | (refine jaa ?_ ?_; (focus (simp only [go_sem, h0, jar, jaw, jap, hc, e1, hs]; done))) | ((first | refine jaj ?_ | refine jai ?_ | refine jak ?_); try simp only [go_sem]) | refine jah ?_)
   exact ⟨rfl, _, rfl, rfl, g1.setP 0, g2.trans (Only.put _ _ _ _)⟩
  ·have e1 : ieq (.ofNat n') 0 = false := (jaO _ 0 0 rfl).trans (decide_eq_false hz)
   rw [if_neg hz]
   repeat (first | refine jaf ?_ | ((first | (refine jad ?_ ?_; (focus rfl)) | (refine jac (gs := ?_) ?_ ?_; rotate_left; (focus rfl))); simp only [run1, go_sem, h0, jar, jaw, jap, hc, e1]) | (refine jab ?_ ?_; (focus (simp only [go_sem, h0, jar, jaw, jap, hc, e1]; done))) | (refine jaa ?_ ?_; (focus (simp only [go_sem, h0, jar, jaw, jap, hc, e1]; done))) | ((first | refine jaj ?_ | refine jai ?_ | refine jak ?_); try simp only [go_sem]) | refine jah ?_)
   exact ⟨rfl, _, rfl, rfl, g1, g2⟩
 obtain ⟨v, μ', h1, rfl, h2, h3⟩ := key
 exact ⟨μ', h1, h2, h3⟩
end
noncomputable section
open Go.Proofs.YtdjoekhccbiaiaaGreatDoor.DecM (val Dg low carry less Cheat)
def chr (s : ByteArray) (t : Nat) : Nat := (bys s).getD t 0
theorem chr_at {s : ByteArray} {i : Nat} (h : i < (bys s).length) : (bys s)[i]'h = chr s i := by unfold chr; rw [List.getD_eq_getElem?_getD, List.getElem?_eq_getElem h]; rfl
theorem je4 {a : Option Addr} {n c : Nat} : aLen Tryz.prog 97 (.slice a n c) = some n := by
 unfold aLen
 simp only [Tryz.underlying97]
def Row (μ : Mem) (bi n : Nat) (D : Nat → Nat) : Prop := ∀ k, k < n → jau μ bi k = some (.int .u8 (.ofNat (D k)))
theorem jie {s : ByteArray} (hl : (bys s).length ≤ 1000) (D : Nat → Nat) (n : Nat) (hn : n ≤ 800) : ∀ (k i : Nat), i + k = (bys s).length → i ≤ n → ∀ {X : XT} {e bi c : Nat} {tm : T Value} {μ : Mem}, Row μ bi n D → jaq tm 0 = .slice (some ⟨bi, 0, none⟩) n c → jaq tm 1 = .string s → jaq tm 5 = .int .i64 (.ofNat i) →
  EndsC (jat Tryz.prog X S0 (e + k + 40) (.loop (jaL Tryz.f206 0)) ⟨32, tm, [], none⟩ μ) fun x r μ' => (∃ m, μ' = ⟨μ.obs, μ.next + m⟩) ∧ ∃ tm', r = ⟨32, tm', [], none⟩ ∧
   ((x = .exit 0 ∧ less D n (chr s) i k = false) ∨ (x = .ret ∧ jaq tm' 4 = .bool (less D n (chr s) i k))) := by
 have ls := ja5 s
 intro k
 induction k with
 | zero =>
   intro i hi hin X e bi c tm μ hr h0 h1 h5
   have hi : i = (bys s).length := hi
   have e1 : ilt (.ofNat i) (.ofNat (bys s).length) = false := (jav _ _).trans (decide_eq_false (by omega))
   refine jas ?_
   repeat (first | refine jaf ?_ | ((first | (refine jad ?_ ?_; (focus rfl)) | (refine jac (gs := ?_) ?_ ?_; rotate_left; (focus rfl))); simp only [run1, go_sem, h0, h1, h5, jae, ls, jag, e1]) | (refine jab ?_ ?_; (focus (simp only [go_sem, h0, h1, h5, jae, ls, jag, e1]; done))) | (refine jaa ?_ ?_; (focus (simp only [go_sem, h0, h1, h5, jae, ls, jag, e1]; done))) | ((first | refine jaj ?_ | refine jai ?_ | refine jak ?_); try simp only [go_sem]) | refine jah ?_)
   exact ⟨⟨0, rfl⟩, _, rfl, .inl ⟨by trivial, rfl⟩⟩
 | succ k ih =>
   intro i hi hin X e bi c tm μ hr h0 h1 h5
   have hlt : i < (bys s).length := by omega
   have e1 : ilt (.ofNat i) (.ofNat (bys s).length) = true := (jav _ _).trans (decide_eq_true hlt)
   by_cases hge : n ≤ i
   ·have e2 : ilt (.ofNat i) (.ofNat n) = false := (jav _ _).trans (decide_eq_false (by omega))
    have el : less D n (chr s) i (k + 1) = true := by rw [less, if_pos hge]
    rw [el]
    refine jas ?_
    repeat (first | refine jaf ?_ | ((first | (refine jad ?_ ?_; (focus rfl)) | (refine jac (gs := ?_) ?_ ?_; rotate_left; (focus rfl))); simp only [run1, go_sem, h0, h1, h5, jae, ls, je4, jag, e1, e2]) | (refine jab ?_ ?_; (focus (simp only [go_sem, h0, h1, h5, jae, ls, je4, jag, e1, e2]; done))) | (refine jaa ?_ ?_; (focus (simp only [go_sem, h0, h1, h5, jae, ls, je4, jag, e1, e2]; done))) | ((first | refine jaj ?_ | refine jai ?_ | refine jak ?_); try simp only [go_sem]) | refine jah ?_)
    refine jam ?_
    exact ⟨⟨0, rfl⟩, _, rfl, .inr ⟨by trivial, by simp only [go_sem]⟩⟩
   ·have hlt2 : i < n := by omega
    have e2 : ilt (.ofNat i) (.ofNat n) = true := (jav _ _).trans (decide_eq_true hlt2)
    have hx : ∀ (r : Rg) (x y : Operand), aev Tryz.prog r x = .string s → aev Tryz.prog r y = .int .i64 (.ofNat i) → jbi Tryz.prog (aev Tryz.prog r) 9 x y = some (.int .u8 (.ofNat (chr s i))) := fun r x y g1 g2 => by rw [← chr_at hlt]; exact jbA hlt g1 g2
    have hix : ∀ (r : Rg) (a b : Operand), aev Tryz.prog r a = .slice (some ⟨bi, 0, none⟩) n c → aev Tryz.prog r b = .int .i64 (.ofNat i) → jaE Tryz.prog (aev Tryz.prog r) 97 a b = some (.pointer (some ⟨bi, i, none⟩)) := fun r a b g1 g2 => by
     rw [jaZ (P := Tryz.prog) Tryz.underlying97 i_u8 rfl g1 g2 hlt2, Nat.zero_add]
    have hc : ∀ m, jau ⟨μ.obs, m⟩ bi i = some (.int .u8 (.ofNat (D i))) := fun m => hr i hlt2
    by_cases he : D i = chr s i
    ·have e3 : ieq (.ofNat (D i)) (.ofNat (chr s i)) = true := (jb7 _ _).trans (decide_eq_true he)
     have el : less D n (chr s) i (k + 1) = less D n (chr s) (i + 1) k := by rw [less, if_neg hge, if_pos he]
     have a1 : jay .i64 (Int.add (.ofNat i) 1) = .ofNat (i + 1) := ja2 i 1 (by omega)
     rw [el]
     refine jas ?_
     repeat (first | refine jaf ?_ | ((first | (refine jad ?_ ?_; (focus rfl)) | (refine jac (gs := ?_) ?_ ?_; rotate_left; (focus rfl))); simp only [run1, go_sem, h0, h1, h5, jae, ls, je4, jag, e1, e2]) | (refine jab ?_ ?_; (focus (simp only [go_sem, h0, h1, h5, jae, ls, je4, jag, e1, e2]; done))) | (refine jaa ?_ ?_; (focus (simp only [go_sem, h0, h1, h5, jae, ls, je4, jag, e1, e2]; done))) | ((first | refine jaj ?_ | refine jai ?_ | refine jak ?_); try simp only [go_sem]) | refine jah ?_)
     refine jaU (n := 8) (ms := [0, 0, 3, 7, 0, 0, 48, 127]) (ord := [0, 1, 2, 3, 4, 5, 6, 7]) (ds := ?_) ?_ ?_ ?_ ?_ ?_ ?_
     rotate_left
     ·kernel_rfl
     ·kernel_rfl
     ·kernel_rfl
     ·rfl
     ·rfl
     iterate 8 (refine jaS (by first | rfl | (simp only [go_sem, h0, h1, h5, hx, hix, jaP, hc, e3])) (by simp only [jaT, heavy, jba, jaJ, go_sem, h0, h1, h5, hx, hix, jaP, hc, e3]; try exact rfl) rfl ?_)
     simp only [dRun, jaM, jao]
     repeat (first | refine jaf ?_ | ((first | (refine jad ?_ ?_; (focus rfl)) | (refine jac (gs := ?_) ?_ ?_; rotate_left; (focus rfl))); simp only [run1, go_sem, h0, h1, h5, a1]) | (refine jab ?_ ?_; (focus (simp only [go_sem, h0, h1, h5, a1]; done))) | (refine jaa ?_ ?_; (focus (simp only [go_sem, h0, h1, h5, a1]; done))) | ((first | refine jaj ?_ | refine jai ?_ | refine jak ?_); try simp only [go_sem]) | refine jah ?_)
     rw [show e + (k + 1) + 39 = e + k + 40 from by omega]
     refine EndsC.mono (ih (i + 1) (by omega) (by omega) (c := c) (μ := ⟨μ.obs, μ.next + 8⟩) hr (by simp only [go_sem, h0]) (by simp only [go_sem, h1]) (by simp only [go_sem])) ?_
     rintro x r μ' ⟨⟨m, hm⟩, g⟩
     exact ⟨⟨8 + m, hm.trans (by show (⟨μ.obs, μ.next + 8 + m⟩ : Mem) = _; rw [Nat.add_assoc])⟩, g⟩
    ·have e3 : ieq (.ofNat (D i)) (.ofNat (chr s i)) = false := (jb7 _ _).trans (decide_eq_false he)
     have el : less D n (chr s) i (k + 1) = decide (D i < chr s i) := by rw [less, if_neg hge, if_neg he]
     have e4 : ilt (.ofNat (D i)) (.ofNat (chr s i)) = decide (D i < chr s i) := jav _ _
     rw [el]
     refine jas ?_
     repeat (first | refine jaf ?_ | ((first | (refine jad ?_ ?_; (focus rfl)) | (refine jac (gs := ?_) ?_ ?_; rotate_left; (focus rfl))); simp only [run1, go_sem, h0, h1, h5, jae, ls, je4, jag, e1, e2]) | (refine jab ?_ ?_; (focus (simp only [go_sem, h0, h1, h5, jae, ls, je4, jag, e1, e2]; done))) | (refine jaa ?_ ?_; (focus (simp only [go_sem, h0, h1, h5, jae, ls, je4, jag, e1, e2]; done))) | ((first | refine jaj ?_ | refine jai ?_ | refine jak ?_); try simp only [go_sem]) | refine jah ?_)
     refine jaU (n := 8) (ms := [0, 0, 3, 7, 0, 0, 48, 127]) (ord := [0, 1, 2, 3, 4, 5, 6, 7]) (ds := ?_) ?_ ?_ ?_ ?_ ?_ ?_
     rotate_left
     ·kernel_rfl
     ·kernel_rfl
     ·kernel_rfl
     ·rfl
     ·rfl
     iterate 8 (refine jaS (by first | rfl | (simp only [go_sem, h0, h1, h5, hx, hix, jaP, hc, e3])) (by simp only [jaT, heavy, jba, jaJ, go_sem, h0, h1, h5, hx, hix, jaP, hc, e3]; try exact rfl) rfl ?_)
     simp only [dRun, jaM, jao]
     repeat (first | refine jaf ?_ | ((first | (refine jad ?_ ?_; (focus rfl)) | (refine jac (gs := ?_) ?_ ?_; rotate_left; (focus rfl))); simp only [run1, go_sem, h0, h1, h5]) | (refine jab ?_ ?_; (focus (simp only [go_sem, h0, h1, h5]; done))) | (refine jaa ?_ ?_; (focus (simp only [go_sem, h0, h1, h5]; done))) | ((first | refine jaj ?_ | refine jai ?_ | refine jak ?_); try simp only [go_sem]) | refine jah ?_)
     refine jaU (n := 9) (ms := [0, 0, 3, 7, 0, 0, 48, 127, 255]) (ord := [0, 1, 2, 3, 4, 5, 6, 7, 8]) (ds := ?_) ?_ ?_ ?_ ?_ ?_ ?_
     rotate_left
     ·kernel_rfl
     ·kernel_rfl
     ·kernel_rfl
     ·rfl
     ·rfl
     iterate 9 (refine jaS (by first | rfl | (simp only [go_sem, h0, h1, h5, hx, hix, jaP, hc, e4])) (by simp only [jaT, heavy, jba, jaJ, go_sem, h0, h1, h5, hx, hix, jaP, hc, e4]; try exact rfl) rfl ?_)
     simp only [dRun, jaM, jao]
     refine jam ?_
     exact ⟨⟨8 + 9, by show (⟨μ.obs, μ.next + 8 + 9⟩ : Mem) = _; rw [Nat.add_assoc]⟩, _, rfl, .inr ⟨by trivial, by simp only [go_sem]⟩⟩
theorem jif {s : ByteArray} (hl : (bys s).length ≤ 1000) (D : Nat → Nat) (n : Nat) (hn : n ≤ 800) {X : XT} {g bi c : Nat} {μ : Mem} (hg : 1100 ≤ g) (hr : Row μ bi n D) :
  ∃ m, aFun Tryz.prog (jat Tryz.prog X S0 g) 206 [.slice (some ⟨bi, 0, none⟩) n c, .string s] μ = some (.bool (less D n (chr s) 0 (bys s).length), ⟨μ.obs, μ.next + m⟩) := by
 obtain ⟨k, rfl⟩ := gle hg
 have key : EndsF (aFun Tryz.prog (jat Tryz.prog X S0 (k + 1100)) 206 [.slice (some ⟨bi, 0, none⟩) n c, .string s] μ) fun v μ' => v = .bool (less D n (chr s) 0 (bys s).length) ∧ ∃ m, μ' = ⟨μ.obs, μ.next + m⟩ := by
  refine jan Tryz.func206 rfl rfl (nbl rfl) ?_
  simp only [go_sem, Tryz.ntmps206]
  repeat (first | refine jaf ?_ | ((first | (refine jad ?_ ?_; (focus rfl)) | (refine jac (gs := ?_) ?_ ?_; rotate_left; (focus rfl))); simp only [run1, go_sem]) | (refine jab ?_ ?_; (focus (simp only [go_sem]; done))) | (refine jaa ?_ ?_; (focus (simp only [go_sem]; done))) | ((first | refine jaj ?_ | refine jai ?_ | refine jak ?_); try simp only [go_sem]) | refine jah ?_)
  rw [show k + 1096 = (k + 1056 - (bys s).length) + (bys s).length + 40 from by omega]
  refine EndsC.mono (jie hl D n hn (bys s).length 0 (Nat.zero_add _) (Nat.zero_le _) (c := c) hr (by simp only [go_sem]) (by simp only [go_sem]) (by simp only [go_sem]; try rfl)) ?_
  rintro x r μ' ⟨⟨m, rfl⟩, tm', rfl, ⟨rfl, hf⟩ | ⟨rfl, h4⟩⟩
  ·simp only [ja4, reduceIte, jao]
   repeat (first | refine jaf ?_ | ((first | (refine jad ?_ ?_; (focus rfl)) | (refine jac (gs := ?_) ?_ ?_; rotate_left; (focus rfl))); simp only [run1, go_sem]) | (refine jab ?_ ?_; (focus (simp only [go_sem]; done))) | (refine jaa ?_ ?_; (focus (simp only [go_sem]; done))) | ((first | refine jaj ?_ | refine jai ?_ | refine jak ?_); try simp only [go_sem]) | refine jah ?_)
   refine jam ?_
   refine ⟨rfl, _, ?_, rfl, m, rfl⟩
   simp only [go_sem, Tryz.results206]
   rw [hf]
  ·refine ⟨rfl, _, ?_, rfl, m, rfl⟩
   simp only [go_sem, Tryz.results206]
   rw [h4]
 obtain ⟨v, μ', h1, rfl, m, rfl⟩ := key
 exact ⟨m, h1⟩
end
noncomputable section
open Go.Proofs.YtdjoekhccbiaiaaGreatDoor.DecM (val Dg low carry less Cheat sumL jh6 jgu shifted jgE jfe jfs)
def ck (k : Nat) : Bool :=
 Nat.blt (2 ^ k) (10 ^ dlt k) && Nat.ble (10 ^ (dlt k - 1)) (2 ^ k) && Nat.ble 1 (dlt k) && Nat.beq ((bys (cut k)).length + dlt k) (k + 1)
  && ((List.range (bys (cut k)).length).all fun t => Nat.ble 48 (chr (cut k) t) && Nat.ble (chr (cut k) t) 57)
  && Nat.beq (val (chr (cut k)) (bys (cut k)).length) (5 ^ k) && Nat.ble 49 (chr (cut k) ((bys (cut k)).length - 1)) && Nat.ble (dlt k) 19 && Nat.ble (bys (cut k)).length 100
set_option maxRecDepth 100000 in
theorem ck_all : ((List.range 61).all fun k => Nat.beq k 0 || ck k) = true := by kernel_rfl
theorem cheats {k : Nat} (h1 : 1 ≤ k) (h2 : k ≤ 60) : Cheat k (dlt k) (bys (cut k)).length (chr (cut k)) ∧ dlt k ≤ 19 ∧ (bys (cut k)).length ≤ 100 := by
 have h := List.all_eq_true.1 ck_all k (List.mem_range.2 (by omega))
 have hb : Nat.beq k 0 = false := by
  cases hb : Nat.beq k 0 with
  | false => rfl
  | true => have := Nat.eq_of_beq_eq_true hb; omega
 rw [hb, Bool.false_or] at h
 unfold ck at h
 simp only [Bool.and_eq_true, List.all_eq_true] at h
 obtain ⟨⟨⟨⟨⟨⟨⟨⟨a1, a2⟩, a3⟩, a4⟩, a5⟩, a6⟩, a7⟩, a8⟩, a9⟩ := h
 exact ⟨⟨Nat.le_of_ble_eq_true a1, Nat.le_of_ble_eq_true a2, Nat.le_of_ble_eq_true a3, Nat.eq_of_beq_eq_true a4, fun t ht => ⟨Nat.le_of_ble_eq_true (a5 t (List.mem_range.2 ht)).1, Nat.le_of_ble_eq_true (a5 t (List.mem_range.2 ht)).2⟩, Nat.eq_of_beq_eq_true a6, Nat.le_of_ble_eq_true a7⟩, Nat.le_of_ble_eq_true a8, Nat.le_of_ble_eq_true a9⟩
theorem nw {a : Nat} (h : a < 18446744073709551616) : jay .u64 (.ofNat a) = .ofNat a := by rw [jbP, W_of h]
theorem jgD {a b : Nat} (h : a + b < 18446744073709551616) : jay .u64 (Int.add (.ofNat a) (.ofNat b)) = .ofNat (a + b) := nw h
theorem jjF {a b : Nat} (h : a * b < 18446744073709551616) : jay .u64 (Int.mul (.ofNat a) (.ofNat b)) = .ofNat (a * b) := nw h
theorem jjD {a b : Nat} (h : b ≤ a) (h2 : a < 18446744073709551616) : jay .u64 (Int.sub (.ofNat a) (.ofNat b)) = .ofNat (a - b) := by
 have e : Int.sub (.ofNat a) (.ofNat b) = .ofNat (a - b) := by show (a : Int) - (b : Int) = ((a - b : Nat) : Int); omega
 rw [e]; exact nw (by omega)
theorem n_shl {a y : Nat} (hy : y ≤ 64) (h : a * 2 ^ y < 18446744073709551616) : jbg true .u64 (.ofNat a) (.ofNat y) = some (.int .u64 (.ofNat (a * 2 ^ y))) := by rw [w_shl a y hy, W_of h]
theorem jjE {a y : Nat} (hy : y ≤ 64) (ha : a < 18446744073709551616) : jbg false .u64 (.ofNat a) (.ofNat y) = some (.int .u64 (.ofNat (a / 2 ^ y))) := by rw [w_shr a y hy ha, W_of (Nat.lt_of_le_of_lt (Nat.div_le_self _ _) ha)]
theorem n_div10 {a : Nat} (ha : a < 18446744073709551616) : aDiv false .u64 .u64 (.ofNat a) 10 = some (.int .u64 (.ofNat (a / 10))) := by
 show some (Value.int .u64 (jay .u64 (.ofNat (a / 10)))) = _
 rw [nw (Nat.lt_of_le_of_lt (Nat.div_le_self _ _) ha)]
theorem jbU (n : Int) : jbb Tryz.prog 5 112 (.int .u8 n) = some (.int .u64 (jay .u64 n)) := by
 simp only [jbb, Tryz.underlying112, Tryz.underlying5]
theorem jbF (n : Int) : jbb Tryz.prog 112 5 (.int .u64 n) = some (.int .u8 (jay .u8 n)) := by
 simp only [jbb, Tryz.underlying112, Tryz.underlying5]
def rdx : Nat → Int
 | 0 => -1
 | n + 1 => .ofNat n
theorem jic {n : Nat} (h : n ≤ 4000) : jay .i64 (Int.sub (.ofNat n) 1) = rdx n := by
 cases n with
 | zero => rfl
 | succ n => exact jco (n + 1) 1 (by omega) (by omega)
theorem p10_19 {d : Nat} (h : d ≤ 19) : 10 ^ d < 18446744073709551616 := Nat.lt_of_le_of_lt (Nat.pow_le_pow_right (by decide) h) (by decide)
theorem ls1 {D : Nat → Nat} {n k δ : Nat} (hD : Dg D n) (hn : n ≤ 800) (hk : k ≤ 60) (hδ : δ ≤ 19) : ∀ r, r ≤ n → ∀ (E : Nat → Nat) (tr : Bool), (∀ t, t < r → E t = D t) →
  ∃ (E' : Nat → Nat) (tr' : Bool), (∀ p, p < r → p + δ < 800 → E' (p + δ) = 48 + sumL D k n p % 10) ∧ (∀ p, r + δ ≤ p → E' p = E p) ∧ ∀ {X : XT} {e i : Nat} {tm : T Value} {μ : Mem} {dp : Int} {neg : Bool}, Dec μ i E n dp neg tr → jaq tm 0 = .pointer (some ⟨i, 0, none⟩) → jaq tm 1 = .int .u64 (.ofNat k) → jaq tm 4 = .int .i64 (.ofNat δ) → jaq tm 5 = .int .i64 (rdx r) → jaq tm 6 = .int .i64 (.ofNat (r + δ)) → jaq tm 7 = .int .u64 (.ofNat (carry D k r (n - r))) →
  EndsC (jat Tryz.prog X S0 (e + r + 40) (.loop (jaL Tryz.f197 0)) ⟨137, tm, [], none⟩ μ) fun x r μ' => x = .exit 0 ∧ Dec μ' i E' n dp neg tr' ∧ Only μ μ' i ∧ ∃ tm', r = ⟨137, tm', [], none⟩ ∧ jaq tm' 0 = .pointer (some ⟨i, 0, none⟩) ∧ jaq tm' 4 = .int .i64 (.ofNat δ) ∧ jaq tm' 6 = .int .i64 (.ofNat δ) ∧ jaq tm' 7 = .int .u64 (.ofNat (carry D k 0 n)) := by
 intro r
 induction r with
 | zero =>
   intro _ E tr hE
   refine ⟨E, tr, fun p hp => by omega, fun p _ => rfl, fun {X e i tm μ dp neg} h h0 h1 h4 h5 h6 h7 => ?_⟩
   have h5 : jaq tm 5 = .int .i64 (-1) := h5
   have e1 : ilt (-1) 0 = true := rfl
   rw [Nat.zero_add] at h6
   refine jas ?_
   repeat (first | refine jaf ?_ | ((first | (refine jad ?_ ?_; (focus rfl)) | (refine jac (gs := ?_) ?_ ?_; rotate_left; (focus rfl))); simp only [run1, go_sem, h0, h1, h4, h5, h6, h7, e1]) | (refine jab ?_ ?_; (focus (simp only [go_sem, h0, h1, h4, h5, h6, h7, e1]; done))) | (refine jaa ?_ ?_; (focus (simp only [go_sem, h0, h1, h4, h5, h6, h7, e1]; done))) | ((first | refine jaj ?_ | refine jai ?_ | refine jak ?_); try simp only [go_sem]) | refine jah ?_)
   exact ⟨by trivial, h, Only.refl _ _, _, rfl, by simp only [go_sem, h0], by simp only [go_sem, h4], by simp only [go_sem, h6], by simp only [go_sem, h7]; rfl⟩
 | succ r ih =>
   intro hr E tr hE
   have hrn : r < n := hr
   obtain ⟨dr1, dr2⟩ := hD r hrn
   have p60 := jfs hk
   have hc0 : carry D k (r + 1) (n - (r + 1)) < 2 ^ k := jfe fun t ht => hD _ (by omega)
   have hS := jh6 (k := k) hD hrn
   have hq := jgu (D := D) (k := k) hrn
   have hSd : carry D k (r + 1) (n - (r + 1)) + (D r - 48) * 2 ^ k = sumL D k n r := rfl
   obtain ⟨S, hSS⟩ : ∃ S, S = sumL D k n r := ⟨_, rfl⟩
   have hmul : (D r - 48) * 2 ^ k ≤ sumL D k n r := by rw [← hSd]; exact Nat.le_add_left _ _
   rw [← hSS] at hS hq hSd hmul
   have hSb : S < 18446744073709551616 := by omega
   have q1 : jay .u64 (.ofNat (D r)) = .ofNat (D r) := nw (by omega)
   have q2 : jay .u64 (Int.sub (.ofNat (D r)) 48) = .ofNat (D r - 48) := jjD (b := 48) dr1 (by omega)
   have q3 : jbg true .u64 (.ofNat (D r - 48)) (.ofNat k) = some (.int .u64 (.ofNat ((D r - 48) * 2 ^ k))) := n_shl (by omega) (by omega)
   have q4 : jay .u64 (Int.add (.ofNat (carry D k (r + 1) (n - (r + 1)))) (.ofNat ((D r - 48) * 2 ^ k))) = .ofNat S := by rw [jgD (by omega), hSd]
   have q5 : aDiv false .u64 .u64 (.ofNat S) 10 = some (.int .u64 (.ofNat (S / 10))) := n_div10 hSb
   have q6 : jay .u64 (Int.mul 10 (.ofNat (S / 10))) = .ofNat (10 * (S / 10)) := jjF (a := 10) (by omega)
   have q7 : jay .u64 (Int.sub (.ofNat S) (.ofNat (10 * (S / 10)))) = .ofNat (S % 10) := by rw [jjD (by omega) hSb]; exact congrArg Int.ofNat (by omega)
   have q8 : jay .i64 (Int.sub (.ofNat (r + 1 + δ)) 1) = .ofNat (r + δ) := (jco (r + 1 + δ) 1 (by omega) (by omega)).trans (congrArg Int.ofNat (by omega))
   have q9 : jay .u64 (Int.add (.ofNat (S % 10)) 48) = .ofNat (48 + S % 10) := by rw [Nat.add_comm]; exact jgD (b := 48) (by omega)
   have q10 : jay .u8 (.ofNat (48 + S % 10)) = .ofNat (48 + S % 10) := qu8 _ (by omega)
   have q11 : jay .i64 (Int.sub (.ofNat r) 1) = rdx r := jic (by omega)
   have e1 : ilt (.ofNat r) 0 = false := (jav r 0).trans (decide_eq_false (by omega))
   have hix : ∀ (i : Nat) (rg : Rg) (a b : Operand), aev Tryz.prog rg a = .pointer (some ⟨i, 0, none⟩) → aev Tryz.prog rg b = .int .i64 (.ofNat r) → jaE Tryz.prog (aev Tryz.prog rg) 185 a b = some (.pointer (some ⟨i, r, none⟩)) := fun i rg a b g1 g2 => jc7 (by omega) g1 g2
   rw [hq] at q6 q7 q5
   obtain ⟨C, hC⟩ : ∃ C, C = carry D k (r + 1) (n - (r + 1)) := ⟨_, rfl⟩
   obtain ⟨C2, hC2⟩ : ∃ C, C = carry D k r (n - r) := ⟨_, rfl⟩
   obtain ⟨M, hM⟩ : ∃ M, M = (D r - 48) * 2 ^ k := ⟨_, rfl⟩
   obtain ⟨R, hR⟩ : ∃ R, R = S % 10 := ⟨_, rfl⟩
   rw [← hC2] at q5 q6 q7
   obtain ⟨M2, hM2⟩ : ∃ M, M = 10 * C2 := ⟨_, rfl⟩
   rw [← hM2] at q6 q7
   rw [← hR] at q7 q9 q10
   rw [← hM] at q3 q4
   rw [← hC] at q4
   by_cases hw : r + δ < 800
   ·have e2 : ilt (.ofNat (r + δ)) 800 = true := (jav _ 800).trans (decide_eq_true hw)
    have hix2 : ∀ (i : Nat) (rg : Rg) (a b : Operand), aev Tryz.prog rg a = .pointer (some ⟨i, 0, none⟩) → aev Tryz.prog rg b = .int .i64 (.ofNat (r + δ)) → jaE Tryz.prog (aev Tryz.prog rg) 185 a b = some (.pointer (some ⟨i, r + δ, none⟩)) := fun i rg a b g1 g2 => jc7 hw g1 g2
    obtain ⟨E', tr', b1, b2, hih⟩ := ih (by omega) (put1 E (r + δ) (48 + R)) tr fun t ht => by unfold put1; rw [if_neg (by omega)]; exact hE t (by omega)
    refine ⟨E', tr', fun p hp hp8 => ?_, fun p hp => ?_, fun {X e i tm μ dp neg} h h0 h1 h4 h5 h6 h7 => ?_⟩
    ·by_cases e : p = r
     ·subst e; rw [b2 _ (Nat.le_refl _), hR, hSS]; exact if_pos rfl
     ·exact b1 p (by omega) hp8
    ·rw [b2 p (by omega)]; exact if_neg (by omega)
    have h5 : jaq tm 5 = .int .i64 (.ofNat r) := h5
    have hd := h.d r (by omega)
    rw [hE r (by omega)] at hd
    rw [← hC] at h7
    have hs := st_d (v := 48 + R) h.blk hw
    have hix := hix i
    have hix2 := hix2 i
    refine jas ?_
    repeat (first | refine jaf ?_ | ((first | (refine jad ?_ ?_; (focus rfl)) | (refine jac (gs := ?_) ?_ ?_; rotate_left; (focus rfl))); simp only [run1, go_sem, h0, h1, h4, h5, h6, h7, jax, jaP, hd, jbU, jbF, e1, e2, q1, q2, q3, q4, q5, q6, q7, q8, q9, q10, q11, hix, hix2, hs]) | (refine jab ?_ ?_; (focus (simp only [go_sem, h0, h1, h4, h5, h6, h7, jax, jaP, hd, jbU, jbF, e1, e2, q1, q2, q3, q4, q5, q6, q7, q8, q9, q10, q11, hix, hix2, hs]; done))) | (refine jaa ?_ ?_; (focus (simp only [go_sem, h0, h1, h4, h5, h6, h7, jax, jaP, hd, jbU, jbF, e1, e2, q1, q2, q3, q4, q5, q6, q7, q8, q9, q10, q11, hix, hix2, hs]; done))) | ((first | refine jaj ?_ | refine jai ?_ | refine jak ?_); try simp only [go_sem]) | refine jah ?_)
    rw [show e + (r + 1) + 39 = e + r + 40 from by omega]
    refine EndsC.mono (hih (h.setD hw) (by simp only [go_sem, h0]) (by simp only [go_sem, h1]) (by simp only [go_sem, h4]) (by simp only [go_sem]) (by simp only [go_sem]) (by simp only [go_sem, hC2])) ?_
    rintro x r μ' ⟨hx, g1, g2, g3⟩
    exact ⟨hx, g1, (Only.put μ i _ _).trans g2, g3⟩
   ·have e2 : ilt (.ofNat (r + δ)) 800 = false := (jav _ 800).trans (decide_eq_false hw)
    by_cases hz : R = 0
    ·have e3 : ieq (.ofNat R) 0 = true := (jaO _ 0 0 rfl).trans (decide_eq_true hz)
     obtain ⟨E', tr', b1, b2, hih⟩ := ih (by omega) E tr fun t ht => hE t (by omega)
     refine ⟨E', tr', fun p hp hp8 => ?_, fun p hp => b2 p (by omega), fun {X e i tm μ dp neg} h h0 h1 h4 h5 h6 h7 => ?_⟩
     ·exact b1 p (by omega) hp8
     have h5 : jaq tm 5 = .int .i64 (.ofNat r) := h5
     have hd := h.d r (by omega)
     rw [hE r (by omega)] at hd
     rw [← hC] at h7
     have hix := hix i
     refine jas ?_
     repeat (first | refine jaf ?_ | ((first | (refine jad ?_ ?_; (focus rfl)) | (refine jac (gs := ?_) ?_ ?_; rotate_left; (focus rfl))); simp only [run1, go_sem, h0, h1, h4, h5, h6, h7, jax, jaP, hd, jbU, jbF, e1, e2, e3, q1, q2, q3, q4, q5, q6, q7, q8, q9, q10, q11, hix]) | (refine jab ?_ ?_; (focus (simp only [go_sem, h0, h1, h4, h5, h6, h7, jax, jaP, hd, jbU, jbF, e1, e2, e3, q1, q2, q3, q4, q5, q6, q7, q8, q9, q10, q11, hix]; done))) | (refine jaa ?_ ?_; (focus (simp only [go_sem, h0, h1, h4, h5, h6, h7, jax, jaP, hd, jbU, jbF, e1, e2, e3, q1, q2, q3, q4, q5, q6, q7, q8, q9, q10, q11, hix]; done))) | ((first | refine jaj ?_ | refine jai ?_ | refine jak ?_); try simp only [go_sem]) | refine jah ?_)
     rw [show e + (r + 1) + 39 = e + r + 40 from by omega]
     refine EndsC.mono (hih h (by simp only [go_sem, h0]) (by simp only [go_sem, h1]) (by simp only [go_sem, h4]) (by simp only [go_sem]) (by simp only [go_sem]) (by simp only [go_sem, hC2])) ?_
     rintro x r μ' ⟨hx, g1, g2, g3⟩
     exact ⟨hx, g1, g2, g3⟩
    ·have e3 : ieq (.ofNat R) 0 = false := (jaO _ 0 0 rfl).trans (decide_eq_false hz)
     obtain ⟨E', tr', b1, b2, hih⟩ := ih (by omega) E true fun t ht => hE t (by omega)
     refine ⟨E', tr', fun p hp hp8 => ?_, fun p hp => b2 p (by omega), fun {X e i tm μ dp neg} h h0 h1 h4 h5 h6 h7 => ?_⟩
     ·exact b1 p (by omega) hp8
     have h5 : jaq tm 5 = .int .i64 (.ofNat r) := h5
     have hd := h.d r (by omega)
     rw [hE r (by omega)] at hd
     rw [← hC] at h7
     have hs := st_t (v := true) h.blk
     have hix := hix i
     refine jas ?_
     repeat (first | refine jaf ?_ | ((first | (refine jad ?_ ?_; (focus rfl)) | (refine jac (gs := ?_) ?_ ?_; rotate_left; (focus rfl))); simp only [run1, go_sem, h0, h1, h4, h5, h6, h7, jax, jaH, jaP, hd, jbU, jbF, e1, e2, e3, q1, q2, q3, q4, q5, q6, q7, q8, q9, q10, q11, hix, hs]) | (refine jab ?_ ?_; (focus (simp only [go_sem, h0, h1, h4, h5, h6, h7, jax, jaH, jaP, hd, jbU, jbF, e1, e2, e3, q1, q2, q3, q4, q5, q6, q7, q8, q9, q10, q11, hix, hs]; done))) | (refine jaa ?_ ?_; (focus (simp only [go_sem, h0, h1, h4, h5, h6, h7, jax, jaH, jaP, hd, jbU, jbF, e1, e2, e3, q1, q2, q3, q4, q5, q6, q7, q8, q9, q10, q11, hix, hs]; done))) | ((first | refine jaj ?_ | refine jai ?_ | refine jak ?_); try simp only [go_sem]) | refine jah ?_)
     rw [show e + (r + 1) + 39 = e + r + 40 from by omega]
     refine EndsC.mono (hih (h.setT true) (by simp only [go_sem, h0]) (by simp only [go_sem, h1]) (by simp only [go_sem, h4]) (by simp only [go_sem]) (by simp only [go_sem]) (by simp only [go_sem, hC2])) ?_
     rintro x r μ' ⟨hx, g1, g2, g3⟩
     exact ⟨hx, g1, (Only.put μ i _ _).trans g2, g3⟩
theorem ls2 : ∀ d, d ≤ 19 → ∀ N, N < 10 ^ d → (1 ≤ d → 10 ^ (d - 1) ≤ N) → ∀ E : Nat → Nat, ∃ E' : Nat → Nat, (∀ p, p < d → 48 ≤ E' p ∧ E' p ≤ 57) ∧ (1 ≤ d → 49 ≤ E' 0) ∧ (∀ p, d ≤ p → E' p = E p) ∧ ∀ {X : XT} {e i n : Nat} {tm : T Value} {v4 : Value} {μ : Mem} {dp : Int} {neg tr : Bool}, Dec μ i E n dp neg tr → jaq tm 0 = .pointer (some ⟨i, 0, none⟩) → jaq tm 4 = v4 → jaq tm 6 = .int .i64 (.ofNat d) → jaq tm 7 = .int .u64 (.ofNat N) →
  EndsC (jat Tryz.prog X S0 (e + d + 40) (.loop (jaL Tryz.f197 1)) ⟨137, tm, [], none⟩ μ) fun x r μ' => x = .exit 2 ∧ Dec μ' i E' n dp neg tr ∧ Only μ μ' i ∧ ∃ tm', r = ⟨137, tm', [], none⟩ ∧ jaq tm' 0 = .pointer (some ⟨i, 0, none⟩) ∧ jaq tm' 4 = v4 := by
 intro d
 induction d with
 | zero =>
   intro _ N hN _ E
   have hN0 : N = 0 := by have : N < 1 := hN; omega
   subst hN0
   refine ⟨E, fun p hp => by omega, fun h => by omega, fun p _ => rfl, fun {X e i n tm v4 μ dp neg tr} h h0 h4 h6 h7 => ?_⟩
   have e1 : ilt 0 (.ofNat 0) = false := rfl
   refine jas ?_
   repeat (first | refine jaf ?_ | ((first | (refine jad ?_ ?_; (focus rfl)) | (refine jac (gs := ?_) ?_ ?_; rotate_left; (focus rfl))); simp only [run1, go_sem, h0, h4, h6, h7, e1]) | (refine jab ?_ ?_; (focus (simp only [go_sem, h0, h4, h6, h7, e1]; done))) | (refine jaa ?_ ?_; (focus (simp only [go_sem, h0, h4, h6, h7, e1]; done))) | ((first | refine jaj ?_ | refine jai ?_ | refine jak ?_); try simp only [go_sem]) | refine jah ?_)
   exact ⟨by trivial, h, Only.refl _ _, _, rfl, by simp only [go_sem, h0], by simp only [go_sem, h4]⟩
 | succ d ih =>
   intro hd N hN1 hN2 E
   have hN2 : 10 ^ d ≤ N := hN2 (by omega)
   have hp := Nat.pow_pos (n := d) (show 0 < 10 by decide)
   have h10 := p10_19 hd
   rw [Nat.pow_succ] at hN1
   have hNb : N < 18446744073709551616 := by rw [Nat.pow_succ] at h10; omega
   have e1 : ilt 0 (.ofNat N) = true := (jav 0 N).trans (decide_eq_true (by omega))
   have q5 : aDiv false .u64 .u64 (.ofNat N) 10 = some (.int .u64 (.ofNat (N / 10))) := n_div10 hNb
   have q6 : jay .u64 (Int.mul 10 (.ofNat (N / 10))) = .ofNat (10 * (N / 10)) := jjF (a := 10) (by omega)
   have q7 : jay .u64 (Int.sub (.ofNat N) (.ofNat (10 * (N / 10)))) = .ofNat (N % 10) := by rw [jjD (by omega) hNb]; exact congrArg Int.ofNat (by omega)
   have q8 : jay .i64 (Int.sub (.ofNat (d + 1)) 1) = .ofNat d := jco (d + 1) 1 (by omega) (by omega)
   have q9 : jay .u64 (Int.add (.ofNat (N % 10)) 48) = .ofNat (48 + N % 10) := by rw [Nat.add_comm]; exact jgD (b := 48) (by omega)
   have q10 : jay .u8 (.ofNat (48 + N % 10)) = .ofNat (48 + N % 10) := qu8 _ (by omega)
   have e2 : ilt (.ofNat d) 800 = true := (jav _ 800).trans (decide_eq_true (by omega))
   have hix2 : ∀ (i : Nat) (rg : Rg) (a b : Operand), aev Tryz.prog rg a = .pointer (some ⟨i, 0, none⟩) → aev Tryz.prog rg b = .int .i64 (.ofNat d) → jaE Tryz.prog (aev Tryz.prog rg) 185 a b = some (.pointer (some ⟨i, d, none⟩)) := fun i rg a b g1 g2 => jc7 (by omega) g1 g2
   obtain ⟨R, hR⟩ : ∃ R, R = N % 10 := ⟨_, rfl⟩
   obtain ⟨Q, hQ⟩ : ∃ Q, Q = N / 10 := ⟨_, rfl⟩
   obtain ⟨M2, hM2⟩ : ∃ M, M = 10 * Q := ⟨_, rfl⟩
   rw [← hQ] at q5 q6 q7
   rw [← hM2] at q6 q7
   rw [← hR] at q7 q9 q10
   obtain ⟨E', b1, b2, b3, hih⟩ := ih (by omega) Q (by omega) (fun hd1 => by
    obtain ⟨c, rfl⟩ : ∃ c, d = c + 1 := ⟨d - 1, by omega⟩
    rw [Nat.pow_succ] at hN2
    show 10 ^ c ≤ Q
    omega) (put1 E d (48 + R))
   have hEd : E' d = 48 + R := (b3 d (Nat.le_refl _)).trans (if_pos rfl)
   refine ⟨E', fun p hp => ?_, fun _ => ?_, fun p hp => ?_, fun {X e i n tm v4 μ dp neg tr} h h0 h4 h6 h7 => ?_⟩
   ·by_cases e : p = d
    ·rw [e, hEd]; omega
    ·exact b1 p (by omega)
   ·by_cases e : d = 0
    ·subst e
     rw [hEd]
     have : N < 10 := by omega
     omega
    ·exact b2 (by omega)
   ·rw [b3 p (by omega)]; exact if_neg (by omega)
   have hs := st_d (v := 48 + R) h.blk (show d < 800 by omega)
   have hix2 := hix2 i
   refine jas ?_
   repeat (first | refine jaf ?_ | ((first | (refine jad ?_ ?_; (focus rfl)) | (refine jac (gs := ?_) ?_ ?_; rotate_left; (focus rfl))); simp only [run1, go_sem, h0, h4, h6, h7, jax, jbF, e1, e2, q5, q6, q7, q8, q9, q10, hix2, hs]) | (refine jab ?_ ?_; (focus (simp only [go_sem, h0, h4, h6, h7, jax, jbF, e1, e2, q5, q6, q7, q8, q9, q10, hix2, hs]; done))) | (refine jaa ?_ ?_; (focus (simp only [go_sem, h0, h4, h6, h7, jax, jbF, e1, e2, q5, q6, q7, q8, q9, q10, hix2, hs]; done))) | ((first | refine jaj ?_ | refine jai ?_ | refine jak ?_); try simp only [go_sem]) | refine jah ?_)
   rw [show e + (d + 1) + 39 = e + d + 40 from by omega]
   refine EndsC.mono (hih (v4 := v4) (h.setD (by omega)) (by simp only [go_sem, h0]) (by simp only [go_sem, h4]) (by simp only [go_sem]) (by simp only [go_sem])) ?_
   rintro x r μ' ⟨hx, g1, g2, g3⟩
   exact ⟨hx, g1, (Only.put μ i _ _).trans g2, g3⟩
end
end Go.Proofs.YtdjoekhccbiaiaaGreatDoor.dw
