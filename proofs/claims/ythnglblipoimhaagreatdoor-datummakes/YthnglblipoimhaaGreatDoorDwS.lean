/-
  distafflaw05.DatumMakes, part S: its walk and its law. No conditions.
-/
import Derived.Test.YthnglblipoimhaaGreatDoorDwR
set_option maxRecDepth 20000
set_option maxHeartbeats 8000000
set_option linter.unusedSimpArgs false
set_option linter.unusedVariables false
set_option linter.unusedSectionVars false
namespace Go.Proofs.YthnglblipoimhaaGreatDoor.dm
open Go Go.Proofs Go.Proofs.YthnglblipoimhaaGreatDoor Go.Proofs.YthnglblipoimhaaGreatDoor.Ev
noncomputable section
section
set_option linter.defProp false
variable {X : XT} {ev : Code → Rg → Mem → Option (Ax × Rg × Mem)}
def gg50 := go_call (P := pZ) (X := X) (ev := ev) (S := S0) Tryz.func50 rfl rfl
def gg30 := go_call (P := pZ) (X := X) (ev := ev) (S := S0) Tryz.func30 rfl rfl
end
def jfz (neg : Bool) (ls : List Nat) : Bool := !ilt 64 (.ofNat ls.length) && (decide (jcl ls = ls) && !(neg && ieq (.ofNat ls.length) 0))
theorem right2_eq {ls : List Nat} {v : Value} {neg : Bool} {X : XT} {g : Nat} {μ : Mem} (hU : IsU μ ls v) (hl : ls.length ≤ 200) (hg : 400 ≤ g) : ∃ μ', aFun pZ (jan pZ X S0 g) 50 [.agg #[.bool neg, v]] μ = some (.bool (jfz neg ls), μ') ∧ Grow μ μ' := by
 obtain ⟨k, rfl⟩ := gle hg
 have h1 := jhR μ 27 [.bool neg, v]
 obtain ⟨μ1, hμ1⟩ : ∃ m : Mem, m = ⟨μ.obs.set μ.next (obL 27 [.bool neg, v]), μ.next + 1⟩ := ⟨_, rfl⟩
 have hG1 : Grow μ μ1 := by rw [hμ1]; exact jbp _ _
 have n1 : μ1.next = μ.next + 1 := by rw [hμ1]
 have hG2 : Grow μ1 ⟨μ1.obs, μ1.next + 24⟩ := jd6 μ1 24
 rw [← hμ1] at h1
 have hU1 := (hU.grow hG1).grow hG2
 obtain ⟨v', μ2, r1, hT, G3, _⟩ := jgF (X := X) (g := k + 397) hU1 (by omega) (by omega)
 have htl : (jcl ls).length ≤ ls.length := by unfold jcl; rw [List.length_take]; omega
 have hlm : ls.length ≤ maxLen := hU.2.1
 obtain ⟨μ3, r2, G4⟩ := jjp (X := X) (g := k + 397) (hT.isU (by omega)) (hU1.grow G3) (by omega) (by omega)
 have hq : μ.next < (⟨μ1.obs, μ1.next + 24⟩ : Mem).next := by show μ.next < μ1.next + 24; omega
 have h2 : Has μ2 μ.next 0 [.bool neg, v] := Has.keep (μ := ⟨μ1.obs, μ1.next + 24⟩) h1 (G3.2 _ hq)
 have h3 : Has μ3 μ.next 0 [.bool neg, v] := h2.keep (G4.2 _ (Nat.lt_of_lt_of_le hq G3.1))
 have c0 : ∀ m, jap ⟨μ1.obs, m⟩ μ.next 0 = some (.bool neg) := fun m => (Has.c2 (μ := ⟨μ1.obs, m⟩) h1).1
 have c1 : ∀ m, jap ⟨μ1.obs, m⟩ μ.next 1 = some v := fun m => (Has.c2 (μ := ⟨μ1.obs, m⟩) h1).2
 obtain ⟨d0, d1⟩ := Has.c2 h2
 obtain ⟨f0, f1⟩ := Has.c2 h3
 have lU := hU1.len
 obtain ⟨b0, e0⟩ : ∃ b, ilt 64 (.ofNat ls.length) = b := ⟨_, rfl⟩
 obtain ⟨b1, e1⟩ : ∃ b, decide (jcl ls = ls) = b := ⟨_, rfl⟩
 obtain ⟨l0, e2⟩ : ∃ b, ieq (.ofNat ls.length) 0 = b := ⟨_, rfl⟩
 rw [e1] at r2
 have hGa := ((hG1.trans hG2).trans G3).trans G4
 have key : EndsF (aFun pZ (jan pZ X S0 (k + 400)) 50 [.agg #[.bool neg, v]] μ) fun r μ' => r = .bool (jfz neg ls) ∧ Grow μ μ' := by
  unfold jfz
  rw [e0, e1, e2]
  cases b0
  ·cases b1 <;> cases neg
   all_goals
    refine jag Tryz.func50 rfl rfl (nbl rfl) ?_
    simp only [go_sem, Tryz.ntmps50]
    repeat (first | refine jac rfl ?_ | (refine jas rfl ?_; (try simp only [go_sem, jcK, Nat.add_eq]); fail_if_success refine ifC ?_) | (refine jae rfl ?_; (repeat (first | (refine jal ?_ rfl ?_; (focus (simp only [go_sem, jcK, Nat.add_eq]; done))) | (refine jai (v := ?_) (μ' := ?_) ?_ ?_ rfl ?_; rotate_left 2; (focus (first | rfl | (simp only [go_sem, jcK, Nat.add_eq]; done))); (focus (simp only [go_sem, jcK, Nat.add_eq]; (try exact rfl); done))))); simp only [go_sem]))
    rw [← hμ1]
    refine jaN (n := 24) (ms := [0, 1, 3, 7, 15, 31, 63, 127, 31, 287, 1023, 2047, 4095, 8191, 16383, 32767, 65535, 131071, 262143, 524287, 1048575, 2097151, 4194303, 8388607]) (ord := [0, 1, 2, 3, 4, 5, 6, 7, 8, 9, 10, 11, 12, 13, 14, 15, 16, 17, 18, 19, 20, 21, 22, 23]) (ds := ?_) ?_ ?_ ?_ ?_ ?_ ?_
    rotate_left
    ·kernel_rfl
    ·kernel_rfl
    ·kernel_rfl
    ·rfl
    ·rfl
    repeat (first | (refine jcu ?_ rfl ?_; (focus (simp only [go_sem, undef, jbn, ja4, jav, jbQ, c0, c1, d0, d1, f0, f1, jaa, lU, jab, e0, e2, gg79, r1, gg55, r2]; done))) | (refine jaM (v := ?_) (μ' := ?_) (sn' := ?_) ?_ ?_ rfl ?_; rotate_left 3; (focus (first | rfl | (simp only [go_sem, undef, jbn, ja4, jav, jbQ, c0, c1, d0, d1, f0, f1, jaa, lU, jab, e0, e2, gg79, r1, gg55, r2]; done))); (focus (simp only [jaO, heavy, ja8, jaF, go_sem, undef, jbn, ja4, jav, jbQ, c0, c1, d0, d1, f0, f1, jaa, lU, jab, e0, e2, gg79, r1, gg55, r2]; (try exact rfl); done))))
    simp only [dRun, jaG, jaj]
    refine jaf ?_
    refine ⟨rfl, .bool _, ?_, rfl, hGa⟩
    simp only [go_sem, Tryz.results50]
    try rfl
  ·skip
   refine jag Tryz.func50 rfl rfl (nbl rfl) ?_
   simp only [go_sem, Tryz.ntmps50]
   repeat (first | refine jac rfl ?_ | (refine jas rfl ?_; (try simp only [go_sem, jcK, Nat.add_eq]); fail_if_success refine ifC ?_) | (refine jae rfl ?_; (repeat (first | (refine jal ?_ rfl ?_; (focus (simp only [go_sem, jcK, Nat.add_eq]; done))) | (refine jai (v := ?_) (μ' := ?_) ?_ ?_ rfl ?_; rotate_left 2; (focus (first | rfl | (simp only [go_sem, jcK, Nat.add_eq]; done))); (focus (simp only [go_sem, jcK, Nat.add_eq]; (try exact rfl); done))))); simp only [go_sem]))
   rw [← hμ1]
   refine jaN (n := 24) (ms := [0, 1, 3, 7, 15, 31, 63, 127, 31, 287, 1023, 2047, 4095, 8191, 16383, 32767, 65535, 131071, 262143, 524287, 1048575, 2097151, 4194303, 8388607]) (ord := [0, 1, 2, 3, 4, 5, 6, 7, 8, 9, 10, 11, 12, 13, 14, 15, 16, 17, 18, 19, 20, 21, 22, 23]) (ds := ?_) ?_ ?_ ?_ ?_ ?_ ?_
   rotate_left
   ·kernel_rfl
   ·kernel_rfl
   ·kernel_rfl
   ·rfl
   ·rfl
   repeat (first | (refine jcu ?_ rfl ?_; (focus (simp only [go_sem, undef, jbn, ja4, jav, jbQ, c0, c1, d0, d1, f0, f1, jaa, lU, jab, e0, e2, gg79, r1, gg55, r2]; done))) | (refine jaM (v := ?_) (μ' := ?_) (sn' := ?_) ?_ ?_ rfl ?_; rotate_left 3; (focus (first | rfl | (simp only [go_sem, undef, jbn, ja4, jav, jbQ, c0, c1, d0, d1, f0, f1, jaa, lU, jab, e0, e2, gg79, r1, gg55, r2]; done))); (focus (simp only [jaO, heavy, ja8, jaF, go_sem, undef, jbn, ja4, jav, jbQ, c0, c1, d0, d1, f0, f1, jaa, lU, jab, e0, e2, gg79, r1, gg55, r2]; (try exact rfl); done))))
   simp only [dRun, jaG, jaj]
   refine jaf ?_
   refine ⟨rfl, .bool false, ?_, by simp, hG1.trans hG2⟩
   simp only [go_sem, Tryz.results50]
 obtain ⟨r, μ', h1, rfl, h2⟩ := key
 exact ⟨μ', h1, h2⟩
def jeK (fl : Bool) (f : Nat) (neg : Bool) (ls : List Nat) : Bool := if fl then !neg && ieq (.ofNat ls.length) 0 else ieq (.ofNat (W f)) 0 && jfz neg ls
theorem jhA {ls : List Nat} {v : Value} {fl neg : Bool} {f : Nat} {X : XT} {g : Nat} {μ : Mem} (hX : jcL X) (hf : f < 18446744073709551616) (hU : IsU μ ls v) (hl : ls.length ≤ 200) (hg : 500 ≤ g) :
  ∃ μ', aFun pZ (jan pZ X S0 g) 30 [.agg #[.bool fl, .float .f64 f, .bool neg, v]] μ = some (.bool (jeK fl f neg ls), μ') ∧ Grow μ μ' := by
 obtain ⟨k, rfl⟩ := gle hg
 have h1 := jhR μ 29 [.bool fl, .float .f64 f, .bool neg, v]
 have hG := jbp μ (obL 29 [.bool fl, .float .f64 f, .bool neg, v])
 obtain ⟨μ2, r1, G1⟩ := right2_eq (X := X) (neg := neg) (g := k + 496) (hU.grow hG) hl (by omega)
 have hb : ∀ μ', aGo pZ X (jbO pZ (jan pZ X S0 (k + 496)) S0) 49 [.float .f64 f] μ' = some (u f, μ') := fun μ' => (go_bits _ _).trans ((hX f μ').trans (by rw [u_of hf]))
 have lI := has_I h1
 have lU := (hU.grow hG).len
 obtain ⟨c0, c1, c2, c3⟩ := Has.c4 h1
 obtain ⟨l0, e0⟩ : ∃ b, ieq (.ofNat ls.length) 0 = b := ⟨_, rfl⟩
 obtain ⟨f0, e1⟩ : ∃ b, ieq (.ofNat (W f)) 0 = b := ⟨_, rfl⟩
 have key : EndsF (aFun pZ (jan pZ X S0 (k + 500)) 30 [.agg #[.bool fl, .float .f64 f, .bool neg, v]] μ) fun r μ' => r = .bool (jeK fl f neg ls) ∧ Grow μ μ' := by
  unfold jeK
  rw [e0, e1]
  cases fl
  ·cases f0
   ·skip
    refine jag Tryz.func30 rfl rfl (nbl rfl) ?_
    simp only [go_sem, Tryz.ntmps30]
    repeat (first | refine jac rfl ?_ | (refine jas rfl ?_; (try simp only [go_sem, jbE, Nat.add_eq, jbg, jbf, ja2, jbn, ja4, jav, jbh, jbQ, c0, c1, c2, c3, lI, hb, e1, gg50, r1]); fail_if_success refine ifC ?_) | (refine jae rfl ?_; (repeat (first | (refine jal ?_ rfl ?_; (focus (simp only [go_sem, jbE, Nat.add_eq, jbg, jbf, ja2, jbn, ja4, jav, jbh, jbQ, c0, c1, c2, c3, lI, hb, e1, gg50, r1]; done))) | (refine jai (v := ?_) (μ' := ?_) ?_ ?_ rfl ?_; rotate_left 2; (focus (first | rfl | (simp only [go_sem, jbE, Nat.add_eq, jbg, jbf, ja2, jbn, ja4, jav, jbh, jbQ, c0, c1, c2, c3, lI, hb, e1, gg50, r1]; done))); (focus (simp only [go_sem, jbE, Nat.add_eq, jbg, jbf, ja2, jbn, ja4, jav, jbh, jbQ, c0, c1, c2, c3, lI, hb, e1, gg50, r1]; (try exact rfl); done))))); simp only [go_sem]))
    refine jaf ?_
    refine ⟨rfl, .bool false, ?_, by simp, hG⟩
    simp only [go_sem, Tryz.results30]
   ·skip
    refine jag Tryz.func30 rfl rfl (nbl rfl) ?_
    simp only [go_sem, Tryz.ntmps30]
    repeat (first | refine jac rfl ?_ | (refine jas rfl ?_; (try simp only [go_sem, jbE, Nat.add_eq, jbg, jbf, ja2, jbn, ja4, jav, jbh, jbQ, c0, c1, c2, c3, lI, hb, e1, gg50, r1]); fail_if_success refine ifC ?_) | (refine jae rfl ?_; (repeat (first | (refine jal ?_ rfl ?_; (focus (simp only [go_sem, jbE, Nat.add_eq, jbg, jbf, ja2, jbn, ja4, jav, jbh, jbQ, c0, c1, c2, c3, lI, hb, e1, gg50, r1]; done))) | (refine jai (v := ?_) (μ' := ?_) ?_ ?_ rfl ?_; rotate_left 2; (focus (first | rfl | (simp only [go_sem, jbE, Nat.add_eq, jbg, jbf, ja2, jbn, ja4, jav, jbh, jbQ, c0, c1, c2, c3, lI, hb, e1, gg50, r1]; done))); (focus (simp only [go_sem, jbE, Nat.add_eq, jbg, jbf, ja2, jbn, ja4, jav, jbh, jbQ, c0, c1, c2, c3, lI, hb, e1, gg50, r1]; (try exact rfl); done))))); simp only [go_sem]))
    refine jaf ?_
    refine ⟨rfl, .bool (jfz neg ls), ?_, by simp, hG.trans G1⟩
    simp only [go_sem, Tryz.results30]
  ·cases neg
   ·skip
    refine jag Tryz.func30 rfl rfl (nbl rfl) ?_
    simp only [go_sem, Tryz.ntmps30]
    repeat (first | refine jac rfl ?_ | (refine jas rfl ?_; (try simp only [go_sem, jbE, Nat.add_eq, jbg, jbf, ja2, jbn, ja4, jav, jbh, jbQ, c0, c1, c2, c3, jaa, lU, jab, e0]); fail_if_success refine ifC ?_) | (refine jae rfl ?_; (repeat (first | (refine jal ?_ rfl ?_; (focus (simp only [go_sem, jbE, Nat.add_eq, jbg, jbf, ja2, jbn, ja4, jav, jbh, jbQ, c0, c1, c2, c3, jaa, lU, jab, e0]; done))) | (refine jai (v := ?_) (μ' := ?_) ?_ ?_ rfl ?_; rotate_left 2; (focus (first | rfl | (simp only [go_sem, jbE, Nat.add_eq, jbg, jbf, ja2, jbn, ja4, jav, jbh, jbQ, c0, c1, c2, c3, jaa, lU, jab, e0]; done))); (focus (simp only [go_sem, jbE, Nat.add_eq, jbg, jbf, ja2, jbn, ja4, jav, jbh, jbQ, c0, c1, c2, c3, jaa, lU, jab, e0]; (try exact rfl); done))))); simp only [go_sem]))
    refine jaf ?_
    refine ⟨rfl, .bool l0, ?_, by simp, hG⟩
    simp only [go_sem, Tryz.results30]
   ·skip
    refine jag Tryz.func30 rfl rfl (nbl rfl) ?_
    simp only [go_sem, Tryz.ntmps30]
    repeat (first | refine jac rfl ?_ | (refine jas rfl ?_; (try simp only [go_sem, jbE, Nat.add_eq, jbg, jbf, ja2, jbn, ja4, jav, jbh, jbQ, c0, c1, c2, c3, jaa, lU, jab, e0]); fail_if_success refine ifC ?_) | (refine jae rfl ?_; (repeat (first | (refine jal ?_ rfl ?_; (focus (simp only [go_sem, jbE, Nat.add_eq, jbg, jbf, ja2, jbn, ja4, jav, jbh, jbQ, c0, c1, c2, c3, jaa, lU, jab, e0]; done))) | (refine jai (v := ?_) (μ' := ?_) ?_ ?_ rfl ?_; rotate_left 2; (focus (first | rfl | (simp only [go_sem, jbE, Nat.add_eq, jbg, jbf, ja2, jbn, ja4, jav, jbh, jbQ, c0, c1, c2, c3, jaa, lU, jab, e0]; done))); (focus (simp only [go_sem, jbE, Nat.add_eq, jbg, jbf, ja2, jbn, ja4, jav, jbh, jbQ, c0, c1, c2, c3, jaa, lU, jab, e0]; (try exact rfl); done))))); simp only [go_sem]))
    refine jaf ?_
    refine ⟨rfl, .bool false, ?_, by simp, hG⟩
    simp only [go_sem, Tryz.results30]
 obtain ⟨r, μ', h1, rfl, h2⟩ := key
 exact ⟨μ', h1, h2⟩
end
noncomputable section
section
set_option linter.defProp false
variable {X : XT} {ev : Code → Rg → Mem → Option (Ax × Rg × Mem)}
def gg52 := go_call (P := pZ) (X := X) (ev := ev) (S := S0) Tryz.func52 rfl rfl
end
def midS (s : ByteArray) (a b : Nat) : ByteArray := ⟨((s.data.toList.drop a).take (b - a)).toArray⟩
theorem slice_mid {ρ : Operand → Value} {x y z : Operand} {s : ByteArray} {a b : Nat} (hx : ρ x = .string s) (hy : ρ y = .int .i64 (.ofNat a)) (hz : ρ z = .int .i64 (.ofNat b)) (hab : a ≤ b) (hb : b ≤ (bys s).length) : jbR pZ ρ 9 x (some y) (some z) none = some (.string (midS s a b)) := by
 unfold jbR
 have h' : b ≤ s.data.toList.length := by rw [← jdH]; exact hb
 have e1 : Nat.ble b s.data.toList.length = true := Nat.ble_eq_true_of_le h'
 have e2 : Nat.ble a b = true := Nat.ble_eq_true_of_le hab
 simp only [hx, Tryz.underlying9, jbA, jb7, hy, hz, e1, e2]
 rfl
def jch (s : ByteArray) : Nat → Nat → Nat → Bool × Nat
 | 0, _, n => (true, n)
 | f + 1, p, n => if p < (bys s).length then
   if ((bys s).length - p < (bys (Utf8.encode (Utf8.decode s p).1)).length) ∨ midS s p (p + (bys (Utf8.encode (Utf8.decode s p).1)).length) ≠ Utf8.encode (Utf8.decode s p).1 then (false, 0) else jch s f (p + (Utf8.decode s p).2) (n + 1)
   else (true, n)
theorem jcH (n : Int) : ja3 pZ 21 3 (.int .i32 n) = some (.int .i64 (jar .i64 n)) := by
 simp only [ja3, Tryz.underlying21, Tryz.underlying3]
theorem i_r32 : pZ.info? 21 = some Tryz.t21 := by kernel_rfl
theorem z_r32 : jbk pZ 21 = some (.int .i32 0) := by unfold jbk; rw [i_r32]; rfl
theorem z_int : jbk pZ 3 = some (.int .i64 0) := by unfold jbk; rw [jdB]; rfl
def obI0 : Ob := .cells 0 3 #[] .e 0 0 false false
theorem bsI0 (ρ : Operand → Value) : jaR pZ ρ 71 0 #[] = some (obI0, fun id => .slice (some ⟨id, 0, none⟩) 0 0) := by
 unfold jaR
 simp only [Tryz.underlying71, jdB]
 rfl
theorem rngS (s : ByteArray) : jia pZ 9 (.string s) = some (.siter s 0, fun id => .pointer (some ⟨id, 0, none⟩)) := by
 unfold jia
 simp only [Tryz.underlying9]
theorem next_yes {μ : Mem} {q p : Nat} {s : ByteArray} (h : μ.obs.get q = some (.siter s p)) (hp : p < (bys s).length) : jjd μ (.pointer (some ⟨q, 0, none⟩)) = some (.tuple #[.bool true, .int .i64 (.ofNat p), .int .i32 (.ofNat (Utf8.decode s p).1)], ⟨μ.obs.set q (.siter s (p + (Utf8.decode s p).2)), μ.next⟩) := by
 unfold jjd
 simp only [h]
 rw [show Nat.blt p s.data.toList.length = true from by rw [← jdH]; simpa using hp]
 rfl
theorem next_no {μ : Mem} {q p : Nat} {s : ByteArray} (h : μ.obs.get q = some (.siter s p)) (hp : (bys s).length ≤ p) : jjd μ (.pointer (some ⟨q, 0, none⟩)) = some (.tuple #[.bool false], μ) := by
 unfold jjd
 simp only [h]
 rw [show Nat.blt p s.data.toList.length = false from by rw [← jdH]; cases e : Nat.blt p (bys s).length with | false => rfl | true => exact absurd (by simpa using e) (Nat.not_lt.2 hp)]
theorem rune_str {μ : Mem} {q : Nat} {c : Int} (h : μ.obs.get q = some (.cells 1 21 #[.int .i32 c] .e 0 0 false false)) : jbV pZ μ 95 9 (.slice (some ⟨q, 0, none⟩) 1 2) = some (.string (Utf8.encode c)) := by
 unfold jbV
 simp only [Tryz.underlying95, Tryz.underlying9, Tryz.underlying21, h]
 show (match jcZ [Value.int .i32 c] ByteArray.empty with | some l => some (Value.string l) | none => none) = _
 show some (Value.string (ByteArray.empty ++ Utf8.encode c)) = _
 rw [ByteArray.empty_append]
theorem jfb (a : Addr) (l c : Nat) : ja3 pZ 95 9 (.slice (some a) l c) = none := by
 simp only [ja3]
theorem jfa (μ : Mem) (a : Addr) (l c : Nat) : jfT pZ μ 95 9 (.slice (some a) l c) = none := by
 simp only [jfT]
theorem Own.push2 {st e : TypeId} {inf : TypeInfo} {z0 : Value} (hu : pZ.underlying st = some (.slice e)) (hi : pZ.info? e = some inf) (hsz : inf.size = 1) (hby : Nat.ble inf.bytes 4096 = true) (hz : jbk pZ e = some z0) (hzl : (ja6 z0).length = 1)
  {μ0 μ : Mem} {v x : Value} {xs : List Value} (h : Own e μ0 μ v xs) (hn : xs.length < 1000000) (hs : scalar x = true) :
  ∃ v' μ', jbY pZ ⟨μ.obs.set μ.next (.cells 1 e #[x] .e 0 0 false false), Nat.add μ.next 1⟩ st st v (.slice (some ⟨μ.next, 0, none⟩) 1 2) = some (v', μ') ∧ Own e μ0 μ' v' (xs ++ [x]) ∧ μ'.next = μ.next + 1 + 1 ∧ (∀ i, SlAt v' i → μ.next < i) ∧ ∀ i, i < μ.next → ¬ SlAt v i → μ'.obs.get i = μ.obs.get i := by
 have hg1 : Grow μ ⟨μ.obs.set μ.next (.cells 1 e #[x] .e 0 0 false false), Nat.add μ.next 1⟩ := jbp μ _
 have h1 := h.keep hg1
 obtain ⟨v', μ', ha, hg, hnx, hat, hk⟩ := jgw (P := pZ) (st := st) (x := x) (q := μ.next) hu hi hsz hby hz hzl h1.good (by show T.get _ _ = _; rw [T.get_set, if_pos rfl]) hn hs
 have hnx' : μ'.next = μ.next + 1 + 1 := hnx
 have hat' : ∀ i, SlAt v' i → i = μ.next + 1 := fun i hi => by
  obtain ⟨l, c, hv⟩ := hat
  obtain ⟨l', c', hv'⟩ := hi
  rw [hv] at hv'
  injection hv' with e1
  injection e1 with e2
  injection e2 with e3
  exact e3.symm
 have hfr : ∀ i, i < μ.next → ¬ SlAt v i → μ'.obs.get i = μ.obs.get i := fun i hi hn => (hk i (by show i ≠ μ.next + 1; omega) hn).trans (hg1.2 i hi)
 refine ⟨v', μ', ha, ⟨hg, ⟨?_, fun i hi => ?_⟩, fun i hi => ?_⟩, hnx', fun i hi => by rw [hat' i hi]; omega, hfr⟩
 ·have := h.grow.1; omega
 ·have h0 := h.grow.1
  rw [hfr i (by omega) (fun hv => by have := (h.above i hv).1; omega)]
  exact h.grow.2 i hi
 ·have h0 := h.grow.1
  have := hat' i hi
  omega
theorem Own.poke {e : TypeId} {μ0 μ : Mem} {v : Value} {xs : List Value} {q : Nat} {ob : Ob} (h : Own e μ0 μ v xs) (hq : μ0.next ≤ q) (hv : ¬ SlAt v q) : Own e μ0 ⟨μ.obs.set q ob, μ.next⟩ v xs :=
 ⟨h.good.keep fun i hi => by
  show T.get _ _ = _
  rw [T.get_set, if_neg (fun e => hv (by rw [← e]; exact hi))], ⟨h.grow.1, fun i hi => by
  show T.get _ _ = _
  rw [T.get_set, if_neg (by omega)]
  exact h.grow.2 i hi⟩, h.above⟩
theorem Own.len {st e : TypeId} {μ0 μ : Mem} {v : Value} {xs : List Value} (hu : pZ.underlying st = some (.slice e)) (h : Own e μ0 μ v xs) : aLen pZ st v = some xs.length := by
 unfold aLen
 rcases h.good with ⟨rfl, rfl⟩ | ⟨i, m, z, ov, fx, sh, c, rfl, _⟩ <;> simp only [hu] <;> rfl
theorem enc_len (c : Int) : (bys (Utf8.encode c)).length ≤ 4 := by
 unfold Utf8.encode
 generalize (if Utf8.valid c = true then c.toNat else Utf8.runeError) = n
 simp only
 repeat' split
 all_goals simp [bys]
theorem str_ne' (a b : ByteArray) : aStr .neq a b = some (.bool (!decide (a = b))) := by
 unfold aStr
 simp only [jfn]
theorem jj7 {s : ByteArray} (hl : (bys s).length ≤ 5000) {μ0 : Mem} {q : Nat} (hq : μ0.next ≤ q) : ∀ (f p n : Nat), (bys s).length ≤ p + f → n ≤ p → ∀ {X : XT} {e : Nat} {tm : T Value} {μ : Mem} {v : Value} {xs : List Value}, μ.obs.get q = some (.siter s p) → q < μ.next → Own 3 μ0 μ v xs → xs.length = n → ¬ SlAt v q →
  jak tm 0 = .string s → jak tm 4 = v → jak tm 11 = .pointer (some ⟨q, 0, none⟩) →
  EndsC (jan pZ X S0 (e + f + 60) (.loop (jaB Tryz.f52 0)) ⟨44, tm, [], none⟩ μ) fun x r μ' => Grow μ0 μ' ∧ ∃ tm', r = ⟨44, tm', [], none⟩ ∧ ((x = .exit 0 ∧ ∃ w, jak tm' 4 = w ∧ (jch s f p n).1 = true ∧ aLen pZ 71 w = some (jch s f p n).2) ∨ (x = .ret ∧ jch s f p n = (false, 0) ∧ jak tm' 2 = .slice none 0 0 ∧ jak tm' 3 = .bool false)) := by
 intro f
 have done : ∀ (f p n : Nat), (bys s).length ≤ p → ∀ {X : XT} {e : Nat} {tm : T Value} {μ : Mem} {v : Value} {xs : List Value}, μ.obs.get q = some (.siter s p) → Own 3 μ0 μ v xs → xs.length = n → jak tm 4 = v → jak tm 11 = .pointer (some ⟨q, 0, none⟩) →
   EndsC (jan pZ X S0 (e + f + 60) (.loop (jaB Tryz.f52 0)) ⟨44, tm, [], none⟩ μ) fun x r μ' => Grow μ0 μ' ∧ ∃ tm', r = ⟨44, tm', [], none⟩ ∧ ((x = .exit 0 ∧ ∃ w, jak tm' 4 = w ∧ (jch s f p n).1 = true ∧ aLen pZ 71 w = some (jch s f p n).2) ∨ (x = .ret ∧ jch s f p n = (false, 0) ∧ jak tm' 2 = .slice none 0 0 ∧ jak tm' 3 = .bool false)) := by
  intro f p n hp X e tm μ v xs ho hO hx h4 h11
  have ef : jch s f p n = (true, n) := by
   cases f with
   | zero => rfl
   | succ f => rw [jch, if_neg (by omega)]
  have hnx := next_no ho hp
  rw [ef]
  refine jam ?_
  repeat (first | refine jac rfl ?_ | (refine jas rfl ?_; (try simp only [go_sem, h11, hnx]); fail_if_success refine ifC ?_) | (refine jae rfl ?_; (repeat (first | (refine jal ?_ rfl ?_; (focus (simp only [go_sem, h11, hnx]; done))) | (refine jai (v := ?_) (μ' := ?_) ?_ ?_ rfl ?_; rotate_left 2; (focus (first | rfl | (simp only [go_sem, h11, hnx]; done))); (focus (simp only [go_sem, h11, hnx]; (try exact rfl); done))))); simp only [go_sem]))
  exact ⟨hO.grow, _, rfl, .inl ⟨by trivial, v, by simp only [go_sem, h4], by trivial, by rw [hO.len Tryz.underlying71, hx]⟩⟩
 induction f with
 | zero =>
   intro p n hp hnp X e tm μ v xs ho hqn hO hx hsl h0 h4 h11
   exact done 0 p n (by omega) ho hO hx h4 h11
 | succ f ih =>
   intro p n hp hnp X e tm μ v xs ho hqn hO hx hsl h0 h4 h11
   by_cases hlt : p < (bys s).length
   ·obtain ⟨c, hc⟩ : ∃ c, c = (Utf8.decode s p).1 := ⟨_, rfl⟩
    obtain ⟨w, hw⟩ : ∃ w, w = (Utf8.decode s p).2 := ⟨_, rfl⟩
    have hw1 : 1 ≤ w := by rw [hw]; exact Lib.width_pos s p
    have hcl : c ≤ 1114111 := by rw [hc]; exact Lib.rune_le s p
    obtain ⟨own, hown⟩ : ∃ b, b = Utf8.encode (.ofNat c) := ⟨_, rfl⟩
    have ho4 : (bys own).length ≤ 4 := by rw [hown]; exact enc_len _
    have hnx := next_yes ho hlt
    rw [← hc, ← hw] at hnx
    obtain ⟨μ1, hμ1⟩ : ∃ m : Mem, m = ⟨μ.obs.set q (.siter s (p + w)), μ.next⟩ := ⟨_, rfl⟩
    rw [← hμ1] at hnx
    have hO1 : Own 3 μ0 μ1 v xs := by rw [hμ1]; exact hO.poke hq hsl
    have n1 : μ1.next = μ.next := by rw [hμ1]
    obtain ⟨μ2, hμ2⟩ : ∃ m : Mem, m = ⟨μ1.obs.set μ1.next (.cells 1 21 #[.int .i32 (.ofNat c)] .e 0 0 false false), μ1.next + 1⟩ := ⟨_, rfl⟩
    have hG2 : Grow μ1 μ2 := by rw [hμ2]; exact jbp _ _
    have hO2 := hO1.keep hG2
    have n2 : μ2.next = μ1.next + 1 := by rw [hμ2]
    have hq2 : μ2.obs.get q = some (.siter s (p + w)) := by
     rw [hG2.2 q (by omega), hμ1]
     show T.get _ _ = _
     rw [T.get_set, if_pos rfl]
    have hst : jbV pZ μ2 95 9 (.slice (some ⟨μ1.next, 0, none⟩) 1 2) = some (.string own) := by
     rw [hown]
     exact rune_str (by rw [hμ2]; show T.get _ _ = _; rw [T.get_set, if_pos rfl])
    obtain ⟨v', μ3, hap, hO3, n3, hat3, hk3⟩ := hO2.push2 (x := .int .i64 (.ofNat c)) Tryz.underlying71 jdB rfl (by kernel_rfl) z_int rfl (by omega) rfl
    have hv2 : ¬ SlAt v' q := fun h => by have := hat3 q h; omega
    have hq3 : μ3.obs.get q = some (.siter s (p + w)) := (hk3 q (by omega) hsl).trans hq2
    have lS := jbm s
    have lO := jbm own
    have q1 : jar .i64 (.ofNat c) = .ofNat c := wrap_i64 _ (by show -9223372036854775808 ≤ (c : Int); omega) (by show (c : Int) < _; omega)
    have q2 : jar .i64 (Int.sub (.ofNat (bys s).length) (.ofNat p)) = .ofNat ((bys s).length - p) := jce _ _ (by omega) (by omega)
    have q3 : jar .i64 (Int.add (.ofNat p) (.ofNat (bys own).length)) = .ofNat (p + (bys own).length) := jaW _ _ (by omega)
    have hcp : ∀ (r : Rg) (o : Oper), o.op = .convert 95 9 (.tmp 19) → aev pZ r (.tmp 19) = .slice (some ⟨μ1.next, 0, none⟩) 1 2 → jaV pZ (aev pZ r) o = none := fun r o ho hx => by
     unfold jaV
     simp only [ho, opsOf, jca, hx, jaP]
    have hbr : ∀ (r : Rg) (x : Operand), aev pZ r x = .int .i32 (.ofNat c) → jaR pZ (aev pZ r) 95 1 #[(0, x)] = some (.cells 1 21 #[.int .i32 (.ofNat c)] .e 0 0 false false, fun id => .slice (some ⟨id, 0, none⟩) 1 2) := fun r x g => jbU Tryz.underlying95 i_r32 rfl z_r32 rfl g rfl
    have hbi : ∀ (r : Rg) (x : Operand), aev pZ r x = .int .i64 (.ofNat c) → jaR pZ (aev pZ r) 71 1 #[(0, x)] = some (.cells 1 3 #[.int .i64 (.ofNat c)] .e 0 0 false false, fun id => .slice (some ⟨id, 0, none⟩) 1 2) := fun r x g => jbU Tryz.underlying71 jdB rfl z_int rfl g rfl
    have es : jch s (f + 1) p n = if ((bys s).length - p < (bys own).length) ∨ midS s p (p + (bys own).length) ≠ own then (false, 0) else jch s f (p + w) (n + 1) := by
     rw [jch, if_pos hlt, ← hw]
     rw [show Utf8.encode (((Utf8.decode s p).1 : Nat) : Int) = own from by rw [hown, hc]; rfl]
    rw [es]
    by_cases t1 : (bys s).length - p < (bys own).length
    ·have e1 : ilt (.ofNat ((bys s).length - p)) (.ofNat (bys own).length) = true := (jaq _ _).trans (decide_eq_true t1)
     rw [if_pos (.inl t1)]
     refine jam ?_
     repeat (first | refine jac rfl ?_ | (refine jas rfl ?_; (try simp only [go_sem, h0, h4, h11, hnx, jcH, q1, hbr, ← hμ2, hcp, jfb, jfa, hst, jaa, lS, lO, jab, q2, e1]); fail_if_success refine ifC ?_) | (refine jae rfl ?_; (repeat (first | (refine jal ?_ rfl ?_; (focus (simp only [go_sem, h0, h4, h11, hnx, jcH, q1, hbr, ← hμ2, hcp, jfb, jfa, hst, jaa, lS, lO, jab, q2, e1]; done))) | (refine jai (v := ?_) (μ' := ?_) ?_ ?_ rfl ?_; rotate_left 2; (focus (first | rfl | (simp only [go_sem, h0, h4, h11, hnx, jcH, q1, hbr, ← hμ2, hcp, jfb, jfa, hst, jaa, lS, lO, jab, q2, e1]; done))); (focus (simp only [go_sem, h0, h4, h11, hnx, jcH, q1, hbr, ← hμ2, hcp, jfb, jfa, hst, jaa, lS, lO, jab, q2, e1]; (try exact rfl); done))))); simp only [go_sem]))
     refine jaf ?_
     exact ⟨hO2.grow, _, rfl, .inr ⟨by trivial, by trivial, by simp only [go_sem], by simp only [go_sem]⟩⟩
    ·have e1 : ilt (.ofNat ((bys s).length - p)) (.ofNat (bys own).length) = false := (jaq _ _).trans (decide_eq_false t1)
     have hmid : ∀ (r : Rg) (x y z : Operand), aev pZ r x = .string s → aev pZ r y = .int .i64 (.ofNat p) → aev pZ r z = .int .i64 (.ofNat (p + (bys own).length)) → jbR pZ (aev pZ r) 9 x (some y) (some z) none = some (.string (midS s p (p + (bys own).length))) := fun r x y z g1 g2 g3 => slice_mid g1 g2 g3 (by omega) (by omega)
     obtain ⟨md, hmd⟩ : ∃ b, b = midS s p (p + (bys own).length) := ⟨_, rfl⟩
     rw [← hmd] at hmid
     rw [← hmd]
     have e2 := str_ne' md own
     by_cases t2 : md = own
     ·rw [decide_eq_true t2] at e2
      have e3 : aStr .neq md own = some (.bool false) := e2
      rw [if_neg (fun h => h.elim t1 (fun h => h t2))]
      refine jam ?_
      repeat (first | refine jac rfl ?_ | (refine jas rfl ?_; (try simp only [go_sem, h0, h4, h11, hnx, jcH, q1, hbr, ← hμ2, hcp, jfb, jfa, hst, jaa, lS, lO, jab, q2, e1, q3, hmid, e3, hbi, Nat.add_eq, hap]); fail_if_success refine ifC ?_) | (refine jae rfl ?_; (repeat (first | (refine jal ?_ rfl ?_; (focus (simp only [go_sem, h0, h4, h11, hnx, jcH, q1, hbr, ← hμ2, hcp, jfb, jfa, hst, jaa, lS, lO, jab, q2, e1, q3, hmid, e3, hbi, Nat.add_eq, hap]; done))) | (refine jai (v := ?_) (μ' := ?_) ?_ ?_ rfl ?_; rotate_left 2; (focus (first | rfl | (simp only [go_sem, h0, h4, h11, hnx, jcH, q1, hbr, ← hμ2, hcp, jfb, jfa, hst, jaa, lS, lO, jab, q2, e1, q3, hmid, e3, hbi, Nat.add_eq, hap]; done))); (focus (simp only [go_sem, h0, h4, h11, hnx, jcH, q1, hbr, ← hμ2, hcp, jfb, jfa, hst, jaa, lS, lO, jab, q2, e1, q3, hmid, e3, hbi, Nat.add_eq, hap]; (try exact rfl); done))))); simp only [go_sem]))
      rw [show e + (f + 1) + 59 = e + f + 60 from by omega]
      exact ih (p + w) (n + 1) (by omega) (by omega) hq3 (by omega) hO3 (by rw [List.length_append, hx]; rfl) hv2 (by simp only [go_sem, h0]) (by simp only [go_sem]) (by simp only [go_sem, h11])
     ·rw [decide_eq_false t2] at e2
      have e3 : aStr .neq md own = some (.bool true) := e2
      rw [if_pos (.inr t2)]
      refine jam ?_
      repeat (first | refine jac rfl ?_ | (refine jas rfl ?_; (try simp only [go_sem, h0, h4, h11, hnx, jcH, q1, hbr, ← hμ2, hcp, jfb, jfa, hst, jaa, lS, lO, jab, q2, e1, q3, hmid, e3]); fail_if_success refine ifC ?_) | (refine jae rfl ?_; (repeat (first | (refine jal ?_ rfl ?_; (focus (simp only [go_sem, h0, h4, h11, hnx, jcH, q1, hbr, ← hμ2, hcp, jfb, jfa, hst, jaa, lS, lO, jab, q2, e1, q3, hmid, e3]; done))) | (refine jai (v := ?_) (μ' := ?_) ?_ ?_ rfl ?_; rotate_left 2; (focus (first | rfl | (simp only [go_sem, h0, h4, h11, hnx, jcH, q1, hbr, ← hμ2, hcp, jfb, jfa, hst, jaa, lS, lO, jab, q2, e1, q3, hmid, e3]; done))); (focus (simp only [go_sem, h0, h4, h11, hnx, jcH, q1, hbr, ← hμ2, hcp, jfb, jfa, hst, jaa, lS, lO, jab, q2, e1, q3, hmid, e3]; (try exact rfl); done))))); simp only [go_sem]))
      refine jaf ?_
      exact ⟨hO2.grow, _, rfl, .inr ⟨by trivial, by trivial, by simp only [go_sem], by simp only [go_sem]⟩⟩
   ·exact done (f + 1) p n (by omega) ho hO hx h4 h11
theorem signs_eq {s : ByteArray} (hl : (bys s).length ≤ 5000) {X : XT} {g : Nat} {μ : Mem} (hg : 6000 ≤ g) : ∃ v μ', aFun pZ (jan pZ X S0 g) 52 [.string s] μ = some (.tuple #[v, .bool (jch s 5000 0 0).1], μ') ∧ aLen pZ 71 v = some (jch s 5000 0 0).2 ∧ Grow μ μ' := by
 obtain ⟨k, rfl⟩ := gle hg
 obtain ⟨μ1, hμ1⟩ : ∃ m : Mem, m = ⟨μ.obs.set μ.next obI0, μ.next + 1⟩ := ⟨_, rfl⟩
 have hG1 : Grow μ μ1 := by rw [hμ1]; exact jbp _ _
 have n1 : μ1.next = μ.next + 1 := by rw [hμ1]
 obtain ⟨μ2, hμ2⟩ : ∃ m : Mem, m = ⟨μ1.obs.set μ1.next (.siter s 0), μ1.next + 1⟩ := ⟨_, rfl⟩
 have hG2 : Grow μ1 μ2 := by rw [hμ2]; exact jbp _ _
 have n2 : μ2.next = μ1.next + 1 := by rw [hμ2]
 have hat : ∀ i, SlAt (.slice (some ⟨μ.next, 0, none⟩) 0 0) i → i = μ.next := fun i hi => by
  obtain ⟨l, c, hv⟩ := hi
  injection hv with e1
  injection e1 with e2
  injection e2 with e3
  exact e3.symm
 have hO : Own 3 μ μ1 (.slice (some ⟨μ.next, 0, none⟩) 0 0) [] := ⟨.inr ⟨μ.next, 0, #[], .e, false, false, 0, rfl, by rw [hμ1]; show T.get _ _ = _; rw [T.get_set, if_pos rfl]; rfl, Nat.le_refl _, fun k hk => absurd hk (Nat.not_lt_zero _), .inl ⟨rfl, rfl⟩⟩, hG1, fun i hi => by rw [hat i hi]; omega⟩
 have hq : μ2.obs.get μ1.next = some (.siter s 0) := by rw [hμ2]; show T.get _ _ = _; rw [T.get_set, if_pos rfl]
 have key : EndsF (aFun pZ (jan pZ X S0 (k + 6000)) 52 [.string s] μ) fun r μ' => ∃ v, r = .tuple #[v, .bool (jch s 5000 0 0).1] ∧ aLen pZ 71 v = some (jch s 5000 0 0).2 ∧ Grow μ μ' := by
  refine jag Tryz.func52 rfl rfl (nbl rfl) ?_
  simp only [go_sem, Tryz.ntmps52]
  repeat (first | refine jac rfl ?_ | (refine jas rfl ?_; (try simp only [go_sem, bsI0, Nat.add_eq, ← hμ1, rngS, ← hμ2]); fail_if_success refine ifC ?_) | (refine jae rfl ?_; (repeat (first | (refine jal ?_ rfl ?_; (focus (simp only [go_sem, bsI0, Nat.add_eq, ← hμ1, rngS, ← hμ2]; done))) | (refine jai (v := ?_) (μ' := ?_) ?_ ?_ rfl ?_; rotate_left 2; (focus (first | rfl | (simp only [go_sem, bsI0, Nat.add_eq, ← hμ1, rngS, ← hμ2]; done))); (focus (simp only [go_sem, bsI0, Nat.add_eq, ← hμ1, rngS, ← hμ2]; (try exact rfl); done))))); simp only [go_sem]))
  rw [show k + 5995 = (k + 935) + 5000 + 60 from by omega]
  refine EndsC.mono (jj7 hl (μ0 := μ) (q := μ1.next) (by omega) 5000 0 0 (by omega) (Nat.le_refl _) hq (by omega) (hO.keep hG2) rfl (fun h => by have := hat _ h; omega) (by simp only [go_sem]) (by simp only [go_sem]) (by simp only [go_sem])) ?_
  rintro x r μ' ⟨g1, tm', rfl, ⟨rfl, w, h4, h1, h2⟩ | ⟨rfl, h1, h2, h3⟩⟩
  ·simp only [jaU, reduceIte, jaj]
   repeat (first | refine jac rfl ?_ | (refine jas rfl ?_; (try simp only [go_sem, h4]); fail_if_success refine ifC ?_) | (refine jae rfl ?_; (repeat (first | (refine jal ?_ rfl ?_; (focus (simp only [go_sem, h4]; done))) | (refine jai (v := ?_) (μ' := ?_) ?_ ?_ rfl ?_; rotate_left 2; (focus (first | rfl | (simp only [go_sem, h4]; done))); (focus (simp only [go_sem, h4]; (try exact rfl); done))))); simp only [go_sem]))
   refine jaf ?_
   refine ⟨rfl, .tuple #[w, .bool true], ?_, w, by rw [h1], h2, g1⟩
   simp only [go_sem, Tryz.results52]
  ·simp only [jaU]
   refine ⟨rfl, .tuple #[.slice none 0 0, .bool false], ?_, .slice none 0 0, by rw [h1], by rw [h1]; rfl, g1⟩
   simp only [go_sem, Tryz.results52]
   rw [h2, h3]
 obtain ⟨r, μ', h1, v, rfl, h2, h3⟩ := key
 exact ⟨v, μ', h1, h2, h3⟩
end
noncomputable section
section
set_option linter.defProp false
variable {X : XT} {ev : Code → Rg → Mem → Option (Ax × Rg × Mem)}
def gg8 := go_call (P := pZ) (X := X) (ev := ev) (S := S0) Tryz.func8 rfl rfl
def gg22 := go_call (P := pZ) (X := X) (ev := ev) (S := S0) Tryz.func22 rfl rfl
end
def Dp : Nat → Dat → Prop
 | 0, _ => False
 | n + 1, .mk _ _ _ _ _ ls _ l => ls.length ≤ 200 ∧ l.length ≤ 4000 ∧ ∀ x ∈ l, Dp n x
theorem Sm.dp : ∀ {n : Nat} {d : Dat}, Sm n d → Dp n d
 | 0, _, h => h.elim
 | n + 1, .mk _ _ _ _ _ ls _ l, h => ⟨h.1, h.2.2.1, fun x hx => Sm.dp (h.2.2.2 x hx)⟩
theorem jj9 (fl : Bool) (f : Nat) (p : Bool) (xs : List Nat) : jdt fl fl f f p p xs xs = true := by
 cases fl <;> simp [jdt]
theorem str_ne1 (a : ByteArray) : aStr .neq a a = some (.bool false) := by
 unfold aStr
 simp only [jfn, decide_true, Bool.not_true]
theorem jgZ (a : Int) : ieq a a = true := by rw [jep]; exact beq_self_eq_true a
theorem bits_lt {d : Dat} {μ : Mem} {cs : List Value} (h : IsD μ d cs) : ∀ {k n fl f neg ls s l}, d = .mk k n fl f neg ls s l → f < 18446744073709551616 := by
 rintro k n fl f neg ls s l rfl
 obtain ⟨_, _, _, ⟨_, _, h, _⟩, _⟩ := jcD.1 h
 exact wf_f64 h
theorem jj8 {n : Nat} {l : List Dat} {v w : Value} (hl : l.length ≤ 4000) (ih : ∀ {d : Dat} {cs ds : List Value} {X : XT} {g : Nat} {μ : Mem}, d ∈ l → jcL X → IsD μ d cs → IsD μ d ds → 600 + 5000 * n ≤ g →
  ∃ μ', aFun pZ (jan pZ X S0 g) 8 [.agg cs.toArray, .agg ds.toArray] μ = some (.bool true, μ') ∧ Grow μ μ') :
  ∀ (j i : Nat), i + j = l.length → ∀ {X : XT} {e : Nat} {tm : T Value} {μ : Mem}, jcL X → IsL μ l v → IsL μ l w → 600 + 5000 * n ≤ e → jak tm 0 = v → jak tm 1 = w → jak tm 12 = .int .i64 (.ofNat l.length) → jak tm 13 = .int .i64 (.ofNat i) →
  EndsC (jan pZ X S0 (e + j + 40) (.loop (jaB Tryz.f22 0)) ⟨27, tm, [], none⟩ μ) fun x r μ' => Grow μ μ' ∧ x = .exit 0 ∧ ∃ tm', r = ⟨27, tm', [], none⟩ := by
 intro j
 induction j with
 | zero =>
   intro i hi X e tm μ hX hv hw he h0 h1 h12 h13
   have hi : i = l.length := hi
   have e1 : ilt (.ofNat i) (.ofNat l.length) = false := (jaq _ _).trans (decide_eq_false (by omega))
   refine jam ?_
   repeat (first | refine jac rfl ?_ | (refine jas rfl ?_; (try simp only [go_sem, h12, h13, e1]); fail_if_success refine ifC ?_) | (refine jae rfl ?_; (repeat (first | (refine jal ?_ rfl ?_; (focus (simp only [go_sem, h12, h13, e1]; done))) | (refine jai (v := ?_) (μ' := ?_) ?_ ?_ rfl ?_; rotate_left 2; (focus (first | rfl | (simp only [go_sem, h12, h13, e1]; done))); (focus (simp only [go_sem, h12, h13, e1]; (try exact rfl); done))))); simp only [go_sem]))
   exact ⟨Grow.refl _, by trivial, _, rfl⟩
 | succ j ihj =>
   intro i hi X e tm μ hX hv hw he h0 h1 h12 h13
   have hlt : i < l.length := by omega
   have e1 : ilt (.ofNat i) (.ofNat l.length) = true := (jaq _ _).trans (decide_eq_true hlt)
   have a1 : jar .i64 (Int.add (.ofNat i) 1) = .ofNat (i + 1) := jaW i 1 (by omega)
   obtain ⟨bi, bo, bc, cs, hbv, hb, hH, hD⟩ := hv.at (List.getElem?_eq_getElem hlt)
   obtain ⟨ci, co, cc, ds, hcv, hc, hH2, hD2⟩ := hw.at (List.getElem?_eq_getElem hlt)
   have hix : ∀ (r : Rg) (x y : Operand), aev pZ r x = v → aev pZ r y = .int .i64 (.ofNat i) → jau pZ (aev pZ r) 22 x y = some (.pointer (some ⟨bi, bo + 8 * i, none⟩)) := fun r x y g1 g2 => ix_D hlt (g1.trans hbv) g2
   have hiy : ∀ (r : Rg) (x y : Operand), aev pZ r x = w → aev pZ r y = .int .i64 (.ofNat i) → jau pZ (aev pZ r) 22 x y = some (.pointer (some ⟨ci, co + 8 * i, none⟩)) := fun r x y g1 g2 => ix_D hlt (g1.trans hcv) g2
   have hl1 : ∀ m, jbX pZ ⟨μ.obs, m⟩ 31 (.pointer (some ⟨bi, bo + 8 * i, none⟩)) = some (.agg cs.toArray) := fun m => Has.ld_D (μ := ⟨μ.obs, m⟩) hH hD.eight.1
   have hl2 : ∀ m, jbX pZ ⟨μ.obs, m⟩ 31 (.pointer (some ⟨ci, co + 8 * i, none⟩)) = some (.agg ds.toArray) := fun m => Has.ld_D (μ := ⟨μ.obs, m⟩) hH2 hD2.eight.1
   have hG1 : Grow μ ⟨μ.obs, μ.next + 10⟩ := jd6 μ 10
   obtain ⟨μ2, hr, hG2⟩ := ih (X := X) (g := e + (j + 1) + 32) (List.getElem_mem hlt) hX (hD.grow hG1) (hD2.grow hG1) (by omega)
   have hG : Grow μ μ2 := hG1.trans hG2
   refine jam ?_
   repeat (first | refine jac rfl ?_ | (refine jas rfl ?_; (try simp only [go_sem, h12, h13, e1]); fail_if_success refine ifC ?_) | (refine jae rfl ?_; (repeat (first | (refine jal ?_ rfl ?_; (focus (simp only [go_sem, h12, h13, e1]; done))) | (refine jai (v := ?_) (μ' := ?_) ?_ ?_ rfl ?_; rotate_left 2; (focus (first | rfl | (simp only [go_sem, h12, h13, e1]; done))); (focus (simp only [go_sem, h12, h13, e1]; (try exact rfl); done))))); simp only [go_sem]))
   refine jaN (n := 10) (ms := [0, 0, 3, 7, 0, 0, 48, 112, 255, 511]) (ord := [0, 1, 2, 3, 4, 5, 6, 7, 8, 9]) (ds := ?_) ?_ ?_ ?_ ?_ ?_ ?_
   rotate_left
   ·kernel_rfl
   ·kernel_rfl
   ·kernel_rfl
   ·rfl
   ·rfl
   repeat (first | (refine jcu ?_ rfl ?_; (focus (simp only [go_sem, h0, h1, hix, hiy, hl1, hl2, gg8, hr]; done))) | (refine jaM (v := ?_) (μ' := ?_) (sn' := ?_) ?_ ?_ rfl ?_; rotate_left 3; (focus (first | rfl | (simp only [go_sem, h0, h1, hix, hiy, hl1, hl2, gg8, hr]; done))); (focus (simp only [jaO, heavy, ja8, jaF, go_sem, h0, h1, hix, hiy, hl1, hl2, gg8, hr]; (try exact rfl); done))))
   simp only [dRun, jaG, jaj]
   repeat (first | refine jac rfl ?_ | (refine jas rfl ?_; (try simp only [go_sem, h0, h1, h12, h13, a1]); fail_if_success refine ifC ?_) | (refine jae rfl ?_; (repeat (first | (refine jal ?_ rfl ?_; (focus (simp only [go_sem, h0, h1, h12, h13, a1]; done))) | (refine jai (v := ?_) (μ' := ?_) ?_ ?_ rfl ?_; rotate_left 2; (focus (first | rfl | (simp only [go_sem, h0, h1, h12, h13, a1]; done))); (focus (simp only [go_sem, h0, h1, h12, h13, a1]; (try exact rfl); done))))); simp only [go_sem]))
   rw [show e + (j + 1) + 39 = e + j + 40 from by omega]
   refine EndsC.mono (ihj (i + 1) (by omega) hX (hv.grow hG) (hw.grow hG) he (by simp only [go_sem, h0]) (by simp only [go_sem, h1]) (by simp only [go_sem, h12]) (by simp only [go_sem])) ?_
   rintro x r' μ' ⟨g1, g2⟩
   exact ⟨hG.trans g1, g2⟩
theorem jgN : ∀ (n : Nat) {d : Dat} {cs ds : List Value} {X : XT} {g : Nat} {μ : Mem}, Dp n d → jcL X → IsD μ d cs → IsD μ d ds → 600 + 5000 * n ≤ g →
  ∃ μ', aFun pZ (jan pZ X S0 g) 8 [.agg cs.toArray, .agg ds.toArray] μ = some (.bool true, μ') ∧ Grow μ μ' := by
 intro n
 induction n with
 | zero => intro d cs ds X g μ hS; exact hS.elim
 | succ n ih =>
   intro d cs ds X g μ hS hX hD hD2 hg
   obtain ⟨k, hk, rfl⟩ : ∃ k, 5000 * (n + 1) ≤ k ∧ g = k + 600 := ⟨g - 600, by omega, by omega⟩
   obtain ⟨kd, m, fl, f, neg, ls, s, l⟩ := d
   obtain ⟨hls, hll, hsub⟩ : ls.length ≤ 200 ∧ l.length ≤ 4000 ∧ ∀ x ∈ l, Dp n x := hS
   have hf := bits_lt hD rfl
   obtain ⟨vl, vi, rfl, _, hU, hL⟩ := jcD.1 hD
   obtain ⟨wl, wi, rfl, _, hU2, hL2⟩ := jcD.1 hD2
   obtain ⟨h1, h2⟩ := has_2 μ 31 31 [.int .i64 kd, .int .i64 m, .bool fl, .float .f64 f, .bool neg, vl, .string s, vi] [.int .i64 kd, .int .i64 m, .bool fl, .float .f64 f, .bool neg, wl, .string s, wi]
   have hG1 := grow_2 μ (obL 31 [.int .i64 kd, .int .i64 m, .bool fl, .float .f64 f, .bool neg, vl, .string s, vi]) (obL 31 [.int .i64 kd, .int .i64 m, .bool fl, .float .f64 f, .bool neg, wl, .string s, wi])
   obtain ⟨μ1, hμ1⟩ : ∃ μ1 : Mem, μ1 = ⟨(μ.obs.set μ.next (obL 31 [.int .i64 kd, .int .i64 m, .bool fl, .float .f64 f, .bool neg, vl, .string s, vi])).set (μ.next + 1) (obL 31 [.int .i64 kd, .int .i64 m, .bool fl, .float .f64 f, .bool neg, wl, .string s, wi]), μ.next + 1 + 1⟩ := ⟨_, rfl⟩
   rw [← hμ1] at h1 h2 hG1
   have n1 : μ1.next = μ.next + 1 + 1 := by rw [hμ1]
   have hN1 := has_N h1
   have hN2 := has_N h2
   obtain ⟨c0, c1, c2, c3, c4, c5, c6, c7⟩ := Has.c8 h1
   obtain ⟨d0, d1, d2, d3, d4, d5, d6, d7⟩ := Has.c8 h2
   obtain ⟨μ2, r1, G2⟩ := jjo (X := X) (g := k + 596) (fl := fl) (f2 := fl) (p := neg) (q := neg) hX hf hf (hU.grow hG1) (hU2.grow hG1) (by omega) (by omega)
   rw [jj9] at r1
   have h1' : Has μ2 μ.next 0 _ := h1.keep (G2.2 _ (by omega))
   have h2' : Has μ2 (μ.next + 1) 0 _ := h2.keep (G2.2 _ (by omega))
   obtain ⟨_, _, _, _, _, _, _, c7'⟩ := Has.c8 h1'
   obtain ⟨_, _, _, _, _, _, _, d7'⟩ := Has.c8 h2'
   have hLa := (hL.grow hG1).grow G2
   have hLb := (hL2.grow hG1).grow G2
   have lA := hLa.len
   have lB := hLb.len
   have q1 := jgZ kd
   have q2 := jgZ m
   have q3 := str_ne1 s
   have q4 : ieq (.ofNat l.length) (.ofNat l.length) = true := jgZ _
   have hSL : ∃ μ', aFun pZ (jan pZ X S0 (k + 596)) 22 [vi, wi] μ2 = some (.bool true, μ') ∧ Grow μ2 μ' := by
    have key : EndsF (aFun pZ (jan pZ X S0 (k + 596)) 22 [vi, wi] μ2) fun r μ' => r = .bool true ∧ Grow μ2 μ' := by
     refine jag Tryz.func22 rfl rfl (nbl rfl) ?_
     simp only [go_sem, Tryz.ntmps22]
     repeat (first | refine jac rfl ?_ | (refine jas rfl ?_; (try simp only [go_sem, jaa, lA, lB, jab, q4]); fail_if_success refine ifC ?_) | (refine jae rfl ?_; (repeat (first | (refine jal ?_ rfl ?_; (focus (simp only [go_sem, jaa, lA, lB, jab, q4]; done))) | (refine jai (v := ?_) (μ' := ?_) ?_ ?_ rfl ?_; rotate_left 2; (focus (first | rfl | (simp only [go_sem, jaa, lA, lB, jab, q4]; done))); (focus (simp only [go_sem, jaa, lA, lB, jab, q4]; (try exact rfl); done))))); simp only [go_sem]))
     rw [show k + 591 = (k + 551 - l.length) + l.length + 40 from by omega]
     refine EndsC.mono (jj8 (n := n) hll (fun hm hX h1 h2 hg => ih (hsub _ hm) hX h1 h2 hg) l.length 0 (Nat.zero_add _) hX hLa hLb (by omega) (by simp only [go_sem]) (by simp only [go_sem]) (by simp only [go_sem]) (by simp only [go_sem]; try rfl)) ?_
     rintro x r μ' ⟨g1, rfl, tm', rfl⟩
     simp only [jaU, reduceIte, jaj]
     repeat (first | refine jac rfl ?_ | (refine jas rfl ?_; (try simp only [go_sem, undef]); fail_if_success refine ifC ?_) | (refine jae rfl ?_; (repeat (first | (refine jal ?_ rfl ?_; (focus (simp only [go_sem, undef]; done))) | (refine jai (v := ?_) (μ' := ?_) ?_ ?_ rfl ?_; rotate_left 2; (focus (first | rfl | (simp only [go_sem, undef]; done))); (focus (simp only [go_sem, undef]; (try exact rfl); done))))); simp only [go_sem]))
     refine jaf ?_
     refine ⟨rfl, .bool true, ?_, rfl, g1⟩
     simp only [go_sem, Tryz.results22]
    obtain ⟨r, μ', h1, rfl, h2⟩ := key
    exact ⟨μ', h1, h2⟩
   obtain ⟨μ3, r2, G3⟩ := hSL
   have key : EndsF (aFun pZ (jan pZ X S0 (k + 600)) 8 [.agg #[.int .i64 kd, .int .i64 m, .bool fl, .float .f64 f, .bool neg, vl, .string s, vi], .agg #[.int .i64 kd, .int .i64 m, .bool fl, .float .f64 f, .bool neg, wl, .string s, wi]] μ) fun r μ' => r = .bool true ∧ Grow μ μ' := by
    refine jag Tryz.func8 rfl rfl (nbl rfl) ?_
    simp only [go_sem, Tryz.ntmps8]
    refine jah ?_
    refine jaA ?_ ?_
    ·rfl
    simp only [go_sem, ja7, Nat.add_eq]
    rw [← hμ1]
    repeat (first | refine jac rfl ?_ | (refine jas rfl ?_; (try simp only [go_sem, jbq, jbF, jbd, jbu, jbc, jao, jaZ, jba, hN1, hN2, c0, c1, c6, d0, d1, d6, c7', d7', q1, q2, q3, gg21, r1, gg22, r2]); fail_if_success refine ifC ?_) | (refine jae rfl ?_; (repeat (first | (refine jal ?_ rfl ?_; (focus (simp only [go_sem, jbq, jbF, jbd, jbu, jbc, jao, jaZ, jba, hN1, hN2, c0, c1, c6, d0, d1, d6, c7', d7', q1, q2, q3, gg21, r1, gg22, r2]; done))) | (refine jai (v := ?_) (μ' := ?_) ?_ ?_ rfl ?_; rotate_left 2; (focus (first | rfl | (simp only [go_sem, jbq, jbF, jbd, jbu, jbc, jao, jaZ, jba, hN1, hN2, c0, c1, c6, d0, d1, d6, c7', d7', q1, q2, q3, gg21, r1, gg22, r2]; done))); (focus (simp only [go_sem, jbq, jbF, jbd, jbu, jbc, jao, jaZ, jba, hN1, hN2, c0, c1, c6, d0, d1, d6, c7', d7', q1, q2, q3, gg21, r1, gg22, r2]; (try exact rfl); done))))); simp only [go_sem]))
    refine jaf ?_
    refine ⟨rfl, .bool true, ?_, rfl, (hG1.trans G2).trans G3⟩
    simp only [go_sem, Tryz.results8]
   obtain ⟨r, μ', h1, rfl, h2⟩ := key
   exact ⟨μ', h1, h2⟩
end
noncomputable section
section
set_option linter.defProp false
variable {X : XT} {ev : Code → Rg → Mem → Option (Ax × Rg × Mem)}
def gg32 := go_call (P := pZ) (X := X) (ev := ev) (S := S0) Tryz.func32 rfl rfl
end
def jjx (s : ByteArray) : Bool := by
 classical exact if Head s ∧ jeD s then jiF s else false
theorem name5_eq (s : ByteArray) {X : XT} {g : Nat} {μ : Mem} (h1 : jbx X) (h2 : jbT X) (h3 : Lay μ) (hg : 100000 ≤ g) : ∃ μ', aFun pZ (jan pZ X S0 g) 53 [.string s] μ = some (.bool (jjx s), μ') ∧ Grow μ μ' := by
 by_cases h : Head s ∧ jeD s
 ·rw [show jjx s = jiF s from if_pos h]
  exact rn_yes h h1 h2 h3 hg
 ·rw [show jjx s = false from if_neg h]
  exact ⟨_, rn_no h (by omega), Grow.refl _⟩
def Dat.kind : Dat → Int
 | .mk k _ _ _ _ _ _ _ => k
def jkx (l : List Dat) : Int := match l[l.length - 1]? with
 | some d => d.kind
 | none => 0
def kindB (k0 k1 k2 k3 k4 k5 k6 k7 r4 n0 n1 sg ok sn nm t2 a5 a6 vc : Bool) : Bool := if k0 then r4 else if k1 then n0 || n1 else if k2 then sg else if k3 then ok && !sn else if k4 then nm else if k5 then true else if k6 then !t2 && (!a5 && !a6) else if k7 then !vc else false
def kindD : Dat → Bool
 | .mk k n fl f neg ls s l => kindB (ieq k 0) (ieq k 1) (ieq k 2) (ieq k 3) (ieq k 4) (ieq k 5) (ieq k 6) (ieq k 7) (jeK fl f neg ls) (ieq n 0) (ieq n 1) (signB n) (jch s 5000 0 0).1 (ilt 400 (.ofNat (jch s 5000 0 0).2)) (jjx s) (ilt (.ofNat l.length) 2) (ieq (jkx l) 5) (ieq (jkx l) 6) (ilt 200 (.ofNat l.length))
theorem kind_eq {n : Nat} {d : Dat} {cs : List Value} {X : XT} {g : Nat} {μ : Mem} (hX0 : jbx X) (hX2 : jbT X) (hY : Lay μ) (hX : jcL X) (hS : Sm n d) (hD : IsD μ d cs) (hg : 100100 ≤ g) :
  ∃ μ', aFun pZ (jan pZ X S0 g) 32 [.agg cs.toArray] μ = some (.bool (kindD d), μ') ∧ Grow μ μ' := by
 obtain ⟨k, rfl⟩ := gle hg
 cases n with
 | zero => exact hS.elim
 | succ n =>
 obtain ⟨kd, m, fl, f, neg, ls, s, l⟩ := d
 obtain ⟨hls, hsl, hll, _⟩ : ls.length ≤ 200 ∧ (bys s).length ≤ 5000 ∧ l.length ≤ 4000 ∧ ∀ x ∈ l, Sm n x := hS
 obtain ⟨vl, vi, rfl, ⟨_, _, hwf, _⟩, hU, hL⟩ := jcD.1 hD
 have h1 := jhR μ 31 [.int .i64 kd, .int .i64 m, .bool fl, .float .f64 f, .bool neg, vl, .string s, vi]
 have hG := jbp μ (obL 31 [.int .i64 kd, .int .i64 m, .bool fl, .float .f64 f, .bool neg, vl, .string s, vi])
 have hN := has_N h1
 have lL := (hL.grow hG).len
 obtain ⟨c0, c1, c2, c3, c4, c5, c6, c7⟩ := Has.c8 h1
 obtain ⟨μa, ra, Ga⟩ := jhA (X := X) (g := k + 100091) (fl := fl) (neg := neg) hX (wf_f64 hwf) (hU.grow hG) hls (by omega)
 have rb : ∀ μ', aFun pZ (jan pZ X S0 (k + 100087)) 51 [.int .i64 m] μ' = some (.bool (signB m), μ') := fun μ' => sign5_eq (by omega)
 obtain ⟨vs, μc, rc, lc, Gc⟩ := signs_eq hsl (X := X) (g := k + 100085) (μ := ⟨μ.obs.set μ.next (obL 31 [.int .i64 kd, .int .i64 m, .bool fl, .float .f64 f, .bool neg, vl, .string s, vi]), μ.next + 1⟩) (by omega)
 obtain ⟨μd, rd, Gd⟩ := name5_eq s (X := X) (g := k + 100083) hX0 hX2 (hY.grow hG) (by omega)
 obtain ⟨ok, e10⟩ : ∃ b, (jch s 5000 0 0).1 = b := ⟨_, rfl⟩
 obtain ⟨cn, e11⟩ : ∃ b, (jch s 5000 0 0).2 = b := ⟨_, rfl⟩
 rw [e10] at rc
 rw [e11] at lc
 have key : EndsF (aFun pZ (jan pZ X S0 (k + 100100)) 32 [.agg #[.int .i64 kd, .int .i64 m, .bool fl, .float .f64 f, .bool neg, vl, .string s, vi]] μ) fun r μ' => r = .bool (kindD (.mk kd m fl f neg ls s l)) ∧ Grow μ μ' := by
  simp only [kindD, e10, e11]
  obtain ⟨k0, e0⟩ : ∃ b, ieq kd 0 = b := ⟨_, rfl⟩
  obtain ⟨k1, e1⟩ : ∃ b, ieq kd 1 = b := ⟨_, rfl⟩
  obtain ⟨k2, e2⟩ : ∃ b, ieq kd 2 = b := ⟨_, rfl⟩
  obtain ⟨k3, e3⟩ : ∃ b, ieq kd 3 = b := ⟨_, rfl⟩
  obtain ⟨k4, e4⟩ : ∃ b, ieq kd 4 = b := ⟨_, rfl⟩
  obtain ⟨k5, e5⟩ : ∃ b, ieq kd 5 = b := ⟨_, rfl⟩
  obtain ⟨k6, e6⟩ : ∃ b, ieq kd 6 = b := ⟨_, rfl⟩
  obtain ⟨k7, e7⟩ : ∃ b, ieq kd 7 = b := ⟨_, rfl⟩
  obtain ⟨n0, e8⟩ : ∃ b, ieq m 0 = b := ⟨_, rfl⟩
  obtain ⟨n1, e9⟩ : ∃ b, ieq m 1 = b := ⟨_, rfl⟩
  obtain ⟨sn, e12⟩ : ∃ b, ilt 400 (.ofNat cn) = b := ⟨_, rfl⟩
  obtain ⟨t2, e13⟩ : ∃ b, ilt (.ofNat l.length) 2 = b := ⟨_, rfl⟩
  obtain ⟨vc, e14⟩ : ∃ b, ilt 200 (.ofNat l.length) = b := ⟨_, rfl⟩
  rw [e0, e1, e2, e3, e4, e5, e6, e7, e8, e9, e12, e13, e14]
  cases k0 with
  | true =>
    refine jag Tryz.func32 rfl rfl (nbl rfl) ?_
    simp only [go_sem, Tryz.ntmps32]
    repeat (first | refine jac rfl ?_ | (refine jas rfl ?_; (try simp only [go_sem, undef, ja7, Nat.add_eq, jbq, jbF, jbd, jbu, jbc, jao, jaZ, jba, hN, c0, c1, c6, c7, jaa, lL, jab, e0, e1, e2, e3, e4, e5, e6, e7, e8, e9, e12, e13, e14, gg30, ra]); fail_if_success refine ifC ?_) | (refine jae rfl ?_; (repeat (first | (refine jal ?_ rfl ?_; (focus (simp only [go_sem, undef, ja7, Nat.add_eq, jbq, jbF, jbd, jbu, jbc, jao, jaZ, jba, hN, c0, c1, c6, c7, jaa, lL, jab, e0, e1, e2, e3, e4, e5, e6, e7, e8, e9, e12, e13, e14, gg30, ra]; done))) | (refine jai (v := ?_) (μ' := ?_) ?_ ?_ rfl ?_; rotate_left 2; (focus (first | rfl | (simp only [go_sem, undef, ja7, Nat.add_eq, jbq, jbF, jbd, jbu, jbc, jao, jaZ, jba, hN, c0, c1, c6, c7, jaa, lL, jab, e0, e1, e2, e3, e4, e5, e6, e7, e8, e9, e12, e13, e14, gg30, ra]; done))); (focus (simp only [go_sem, undef, ja7, Nat.add_eq, jbq, jbF, jbd, jbu, jbc, jao, jaZ, jba, hN, c0, c1, c6, c7, jaa, lL, jab, e0, e1, e2, e3, e4, e5, e6, e7, e8, e9, e12, e13, e14, gg30, ra]; (try exact rfl); done))))); simp only [go_sem]))
    refine jaf ?_
    refine ⟨rfl, .bool _, ?_, rfl, hG.trans Ga⟩
    simp only [go_sem, Tryz.results32]
    try rfl
  | false =>
    cases k1 with
    | true =>
      cases n0
      all_goals
       refine jag Tryz.func32 rfl rfl (nbl rfl) ?_
       simp only [go_sem, Tryz.ntmps32]
       repeat (first | refine jac rfl ?_ | (refine jas rfl ?_; (try simp only [go_sem, undef, ja7, Nat.add_eq, jbq, jbF, jbd, jbu, jbc, jao, jaZ, jba, hN, c0, c1, c6, c7, jaa, lL, jab, e0, e1, e2, e3, e4, e5, e6, e7, e8, e9, e12, e13, e14]); fail_if_success refine ifC ?_) | (refine jae rfl ?_; (repeat (first | (refine jal ?_ rfl ?_; (focus (simp only [go_sem, undef, ja7, Nat.add_eq, jbq, jbF, jbd, jbu, jbc, jao, jaZ, jba, hN, c0, c1, c6, c7, jaa, lL, jab, e0, e1, e2, e3, e4, e5, e6, e7, e8, e9, e12, e13, e14]; done))) | (refine jai (v := ?_) (μ' := ?_) ?_ ?_ rfl ?_; rotate_left 2; (focus (first | rfl | (simp only [go_sem, undef, ja7, Nat.add_eq, jbq, jbF, jbd, jbu, jbc, jao, jaZ, jba, hN, c0, c1, c6, c7, jaa, lL, jab, e0, e1, e2, e3, e4, e5, e6, e7, e8, e9, e12, e13, e14]; done))); (focus (simp only [go_sem, undef, ja7, Nat.add_eq, jbq, jbF, jbd, jbu, jbc, jao, jaZ, jba, hN, c0, c1, c6, c7, jaa, lL, jab, e0, e1, e2, e3, e4, e5, e6, e7, e8, e9, e12, e13, e14]; (try exact rfl); done))))); simp only [go_sem]))
       refine jaf ?_
       refine ⟨rfl, .bool _, ?_, rfl, hG⟩
       simp only [go_sem, Tryz.results32]
       try rfl
    | false =>
      cases k2 with
      | true =>
        refine jag Tryz.func32 rfl rfl (nbl rfl) ?_
        simp only [go_sem, Tryz.ntmps32]
        repeat (first | refine jac rfl ?_ | (refine jas rfl ?_; (try simp only [go_sem, undef, ja7, Nat.add_eq, jbq, jbF, jbd, jbu, jbc, jao, jaZ, jba, hN, c0, c1, c6, c7, jaa, lL, jab, e0, e1, e2, e3, e4, e5, e6, e7, e8, e9, e12, e13, e14, gg51, rb]); fail_if_success refine ifC ?_) | (refine jae rfl ?_; (repeat (first | (refine jal ?_ rfl ?_; (focus (simp only [go_sem, undef, ja7, Nat.add_eq, jbq, jbF, jbd, jbu, jbc, jao, jaZ, jba, hN, c0, c1, c6, c7, jaa, lL, jab, e0, e1, e2, e3, e4, e5, e6, e7, e8, e9, e12, e13, e14, gg51, rb]; done))) | (refine jai (v := ?_) (μ' := ?_) ?_ ?_ rfl ?_; rotate_left 2; (focus (first | rfl | (simp only [go_sem, undef, ja7, Nat.add_eq, jbq, jbF, jbd, jbu, jbc, jao, jaZ, jba, hN, c0, c1, c6, c7, jaa, lL, jab, e0, e1, e2, e3, e4, e5, e6, e7, e8, e9, e12, e13, e14, gg51, rb]; done))); (focus (simp only [go_sem, undef, ja7, Nat.add_eq, jbq, jbF, jbd, jbu, jbc, jao, jaZ, jba, hN, c0, c1, c6, c7, jaa, lL, jab, e0, e1, e2, e3, e4, e5, e6, e7, e8, e9, e12, e13, e14, gg51, rb]; (try exact rfl); done))))); simp only [go_sem]))
        refine jaf ?_
        refine ⟨rfl, .bool _, ?_, rfl, hG⟩
        simp only [go_sem, Tryz.results32]
        try rfl
      | false =>
        cases k3 with
        | true =>
          cases ok
          all_goals
           refine jag Tryz.func32 rfl rfl (nbl rfl) ?_
           simp only [go_sem, Tryz.ntmps32]
           repeat (first | refine jac rfl ?_ | (refine jas rfl ?_; (try simp only [go_sem, undef, ja7, Nat.add_eq, jbq, jbF, jbd, jbu, jbc, jao, jaZ, jba, hN, c0, c1, c6, c7, jaa, lL, jab, e0, e1, e2, e3, e4, e5, e6, e7, e8, e9, e12, e13, e14, gg52, rc, lc]); fail_if_success refine ifC ?_) | (refine jae rfl ?_; (repeat (first | (refine jal ?_ rfl ?_; (focus (simp only [go_sem, undef, ja7, Nat.add_eq, jbq, jbF, jbd, jbu, jbc, jao, jaZ, jba, hN, c0, c1, c6, c7, jaa, lL, jab, e0, e1, e2, e3, e4, e5, e6, e7, e8, e9, e12, e13, e14, gg52, rc, lc]; done))) | (refine jai (v := ?_) (μ' := ?_) ?_ ?_ rfl ?_; rotate_left 2; (focus (first | rfl | (simp only [go_sem, undef, ja7, Nat.add_eq, jbq, jbF, jbd, jbu, jbc, jao, jaZ, jba, hN, c0, c1, c6, c7, jaa, lL, jab, e0, e1, e2, e3, e4, e5, e6, e7, e8, e9, e12, e13, e14, gg52, rc, lc]; done))); (focus (simp only [go_sem, undef, ja7, Nat.add_eq, jbq, jbF, jbd, jbu, jbc, jao, jaZ, jba, hN, c0, c1, c6, c7, jaa, lL, jab, e0, e1, e2, e3, e4, e5, e6, e7, e8, e9, e12, e13, e14, gg52, rc, lc]; (try exact rfl); done))))); simp only [go_sem]))
           refine jaf ?_
           refine ⟨rfl, .bool _, ?_, rfl, hG.trans Gc⟩
           simp only [go_sem, Tryz.results32]
           try rfl
        | false =>
          cases k4 with
          | true =>
            refine jag Tryz.func32 rfl rfl (nbl rfl) ?_
            simp only [go_sem, Tryz.ntmps32]
            repeat (first | refine jac rfl ?_ | (refine jas rfl ?_; (try simp only [go_sem, undef, ja7, Nat.add_eq, jbq, jbF, jbd, jbu, jbc, jao, jaZ, jba, hN, c0, c1, c6, c7, jaa, lL, jab, e0, e1, e2, e3, e4, e5, e6, e7, e8, e9, e12, e13, e14, gg53, rd]); fail_if_success refine ifC ?_) | (refine jae rfl ?_; (repeat (first | (refine jal ?_ rfl ?_; (focus (simp only [go_sem, undef, ja7, Nat.add_eq, jbq, jbF, jbd, jbu, jbc, jao, jaZ, jba, hN, c0, c1, c6, c7, jaa, lL, jab, e0, e1, e2, e3, e4, e5, e6, e7, e8, e9, e12, e13, e14, gg53, rd]; done))) | (refine jai (v := ?_) (μ' := ?_) ?_ ?_ rfl ?_; rotate_left 2; (focus (first | rfl | (simp only [go_sem, undef, ja7, Nat.add_eq, jbq, jbF, jbd, jbu, jbc, jao, jaZ, jba, hN, c0, c1, c6, c7, jaa, lL, jab, e0, e1, e2, e3, e4, e5, e6, e7, e8, e9, e12, e13, e14, gg53, rd]; done))); (focus (simp only [go_sem, undef, ja7, Nat.add_eq, jbq, jbF, jbd, jbu, jbc, jao, jaZ, jba, hN, c0, c1, c6, c7, jaa, lL, jab, e0, e1, e2, e3, e4, e5, e6, e7, e8, e9, e12, e13, e14, gg53, rd]; (try exact rfl); done))))); simp only [go_sem]))
            refine jaf ?_
            refine ⟨rfl, .bool _, ?_, rfl, hG.trans Gd⟩
            simp only [go_sem, Tryz.results32]
            try rfl
          | false =>
            cases k5 with
            | true =>
              refine jag Tryz.func32 rfl rfl (nbl rfl) ?_
              simp only [go_sem, Tryz.ntmps32]
              repeat (first | refine jac rfl ?_ | (refine jas rfl ?_; (try simp only [go_sem, undef, ja7, Nat.add_eq, jbq, jbF, jbd, jbu, jbc, jao, jaZ, jba, hN, c0, c1, c6, c7, jaa, lL, jab, e0, e1, e2, e3, e4, e5, e6, e7, e8, e9, e12, e13, e14]); fail_if_success refine ifC ?_) | (refine jae rfl ?_; (repeat (first | (refine jal ?_ rfl ?_; (focus (simp only [go_sem, undef, ja7, Nat.add_eq, jbq, jbF, jbd, jbu, jbc, jao, jaZ, jba, hN, c0, c1, c6, c7, jaa, lL, jab, e0, e1, e2, e3, e4, e5, e6, e7, e8, e9, e12, e13, e14]; done))) | (refine jai (v := ?_) (μ' := ?_) ?_ ?_ rfl ?_; rotate_left 2; (focus (first | rfl | (simp only [go_sem, undef, ja7, Nat.add_eq, jbq, jbF, jbd, jbu, jbc, jao, jaZ, jba, hN, c0, c1, c6, c7, jaa, lL, jab, e0, e1, e2, e3, e4, e5, e6, e7, e8, e9, e12, e13, e14]; done))); (focus (simp only [go_sem, undef, ja7, Nat.add_eq, jbq, jbF, jbd, jbu, jbc, jao, jaZ, jba, hN, c0, c1, c6, c7, jaa, lL, jab, e0, e1, e2, e3, e4, e5, e6, e7, e8, e9, e12, e13, e14]; (try exact rfl); done))))); simp only [go_sem]))
              refine jaf ?_
              refine ⟨rfl, .bool _, ?_, rfl, hG⟩
              simp only [go_sem, Tryz.results32]
              try rfl
            | false =>
              cases k6 with
              | true =>
                cases t2 with
                | true =>
                  generalize ieq (jkx l) 5 = a5
                  generalize ieq (jkx l) 6 = a6
                  refine jag Tryz.func32 rfl rfl (nbl rfl) ?_
                  simp only [go_sem, Tryz.ntmps32]
                  repeat (first | refine jac rfl ?_ | (refine jas rfl ?_; (try simp only [go_sem, undef, ja7, Nat.add_eq, jbq, jbF, jbd, jbu, jbc, jao, jaZ, jba, hN, c0, c1, c6, c7, jaa, lL, jab, e0, e1, e2, e3, e4, e5, e6, e7, e8, e9, e12, e13, e14]); fail_if_success refine ifC ?_) | (refine jae rfl ?_; (repeat (first | (refine jal ?_ rfl ?_; (focus (simp only [go_sem, undef, ja7, Nat.add_eq, jbq, jbF, jbd, jbu, jbc, jao, jaZ, jba, hN, c0, c1, c6, c7, jaa, lL, jab, e0, e1, e2, e3, e4, e5, e6, e7, e8, e9, e12, e13, e14]; done))) | (refine jai (v := ?_) (μ' := ?_) ?_ ?_ rfl ?_; rotate_left 2; (focus (first | rfl | (simp only [go_sem, undef, ja7, Nat.add_eq, jbq, jbF, jbd, jbu, jbc, jao, jaZ, jba, hN, c0, c1, c6, c7, jaa, lL, jab, e0, e1, e2, e3, e4, e5, e6, e7, e8, e9, e12, e13, e14]; done))); (focus (simp only [go_sem, undef, ja7, Nat.add_eq, jbq, jbF, jbd, jbu, jbc, jao, jaZ, jba, hN, c0, c1, c6, c7, jaa, lL, jab, e0, e1, e2, e3, e4, e5, e6, e7, e8, e9, e12, e13, e14]; (try exact rfl); done))))); simp only [go_sem]))
                  refine jaf ?_
                  refine ⟨rfl, .bool _, ?_, rfl, hG⟩
                  simp only [go_sem, Tryz.results32]
                  try rfl
                | false =>
                  have hl2 : 2 ≤ l.length := by
                   rw [jbi, decide_eq_false_iff_not] at e13
                   have : ¬ ((l.length : Int) < 2) := e13
                   omega
                  obtain ⟨dl, hdl⟩ : ∃ d, l[l.length - 1]? = some d := ⟨_, List.getElem?_eq_getElem (by omega)⟩
                  obtain ⟨bi, bo, bc, es, hbv, hbi, hH, hE⟩ := (hL.grow hG).at hdl
                  have hlk : jkx l = dl.kind := by unfold jkx; rw [hdl]
                  obtain ⟨x0, x1, x2, x3, x4, x5, x6, x7⟩ := dl
                  obtain ⟨w1, w2, rfl, _⟩ := jcD.1 hE
                  have hlc := Has.cell hH 0 (by simp)
                  have hlc : jap _ bi (bo + 8 * (l.length - 1)) = some (.int .i64 x0) := hlc
                  have q1 : jar .i64 (Int.sub (.ofNat l.length) 1) = .ofNat (l.length - 1) := jce l.length 1 (by omega) (by omega)
                  have hix : ∀ (r : Rg) (x y : Operand), aev pZ r x = vi → aev pZ r y = .int .i64 (.ofNat (l.length - 1)) → jau pZ (aev pZ r) 22 x y = some (.pointer (some ⟨bi, bo + 8 * (l.length - 1), none⟩)) := fun r x y g1 g2 => ix_D (by omega) (g1.trans hbv) g2
                  rw [hlk]
                  show EndsF _ fun r μ' => r = .bool (kindB _ _ _ _ _ _ _ _ _ _ _ _ _ _ _ _ (ieq x0 5) (ieq x0 6) _) ∧ Grow μ μ'
                  obtain ⟨a5, e15⟩ : ∃ b, ieq x0 5 = b := ⟨_, rfl⟩
                  obtain ⟨a6, e16⟩ : ∃ b, ieq x0 6 = b := ⟨_, rfl⟩
                  rw [e15, e16]
                  cases a5
                  all_goals
                   refine jag Tryz.func32 rfl rfl (nbl rfl) ?_
                   simp only [go_sem, Tryz.ntmps32]
                   repeat (first | refine jac rfl ?_ | (refine jas rfl ?_; (try simp only [go_sem, undef, ja7, Nat.add_eq, jbq, jbF, jbd, jbu, jbc, jao, jaZ, jba, hN, c0, c1, c6, c7, jaa, lL, jab, e0, e1, e2, e3, e4, e5, e6, e7, e8, e9, e12, e13, e14, q1, hix, hlc, e15, e16]); fail_if_success refine ifC ?_) | (refine jae rfl ?_; (repeat (first | (refine jal ?_ rfl ?_; (focus (simp only [go_sem, undef, ja7, Nat.add_eq, jbq, jbF, jbd, jbu, jbc, jao, jaZ, jba, hN, c0, c1, c6, c7, jaa, lL, jab, e0, e1, e2, e3, e4, e5, e6, e7, e8, e9, e12, e13, e14, q1, hix, hlc, e15, e16]; done))) | (refine jai (v := ?_) (μ' := ?_) ?_ ?_ rfl ?_; rotate_left 2; (focus (first | rfl | (simp only [go_sem, undef, ja7, Nat.add_eq, jbq, jbF, jbd, jbu, jbc, jao, jaZ, jba, hN, c0, c1, c6, c7, jaa, lL, jab, e0, e1, e2, e3, e4, e5, e6, e7, e8, e9, e12, e13, e14, q1, hix, hlc, e15, e16]; done))); (focus (simp only [go_sem, undef, ja7, Nat.add_eq, jbq, jbF, jbd, jbu, jbc, jao, jaZ, jba, hN, c0, c1, c6, c7, jaa, lL, jab, e0, e1, e2, e3, e4, e5, e6, e7, e8, e9, e12, e13, e14, q1, hix, hlc, e15, e16]; (try exact rfl); done))))); simp only [go_sem]))
                   refine jaf ?_
                   refine ⟨rfl, .bool _, ?_, rfl, hG⟩
                   simp only [go_sem, Tryz.results32]
                   try rfl
              | false =>
                cases k7 with
                | true =>
                  refine jag Tryz.func32 rfl rfl (nbl rfl) ?_
                  simp only [go_sem, Tryz.ntmps32]
                  repeat (first | refine jac rfl ?_ | (refine jas rfl ?_; (try simp only [go_sem, undef, ja7, Nat.add_eq, jbq, jbF, jbd, jbu, jbc, jao, jaZ, jba, hN, c0, c1, c6, c7, jaa, lL, jab, e0, e1, e2, e3, e4, e5, e6, e7, e8, e9, e12, e13, e14]); fail_if_success refine ifC ?_) | (refine jae rfl ?_; (repeat (first | (refine jal ?_ rfl ?_; (focus (simp only [go_sem, undef, ja7, Nat.add_eq, jbq, jbF, jbd, jbu, jbc, jao, jaZ, jba, hN, c0, c1, c6, c7, jaa, lL, jab, e0, e1, e2, e3, e4, e5, e6, e7, e8, e9, e12, e13, e14]; done))) | (refine jai (v := ?_) (μ' := ?_) ?_ ?_ rfl ?_; rotate_left 2; (focus (first | rfl | (simp only [go_sem, undef, ja7, Nat.add_eq, jbq, jbF, jbd, jbu, jbc, jao, jaZ, jba, hN, c0, c1, c6, c7, jaa, lL, jab, e0, e1, e2, e3, e4, e5, e6, e7, e8, e9, e12, e13, e14]; done))); (focus (simp only [go_sem, undef, ja7, Nat.add_eq, jbq, jbF, jbd, jbu, jbc, jao, jaZ, jba, hN, c0, c1, c6, c7, jaa, lL, jab, e0, e1, e2, e3, e4, e5, e6, e7, e8, e9, e12, e13, e14]; (try exact rfl); done))))); simp only [go_sem]))
                  refine jaf ?_
                  refine ⟨rfl, .bool _, ?_, rfl, hG⟩
                  simp only [go_sem, Tryz.results32]
                  try rfl
                | false =>
                  refine jag Tryz.func32 rfl rfl (nbl rfl) ?_
                  simp only [go_sem, Tryz.ntmps32]
                  repeat (first | refine jac rfl ?_ | (refine jas rfl ?_; (try simp only [go_sem, undef, ja7, Nat.add_eq, jbq, jbF, jbd, jbu, jbc, jao, jaZ, jba, hN, c0, c1, c6, c7, jaa, lL, jab, e0, e1, e2, e3, e4, e5, e6, e7, e8, e9, e12, e13, e14]); fail_if_success refine ifC ?_) | (refine jae rfl ?_; (repeat (first | (refine jal ?_ rfl ?_; (focus (simp only [go_sem, undef, ja7, Nat.add_eq, jbq, jbF, jbd, jbu, jbc, jao, jaZ, jba, hN, c0, c1, c6, c7, jaa, lL, jab, e0, e1, e2, e3, e4, e5, e6, e7, e8, e9, e12, e13, e14]; done))) | (refine jai (v := ?_) (μ' := ?_) ?_ ?_ rfl ?_; rotate_left 2; (focus (first | rfl | (simp only [go_sem, undef, ja7, Nat.add_eq, jbq, jbF, jbd, jbu, jbc, jao, jaZ, jba, hN, c0, c1, c6, c7, jaa, lL, jab, e0, e1, e2, e3, e4, e5, e6, e7, e8, e9, e12, e13, e14]; done))); (focus (simp only [go_sem, undef, ja7, Nat.add_eq, jbq, jbF, jbd, jbu, jbc, jao, jaZ, jba, hN, c0, c1, c6, c7, jaa, lL, jab, e0, e1, e2, e3, e4, e5, e6, e7, e8, e9, e12, e13, e14]; (try exact rfl); done))))); simp only [go_sem]))
                  refine jaf ?_
                  refine ⟨rfl, .bool _, ?_, rfl, hG⟩
                  simp only [go_sem, Tryz.results32]
                  try rfl
 obtain ⟨r, μ', h1, rfl, h2⟩ := key
 exact ⟨μ', h1, h2⟩
end
noncomputable section
section
set_option linter.defProp false
variable {X : XT} {ev : Code → Rg → Mem → Option (Ax × Rg × Mem)}
def gg19 := go_call (P := pZ) (X := X) (ev := ev) (S := S0) Tryz.func19 rfl rfl
def gg6 := go_call (P := pZ) (X := X) (ev := ev) (S := S0) Tryz.func6 rfl rfl
end
def goR (F : Dat → Int → Int) : List Dat → Int → Int
 | [], m => m
 | d :: r, m => if F d m < 0 then -1 else goR F r (F d m)
def badB (b1 b2 b3 b4 r o k : Bool) : Bool := b1 || b2 || (b3 && b4) || !r || !o || !k
def jb9 : Nat → Nat → Dat → Int → Int
 | 0, _, _, _ => -1
 | n + 1, deep, .mk k m fl f neg ls s l, left => if badB (ilt left 1) (ilt 60 (.ofNat deep)) (ilt 4 k) (ilt 59 (.ofNat deep)) (jeK fl f neg ls) (onlyD (.mk k m fl f neg ls s l)) (kindD (.mk k m fl f neg ls s l)) = true then -1 else goR (jb9 n (deep + 1)) l (left - 1)
theorem goR_le {F : Dat → Int → Int} (hF : ∀ d m, -1 ≤ m → -1 ≤ F d m ∧ F d m ≤ m) : ∀ (l : List Dat) (m : Int), -1 ≤ m → -1 ≤ goR F l m ∧ goR F l m ≤ m
 | [], m, h => ⟨h, Int.le_refl _⟩
 | d :: r, m, h => by
   unfold goR
   have h1 := hF d m h
   split
   ·omega
   ·have := goR_le hF r (F d m) h1.1
    omega
theorem jhz : ∀ (n deep : Nat) (d : Dat) (m : Int), -1 ≤ m → -1 ≤ jb9 n deep d m ∧ jb9 n deep d m ≤ m
 | 0, _, _, m, h => ⟨Int.le_refl _, h⟩
 | n + 1, deep, .mk k m' fl f neg ls s l, m, h => by
   unfold jb9
   split
   ·omega
   ·rename_i hb
    have h1 : ¬ m < 1 := fun h1 => hb (by rw [show ilt m 1 = true from (jbi _ _).trans (decide_eq_true h1)]; rfl)
    have := goR_le (jhz n (deep + 1)) l (m - 1) (by omega)
    omega
theorem jgi {n deep : Nat} (hdn : deep ≤ 200) {l : List Dat} {v : Value} (hl : l.length ≤ 4000) (ih : ∀ {d : Dat} {cs : List Value} {m : Int} {X : XT} {g : Nat} {μ : Mem}, d ∈ l → jbx X → jbT X → Lay μ → jcL X → IsD μ d cs → -1 ≤ m → m ≤ 3000 → 101000 + 5000 * n ≤ g →
  ∃ (μ' : Mem), aFun pZ (jan pZ X S0 g) 19 [.agg cs.toArray, .int .i64 m, .int .i64 (.ofNat (deep + 1))] μ = some (.int .i64 (jb9 n (deep + 1) d m), μ') ∧ Grow μ μ') :
  ∀ (j i : Nat), i + j = l.length → ∀ {X : XT} {e : Nat} {tm : T Value} {μ : Mem} {m : Int}, jbx X → jbT X → Lay μ → jcL X → IsL μ l v → -1 ≤ m → m ≤ 3000 → 101000 + 5000 * n ≤ e →
  jak tm 1 = .int .i64 m → jak tm 2 = .int .i64 (.ofNat deep) → jak tm 43 = v → jak tm 44 = .int .i64 (.ofNat l.length) → jak tm 45 = .int .i64 (.ofNat i) →
  EndsC (jan pZ X S0 (e + j + 30) (.loop (jaB Tryz.f19 0)) ⟨58, tm, [], none⟩ μ) fun x r μ' => Grow μ μ' ∧ ∃ tm', r = ⟨58, tm', [], none⟩ ∧
   ((x = .exit 0 ∧ jak tm' 1 = .int .i64 (goR (jb9 n (deep + 1)) (l.drop i) m)) ∨ (x = .ret ∧ goR (jb9 n (deep + 1)) (l.drop i) m = -1 ∧ jak tm' 6 = .int .i64 (-1))) := by
 intro j
 induction j with
 | zero =>
   intro i hi X e tm μ m hX1 hX2 hY hX hL hm hm2 he h1 h2 h43 h44 h45
   have hi : i = l.length := hi
   have e1 : ilt (.ofNat i) (.ofNat l.length) = false := (jaq _ _).trans (decide_eq_false (by omega))
   refine jam ?_
   repeat (first | refine jac rfl ?_ | (refine jas rfl ?_; (try simp only [go_sem, h44, h45, e1]); fail_if_success refine ifC ?_) | (refine jae rfl ?_; (repeat (first | (refine jal ?_ rfl ?_; (focus (simp only [go_sem, h44, h45, e1]; done))) | (refine jai (v := ?_) (μ' := ?_) ?_ ?_ rfl ?_; rotate_left 2; (focus (first | rfl | (simp only [go_sem, h44, h45, e1]; done))); (focus (simp only [go_sem, h44, h45, e1]; (try exact rfl); done))))); simp only [go_sem]))
   refine ⟨Grow.refl _, _, rfl, .inl ⟨by trivial, ?_⟩⟩
   rw [hi, List.drop_length]
   simp only [go_sem, h1, goR]
 | succ j ihj =>
   intro i hi X e tm μ m hX1 hX2 hY hX hL hm hm2 he h1 h2 h43 h44 h45
   have hlt : i < l.length := by omega
   have hdr : l.drop i = l[i]'hlt :: l.drop (i + 1) := List.drop_eq_getElem_cons hlt
   have e1 : ilt (.ofNat i) (.ofNat l.length) = true := (jaq _ _).trans (decide_eq_true hlt)
   have a1 : jar .i64 (Int.add (.ofNat i) 1) = .ofNat (i + 1) := jaW i 1 (by omega)
   have a2 : jar .i64 (Int.add (.ofNat deep) 1) = .ofNat (deep + 1) := jaW deep 1 (by omega)
   obtain ⟨bi, bo, bc, cs, hv, hb, hH, hD⟩ := hL.at (List.getElem?_eq_getElem hlt)
   have hix : ∀ (r : Rg) (x y : Operand), aev pZ r x = v → aev pZ r y = .int .i64 (.ofNat i) → jau pZ (aev pZ r) 22 x y = some (.pointer (some ⟨bi, bo + 8 * i, none⟩)) := fun r x y g1 g2 => ix_D hlt (g1.trans hv) g2
   have hl1 := Has.ld_D hH hD.eight.1
   obtain ⟨μ1, hμ1⟩ : ∃ μ1 : Mem, μ1 = putL ⟨μ.obs.set μ.next (obDt zD8), μ.next + 1⟩ μ.next 0 cs := ⟨_, rfl⟩
   have hst := st_D (o := 0) (blk_D (μ := μ) (l := zD8)) (by omega) hD.eight.1 hD.eight.2
   have hG1 : Grow μ μ1 := by rw [hμ1]; exact (jbp μ _).put_new (Nat.le_refl _)
   have hl2 : jbX pZ μ1 31 (.pointer (some ⟨μ.next, 0, none⟩)) = some (.agg cs.toArray) := by
    rw [hμ1]
    exact Has.ld_D (Has.of_put (vs := cs) blk_D (by rw [hD.eight.1]; omega)) hD.eight.1
   rw [← hμ1] at hst
   obtain ⟨μ2, hr, hG2⟩ := ih (X := X) (g := e + (j + 1) + 22) (List.getElem_mem hlt) hX1 hX2 (hY.grow hG1) hX (hD.grow hG1) hm hm2 (by omega)
   obtain ⟨hr1, hr2⟩ := jhz n (deep + 1) (l[i]'hlt) m hm
   have hG : Grow μ μ2 := hG1.trans hG2
   rw [hdr]
   obtain ⟨r, hre⟩ : ∃ r, r = jb9 n (deep + 1) (l[i]'hlt) m := ⟨_, rfl⟩
   have hgo : goR (jb9 n (deep + 1)) (l[i]'hlt :: l.drop (i + 1)) m = if r < 0 then -1 else goR (jb9 n (deep + 1)) (l.drop (i + 1)) r := by rw [goR, hre]
   rw [hgo]
   rw [← hre] at hr hr1 hr2
   by_cases hneg : r < 0
   ·have e2 : ilt r 0 = true := (jbi _ _).trans (decide_eq_true hneg)
    rw [if_pos hneg]
    refine jam ?_
    repeat (first | refine jac rfl ?_ | (refine jas rfl ?_; (try simp only [go_sem, h1, h2, h43, h44, h45, e1, hix, hl1, al_D, Nat.add_eq, hst, hl2, a2, gg19, hr, e2]); fail_if_success refine ifC ?_) | (refine jae rfl ?_; (repeat (first | (refine jal ?_ rfl ?_; (focus (simp only [go_sem, h1, h2, h43, h44, h45, e1, hix, hl1, al_D, Nat.add_eq, hst, hl2, a2, gg19, hr, e2]; done))) | (refine jai (v := ?_) (μ' := ?_) ?_ ?_ rfl ?_; rotate_left 2; (focus (first | rfl | (simp only [go_sem, h1, h2, h43, h44, h45, e1, hix, hl1, al_D, Nat.add_eq, hst, hl2, a2, gg19, hr, e2]; done))); (focus (simp only [go_sem, h1, h2, h43, h44, h45, e1, hix, hl1, al_D, Nat.add_eq, hst, hl2, a2, gg19, hr, e2]; (try exact rfl); done))))); simp only [go_sem]))
    refine jaf ?_
    exact ⟨hG, _, rfl, .inr ⟨by trivial, by trivial, by simp only [go_sem]⟩⟩
   ·have e2 : ilt r 0 = false := (jbi _ _).trans (decide_eq_false hneg)
    rw [if_neg hneg]
    refine jam ?_
    repeat (first | refine jac rfl ?_ | (refine jas rfl ?_; (try simp only [go_sem, h1, h2, h43, h44, h45, e1, hix, hl1, al_D, Nat.add_eq, hst, hl2, a2, gg19, hr, e2, a1]); fail_if_success refine ifC ?_) | (refine jae rfl ?_; (repeat (first | (refine jal ?_ rfl ?_; (focus (simp only [go_sem, h1, h2, h43, h44, h45, e1, hix, hl1, al_D, Nat.add_eq, hst, hl2, a2, gg19, hr, e2, a1]; done))) | (refine jai (v := ?_) (μ' := ?_) ?_ ?_ rfl ?_; rotate_left 2; (focus (first | rfl | (simp only [go_sem, h1, h2, h43, h44, h45, e1, hix, hl1, al_D, Nat.add_eq, hst, hl2, a2, gg19, hr, e2, a1]; done))); (focus (simp only [go_sem, h1, h2, h43, h44, h45, e1, hix, hl1, al_D, Nat.add_eq, hst, hl2, a2, gg19, hr, e2, a1]; (try exact rfl); done))))); simp only [go_sem]))
    rw [show e + (j + 1) + 29 = e + j + 30 from by omega]
    refine EndsC.mono (ihj (i + 1) (by omega) hX1 hX2 (hY.grow hG) hX (hL.grow hG) hr1 (by omega) he (by simp only [go_sem]) (by simp only [go_sem, h2]) (by simp only [go_sem, h43]) (by simp only [go_sem, h44]) (by simp only [go_sem])) ?_
    rintro x r' μ' ⟨g1, g2⟩
    exact ⟨hG.trans g1, g2⟩
theorem right_eq : ∀ (n : Nat) {deep : Nat}, deep + n ≤ 200 → ∀ {d : Dat} {cs : List Value} {m : Int} {X : XT} {g : Nat} {μ : Mem}, Sm n d → jbx X → jbT X → Lay μ → jcL X → IsD μ d cs → -1 ≤ m → m ≤ 3000 → 101000 + 5000 * n ≤ g →
  ∃ (μ' : Mem), aFun pZ (jan pZ X S0 g) 19 [.agg cs.toArray, .int .i64 m, .int .i64 (.ofNat deep)] μ = some (.int .i64 (jb9 n deep d m), μ') ∧ Grow μ μ' := by
 intro n
 induction n with
 | zero => intro deep hdn d cs m X g μ hS; exact hS.elim
 | succ n ih =>
   intro deep hdn d cs m X g μ hS hX1 hX2 hY hX hD hm hm2 hg
   obtain ⟨k, hk, rfl⟩ : ∃ k, 100900 + 5000 * (n + 1) ≤ k ∧ g = k + 100 := ⟨g - 100, by omega, by omega⟩
   have hS0 := hS
   obtain ⟨kd, n', fl, f, neg, ls, s, l⟩ := d
   obtain ⟨hls, _, hll, hsub⟩ : ls.length ≤ 200 ∧ (bys s).length ≤ 5000 ∧ l.length ≤ 4000 ∧ ∀ x ∈ l, Sm n x := hS
   have hf := bits_lt hD rfl
   have hD0 := hD
   obtain ⟨vl, vi, rfl, _, hU, hL⟩ := jcD.1 hD
   have h1 := jhR μ 31 [.int .i64 kd, .int .i64 n', .bool fl, .float .f64 f, .bool neg, vl, .string s, vi]
   have hG1 := jbp μ (obL 31 [.int .i64 kd, .int .i64 n', .bool fl, .float .f64 f, .bool neg, vl, .string s, vi])
   obtain ⟨μ1, hμ1⟩ : ∃ μ1 : Mem, μ1 = ⟨μ.obs.set μ.next (obL 31 [.int .i64 kd, .int .i64 n', .bool fl, .float .f64 f, .bool neg, vl, .string s, vi]), μ.next + 1⟩ := ⟨_, rfl⟩
   rw [← hμ1] at h1 hG1
   have n1 : μ1.next = μ.next + 1 := by rw [hμ1]
   obtain ⟨c0, _, _, _, _, _, _, _⟩ := Has.c8 h1
   have hN := has_N h1
   obtain ⟨μ2, r1, G2⟩ := jhA (X := X) (g := k + 96) (fl := fl) (neg := neg) hX hf (hU.grow hG1) hls (by omega)
   have h2 : Has μ2 μ.next 0 _ := h1.keep (G2.2 _ (by omega))
   have hl2 := Has.ld_D h2 rfl
   obtain ⟨μ3, r2, G3⟩ := only_eq (X := X) (g := k + 96) hX ((hD0.grow hG1).grow G2) (by intro _ _ _ _ _ _ _ _ e; cases e; exact hls) (by omega)
   have h3 : Has μ3 μ.next 0 _ := h2.keep (G3.2 _ (by have := G2.1; omega))
   have hl3 := Has.ld_D h3 rfl
   have G13 := (hG1.trans G2).trans G3
   obtain ⟨μ4, r3, G4⟩ := kind_eq (X := X) (g := k + 96) hX1 hX2 (hY.grow G13) hX hS0 (hD0.grow G13) (by omega)
   have h4 : Has μ4 μ.next 0 _ := h3.keep (G4.2 _ (by have := G2.1; have := G3.1; omega))
   obtain ⟨_, _, _, _, _, _, _, c7⟩ := Has.c8 h4
   have G14 := G13.trans G4
   have lL := (hL.grow G14).len
   obtain ⟨b1, t1⟩ : ∃ b, ilt m 1 = b := ⟨_, rfl⟩
   obtain ⟨b2, t2⟩ : ∃ b, ilt 60 (.ofNat deep) = b := ⟨_, rfl⟩
   obtain ⟨b3, t3⟩ : ∃ b, ilt 4 kd = b := ⟨_, rfl⟩
   obtain ⟨b4, t4⟩ : ∃ b, ilt 59 (.ofNat deep) = b := ⟨_, rfl⟩
   obtain ⟨b5, t5⟩ : ∃ b, jeK fl f neg ls = b := ⟨_, rfl⟩
   obtain ⟨b6, t6⟩ : ∃ b, onlyD (.mk kd n' fl f neg ls s l) = b := ⟨_, rfl⟩
   obtain ⟨b7, t7⟩ : ∃ b, kindD (.mk kd n' fl f neg ls s l) = b := ⟨_, rfl⟩
   have hR : jb9 (n + 1) deep (.mk kd n' fl f neg ls s l) m = if badB b1 b2 b3 b4 b5 b6 b7 = true then -1 else goR (jb9 n (deep + 1)) l (m - 1) := by
    rw [jb9, t1, t2, t3, t4, t5, t6, t7]
   rw [hR]
   rw [t5] at r1
   rw [t6] at r2
   rw [t7] at r3
   have key : EndsF (aFun pZ (jan pZ X S0 (k + 100)) 19 [.agg #[.int .i64 kd, .int .i64 n', .bool fl, .float .f64 f, .bool neg, vl, .string s, vi], .int .i64 m, .int .i64 (.ofNat deep)] μ) fun w μ' => w = .int .i64 (if badB b1 b2 b3 b4 b5 b6 b7 = true then -1 else goR (jb9 n (deep + 1)) l (m - 1)) ∧ Grow μ μ' := by
    have cc : (b1 = true) ∨ (b1 = false ∧ b2 = true) ∨ (b1 = false ∧ b2 = false ∧ b3 = true ∧ b4 = true) ∨
      (b1 = false ∧ b2 = false ∧ b3 = true ∧ b4 = false ∧ b5 = false) ∨ (b1 = false ∧ b2 = false ∧ b3 = false ∧ b5 = false) ∨
      (b1 = false ∧ b2 = false ∧ b3 = true ∧ b4 = false ∧ b5 = true ∧ b6 = false) ∨ (b1 = false ∧ b2 = false ∧ b3 = false ∧ b5 = true ∧ b6 = false) ∨
      (b1 = false ∧ b2 = false ∧ b3 = true ∧ b4 = false ∧ b5 = true ∧ b6 = true ∧ b7 = false) ∨ (b1 = false ∧ b2 = false ∧ b3 = false ∧ b5 = true ∧ b6 = true ∧ b7 = false) ∨
      (b1 = false ∧ b2 = false ∧ b3 = true ∧ b4 = false ∧ b5 = true ∧ b6 = true ∧ b7 = true) ∨ (b1 = false ∧ b2 = false ∧ b3 = false ∧ b5 = true ∧ b6 = true ∧ b7 = true) := by
     cases b1 <;> cases b2 <;> cases b3 <;> cases b4 <;> cases b5 <;> cases b6 <;> cases b7 <;> simp
    rcases cc with rfl | ⟨rfl, rfl⟩ | ⟨rfl, rfl, rfl, rfl⟩ | ⟨rfl, rfl, rfl, rfl, rfl⟩ | ⟨rfl, rfl, rfl, rfl⟩ | ⟨rfl, rfl, rfl, rfl, rfl, rfl⟩ | ⟨rfl, rfl, rfl, rfl, rfl⟩ | ⟨rfl, rfl, rfl, rfl, rfl, rfl, rfl⟩ | ⟨rfl, rfl, rfl, rfl, rfl, rfl⟩ | ⟨rfl, rfl, rfl, rfl, rfl, rfl, rfl⟩ | ⟨rfl, rfl, rfl, rfl, rfl, rfl⟩
    rotate_left 9
    ·have hm1 : ¬ m < 1 := by rw [jbi, decide_eq_false_iff_not] at t1; exact t1
     have a1 : jar .i64 (Int.sub m 1) = m - 1 := jdj m 1 (by omega) (by omega)
     refine jag Tryz.func19 rfl rfl (nbl rfl) ?_
     simp only [go_sem, Tryz.ntmps19]
     refine jah ?_
     refine jaA ?_ ?_
     ·rfl
     simp only [go_sem, ja7, Nat.add_eq]
     rw [← hμ1]
     repeat (first | refine jac rfl ?_ | (refine jas rfl ?_; (try simp only [go_sem, undef, jbq, jbd, jbc, jao, jba, c0, hN, hl2, hl3, c7, jaa, lL, jab, t1, t2, t3, t4, gg30, r1, gg31, r2, gg32, r3, a1]); fail_if_success refine ifC ?_) | (refine jae rfl ?_; (repeat (first | (refine jal ?_ rfl ?_; (focus (simp only [go_sem, undef, jbq, jbd, jbc, jao, jba, c0, hN, hl2, hl3, c7, jaa, lL, jab, t1, t2, t3, t4, gg30, r1, gg31, r2, gg32, r3, a1]; done))) | (refine jai (v := ?_) (μ' := ?_) ?_ ?_ rfl ?_; rotate_left 2; (focus (first | rfl | (simp only [go_sem, undef, jbq, jbd, jbc, jao, jba, c0, hN, hl2, hl3, c7, jaa, lL, jab, t1, t2, t3, t4, gg30, r1, gg31, r2, gg32, r3, a1]; done))); (focus (simp only [go_sem, undef, jbq, jbd, jbc, jao, jba, c0, hN, hl2, hl3, c7, jaa, lL, jab, t1, t2, t3, t4, gg30, r1, gg31, r2, gg32, r3, a1]; (try exact rfl); done))))); simp only [go_sem]))
     rw [show k + 94 = (k + 64 - l.length) + l.length + 30 from by omega]
     refine EndsC.mono (jgi (n := n) (deep := deep) (by omega) hll (fun hm hX1 hX2 hY hX hD h1 h2 hg => ih (by omega) (hsub _ hm) hX1 hX2 hY hX hD h1 h2 hg) l.length 0 (Nat.zero_add _) (m := m - 1) hX1 hX2 (hY.grow G14) hX (hL.grow G14) (by omega) (by omega) (by omega) (by simp only [go_sem]) (by simp only [go_sem]) (by simp only [go_sem]) (by simp only [go_sem]) (by simp only [go_sem]; try rfl)) ?_
     rintro x r μ' ⟨g1, tm', rfl, ⟨rfl, q1⟩ | ⟨rfl, q0, q1⟩⟩
     ·simp only [jaU, reduceIte, jaj]
      rw [List.drop_zero] at q1
      repeat (first | refine jac rfl ?_ | (refine jas rfl ?_; (try simp only [go_sem, q1]); fail_if_success refine ifC ?_) | (refine jae rfl ?_; (repeat (first | (refine jal ?_ rfl ?_; (focus (simp only [go_sem, q1]; done))) | (refine jai (v := ?_) (μ' := ?_) ?_ ?_ rfl ?_; rotate_left 2; (focus (first | rfl | (simp only [go_sem, q1]; done))); (focus (simp only [go_sem, q1]; (try exact rfl); done))))); simp only [go_sem]))
      refine jaf ?_
      refine ⟨rfl, .int .i64 (goR (jb9 n (deep + 1)) l (m - 1)), ?_, rfl, G14.trans g1⟩
      simp only [go_sem, Tryz.results19]
     ·simp only [jaU]
      rw [List.drop_zero] at q0
      refine ⟨rfl, .int .i64 (-1), ?_, ?_, G14.trans g1⟩
      ·skip
       simp only [go_sem, Tryz.results19]
       rw [q1]
      ·rw [← q0]
       rfl
    ·have hm1 : ¬ m < 1 := by rw [jbi, decide_eq_false_iff_not] at t1; exact t1
     have a1 : jar .i64 (Int.sub m 1) = m - 1 := jdj m 1 (by omega) (by omega)
     refine jag Tryz.func19 rfl rfl (nbl rfl) ?_
     simp only [go_sem, Tryz.ntmps19]
     refine jah ?_
     refine jaA ?_ ?_
     ·rfl
     simp only [go_sem, ja7, Nat.add_eq]
     rw [← hμ1]
     repeat (first | refine jac rfl ?_ | (refine jas rfl ?_; (try simp only [go_sem, undef, jbq, jbd, jbc, jao, jba, c0, hN, hl2, hl3, c7, jaa, lL, jab, t1, t2, t3, t4, gg30, r1, gg31, r2, gg32, r3, a1]); fail_if_success refine ifC ?_) | (refine jae rfl ?_; (repeat (first | (refine jal ?_ rfl ?_; (focus (simp only [go_sem, undef, jbq, jbd, jbc, jao, jba, c0, hN, hl2, hl3, c7, jaa, lL, jab, t1, t2, t3, t4, gg30, r1, gg31, r2, gg32, r3, a1]; done))) | (refine jai (v := ?_) (μ' := ?_) ?_ ?_ rfl ?_; rotate_left 2; (focus (first | rfl | (simp only [go_sem, undef, jbq, jbd, jbc, jao, jba, c0, hN, hl2, hl3, c7, jaa, lL, jab, t1, t2, t3, t4, gg30, r1, gg31, r2, gg32, r3, a1]; done))); (focus (simp only [go_sem, undef, jbq, jbd, jbc, jao, jba, c0, hN, hl2, hl3, c7, jaa, lL, jab, t1, t2, t3, t4, gg30, r1, gg31, r2, gg32, r3, a1]; (try exact rfl); done))))); simp only [go_sem]))
     rw [show k + 94 = (k + 64 - l.length) + l.length + 30 from by omega]
     refine EndsC.mono (jgi (n := n) (deep := deep) (by omega) hll (fun hm hX1 hX2 hY hX hD h1 h2 hg => ih (by omega) (hsub _ hm) hX1 hX2 hY hX hD h1 h2 hg) l.length 0 (Nat.zero_add _) (m := m - 1) hX1 hX2 (hY.grow G14) hX (hL.grow G14) (by omega) (by omega) (by omega) (by simp only [go_sem]) (by simp only [go_sem]) (by simp only [go_sem]) (by simp only [go_sem]) (by simp only [go_sem]; try rfl)) ?_
     rintro x r μ' ⟨g1, tm', rfl, ⟨rfl, q1⟩ | ⟨rfl, q0, q1⟩⟩
     ·simp only [jaU, reduceIte, jaj]
      rw [List.drop_zero] at q1
      repeat (first | refine jac rfl ?_ | (refine jas rfl ?_; (try simp only [go_sem, q1]); fail_if_success refine ifC ?_) | (refine jae rfl ?_; (repeat (first | (refine jal ?_ rfl ?_; (focus (simp only [go_sem, q1]; done))) | (refine jai (v := ?_) (μ' := ?_) ?_ ?_ rfl ?_; rotate_left 2; (focus (first | rfl | (simp only [go_sem, q1]; done))); (focus (simp only [go_sem, q1]; (try exact rfl); done))))); simp only [go_sem]))
      refine jaf ?_
      refine ⟨rfl, .int .i64 (goR (jb9 n (deep + 1)) l (m - 1)), ?_, rfl, G14.trans g1⟩
      simp only [go_sem, Tryz.results19]
     ·simp only [jaU]
      rw [List.drop_zero] at q0
      refine ⟨rfl, .int .i64 (-1), ?_, ?_, G14.trans g1⟩
      ·skip
       simp only [go_sem, Tryz.results19]
       rw [q1]
      ·rw [← q0]
       rfl
    all_goals
     refine jag Tryz.func19 rfl rfl (nbl rfl) ?_
     simp only [go_sem, Tryz.ntmps19]
     refine jah ?_
     refine jaA ?_ ?_
     ·rfl
     simp only [go_sem, ja7, Nat.add_eq]
     rw [← hμ1]
     repeat (first | refine jac rfl ?_ | (refine jas rfl ?_; (try simp only [go_sem, undef, jbq, jbd, jbc, jao, jba, c0, hN, hl2, hl3, c7, jaa, lL, jab, t1, t2, t3, t4, gg30, r1, gg31, r2, gg32, r3]); fail_if_success refine ifC ?_) | (refine jae rfl ?_; (repeat (first | (refine jal ?_ rfl ?_; (focus (simp only [go_sem, undef, jbq, jbd, jbc, jao, jba, c0, hN, hl2, hl3, c7, jaa, lL, jab, t1, t2, t3, t4, gg30, r1, gg31, r2, gg32, r3]; done))) | (refine jai (v := ?_) (μ' := ?_) ?_ ?_ rfl ?_; rotate_left 2; (focus (first | rfl | (simp only [go_sem, undef, jbq, jbd, jbc, jao, jba, c0, hN, hl2, hl3, c7, jaa, lL, jab, t1, t2, t3, t4, gg30, r1, gg31, r2, gg32, r3]; done))); (focus (simp only [go_sem, undef, jbq, jbd, jbc, jao, jba, c0, hN, hl2, hl3, c7, jaa, lL, jab, t1, t2, t3, t4, gg30, r1, gg31, r2, gg32, r3]; (try exact rfl); done))))); simp only [go_sem]))
     refine jaf ?_
     refine ⟨rfl, .int .i64 (-1), ?_, rfl, by first | exact hG1 | exact hG1.trans G2 | exact G13 | exact G14⟩
     simp only [go_sem, Tryz.results19]
   obtain ⟨w, μ', h1, rfl, h2⟩ := key
   exact ⟨μ', h1, h2⟩
theorem Right_eq {n : Nat} (hn : n ≤ 200) {d : Dat} {cs : List Value} {X : XT} {g : Nat} {μ : Mem} (hS : Sm n d) (hX1 : jbx X) (hX2 : jbT X) (hY : Lay μ) (hX : jcL X) (hD : IsD μ d cs) (hg : 1200000 ≤ g) :
  ∃ (μ' : Mem), aFun pZ (jan pZ X S0 g) 6 [.agg cs.toArray] μ = some (.bool (!ilt (jb9 n 0 d 3000) 0), μ') ∧ Grow μ μ' := by
 obtain ⟨k, rfl⟩ := gle hg
 obtain ⟨h8, h1⟩ := hD.eight
 obtain ⟨μ1, hμ1⟩ : ∃ μ1 : Mem, μ1 = ⟨μ.obs.set μ.next (obL 31 cs), μ.next + 1⟩ := ⟨_, rfl⟩
 have hH := jhR μ 31 cs
 have hG1 := jbp μ (obL 31 cs)
 rw [← hμ1] at hH hG1
 have hl := Has.ld_D hH h8
 have hbx : aBox 31 (.agg cs.toArray) = some (obL 31 cs, fun id => .pointer (some ⟨id, 0, none⟩)) := box_agg _ _
 obtain ⟨μ2, r1, G2⟩ := right_eq n (deep := 0) (by omega) (m := 3000) (X := X) (g := k + 1199997) hS hX1 hX2 (hY.grow hG1) hX (hD.grow hG1) (by decide) (by decide) (by omega)
 have key : EndsF (aFun pZ (jan pZ X S0 (k + 1200000)) 6 [.agg cs.toArray] μ) fun w μ' => w = .bool (!ilt (jb9 n 0 d 3000) 0) ∧ Grow μ μ' := by
  obtain ⟨b, e⟩ : ∃ b, ilt (jb9 n 0 d 3000) 0 = b := ⟨_, rfl⟩
  rw [e]
  have z : (Value.int .i64 (.ofNat 0)) = .int .i64 0 := rfl
  rw [z] at r1
  refine jag Tryz.func6 rfl rfl (nbl rfl) ?_
  simp only [go_sem, Tryz.ntmps6]
  repeat (first | refine jac rfl ?_ | (refine jas rfl ?_; (try simp only [go_sem, hbx, Nat.add_eq, ← hμ1, hl, gg19, r1, e]); fail_if_success refine ifC ?_) | (refine jae rfl ?_; (repeat (first | (refine jal ?_ rfl ?_; (focus (simp only [go_sem, hbx, Nat.add_eq, ← hμ1, hl, gg19, r1, e]; done))) | (refine jai (v := ?_) (μ' := ?_) ?_ ?_ rfl ?_; rotate_left 2; (focus (first | rfl | (simp only [go_sem, hbx, Nat.add_eq, ← hμ1, hl, gg19, r1, e]; done))); (focus (simp only [go_sem, hbx, Nat.add_eq, ← hμ1, hl, gg19, r1, e]; (try exact rfl); done))))); simp only [go_sem]))
  refine jaf ?_
  refine ⟨rfl, .bool (!b), ?_, rfl, hG1.trans G2⟩
  simp only [go_sem, Tryz.results6]
 obtain ⟨w, μ', h1, rfl, h2⟩ := key
 exact ⟨μ', h1, h2⟩
end
noncomputable section
section
set_option linter.defProp false
variable {X : XT} {ev : Code → Rg → Mem → Option (Ax × Rg × Mem)}
def gg59 := go_call (P := pZ) (X := X) (ev := ev) (S := S0) Tryz.func59 rfl rfl
def gg37 := go_call (P := pZ) (X := X) (ev := ev) (S := S0) Tryz.func37 rfl rfl
def gg57 := go_call (P := pZ) (X := X) (ev := ev) (S := S0) Tryz.func57 rfl rfl
def gg36 := go_call (P := pZ) (X := X) (ev := ev) (S := S0) Tryz.func36 rfl rfl
end
def lval : List Nat → Nat
 | [] => 0
 | x :: r => x + 4294967296 * lval r
theorem jfD (a b : List Nat) : lval (a ++ b) = lval a + 4294967296 ^ a.length * lval b := by
 induction a with
 | nil => simp [lval]
 | cons x r ih =>
   simp only [List.cons_append, lval, List.length_cons, ih, Nat.pow_succ]
   rw [Nat.mul_add, ← Nat.mul_assoc, Nat.mul_comm 4294967296 (4294967296 ^ r.length), Nat.add_assoc]
theorem jjC (ls : List Nat) : ∀ n, n ≤ ls.length → lval (ls.take (trN ls n)) = lval (ls.take n)
 | 0, _ => rfl
 | n + 1, h => by
   unfold trN
   split
   ·rename_i h0
    rw [jjC ls n (by omega), List.take_add_one, List.getElem?_eq_getElem (by omega)]
    have e : ls[n]'(by omega) = 0 := by
     rw [List.getD_eq_getElem?_getD, List.getElem?_eq_getElem (by omega)] at h0
     exact h0
    rw [e, jfD]
    simp [lval]
   ·rfl
theorem jen (ls : List Nat) : lval (jcl ls) = lval ls := by
 unfold jcl
 rw [jjC ls ls.length (Nat.le_refl _), List.take_length]
def jdL (ls : List Nat) : Prop := ∀ x, ls.getLast? = some x → x ≠ 0
theorem jjl (ls : List Nat) : ∀ n, n ≤ ls.length → jdL (ls.take (trN ls n))
 | 0, _ => by intro x h; simp [trN] at h
 | n + 1, h => by
   unfold trN
   split
   ·exact jjl ls n (by omega)
   ·rename_i h0
    intro x hx
    rw [List.getLast?_eq_getElem?, List.length_take, show min (n + 1) ls.length - 1 = n from by omega, List.getElem?_take, if_pos (Nat.lt_succ_self n)] at hx
    rw [List.getD_eq_getElem?_getD, hx] at h0
    exact h0
theorem je0 (ls : List Nat) : jdL (jcl ls) := jjl ls ls.length (Nat.le_refl _)
theorem jjk {ls : List Nat} {x : Nat} (h : x ∈ jcl ls) : x ∈ ls := List.mem_of_mem_take h
theorem jjD : ∀ {a b : List Nat}, (∀ x ∈ a, x < 4294967296) → (∀ x ∈ b, x < 4294967296) → jdL a → jdL b → lval a = lval b → a = b
 | [], [], _, _, _, _, _ => rfl
 | [], y :: s, _, hb, _, tb, h => by
   exfalso
   have : ∀ (l : List Nat), l ≠ [] → (∀ x, l.getLast? = some x → x ≠ 0) → 0 < lval l := by
    intro l
    induction l with
    | nil => intro h; exact absurd rfl h
    | cons z r ih =>
      intro _ ht
      cases r with
      | nil => have := ht z rfl; simp only [lval]; omega
      | cons w q =>
        have := ih (by simp) (fun x hx => ht x (by simpa using hx))
        simp only [lval] at this ⊢
        omega
   have := this (y :: s) (by simp) tb
   rw [← h] at this
   exact absurd this (by simp [lval])
 | x :: r, [], ha, _, ta, _, h => by
   exfalso
   have : ∀ (l : List Nat), l ≠ [] → (∀ x, l.getLast? = some x → x ≠ 0) → 0 < lval l := by
    intro l
    induction l with
    | nil => intro h; exact absurd rfl h
    | cons z r ih =>
      intro _ ht
      cases r with
      | nil => have := ht z rfl; simp only [lval]; omega
      | cons w q =>
        have := ih (by simp) (fun x hx => ht x (by simpa using hx))
        simp only [lval] at this ⊢
        omega
   have := this (x :: r) (by simp) ta
   rw [h] at this
   exact absurd this (by simp [lval])
 | x :: r, y :: s, ha, hb, ta, tb, h => by
   have hx := ha x (List.mem_cons_self ..)
   have hy := hb y (List.mem_cons_self ..)
   simp only [lval] at h
   have e1 : x = y := by omega
   have e2 : lval r = lval s := by omega
   have tl : ∀ {z : Nat} {q : List Nat}, jdL (z :: q) → jdL q := fun {z q} t w hw => by
    cases q with
    | nil => cases hw
    | cons p q => exact t w (by simpa using hw)
   rw [e1, jjD (fun z hz => ha z (List.mem_cons_of_mem _ hz)) (fun z hz => hb z (List.mem_cons_of_mem _ hz)) (tl ta) (tl tb) e2]
theorem cloneU {X : XT} {g : Nat} {ls : List Nat} {v : Value} {μ : Mem} (h : IsU μ ls v) (hn : ls.length ≤ 1000000) (hg : 20 ≤ g) : ∃ v' μ', aFun pZ (jan pZ X S0 g) 29 [v] μ = some (v', μ') ∧ Lv μ' v' ls ∧ Grow μ μ' := by
 obtain ⟨k, rfl⟩ := gle hg
 obtain ⟨v', μ1, hap, hR, hG, _⟩ := appendU h hn
 have key : EndsF (aFun pZ (jan pZ X S0 (k + 20)) 29 [v] μ) fun w μ' => Lv μ' w ls ∧ Grow μ μ' := by
  rcases h with ⟨_, _, ⟨rfl, rfl⟩ | ⟨i, o, c, rfl, _⟩⟩
  ·skip
   refine jag Tryz.func29 rfl rfl (nbl rfl) ?_
   simp only [go_sem, Tryz.ntmps29]
   repeat (first | refine jac rfl ?_ | (refine jad rfl ?_; (try simp only [go_sem, an5, p_sl]); fail_if_success refine ifC ?_))
   refine jaf ?_
   refine ⟨rfl, .slice none 0 0, ?_, .inl ⟨rfl, rfl⟩, Grow.refl _⟩
   simp only [go_sem, Tryz.results29]
  ·skip
   refine jag Tryz.func29 rfl rfl (nbl rfl) ?_
   simp only [go_sem, Tryz.ntmps29]
   repeat (first | refine jac rfl ?_ | (refine jad rfl ?_; (try simp only [go_sem, an4, bs0, jaa, hap]); fail_if_success refine ifC ?_))
   refine jaf ?_
   refine ⟨rfl, v', ?_, hR, hG⟩
   simp only [go_sem, Tryz.results29]
 obtain ⟨w, μ', h1, h2, h3⟩ := key
 exact ⟨w, μ', h1, h2, h3⟩
theorem jj2 {ls : List Nat} (hn : ls.length ≤ 1000000) : ∀ k, k ≤ ls.length → ∀ {X : XT} {e : Nat} {tm : T Value} {v : Value} {μ : Mem}, Lv μ v ls → jak tm 0 = v → jak tm 3 = .int .i64 (.ofNat k) →
  EndsC (jan pZ X S0 (e + k + 20) (.loop (jaB Tryz.f82 0)) ⟨22, tm, [], none⟩ μ) fun x r μ' => x = .exit 0 ∧ μ' = μ ∧ ∃ tm', r = ⟨22, tm', [], none⟩ ∧ jak tm' 0 = v ∧ jak tm' 3 = .int .i64 (.ofNat (trN ls k)) := by
 intro k
 induction k with
 | zero =>
   intro hk X e tm v μ h h0 h3
   have e1 : ilt 0 (.ofNat 0) = false := rfl
   refine jam ?_
   repeat (first | refine jac rfl ?_ | (refine jas rfl ?_; (try simp only [go_sem, undef, h0, h3, e1]); fail_if_success refine ifC ?_) | (refine jae rfl ?_; (repeat (first | (refine jal ?_ rfl ?_; (focus (simp only [go_sem, undef, h0, h3, e1]; done))) | (refine jai (v := ?_) (μ' := ?_) ?_ ?_ rfl ?_; rotate_left 2; (focus (first | rfl | (simp only [go_sem, undef, h0, h3, e1]; done))); (focus (simp only [go_sem, undef, h0, h3, e1]; (try exact rfl); done))))); simp only [go_sem]))
   exact ⟨by trivial, by trivial, _, rfl, by simp only [go_sem, h0], by simp only [go_sem, h3]; rfl⟩
 | succ k ih =>
   intro hk X e tm v μ h h0 h3
   obtain ⟨a, ha0⟩ : ∃ a, ls[k]? = some a := ⟨_, List.getElem?_eq_getElem (by omega)⟩
   obtain ⟨bi, c, hv, ha, hc⟩ := h.at ha0
   have hgd : ls.getD k 0 = a := by rw [List.getD_eq_getElem?_getD, ha0]; rfl
   have e1 : ilt 0 (.ofNat (k + 1)) = true := (jaq 0 (k + 1)).trans (decide_eq_true (Nat.succ_pos k))
   have q1 : jar .i64 (Int.sub (.ofNat (k + 1)) 1) = .ofNat k := jce (k + 1) 1 (by omega) (by omega)
   have hix : ∀ (rg : Rg) (a b : Operand), aev pZ rg a = v → aev pZ rg b = .int .i64 (.ofNat k) → jau pZ (aev pZ rg) 25 a b = some (.pointer (some ⟨bi, k, none⟩)) := fun rg a b g1 g2 => by
    rw [hv] at g1
    rw [jaT (P := pZ) Tryz.underlying25 jcN rfl g1 g2 (by omega), Nat.zero_add]
   by_cases hz : a = 0
   ·have e2 : ieq (.ofNat a) 0 = true := (jaS _ 0 0 rfl).trans (decide_eq_true hz)
    have et : trN ls (k + 1) = trN ls k := by rw [trN, hgd, if_pos hz]
    rw [et]
    refine jam ?_
    repeat (first | refine jac rfl ?_ | (refine jas rfl ?_; (try simp only [go_sem, undef, h0, h3, e1, q1, hix, jbH, hc, e2]); fail_if_success refine ifC ?_) | (refine jae rfl ?_; (repeat (first | (refine jal ?_ rfl ?_; (focus (simp only [go_sem, undef, h0, h3, e1, q1, hix, jbH, hc, e2]; done))) | (refine jai (v := ?_) (μ' := ?_) ?_ ?_ rfl ?_; rotate_left 2; (focus (first | rfl | (simp only [go_sem, undef, h0, h3, e1, q1, hix, jbH, hc, e2]; done))); (focus (simp only [go_sem, undef, h0, h3, e1, q1, hix, jbH, hc, e2]; (try exact rfl); done))))); simp only [go_sem]))
    rw [show e + (k + 1) + 19 = e + k + 20 from by omega]
    exact ih (by omega) h (by simp only [go_sem, h0]) (by simp only [go_sem])
   ·have e2 : ieq (.ofNat a) 0 = false := (jaS _ 0 0 rfl).trans (decide_eq_false hz)
    have et : trN ls (k + 1) = k + 1 := by rw [trN, hgd, if_neg hz]
    rw [et]
    refine jam ?_
    repeat (first | refine jac rfl ?_ | (refine jas rfl ?_; (try simp only [go_sem, undef, h0, h3, e1, q1, hix, jbH, hc, e2]); fail_if_success refine ifC ?_) | (refine jae rfl ?_; (repeat (first | (refine jal ?_ rfl ?_; (focus (simp only [go_sem, undef, h0, h3, e1, q1, hix, jbH, hc, e2]; done))) | (refine jai (v := ?_) (μ' := ?_) ?_ ?_ rfl ?_; rotate_left 2; (focus (first | rfl | (simp only [go_sem, undef, h0, h3, e1, q1, hix, jbH, hc, e2]; done))); (focus (simp only [go_sem, undef, h0, h3, e1, q1, hix, jbH, hc, e2]; (try exact rfl); done))))); simp only [go_sem]))
    exact ⟨by trivial, by trivial, _, rfl, by simp only [go_sem, h0], by simp only [go_sem, h3]⟩
theorem trimP_eq {X : XT} {g : Nat} {ls : List Nat} {v : Value} {μ : Mem} (h : Lv μ v ls) (hn : ls.length ≤ 1000) (hg : ls.length + 100 ≤ g) : ∃ v' μ', aFun pZ (jan pZ X S0 g) 82 [v] μ = some (v', μ') ∧ Lv μ' v' (jcl ls) ∧ Grow μ μ' := by
 obtain ⟨k, hk, rfl⟩ : ∃ k, ls.length ≤ k ∧ g = k + 100 := ⟨g - 100, by omega, by omega⟩
 have lv := h.rd.len
 obtain ⟨v1, hsl, hR1, _⟩ := h.take (trN_le ls ls.length)
 have hsl : ∀ (rg : Rg) (x y : Operand), aev pZ rg x = v → aev pZ rg y = .int .i64 (.ofNat (trN ls ls.length)) → jbR pZ (aev pZ rg) 25 x none (some y) none = some v1 := fun rg x y g1 g2 => hsl _ x y g1 g2
 have hm : maxLen = 281474976710656 ∨ 1000 ≤ maxLen := .inr (by decide)
 have hlt : (ls.take (trN ls ls.length)).length ≤ 1000 := by rw [List.length_take]; omega
 obtain ⟨v2, μ2, hr, hR2, hG⟩ := cloneU (X := X) (g := k + 95) (hR1.isU (by rcases hm with h | h <;> omega)) (by omega) (by omega)
 have key : EndsF (aFun pZ (jan pZ X S0 (k + 100)) 82 [v] μ) fun w μ' => Lv μ' w (jcl ls) ∧ Grow μ μ' := by
  refine jag Tryz.func82 rfl rfl (nbl rfl) ?_
  simp only [go_sem, Tryz.ntmps82]
  repeat (first | refine jac rfl ?_ | (refine jad rfl ?_; (try simp only [go_sem, jaa, lv, jab]); fail_if_success refine ifC ?_))
  rw [show k + 96 = (k + 76 - ls.length) + ls.length + 20 from by omega]
  refine EndsC.mono (jj2 (ls := ls) (by omega) ls.length (Nat.le_refl _) h (by simp only [go_sem]) (by simp only [go_sem])) ?_
  rintro x r μ' ⟨rfl, rfl, tm', rfl, h0, h3⟩
  simp only [jaU, reduceIte, jaj]
  repeat (first | refine jac rfl ?_ | (refine jad rfl ?_; (try simp only [go_sem, h0, h3, hsl, gg29, hr]); fail_if_success refine ifC ?_))
  refine jaf ?_
  refine ⟨rfl, v2, ?_, hR2, hG⟩
  simp only [go_sem, Tryz.results82]
 obtain ⟨w, μ', h1, h2, h3⟩ := key
 exact ⟨w, μ', h1, h2, h3⟩
def ob2 (x y : Int) : Ob := .cells 2 55 #[.int .u32 x, .int .u32 y] .e 0 0 false false
theorem bs2 (ρ : Operand → Value) (a b : Operand) (x y : Int) (ha : ρ a = .int .u32 x) (hb : ρ b = .int .u32 y) : jaR pZ ρ 25 2 #[(0, a), (1, b)] = some (ob2 x y, fun id => .slice (some ⟨id, 0, none⟩) 2 4) := by
 unfold jaR
 simp only [Tryz.underlying25, jcN, jgA]
 show (match jde _ [.int .u32 0, .int .u32 0] [(0, ρ a), (1, ρ b)] with | some cs => _ | none => none) = _
 rw [ha, hb]
 rfl
theorem lv_2 {μ : Mem} {x y : Nat} (hx : x < 4294967296) (hy : y < 4294967296) : Lv ⟨μ.obs.set μ.next (ob2 (.ofNat x) (.ofNat y)), μ.next + 1⟩ (.slice (some ⟨μ.next, 0, none⟩) 2 4) [x, y] :=
 .inr ⟨μ.next, 4, 2, #[.int .u32 (.ofNat x), .int .u32 (.ofNat y)], .e, false, false, rfl, by show T.get _ _ = _; rw [T.get_set, if_pos rfl]; rfl, (nbl rfl), Nat.lt_succ_self _, fun k z hk => by
  match k with
  | 0 => simp at hk; subst hk; exact ⟨hx, rfl⟩
  | 1 => simp at hk; subst hk; exact ⟨hy, rfl⟩
  | k + 2 => simp at hk, .inl ⟨rfl, (nbl rfl)⟩⟩
def two (a : Nat) : List Nat := [a % 4294967296, a / 4294967296]
theorem jim (a : Nat) : lval (two a) = a := by simp only [two, lval]; omega
theorem ofP_eq {X : XT} {g a : Nat} {μ : Mem} (ha : a < 18446744073709551616) (hg : 200 ≤ g) : ∃ v' μ', aFun pZ (jan pZ X S0 g) 57 [u a] μ = some (v', μ') ∧ Lv μ' v' (jcl (two a)) ∧ Grow μ μ' := by
 obtain ⟨k, rfl⟩ := gle hg
 have hG := jbp μ (ob2 (.ofNat (a % 4294967296)) (.ofNat (a / 4294967296)))
 obtain ⟨v', μ2, hr, hL, G2⟩ := trimP_eq (X := X) (g := k + 197) (lv_2 (μ := μ) (x := a % 4294967296) (y := a / 4294967296) (by omega) (by omega)) (nbl rfl) (by show 2 + 100 ≤ _; omega)
 have a1 := wShr32 a
 have q1 : jar .u32 (.ofNat (W a)) = .ofNat (a % 4294967296) := by rw [q4, W_of ha]
 have q2 : jar .u32 (.ofNat (W (W a / 2 ^ 32))) = .ofNat (a / 4294967296) := by
  rw [q4, W_of ha, W_of (by omega)]
  congr 1
  omega
 have key : EndsF (aFun pZ (jan pZ X S0 (k + 200)) 57 [u a] μ) fun w μ' => Lv μ' w (jcl (two a)) ∧ Grow μ μ' := by
  have hbs : ∀ (r : Rg) (x y : Operand), aev pZ r x = .int .u32 (.ofNat (a % 4294967296)) → aev pZ r y = .int .u32 (.ofNat (a / 4294967296)) → jaR pZ (aev pZ r) 25 2 #[(0, x), (1, y)] = some (ob2 (.ofNat (a % 4294967296)) (.ofNat (a / 4294967296)), fun id => .slice (some ⟨id, 0, none⟩) 2 4) := fun r x y g1 g2 => bs2 _ x y _ _ g1 g2
  refine jag Tryz.func57 rfl rfl (nbl rfl) ?_
  simp only [go_sem, Tryz.ntmps57]
  repeat (first | refine jac rfl ?_ | (refine jas rfl ?_; (try simp only [go_sem, a1, jcv, q1, q2, hbs, Nat.add_eq, gg82, hr]); fail_if_success refine ifC ?_) | (refine jae rfl ?_; (repeat (first | (refine jal ?_ rfl ?_; (focus (simp only [go_sem, a1, jcv, q1, q2, hbs, Nat.add_eq, gg82, hr]; done))) | (refine jai (v := ?_) (μ' := ?_) ?_ ?_ rfl ?_; rotate_left 2; (focus (first | rfl | (simp only [go_sem, a1, jcv, q1, q2, hbs, Nat.add_eq, gg82, hr]; done))); (focus (simp only [go_sem, a1, jcv, q1, q2, hbs, Nat.add_eq, gg82, hr]; (try exact rfl); done))))); simp only [go_sem]))
  refine jaf ?_
  refine ⟨rfl, v', ?_, hL, hG.trans G2⟩
  simp only [go_sem, Tryz.results57]
 obtain ⟨w, μ', h1, h2, h3⟩ := key
 exact ⟨w, μ', h1, h2, h3⟩
theorem ofR_eq {X : XT} {g a : Nat} {μ : Mem} (ha : a < 18446744073709551616) (hg : 200 ≤ g) : ∃ v' μ', aFun pZ (jan pZ X S0 g) 59 [u a] μ = some (v', μ') ∧ Lv μ' v' (jcl (two a)) ∧ Grow μ μ' := by
 obtain ⟨k, rfl⟩ := gle hg
 have hG := jbp μ (ob2 (.ofNat (a % 4294967296)) (.ofNat (a / 4294967296)))
 obtain ⟨v', μ2, hr, hL, G2, _⟩ := jgF (X := X) (g := k + 197) ((lv_2 (μ := μ) (x := a % 4294967296) (y := a / 4294967296) (by omega) (by omega)).isU (nbl rfl)) (nbl rfl) (by show 2 + 100 ≤ _; omega)
 have a1 := jiH ha
 have a2 := jiG a
 have hu : u a = .int .u64 (.ofNat a) := by show Value.int .u64 (.ofNat (W a)) = _; rw [W_of ha]
 have q1 : jar .u32 (.ofNat (a % 4294967296)) = .ofNat (a % 4294967296) := by rw [q4]; congr 1; omega
 have q2 : jar .u32 (.ofNat (a / 4294967296)) = .ofNat (a / 4294967296) := by rw [q4]; congr 1; omega
 have key : EndsF (aFun pZ (jan pZ X S0 (k + 200)) 59 [u a] μ) fun w μ' => Lv μ' w (jcl (two a)) ∧ Grow μ μ' := by
  rw [hu]
  have hbs : ∀ (r : Rg) (x y : Operand), aev pZ r x = .int .u32 (.ofNat (a % 4294967296)) → aev pZ r y = .int .u32 (.ofNat (a / 4294967296)) → jaR pZ (aev pZ r) 25 2 #[(0, x), (1, y)] = some (ob2 (.ofNat (a % 4294967296)) (.ofNat (a / 4294967296)), fun id => .slice (some ⟨id, 0, none⟩) 2 4) := fun r x y g1 g2 => bs2 _ x y _ _ g1 g2
  refine jag Tryz.func59 rfl rfl (nbl rfl) ?_
  simp only [go_sem, Tryz.ntmps59]
  repeat (first | refine jac rfl ?_ | (refine jas rfl ?_; (try simp only [go_sem, a1, a2, jcv, q1, q2, hbs, Nat.add_eq, gg79, hr]); fail_if_success refine ifC ?_) | (refine jae rfl ?_; (repeat (first | (refine jal ?_ rfl ?_; (focus (simp only [go_sem, a1, a2, jcv, q1, q2, hbs, Nat.add_eq, gg79, hr]; done))) | (refine jai (v := ?_) (μ' := ?_) ?_ ?_ rfl ?_; rotate_left 2; (focus (first | rfl | (simp only [go_sem, a1, a2, jcv, q1, q2, hbs, Nat.add_eq, gg79, hr]; done))); (focus (simp only [go_sem, a1, a2, jcv, q1, q2, hbs, Nat.add_eq, gg79, hr]; (try exact rfl); done))))); simp only [go_sem]))
  refine jaf ?_
  refine ⟨rfl, v', ?_, hL, hG.trans G2⟩
  simp only [go_sem, Tryz.results59]
 obtain ⟨w, μ', h1, h2, h3⟩ := key
 exact ⟨w, μ', h1, h2, h3⟩
end
noncomputable section
theorem own_isU {μ0 μ : Mem} {v : Value} {ls : List Nat} (h : Own 55 μ0 μ v (ls.map fun x => .int .u32 (.ofNat x))) (hx : ∀ x ∈ ls, x < 4294967296) (hl : ls.length ≤ maxLen) : IsU μ ls v := by
 have hab := h.above
 rcases h.good with ⟨h1, h2⟩ | ⟨i, m, z, ov, fx, sh, c, h1, h2, h3, h4, h5⟩
 ·obtain rfl : ls = [] := by simpa using h2
  exact ⟨hx, hl, .inl ⟨h1, rfl⟩⟩
 ·rw [List.length_map] at h1 h3 h5
  refine ⟨hx, hl, .inr ⟨i, 0, c, h1, fun _ => ⟨(hab i ⟨_, _, h1⟩).2, m, z, ov, by rw [h2]; rfl, by simp; omega, fun k hk => ?_⟩, ?_⟩⟩
  ·rw [Nat.zero_add]
   exact h4 k (by simpa using hk)
  ·rcases h5 with ⟨g1, g2⟩ | ⟨g1, g2⟩
   ·exact .inl ⟨g1, by omega⟩
   ·exact .inr ⟨g1, g2⟩
theorem own_0 (μ : Mem) : Own 55 μ ⟨μ.obs.set μ.next ob0, μ.next + 1⟩ (.slice (some ⟨μ.next, 0, none⟩) 0 0) [] :=
 ⟨.inr ⟨μ.next, 0, #[], .e, false, false, 0, rfl, by show T.get _ _ = _; rw [T.get_set, if_pos rfl]; rfl, Nat.le_refl _, fun k hk => absurd hk (Nat.not_lt_zero _), .inl ⟨rfl, rfl⟩⟩, jbp _ _, fun i hi => by
  obtain ⟨l, c, hv⟩ := hi
  injection hv with e1
  injection e1 with e2
  injection e2 with e3
  subst e3
  exact ⟨Nat.le_refl _, Nat.lt_succ_self _⟩⟩
theorem at_eq {v : Value} {ls : List Nat} {i : Nat} {μ : Mem} (h : IsU μ ls v) {X : XT} {g : Nat} (hg : 20 ≤ g) : aFun pZ (jan pZ X S0 g) 83 [v, .int .i64 (.ofNat i)] μ = some (.int .u64 (.ofNat (ls.getD i 0)), μ) := by
 obtain ⟨k, rfl⟩ := gle hg
 have lv := h.len
 refine jaI ?_
 by_cases hi : i < ls.length
 ·obtain ⟨ha, bi, o, c, hv, _, hc⟩ := h.at (List.getElem?_eq_getElem hi)
  have e1 : ilt (.ofNat i) (.ofNat ls.length) = true := (jaq _ _).trans (decide_eq_true hi)
  obtain ⟨a, ha'⟩ : ∃ a, a = ls[i]'hi := ⟨_, rfl⟩
  rw [← ha'] at ha hc
  have q1 : jar .u64 (.ofNat a) = .ofNat a := nw (by omega)
  have hix : ∀ (rg : Rg) (a b : Operand), aev pZ rg a = v → aev pZ rg b = .int .i64 (.ofNat i) → jau pZ (aev pZ rg) 25 a b = some (.pointer (some ⟨bi, o + i, none⟩)) := fun rg a b g1 g2 => ix_U hi (g1.trans hv) g2
  have hgd : ls.getD i 0 = a := by rw [List.getD_eq_getElem?_getD, List.getElem?_eq_getElem hi, ha']; rfl
  rw [hgd]
  refine jag Tryz.func83 rfl rfl (nbl rfl) ?_
  simp only [go_sem, Tryz.ntmps83]
  repeat (first | refine jac rfl ?_ | (refine jad rfl ?_; (try simp only [go_sem, jaa, lv, jab, e1, hix, jbH, hc, conv_4u, q1]); fail_if_success refine ifC ?_))
  refine jaf ?_
  refine ⟨rfl, _, ?_, rfl, rfl⟩
  simp only [go_sem, Tryz.results83]
 ·have e1 : ilt (.ofNat i) (.ofNat ls.length) = false := (jaq _ _).trans (decide_eq_false hi)
  have hgd : ls.getD i 0 = 0 := by rw [List.getD_eq_getElem?_getD, List.getElem?_eq_none (by omega)]; rfl
  rw [hgd]
  refine jag Tryz.func83 rfl rfl (nbl rfl) ?_
  simp only [go_sem, Tryz.ntmps83]
  repeat (first | refine jac rfl ?_ | (refine jad rfl ?_; (try simp only [go_sem, jaa, lv, jab, e1]); fail_if_success refine ifC ?_))
  refine jaf ?_
  refine ⟨rfl, _, ?_, rfl, rfl⟩
  simp only [go_sem, Tryz.results83]
  rfl
theorem jhO (ls : List Nat) (i : Nat) : lval (ls.drop i) = ls.getD i 0 + 4294967296 * lval (ls.drop (i + 1)) := by
 by_cases h : i < ls.length
 ·rw [List.drop_eq_getElem_cons h, lval, List.getD_eq_getElem?_getD, List.getElem?_eq_getElem h]; rfl
 ·rw [List.drop_of_length_le (by omega), List.drop_of_length_le (by omega), List.getD_eq_getElem?_getD, List.getElem?_eq_none (by omega)]; rfl
theorem getD_lt {ls : List Nat} (h : ∀ x ∈ ls, x < 4294967296) (i : Nat) : ls.getD i 0 < 4294967296 := by
 by_cases hi : i < ls.length
 ·rw [List.getD_eq_getElem?_getD, List.getElem?_eq_getElem hi]; exact h _ (List.getElem_mem hi)
 ·rw [List.getD_eq_getElem?_getD, List.getElem?_eq_none (by omega)]; decide
theorem jjI {ls : List Nat} {i : Nat} (h : ls.length ≤ i) : ls.getD i 0 = 0 := by rw [List.getD_eq_getElem?_getD, List.getElem?_eq_none h]; rfl
theorem jkh {xs ys : List Nat} {va vb : Value} {M : Nat} (hxl : xs.length ≤ M) (hyl : ys.length ≤ M) (hM : M ≤ 50000) : ∀ (m i c : Nat), i + m = M + 1 → c ≤ 1 → (m = 0 → c = 0) → ∀ {X : XT} {e : Nat} {tm : T Value} {v : Value} {μ0 μ : Mem} {out : List Nat}, IsU μ0 xs va → IsU μ0 ys vb →
  Own 55 μ0 μ v (out.map fun x => .int .u32 (.ofNat x)) → out.length = i → (∀ x ∈ out, x < 4294967296) → lval out + 4294967296 ^ i * (c + lval (xs.drop i) + lval (ys.drop i)) = lval xs + lval ys →
  jak tm 0 = va → jak tm 1 = vb → jak tm 5 = v → jak tm 6 = .int .u64 (.ofNat c) → jak tm 7 = .int .i64 (.ofNat i) →
  EndsC (jan pZ X S0 (e + m + 100) (.loop (jaB Tryz.f60 0)) ⟨45, tm, [], none⟩ μ) fun x r μ' => x = .exit 0 ∧ ∃ tm' v' out', r = ⟨45, tm', [], none⟩ ∧ jak tm' 5 = v' ∧ out'.length ≤ M + 1 ∧ Own 55 μ0 μ' v' (out'.map fun x => .int .u32 (.ofNat x)) ∧ (∀ x ∈ out', x < 4294967296) ∧ lval out' = lval xs + lval ys := by
 intro m
 induction m with
 | zero =>
   intro i c hi hc hm X e tm v μ0 μ out hA hB hO ho hx hv h0 h1 h5 h6 h7
   obtain rfl := hm rfl
   have la := (hA.grow hO.grow).len
   have lb := (hB.grow hO.grow).len
   have e1 : ilt (.ofNat i) (.ofNat xs.length) = false := (jaq _ _).trans (decide_eq_false (by omega))
   have e2 : ilt (.ofNat i) (.ofNat ys.length) = false := (jaq _ _).trans (decide_eq_false (by omega))
   have e3 : ilt 0 (.ofNat 0) = false := rfl
   refine jam ?_
   repeat (first | refine jac rfl ?_ | (refine jas rfl ?_; (try simp only [go_sem, undef, h0, h1, h5, h6, h7, jaa, la, lb, jab, e1, e2, e3]); fail_if_success refine ifC ?_) | (refine jae rfl ?_; (repeat (first | (refine jal ?_ rfl ?_; (focus (simp only [go_sem, undef, h0, h1, h5, h6, h7, jaa, la, lb, jab, e1, e2, e3]; done))) | (refine jai (v := ?_) (μ' := ?_) ?_ ?_ rfl ?_; rotate_left 2; (focus (first | rfl | (simp only [go_sem, undef, h0, h1, h5, h6, h7, jaa, la, lb, jab, e1, e2, e3]; done))); (focus (simp only [go_sem, undef, h0, h1, h5, h6, h7, jaa, la, lb, jab, e1, e2, e3]; (try exact rfl); done))))); simp only [go_sem]))
   refine ⟨by trivial, _, v, out, rfl, by simp only [go_sem, h5], by omega, hO, hx, ?_⟩
   rw [List.drop_of_length_le (by omega), List.drop_of_length_le (by omega)] at hv
   simpa [lval] using hv
 | succ m ih =>
   intro i c hi hc hm X e tm v μ0 μ out hA hB hO ho hx hv h0 h1 h5 h6 h7
   have hA' := hA.grow hO.grow
   have hB' := hB.grow hO.grow
   have la := hA'.len
   have lb := hB'.len
   have hlen : ∀ {a n : Nat}, a ≤ n → a ≤ n := fun h => h
   obtain ⟨b1, e1⟩ : ∃ b, ilt (.ofNat i) (.ofNat xs.length) = b := ⟨_, rfl⟩
   obtain ⟨b2, e2⟩ : ∃ b, ilt (.ofNat i) (.ofNat ys.length) = b := ⟨_, rfl⟩
   obtain ⟨b3, e3⟩ : ∃ b, ilt 0 (.ofNat c) = b := ⟨_, rfl⟩
   by_cases hd : b1 = false ∧ b2 = false ∧ b3 = false
   ·obtain ⟨rfl, rfl, rfl⟩ := hd
    refine jam ?_
    repeat (first | refine jac rfl ?_ | (refine jas rfl ?_; (try simp only [go_sem, undef, h0, h1, h5, h6, h7, jaa, la, lb, jab, e1, e2, e3]); fail_if_success refine ifC ?_) | (refine jae rfl ?_; (repeat (first | (refine jal ?_ rfl ?_; (focus (simp only [go_sem, undef, h0, h1, h5, h6, h7, jaa, la, lb, jab, e1, e2, e3]; done))) | (refine jai (v := ?_) (μ' := ?_) ?_ ?_ rfl ?_; rotate_left 2; (focus (first | rfl | (simp only [go_sem, undef, h0, h1, h5, h6, h7, jaa, la, lb, jab, e1, e2, e3]; done))); (focus (simp only [go_sem, undef, h0, h1, h5, h6, h7, jaa, la, lb, jab, e1, e2, e3]; (try exact rfl); done))))); simp only [go_sem]))
    rw [jaq, decide_eq_false_iff_not] at e1 e2
    have hc0 : c = 0 := by
     have : ilt (.ofNat 0) (.ofNat c) = false := e3
     rw [jaq, decide_eq_false_iff_not] at this
     omega
    refine ⟨by trivial, _, v, out, rfl, by simp only [go_sem, h5], by omega, hO, hx, ?_⟩
    rw [List.drop_of_length_le (by omega), List.drop_of_length_le (by omega), hc0] at hv
    simpa [lval] using hv
   ·have hat := fun (g : Nat) (hg : 20 ≤ g) => at_eq (i := i) hA' (X := X) hg
    have hbt := fun (g : Nat) (hg : 20 ≤ g) => at_eq (i := i) hB' (X := X) hg
    have ha := getD_lt hA.1 i
    have hb := getD_lt hB.1 i
    have da := jhO xs i
    have db := jhO ys i
    have hoff : m = 0 → xs.getD i 0 = 0 ∧ ys.getD i 0 = 0 := fun hm0 => ⟨jjI (by omega), jjI (by omega)⟩
    obtain ⟨a, hae⟩ : ∃ a, a = xs.getD i 0 := ⟨_, rfl⟩
    obtain ⟨b, hbe⟩ : ∃ b, b = ys.getD i 0 := ⟨_, rfl⟩
    rw [← hae] at hat ha da hoff
    rw [← hbe] at hbt hb db hoff
    obtain ⟨t, ht⟩ : ∃ t, t = a + b + c := ⟨_, rfl⟩
    have q1 : jar .u64 (Int.add (.ofNat a) (.ofNat b)) = .ofNat (a + b) := je9 (by omega)
    have q2 : jar .u64 (Int.add (.ofNat (a + b)) (.ofNat c)) = .ofNat t := by rw [ht]; exact je9 (by omega)
    have q3 := jiG t
    have q4' : jar .u32 (.ofNat (t % 4294967296)) = .ofNat (t % 4294967296) := by rw [q4, Nat.mod_mod]
    have q5 := jiH (a := t) (by omega)
    have q6 : jar .i64 (Int.add (.ofNat i) 1) = .ofNat (i + 1) := jaW i 1 (by omega)
    have hc' : t / 4294967296 ≤ 1 := by omega
    have hc0 : m = 0 → t / 4294967296 = 0 := fun hm0 => by
     obtain ⟨g1, g2⟩ := hoff hm0
     omega
    obtain ⟨w, hw⟩ : ∃ w, w = t % 4294967296 := ⟨_, rfl⟩
    have hwl : w < 4294967296 := by rw [hw]; exact Nat.mod_lt _ (by decide)
    obtain ⟨c', hcc⟩ : ∃ c', c' = t / 4294967296 := ⟨_, rfl⟩
    have hwt : t = w + 4294967296 * c' := by omega
    rw [← hw] at q3 q4'
    rw [← hcc] at q5 hc' hc0
    obtain ⟨v', μ2, hap, hO2⟩ := hO.push (x := .int .u32 (.ofNat w)) Tryz.underlying25 jcN rfl (by kernel_rfl) jgA rfl (by rw [List.length_map]; omega) rfl
    have hO2' : Own 55 μ0 μ2 v' ((out ++ [w]).map fun x => .int .u32 (.ofNat x)) := by rw [List.map_append]; exact hO2
    have hv' : lval (out ++ [w]) + 4294967296 ^ (i + 1) * (c' + lval (xs.drop (i + 1)) + lval (ys.drop (i + 1))) = lval xs + lval ys := by
     rw [← hv, da, db, jfD, ho, Nat.pow_succ]
     simp only [lval, Nat.mul_zero, Nat.add_zero]
     obtain ⟨P, hP⟩ : ∃ P, P = 4294967296 ^ i := ⟨_, rfl⟩
     obtain ⟨L1, hL1⟩ : ∃ L, L = lval (xs.drop (i + 1)) := ⟨_, rfl⟩
     obtain ⟨L2, hL2⟩ : ∃ L, L = lval (ys.drop (i + 1)) := ⟨_, rfl⟩
     rw [← hP, ← hL1, ← hL2]
     rw [Nat.add_assoc, Nat.mul_assoc, ← Nat.mul_add]
     congr 2
     omega
    have bs : ∀ (r : Rg) (x : Operand), aev pZ r x = .int .u32 (.ofNat w) → jaR pZ (aev pZ r) 25 1 #[(0, x)] = some (.cells 1 55 #[.int .u32 (.ofNat w)] .e 0 0 false false, fun id => .slice (some ⟨id, 0, none⟩) 1 2) := fun r x g => jbU Tryz.underlying25 jcN rfl jgA rfl g rfl
    have hx' : ∀ x ∈ out ++ [w], x < 4294967296 := fun x hxm => by
     rcases List.mem_append.1 hxm with h | h
     ·exact hx x h
     ·rw [List.mem_singleton.1 h]; exact hwl
    have cc : (b1 = true) ∨ (b1 = false ∧ b2 = true) ∨ (b1 = false ∧ b2 = false ∧ b3 = true) := by cases b1 <;> cases b2 <;> cases b3 <;> simp at hd ⊢
    have hat := hat (e + (m + 1) + 94) (by omega)
    have hbt := hbt (e + (m + 1) + 94) (by omega)
    rcases cc with rfl | ⟨rfl, rfl⟩ | ⟨rfl, rfl, rfl⟩
    all_goals
     refine jam ?_
     repeat (first | refine jac rfl ?_ | (refine jas rfl ?_; (try simp only [go_sem, undef, h0, h1, h5, h6, h7, jaa, la, lb, jab, e1, e2, e3, gg83, hat, hbt, q1, q2, q3, jcv, q4', bs, hap, q5, q6]); fail_if_success refine ifC ?_) | (refine jae rfl ?_; (repeat (first | (refine jal ?_ rfl ?_; (focus (simp only [go_sem, undef, h0, h1, h5, h6, h7, jaa, la, lb, jab, e1, e2, e3, gg83, hat, hbt, q1, q2, q3, jcv, q4', bs, hap, q5, q6]; done))) | (refine jai (v := ?_) (μ' := ?_) ?_ ?_ rfl ?_; rotate_left 2; (focus (first | rfl | (simp only [go_sem, undef, h0, h1, h5, h6, h7, jaa, la, lb, jab, e1, e2, e3, gg83, hat, hbt, q1, q2, q3, jcv, q4', bs, hap, q5, q6]; done))); (focus (simp only [go_sem, undef, h0, h1, h5, h6, h7, jaa, la, lb, jab, e1, e2, e3, gg83, hat, hbt, q1, q2, q3, jcv, q4', bs, hap, q5, q6]; (try exact rfl); done))))); simp only [go_sem]))
     rw [show e + (m + 1) + 99 = e + m + 100 from by omega]
     exact ih (i + 1) c' (by omega) hc' hc0 hA hB hO2' (by rw [List.length_append]; simp [ho]) hx' hv' (by simp only [go_sem, h0]) (by simp only [go_sem, h1]) (by simp only [go_sem, h5]) (by simp only [go_sem, h6]) (by simp only [go_sem])
theorem plusR_eq {X : XT} {g : Nat} {xs ys : List Nat} {va vb : Value} {μ : Mem} (hA : IsU μ xs va) (hB : IsU μ ys vb) (hx : xs.length ≤ 1000) (hy : ys.length ≤ 1000) (hg : 5000 ≤ g) :
  ∃ v' ls μ', aFun pZ (jan pZ X S0 g) 60 [va, vb] μ = some (v', μ') ∧ Lv μ' v' ls ∧ Grow μ μ' ∧ lval ls = lval xs + lval ys ∧ jdL ls ∧ (∀ x ∈ ls, x < 4294967296) ∧ ls.length ≤ 1001 := by
 obtain ⟨k, rfl⟩ := gle hg
 have hO0 := own_0 μ
 have key : EndsF (aFun pZ (jan pZ X S0 (k + 5000)) 60 [va, vb] μ) fun w μ' => ∃ ls, Lv μ' w ls ∧ Grow μ μ' ∧ lval ls = lval xs + lval ys ∧ jdL ls ∧ (∀ x ∈ ls, x < 4294967296) ∧ ls.length ≤ 1001 := by
  refine jag Tryz.func60 rfl rfl (nbl rfl) ?_
  simp only [go_sem, Tryz.ntmps60]
  repeat (first | refine jac rfl ?_ | (refine jad rfl ?_; (try simp only [go_sem, bs0, Nat.add_eq]); fail_if_success refine ifC ?_))
  rw [show k + 4994 = (k + 3893) + 1001 + 100 from by omega]
  refine EndsC.mono (jkh (M := 1000) hx hy (by decide) 1001 0 0 rfl (by decide) (fun h => by cases h) hA hB (out := []) hO0 rfl (by intro x h; cases h) (by simp [lval]) (by simp only [go_sem]) (by simp only [go_sem]) (by simp only [go_sem]) (by simp only [go_sem]; try rfl) (by simp only [go_sem]; try rfl)) ?_
  rintro x r μ' ⟨rfl, tm', v', out, rfl, h5, hol, hO, hxo, hval⟩
  simp only [jaU, reduceIte, jaj]
  obtain ⟨v2, μ2, hr, hL, G2, _⟩ := jgF (X := X) (g := k + 4994) (own_isU hO hxo (Nat.le_trans hol (by decide))) (by omega) (by omega)
  repeat (first | refine jac rfl ?_ | (refine jad rfl ?_; (try simp only [go_sem, h5, gg79, hr]); fail_if_success refine ifC ?_))
  refine jaf ?_
  refine ⟨rfl, v2, ?_, _, hL, hO.grow.trans G2, by rw [jen, hval], je0 _, fun x hx => hxo x (jjk hx), ?_⟩
  ·skip
   simp only [go_sem, Tryz.results60]
  ·unfold jcl
   rw [List.length_take]
   omega
 obtain ⟨w, μ', h1, ls, h2⟩ := key
 exact ⟨w, ls, μ', h1, h2⟩
end
noncomputable section
section
set_option linter.defProp false
variable {X : XT} {ev : Code → Rg → Mem → Option (Ax × Rg × Mem)}
def gg23 := go_call (P := pZ) (X := X) (ev := ev) (S := S0) Tryz.func23 rfl rfl
def gg24 := go_call (P := pZ) (X := X) (ev := ev) (S := S0) Tryz.func24 rfl rfl
end
theorem Lv.one {μ : Mem} {v : Value} {ls : List Nat} (h : Lv μ v ls) : one v = true := h.rd.one
theorem jhs {X : XT} {g : Nat} {ls : List Nat} {v : Value} {b : Bool} {μ : Mem} (h : Lv μ v ls) (hg : 20 ≤ g) : ∃ μ', aFun pZ (jan pZ X S0 g) 56 [.bool b, v] μ = some (.agg #[.bool (b && decide (0 < ls.length)), v], μ') ∧ Grow μ μ' := by
 obtain ⟨k, rfl⟩ := gle hg
 have lv := (h.grow (jbp μ obI)).rd.len
 have e1 : ilt 0 (.ofNat ls.length) = decide (0 < ls.length) := jaq 0 ls.length
 have hb : ∀ (c : Bool) (r : Rg) (x y : Operand), aev pZ r x = .bool c → aev pZ r y = v → jbG pZ (aev pZ r) 27 #[(0, x), (1, y)] = some (.agg #[.bool c, v]) := fun c r x y g1 g2 => ji3 g1 g2 rfl h.one
 have hs : ∀ c : Bool, jb6 pZ ⟨μ.obs.set μ.next obI, μ.next + 1⟩ 27 (.pointer (some ⟨μ.next, 0, none⟩)) (.agg #[.bool c, v]) = some (undef, putL ⟨μ.obs.set μ.next obI, μ.next + 1⟩ μ.next 0 [.bool c, v]) := fun c => st_I blkI rfl h.one
 have key : EndsF (aFun pZ (jan pZ X S0 (k + 20)) 56 [.bool b, v] μ) fun w μ' => w = .agg #[.bool (b && decide (0 < ls.length)), v] ∧ Grow μ μ' := by
  cases b with
  | false =>
    have hb := hb false
    refine jag Tryz.func56 rfl rfl (nbl rfl) ?_
    simp only [go_sem, Tryz.ntmps56]
    repeat (first | refine jac rfl ?_ | (refine jas rfl ?_; (try simp only [go_sem, al_I, Nat.add_eq, undef, jaa, lv, jab, e1, hb, hs]); fail_if_success refine ifC ?_) | (refine jae rfl ?_; (repeat (first | (refine jal ?_ rfl ?_; (focus (simp only [go_sem, al_I, Nat.add_eq, undef, jaa, lv, jab, e1, hb, hs]; done))) | (refine jai (v := ?_) (μ' := ?_) ?_ ?_ rfl ?_; rotate_left 2; (focus (first | rfl | (simp only [go_sem, al_I, Nat.add_eq, undef, jaa, lv, jab, e1, hb, hs]; done))); (focus (simp only [go_sem, al_I, Nat.add_eq, undef, jaa, lv, jab, e1, hb, hs]; (try exact rfl); done))))); simp only [go_sem]))
    refine jaf ?_
    refine ⟨rfl, .agg #[.bool false, v], ?_, by rw [Bool.false_and], (jbp μ obI).put_new (Nat.le_refl _)⟩
    simp only [go_sem, Tryz.results56]
    rw [ld_I blkI]
  | true =>
    have hb := hb (decide (0 < ls.length))
    refine jag Tryz.func56 rfl rfl (nbl rfl) ?_
    simp only [go_sem, Tryz.ntmps56]
    repeat (first | refine jac rfl ?_ | (refine jas rfl ?_; (try simp only [go_sem, al_I, Nat.add_eq, undef, jaa, lv, jab, e1, hb, hs]); fail_if_success refine ifC ?_) | (refine jae rfl ?_; (repeat (first | (refine jal ?_ rfl ?_; (focus (simp only [go_sem, al_I, Nat.add_eq, undef, jaa, lv, jab, e1, hb, hs]; done))) | (refine jai (v := ?_) (μ' := ?_) ?_ ?_ rfl ?_; rotate_left 2; (focus (first | rfl | (simp only [go_sem, al_I, Nat.add_eq, undef, jaa, lv, jab, e1, hb, hs]; done))); (focus (simp only [go_sem, al_I, Nat.add_eq, undef, jaa, lv, jab, e1, hb, hs]; (try exact rfl); done))))); simp only [go_sem]))
    refine jaf ?_
    refine ⟨rfl, .agg #[.bool (decide (0 < ls.length)), v], ?_, by rw [Bool.true_and], (jbp μ obI).put_new (Nat.le_refl _)⟩
    simp only [go_sem, Tryz.results56]
    rw [ld_I blkI]
 obtain ⟨w, μ', h1, rfl, h2⟩ := key
 exact ⟨μ', h1, h2⟩
theorem made_eq {X : XT} {g : Nat} {ls : List Nat} {v : Value} {b : Bool} {μ : Mem} (h : Lv μ v ls) (hg : 20 ≤ g) : ∃ w μ', aFun pZ (jan pZ X S0 g) 58 [.bool b, v] μ = some (.agg #[.bool (b && decide (0 < ls.length)), w], μ') ∧ Lv μ' w ls ∧ Grow μ μ' := by
 obtain ⟨k, rfl⟩ := gle hg
 have lv := (h.grow (jbp μ obI)).rd.len
 have key : EndsF (aFun pZ (jan pZ X S0 (k + 20)) 58 [.bool b, v] μ) fun r μ' => ∃ w, r = .agg #[.bool (b && decide (0 < ls.length)), w] ∧ Lv μ' w ls ∧ Grow μ μ' := by
  by_cases h0 : ls.length = 0
  ·have e1 : ieq (.ofNat ls.length) 0 = true := (jaS _ 0 0 rfl).trans (decide_eq_true h0)
   have hs := st_I (μ := ⟨μ.obs.set μ.next obI, μ.next + 1⟩) (x := .bool false) (y := .slice none 0 0) blkI rfl rfl
   obtain rfl : ls = [] := List.eq_nil_of_length_eq_zero h0
   refine jag Tryz.func58 rfl rfl (nbl rfl) ?_
   simp only [go_sem, Tryz.ntmps58]
   repeat (first | refine jac rfl ?_ | (refine jas rfl ?_; (try simp only [go_sem, al_I, Nat.add_eq, jaa, lv, jab, e1, jdo, hs]); fail_if_success refine ifC ?_) | (refine jae rfl ?_; (repeat (first | (refine jal ?_ rfl ?_; (focus (simp only [go_sem, al_I, Nat.add_eq, jaa, lv, jab, e1, jdo, hs]; done))) | (refine jai (v := ?_) (μ' := ?_) ?_ ?_ rfl ?_; rotate_left 2; (focus (first | rfl | (simp only [go_sem, al_I, Nat.add_eq, jaa, lv, jab, e1, jdo, hs]; done))); (focus (simp only [go_sem, al_I, Nat.add_eq, jaa, lv, jab, e1, jdo, hs]; (try exact rfl); done))))); simp only [go_sem]))
   refine jaf ?_
   refine ⟨rfl, .agg #[.bool false, .slice none 0 0], ?_, _, by simp, .inl ⟨rfl, rfl⟩, (jbp μ obI).put_new (Nat.le_refl _)⟩
   simp only [go_sem, Tryz.results58]
   rw [ld_I blkI]
  ·have e1 : ieq (.ofNat ls.length) 0 = false := (jaS _ 0 0 rfl).trans (decide_eq_false h0)
   have hb : ∀ (r : Rg) (x y : Operand), aev pZ r x = .bool b → aev pZ r y = v → jbG pZ (aev pZ r) 27 #[(0, x), (1, y)] = some (.agg #[.bool b, v]) := fun r x y g1 g2 => ji3 g1 g2 rfl h.one
   have hs := st_I (μ := ⟨μ.obs.set μ.next obI, μ.next + 1⟩) (x := .bool b) (y := v) blkI rfl h.one
   have hG : Grow μ (putL ⟨μ.obs.set μ.next obI, μ.next + 1⟩ μ.next 0 [.bool b, v]) := (jbp μ obI).put_new (Nat.le_refl _)
   refine jag Tryz.func58 rfl rfl (nbl rfl) ?_
   simp only [go_sem, Tryz.ntmps58]
   repeat (first | refine jac rfl ?_ | (refine jas rfl ?_; (try simp only [go_sem, al_I, Nat.add_eq, jaa, lv, jab, e1, hb, hs]); fail_if_success refine ifC ?_) | (refine jae rfl ?_; (repeat (first | (refine jal ?_ rfl ?_; (focus (simp only [go_sem, al_I, Nat.add_eq, jaa, lv, jab, e1, hb, hs]; done))) | (refine jai (v := ?_) (μ' := ?_) ?_ ?_ rfl ?_; rotate_left 2; (focus (first | rfl | (simp only [go_sem, al_I, Nat.add_eq, jaa, lv, jab, e1, hb, hs]; done))); (focus (simp only [go_sem, al_I, Nat.add_eq, jaa, lv, jab, e1, hb, hs]; (try exact rfl); done))))); simp only [go_sem]))
   refine jaf ?_
   refine ⟨rfl, .agg #[.bool b, v], ?_, v, by rw [decide_eq_true (show 0 < ls.length by omega), Bool.and_true], h.grow hG, hG⟩
   simp only [go_sem, Tryz.results58]
   rw [ld_I blkI]
 obtain ⟨r, μ', h1, w, rfl, h2⟩ := key
 exact ⟨w, μ', h1, h2⟩
theorem Lv.put {μ : Mem} {v : Value} {ls : List Nat} {q o n : Nat} {vs : List Value} {t : TypeId} (h : Lv μ v ls) (hq : Blk μ q n t) (ht : t ≠ 55) : Lv (putL μ q o vs) v ls := by
 rcases h with h | ⟨i, c, m, z, ov, fx, sh, h1, h2, h3, h4, h5, h6⟩
 ·exact .inl h
 ·have hne : i ≠ q := by
   rintro rfl
   obtain ⟨z', ov', fx', sh', e⟩ := hq
   rw [h2] at e
   injection e with e
   injection e with _ e
   exact ht e.symm
  exact .inr ⟨i, c, m, z, ov, fx, sh, h1, (jcM _ _ _ _ hne).trans h2, h3, by rw [jcB]; exact h4, h5, h6⟩
theorem neg_i {ρ : Operand → Value} {d : Option Tmp} {t ty : TypeId} {x : Operand} {ps : String} {af : Array Edge} {gd : Option (Nat × Bool)} {n : Int} {a : Nat} (hx : ρ x = .int .i64 n) (ha : -n = .ofNat a) (h2 : a < 9223372036854775808) : jaV pZ ρ ⟨d, .unOp .neg t x, ty, ps, af, gd⟩ = some (.int .i64 (.ofNat a)) := by
 have ha' : -n = (a : Int) := ha
 unfold jaV
 have e : pv pZ (execOp ρ ⟨d, .unOp .neg t x, ty, ps, af, gd⟩) = some (.value (.int .i64 (.ofNat a))) := by
  simp only [execOp, hx]
  show some (Next.value (.int .i64 (IntKind.i64.wrap (0 - n)))) = _
  rw [IntWalk.i64_in _ (by omega), Int.zero_sub, ha]
 simp only [opsOf, jca, hx, jaP, e]
theorem jgC (a : Nat) : (jcl (two a)).length ≤ 2 := by
 unfold jcl
 rw [List.length_take]
 exact Nat.min_le_right _ _
theorem two_lt {a : Nat} (h : a < 18446744073709551616) : ∀ x ∈ two a, x < 4294967296 := by
 intro x hx
 simp only [two, List.mem_cons, List.not_mem_nil, or_false] at hx
 rcases hx with rfl | rfl <;> omega
theorem two_pos {a : Nat} (h : 0 < a) : 0 < (jcl (two a)).length := by
 rcases Nat.eq_zero_or_pos (jcl (two a)).length with h0 | h0
 ·have := jen (two a)
  rw [List.eq_nil_of_length_eq_zero h0, jim] at this
  simp only [lval] at this
  omega
 ·exact h0
theorem of_both {n : Int} (h1 : -9223372036854775808 ≤ n) (h2 : n < 9223372036854775808) : ∃ (p : Bool) (ls : List Nat), ls.length ≤ 2 ∧ ∀ {X : XT} {g : Nat} {μ : Mem}, 6000 ≤ g →
  (∃ v μ', aFun pZ (jan pZ X S0 g) 36 [.int .i64 n] μ = some (.agg #[.bool p, v], μ') ∧ Lv μ' v ls ∧ Grow μ μ') ∧
  ∃ v μ', aFun pZ (jan pZ X S0 g) 37 [.int .i64 n] μ = some (.agg #[.bool p, v], μ') ∧ Lv μ' v ls ∧ Grow μ μ' := by
 have hmx : 1001 ≤ maxLen := by decide
 by_cases hn : n < 0
 ·obtain ⟨a, ha⟩ : ∃ a : Nat, -(n + 1) = .ofNat a := ⟨(-(n + 1)).toNat, (Int.toNat_of_nonneg (by omega)).symm⟩
  have ha' : -(n + 1) = (a : Int) := ha
  have ha1 : a < 9223372036854775808 := by omega
  have e1 : ilt n 0 = true := (jbi _ _).trans (decide_eq_true hn)
  have q1 : jar .i64 (Int.add n 1) = n + 1 := wrap_i64 (n + 1) (by omega) (by omega)
  have q2 : ∀ (r : Rg) (d : Option Tmp) (t ty : TypeId) (x : Operand) (ps : String) (af : Array Edge) (gd : Option (Nat × Bool)), aev pZ r x = .int .i64 (n + 1) → jaV pZ (aev pZ r) ⟨d, .unOp .neg t x, ty, ps, af, gd⟩ = some (.int .i64 (.ofNat a)) := fun r d t ty x ps af gd g => neg_i g ha ha1
  have q3 : jar .u64 (.ofNat a) = .ofNat a := nw (by omega)
  have q4 : jar .u64 (Int.add (.ofNat a) 1) = .ofNat (a + 1) := je9 (b := 1) (by omega)
  have q5 : jar .i64 (Int.sub (-1) n) = .ofNat a := by
   rw [show Int.sub (-1) n = .ofNat a from by show -1 - n = _; rw [← ha]; omega]
   exact wrap_i64 _ (by show -9223372036854775808 ≤ (a : Int); omega) (by show (a : Int) < _; omega)
  have hu1 : u (a + 1) = .int .u64 (.ofNat (a + 1)) := by show Value.int .u64 (.ofNat (W (a + 1))) = _; rw [W_of (by omega)]
  have hu0 : u a = .int .u64 (.ofNat a) := by show Value.int .u64 (.ofNat (W a)) = _; rw [W_of (by omega)]
  have hpos := two_pos (a := a + 1) (by omega)
  refine ⟨true, jcl (two (a + 1)), jgC _, fun {X g μ} hg => ?_⟩
  obtain ⟨k, rfl⟩ := gle hg
  have hG := jbp μ obI
  constructor
  ·obtain ⟨v, μ2, r1, hL, G2⟩ := ofP_eq (X := X) (g := k + 5994) (μ := ⟨μ.obs.set μ.next obI, μ.next + 1⟩) (a := a + 1) (by omega) (by omega)
   rw [hu1] at r1
   obtain ⟨μ3, r2, G3⟩ := jhs (X := X) (g := k + 5994) (b := true) hL (by omega)
   rw [decide_eq_true hpos, Bool.true_and] at r2
   have hB : Blk μ3 μ.next 2 27 := blkI.of_get ((G2.trans G3).2 _ (Nat.lt_succ_self _))
   have hst := st_I (x := .bool true) (y := v) hB rfl hL.one
   have hGa : Grow μ (putL μ3 μ.next 0 [.bool true, v]) := ((hG.trans G2).trans G3).put_new (Nat.le_refl _)
   have key : EndsF (aFun pZ (jan pZ X S0 (k + 6000)) 36 [.int .i64 n] μ) fun r μ' => ∃ v, r = .agg #[.bool true, v] ∧ Lv μ' v (jcl (two (a + 1))) ∧ Grow μ μ' := by
    refine jag Tryz.func36 rfl rfl (nbl rfl) ?_
    simp only [go_sem, Tryz.ntmps36]
    repeat (first | refine jac rfl ?_ | (refine jas rfl ?_; (try simp only [go_sem, al_I, Nat.add_eq, e1, q1, q2, jbw, q3, q4, gg57, r1, gg56, r2, hst]); fail_if_success refine ifC ?_) | (refine jae rfl ?_; (repeat (first | (refine jal ?_ rfl ?_; (focus (simp only [go_sem, al_I, Nat.add_eq, e1, q1, q2, jbw, q3, q4, gg57, r1, gg56, r2, hst]; done))) | (refine jai (v := ?_) (μ' := ?_) ?_ ?_ rfl ?_; rotate_left 2; (focus (first | rfl | (simp only [go_sem, al_I, Nat.add_eq, e1, q1, q2, jbw, q3, q4, gg57, r1, gg56, r2, hst]; done))); (focus (simp only [go_sem, al_I, Nat.add_eq, e1, q1, q2, jbw, q3, q4, gg57, r1, gg56, r2, hst]; (try exact rfl); done))))); simp only [go_sem]))
    refine jaf ?_
    refine ⟨rfl, .agg #[.bool true, v], ?_, v, rfl, ?_, hGa⟩
    ·skip
     simp only [go_sem, Tryz.results36]
     rw [ld_I hB]
    ·exact ((hL.grow G3).put hB (by decide))
   obtain ⟨r, μ', h1, v, rfl, h2⟩ := key
   exact ⟨v, μ', h1, h2⟩
  ·obtain ⟨v0, μ2, r1, hL0, G2⟩ := ofR_eq (X := X) (g := k + 5996) (μ := ⟨μ.obs.set μ.next obI, μ.next + 1⟩) (a := a) (by omega) (by omega)
   rw [hu0] at r1
   obtain ⟨μb, hμb⟩ : ∃ m : Mem, m = ⟨μ2.obs.set μ2.next (.cells 1 55 #[.int .u32 1] .e 0 0 false false), μ2.next + 1⟩ := ⟨_, rfl⟩
   have hGb : Grow μ2 μb := by rw [hμb]; exact jbp _ _
   have hL1 : Lv μb (.slice (some ⟨μ2.next, 0, none⟩) 1 2) [1] := .inr ⟨μ2.next, 2, 1, #[.int .u32 1], .e, false, false, rfl, by rw [hμb]; show T.get _ _ = _; rw [T.get_set, if_pos rfl], Nat.le_refl _, by rw [hμb]; exact Nat.lt_succ_self _, fun k z hk => by
    match k with
    | 0 => simp at hk; subst hk; exact ⟨by decide, rfl⟩
    | k + 1 => simp at hk, .inl ⟨rfl, Nat.le_refl _⟩⟩
   have hmx2 : (jcl (two a)).length ≤ maxLen := by have := jgC a; omega
   obtain ⟨v1, ls, μ3, r2, hL3, G3, hval, htr, hlt, hln⟩ := plusR_eq (X := X) (g := k + 5996) ((hL0.grow hGb).isU hmx2) (hL1.isU (by show 1 ≤ maxLen; omega)) (by have := jgC a; omega) (by decide) (by omega)
   have hls : ls = jcl (two (a + 1)) := by
    refine jjD hlt (fun x hx => two_lt (by omega) x (jjk hx)) htr (je0 _) ?_
    rw [hval, jen, jen, jim, jim]
    rfl
   subst hls
   obtain ⟨v, μ4, r3, hL4, G4⟩ := made_eq (X := X) (g := k + 5996) (b := true) hL3 (by omega)
   rw [decide_eq_true hpos, Bool.true_and] at r3
   have hGa := (((hG.trans G2).trans hGb).trans G3).trans G4
   have hB : Blk μ4 μ.next 2 27 := blkI.of_get ((((G2.trans hGb).trans G3).trans G4).2 _ (Nat.lt_succ_self _))
   have hst := st_I (x := .bool true) (y := v) hB rfl hL4.one
   have bs : ∀ (r : Rg), jaR pZ (aev pZ r) 25 1 #[(0, .const (.int .u32 1))] = some (.cells 1 55 #[.int .u32 1] .e 0 0 false false, fun id => .slice (some ⟨id, 0, none⟩) 1 2) := fun r => jbU (ρ := aev pZ r) (x := .const (.int .u32 1)) Tryz.underlying25 jcN rfl jgA rfl rfl rfl
   have e2 : ilt n 0 = true := e1
   have key : EndsF (aFun pZ (jan pZ X S0 (k + 6000)) 37 [.int .i64 n] μ) fun r μ' => ∃ v, r = .agg #[.bool true, v] ∧ Lv μ' v (jcl (two (a + 1))) ∧ Grow μ μ' := by
    refine jag Tryz.func37 rfl rfl (nbl rfl) ?_
    simp only [go_sem, Tryz.ntmps37]
    repeat (first | refine jac rfl ?_ | (refine jas rfl ?_; (try simp only [go_sem, al_I, Nat.add_eq, e2, q5, jbw, q3, gg59, r1, bs, ← hμb, gg60, r2, gg58, r3, hst]); fail_if_success refine ifC ?_) | (refine jae rfl ?_; (repeat (first | (refine jal ?_ rfl ?_; (focus (simp only [go_sem, al_I, Nat.add_eq, e2, q5, jbw, q3, gg59, r1, bs, ← hμb, gg60, r2, gg58, r3, hst]; done))) | (refine jai (v := ?_) (μ' := ?_) ?_ ?_ rfl ?_; rotate_left 2; (focus (first | rfl | (simp only [go_sem, al_I, Nat.add_eq, e2, q5, jbw, q3, gg59, r1, bs, ← hμb, gg60, r2, gg58, r3, hst]; done))); (focus (simp only [go_sem, al_I, Nat.add_eq, e2, q5, jbw, q3, gg59, r1, bs, ← hμb, gg60, r2, gg58, r3, hst]; (try exact rfl); done))))); simp only [go_sem]))
    refine jaf ?_
    refine ⟨rfl, .agg #[.bool true, v], ?_, v, rfl, (hL4.put hB (by decide)), hGa.put_new (Nat.le_refl _)⟩
    simp only [go_sem, Tryz.results37]
    rw [ld_I hB]
   obtain ⟨r, μ', h1, v, rfl, h2⟩ := key
   exact ⟨v, μ', h1, h2⟩
 ·obtain ⟨a, ha⟩ : ∃ a : Nat, n = .ofNat a := ⟨n.toNat, (Int.toNat_of_nonneg (by omega)).symm⟩
  subst ha
  have ha1 : a < 9223372036854775808 := by have : (a : Int) < 9223372036854775808 := h2; omega
  have e1 : ilt (.ofNat a) 0 = false := (jbZ a 0 0 rfl).trans (decide_eq_false (Nat.not_lt_zero _))
  have q3 : jar .u64 (.ofNat a) = .ofNat a := nw (by omega)
  have hu0 : u a = .int .u64 (.ofNat a) := by show Value.int .u64 (.ofNat (W a)) = _; rw [W_of (by omega)]
  refine ⟨false, jcl (two a), jgC _, fun {X g μ} hg => ?_⟩
  obtain ⟨k, rfl⟩ := gle hg
  have hG := jbp μ obI
  constructor
  ·obtain ⟨v, μ2, r1, hL, G2⟩ := ofP_eq (X := X) (g := k + 5996) (μ := ⟨μ.obs.set μ.next obI, μ.next + 1⟩) (a := a) (by omega) (by omega)
   rw [hu0] at r1
   obtain ⟨μ3, r2, G3⟩ := jhs (X := X) (g := k + 5996) (b := false) hL (by omega)
   rw [Bool.false_and] at r2
   have hB : Blk μ3 μ.next 2 27 := blkI.of_get ((G2.trans G3).2 _ (Nat.lt_succ_self _))
   have hst := st_I (x := .bool false) (y := v) hB rfl hL.one
   have hGa : Grow μ (putL μ3 μ.next 0 [.bool false, v]) := ((hG.trans G2).trans G3).put_new (Nat.le_refl _)
   have key : EndsF (aFun pZ (jan pZ X S0 (k + 6000)) 36 [.int .i64 (.ofNat a)] μ) fun r μ' => ∃ v, r = .agg #[.bool false, v] ∧ Lv μ' v (jcl (two a)) ∧ Grow μ μ' := by
    refine jag Tryz.func36 rfl rfl (nbl rfl) ?_
    simp only [go_sem, Tryz.ntmps36]
    repeat (first | refine jac rfl ?_ | (refine jas rfl ?_; (try simp only [go_sem, al_I, Nat.add_eq, e1, jbw, q3, gg57, r1, gg56, r2, hst]); fail_if_success refine ifC ?_) | (refine jae rfl ?_; (repeat (first | (refine jal ?_ rfl ?_; (focus (simp only [go_sem, al_I, Nat.add_eq, e1, jbw, q3, gg57, r1, gg56, r2, hst]; done))) | (refine jai (v := ?_) (μ' := ?_) ?_ ?_ rfl ?_; rotate_left 2; (focus (first | rfl | (simp only [go_sem, al_I, Nat.add_eq, e1, jbw, q3, gg57, r1, gg56, r2, hst]; done))); (focus (simp only [go_sem, al_I, Nat.add_eq, e1, jbw, q3, gg57, r1, gg56, r2, hst]; (try exact rfl); done))))); simp only [go_sem]))
    refine jaf ?_
    refine ⟨rfl, .agg #[.bool false, v], ?_, v, rfl, ((hL.grow G3).put hB (by decide)), hGa⟩
    simp only [go_sem, Tryz.results36]
    rw [ld_I hB]
   obtain ⟨r, μ', h1, v, rfl, h2⟩ := key
   exact ⟨v, μ', h1, h2⟩
  ·obtain ⟨v0, μ2, r1, hL0, G2⟩ := ofR_eq (X := X) (g := k + 5994) (μ := ⟨μ.obs.set μ.next obI, μ.next + 1⟩) (a := a) (by omega) (by omega)
   rw [hu0] at r1
   obtain ⟨v, μ4, r3, hL4, G4⟩ := made_eq (X := X) (g := k + 5994) (b := false) hL0 (by omega)
   rw [Bool.false_and] at r3
   have hB : Blk μ4 μ.next 2 27 := blkI.of_get ((G2.trans G4).2 _ (Nat.lt_succ_self _))
   have hst := st_I (x := .bool false) (y := v) hB rfl hL4.one
   have key : EndsF (aFun pZ (jan pZ X S0 (k + 6000)) 37 [.int .i64 (.ofNat a)] μ) fun r μ' => ∃ v, r = .agg #[.bool false, v] ∧ Lv μ' v (jcl (two a)) ∧ Grow μ μ' := by
    refine jag Tryz.func37 rfl rfl (nbl rfl) ?_
    simp only [go_sem, Tryz.ntmps37]
    repeat (first | refine jac rfl ?_ | (refine jas rfl ?_; (try simp only [go_sem, al_I, Nat.add_eq, e1, jbw, q3, gg59, r1, gg58, r3, hst]); fail_if_success refine ifC ?_) | (refine jae rfl ?_; (repeat (first | (refine jal ?_ rfl ?_; (focus (simp only [go_sem, al_I, Nat.add_eq, e1, jbw, q3, gg59, r1, gg58, r3, hst]; done))) | (refine jai (v := ?_) (μ' := ?_) ?_ ?_ rfl ?_; rotate_left 2; (focus (first | rfl | (simp only [go_sem, al_I, Nat.add_eq, e1, jbw, q3, gg59, r1, gg58, r3, hst]; done))); (focus (simp only [go_sem, al_I, Nat.add_eq, e1, jbw, q3, gg59, r1, gg58, r3, hst]; (try exact rfl); done))))); simp only [go_sem]))
    refine jaf ?_
    refine ⟨rfl, .agg #[.bool false, v], ?_, v, rfl, (hL4.put hB (by decide)), ((hG.trans G2).trans G4).put_new (Nat.le_refl _)⟩
    simp only [go_sem, Tryz.results37]
    rw [ld_I hB]
   obtain ⟨r, μ', h1, v, rfl, h2⟩ := key
   exact ⟨v, μ', h1, h2⟩
end
noncomputable section
section
set_option linter.defProp false
variable {X : XT} {ev : Code → Rg → Mem → Option (Ax × Rg × Mem)}
def gg9 := go_call (P := pZ) (X := X) (ev := ev) (S := S0) Tryz.func9 rfl rfl
def gg10 := go_call (P := pZ) (X := X) (ev := ev) (S := S0) Tryz.func10 rfl rfl
def gg11 := go_call (P := pZ) (X := X) (ev := ev) (S := S0) Tryz.func11 rfl rfl
def gg12 := go_call (P := pZ) (X := X) (ev := ev) (S := S0) Tryz.func12 rfl rfl
def gg7 := go_call (P := pZ) (X := X) (ev := ev) (S := S0) Tryz.func7 rfl rfl
def gg13 := go_call (P := pZ) (X := X) (ev := ev) (S := S0) Tryz.func13 rfl rfl
def gg20 := go_call (P := pZ) (X := X) (ev := ev) (S := S0) Tryz.func20 rfl rfl
end
theorem int_both {n : Int} (h1 : -9223372036854775808 ≤ n) (h2 : n < 9223372036854775808) : ∃ (p : Bool) (ls : List Nat), ls.length ≤ 2 ∧ ∀ {X : XT} {g : Nat} {μ : Mem}, 6100 ≤ g →
  (∃ v μ', aFun pZ (jan pZ X S0 g) 23 [.int .i64 n] μ = some (.agg #[.bool false, .float .f64 0, .bool p, v], μ') ∧ Lv μ' v ls ∧ Grow μ μ') ∧
  ∃ v μ', aFun pZ (jan pZ X S0 g) 24 [.int .i64 n] μ = some (.agg #[.bool false, .float .f64 0, .bool p, v], μ') ∧ Lv μ' v ls ∧ Grow μ μ' := by
 obtain ⟨p, ls, hl, hb⟩ := of_both h1 h2
 refine ⟨p, ls, hl, fun {X g μ} hg => ?_⟩
 obtain ⟨k, rfl⟩ := gle hg
 have hG := jbp μ obN
 obtain ⟨⟨v, μ2, r1, hL, G2⟩, ⟨w, μ3, r2, hL2, G3⟩⟩ := hb (X := X) (g := k + 6097) (μ := ⟨μ.obs.set μ.next obN, μ.next + 1⟩) (by omega)
 constructor
 ·obtain ⟨μ4, r3, G4⟩ := whole_ex (X := X) (g := k + 6097) (p := .bool p) (x := v) (μ := μ2) rfl hL.one (by omega)
  have hB : Blk μ4 μ.next 4 29 := blkN.of_get ((G2.trans G4).2 _ (Nat.lt_succ_self _))
  have hst := st_N (a := .bool false) (b := .float .f64 0) (x := .bool p) (y := v) hB rfl rfl rfl hL.one
  have key : EndsF (aFun pZ (jan pZ X S0 (k + 6100)) 23 [.int .i64 n] μ) fun r μ' => ∃ v, r = .agg #[.bool false, .float .f64 0, .bool p, v] ∧ Lv μ' v ls ∧ Grow μ μ' := by
   refine jag Tryz.func23 rfl rfl (nbl rfl) ?_
   simp only [go_sem, Tryz.ntmps23]
   repeat (first | refine jac rfl ?_ | (refine jas rfl ?_; (try simp only [go_sem, al_N, Nat.add_eq, gg36, r1, gg35, r3, hst]); fail_if_success refine ifC ?_) | (refine jae rfl ?_; (repeat (first | (refine jal ?_ rfl ?_; (focus (simp only [go_sem, al_N, Nat.add_eq, gg36, r1, gg35, r3, hst]; done))) | (refine jai (v := ?_) (μ' := ?_) ?_ ?_ rfl ?_; rotate_left 2; (focus (first | rfl | (simp only [go_sem, al_N, Nat.add_eq, gg36, r1, gg35, r3, hst]; done))); (focus (simp only [go_sem, al_N, Nat.add_eq, gg36, r1, gg35, r3, hst]; (try exact rfl); done))))); simp only [go_sem]))
   refine jaf ?_
   refine ⟨rfl, .agg #[.bool false, .float .f64 0, .bool p, v], ?_, v, rfl, (hL.grow G4).put hB (by decide), ((hG.trans G2).trans G4).put_new (Nat.le_refl _)⟩
   simp only [go_sem, Tryz.results23]
   rw [ld_N hB]
  obtain ⟨r, μ', h1, v, rfl, h2⟩ := key
  exact ⟨v, μ', h1, h2⟩
 ·have hB : Blk μ3 μ.next 4 29 := blkN.of_get (G3.2 _ (Nat.lt_succ_self _))
  have hst := st_N (a := .bool false) (b := .float .f64 0) (x := .bool p) (y := w) hB rfl rfl rfl hL2.one
  have hbd : ∀ (r : Rg) (y : Operand), aev pZ r y = .agg #[.bool p, w] → jbG pZ (aev pZ r) 29 #[(2, y)] = some (.agg #[.bool false, .float .f64 0, .bool p, w]) := fun r y g => jg6 g
  have key : EndsF (aFun pZ (jan pZ X S0 (k + 6100)) 24 [.int .i64 n] μ) fun r μ' => ∃ v, r = .agg #[.bool false, .float .f64 0, .bool p, v] ∧ Lv μ' v ls ∧ Grow μ μ' := by
   refine jag Tryz.func24 rfl rfl (nbl rfl) ?_
   simp only [go_sem, Tryz.ntmps24]
   repeat (first | refine jac rfl ?_ | (refine jas rfl ?_; (try simp only [go_sem, al_N, Nat.add_eq, gg37, r2, hbd, hst]); fail_if_success refine ifC ?_) | (refine jae rfl ?_; (repeat (first | (refine jal ?_ rfl ?_; (focus (simp only [go_sem, al_N, Nat.add_eq, gg37, r2, hbd, hst]; done))) | (refine jai (v := ?_) (μ' := ?_) ?_ ?_ rfl ?_; rotate_left 2; (focus (first | rfl | (simp only [go_sem, al_N, Nat.add_eq, gg37, r2, hbd, hst]; done))); (focus (simp only [go_sem, al_N, Nat.add_eq, gg37, r2, hbd, hst]; (try exact rfl); done))))); simp only [go_sem]))
   refine jaf ?_
   refine ⟨rfl, .agg #[.bool false, .float .f64 0, .bool p, w], ?_, w, rfl, hL2.put hB (by decide), (hG.trans G3).put_new (Nat.le_refl _)⟩
   simp only [go_sem, Tryz.results24]
   rw [ld_N hB]
  obtain ⟨r, μ', h1, v, rfl, h2⟩ := key
  exact ⟨v, μ', h1, h2⟩
theorem z_Dt : jbk pZ 31 = some (.agg zD8.toArray) := by kernel_rfl
theorem pl_D : ∃ f, pZ.underlying 31 = some (.struct f) ∧ jcI pZ f.toList = some [(0, 1), (1, 1), (2, 4), (6, 1), (7, 1)] := ⟨_, Tryz.underlying31, by kernel_rfl⟩
theorem bd_0 (ρ : Operand → Value) : jbG pZ ρ 31 #[] = some (.agg zD8.toArray) := by
 obtain ⟨f, h1, h2⟩ := pl_D
 exact jby (cs := zD8) z_Dt h1 h2 rfl
def cNum (p v : Value) : List Value := [.int .i64 0, .int .i64 0, .bool false, .float .f64 0, p, v, .string ⟨#[]⟩, .slice none 0 0]
theorem bd_N1 {ρ : Operand → Value} {b : Operand} {p v : Value} (hb : ρ b = .agg #[.bool false, .float .f64 0, p, v]) : jbG pZ ρ 31 #[(2, b)] = some (.agg (cNum p v).toArray) := by
 obtain ⟨f, h1, h2⟩ := pl_D
 refine jby (cs := cNum p v) z_Dt h1 h2 ?_
 simp only [List.map_cons, List.map_nil, hb]
 rfl
theorem bd_N2 {ρ : Operand → Value} {a b : Operand} {p v : Value} (ha : ρ a = .int .i64 0) (hb : ρ b = .agg #[.bool false, .float .f64 0, p, v]) : jbG pZ ρ 31 #[(0, a), (2, b)] = some (.agg (cNum p v).toArray) := by
 obtain ⟨f, h1, h2⟩ := pl_D
 refine jby (cs := cNum p v) z_Dt h1 h2 ?_
 simp only [List.map_cons, List.map_nil, ha, hb]
 rfl
def cSym (s : ByteArray) : List Value := [.int .i64 4, .int .i64 0, .bool false, .float .f64 0, .bool false, .slice none 0 0, .string s, .slice none 0 0]
theorem bd_S {ρ : Operand → Value} {a b : Operand} {s : ByteArray} (ha : ρ a = .int .i64 4) (hb : ρ b = .string s) : jbG pZ ρ 31 #[(0, a), (3, b)] = some (.agg (cSym s).toArray) := by
 obtain ⟨f, h1, h2⟩ := pl_D
 refine jby (cs := cSym s) z_Dt h1 h2 ?_
 simp only [List.map_cons, List.map_nil, ha, hb]
 rfl
def cLst (v : Value) : List Value := [.int .i64 5, .int .i64 0, .bool false, .float .f64 0, .bool false, .slice none 0 0, .string ⟨#[]⟩, v]
theorem bd_L {ρ : Operand → Value} {a b : Operand} {v : Value} (ha : ρ a = .int .i64 5) (hb : ρ b = v) (hv : one v = true) : jbG pZ ρ 31 #[(0, a), (4, b)] = some (.agg (cLst v).toArray) := by
 obtain ⟨f, h1, h2⟩ := pl_D
 refine jby (cs := cLst v) z_Dt h1 h2 ?_
 simp only [List.map_cons, List.map_nil, ha, hb]
 show jde _ zD8 [(0, .int .i64 5), (4, v)] = _
 rw [jcW (off := 0) rfl rfl (by decide)]
 rw [jcW (off := 7) rfl hv (by simp [zD8])]
 rfl
theorem one_num {p v : Value} (hp : one p = true) (hv : one v = true) : (cNum p v).all one = true := by
 simp only [cNum, List.all_cons, List.all_nil, hp, hv]
 rfl
theorem jiD {v : Value} (hv : one v = true) : (cLst v).all one = true := by
 simp only [cLst, List.all_cons, List.all_nil, hv]
 rfl
theorem jkf {μ : Mem} {i : Nat} {l : List Value} (h : Blk μ i 8 31) (hl : l.length = 8) : jbX pZ (putL μ i 0 l) 31 (.pointer (some ⟨i, 0, none⟩)) = some (.agg l.toArray) := Has.ld_D (Has.of_put (vs := l) h (by omega)) hl
theorem isD_num {μ : Mem} {p : Bool} {v : Value} {ls : List Nat} (h : IsU μ ls v) : IsD μ (.mk 0 0 false 0 p ls ⟨#[]⟩ []) (cNum (.bool p) v) := jcD.2 ⟨v, .slice none 0 0, rfl, ⟨rfl, rfl, rfl, Nat.zero_le _⟩, h, Nat.zero_le _, .inl ⟨rfl, rfl⟩⟩
theorem isD_sym {μ : Mem} {s : ByteArray} (hs : s.size ≤ maxLen) : IsD μ (.mk 4 0 false 0 false [] s []) (cSym s) := jcD.2 ⟨.slice none 0 0, .slice none 0 0, rfl, ⟨rfl, rfl, rfl, hs⟩, jiP _, Nat.zero_le _, .inl ⟨rfl, rfl⟩⟩
theorem isD_lst {μ : Mem} {l : List Dat} {v : Value} (h : IsL μ l v) : IsD μ (.mk 5 0 false 0 false [] ⟨#[]⟩ l) (cLst v) := jcD.2 ⟨.slice none 0 0, v, rfl, ⟨rfl, rfl, rfl, Nat.zero_le _⟩, jiP _, h⟩
theorem Lv.putD {μ : Mem} {v : Value} {ls : List Nat} {q o n : Nat} {vs : List Value} (h : Lv μ v ls) (hq : Blk μ q n 31) : Lv (putL μ q o vs) v ls := h.put hq (by decide)
theorem num_both {n : Int} (h1 : -9223372036854775808 ≤ n) (h2 : n < 9223372036854775808) : ∃ (p : Bool) (ls : List Nat), ls.length ≤ 2 ∧ ∀ {X : XT} {g : Nat} {μ : Mem}, 6200 ≤ g →
  (∃ v μ', aFun pZ (jan pZ X S0 g) 9 [.int .i64 n] μ = some (.agg (cNum (.bool p) v).toArray, μ') ∧ Lv μ' v ls ∧ Grow μ μ') ∧
  ∃ v μ', aFun pZ (jan pZ X S0 g) 10 [.int .i64 n] μ = some (.agg (cNum (.bool p) v).toArray, μ') ∧ Lv μ' v ls ∧ Grow μ μ' := by
 obtain ⟨p, ls, hl, hb⟩ := int_both h1 h2
 refine ⟨p, ls, hl, fun {X g μ} hg => ?_⟩
 obtain ⟨k, rfl⟩ := gle hg
 have hG := jbp μ (obDt zD8)
 obtain ⟨⟨v, μ2, r1, hL, G2⟩, ⟨w, μ3, r2, hL2, G3⟩⟩ := hb (X := X) (g := k + 6197) (μ := ⟨μ.obs.set μ.next (obDt zD8), μ.next + 1⟩) (by omega)
 constructor
 ·have hB : Blk μ2 μ.next 8 31 := blk_D.of_get (G2.2 _ (Nat.lt_succ_self _))
  have hst := st_D (o := 0) (l := cNum (.bool p) v) hB (by omega) rfl (one_num rfl hL.one)
  have hbd : ∀ (r : Rg) (y : Operand), aev pZ r y = .agg #[.bool false, .float .f64 0, .bool p, v] → jbG pZ (aev pZ r) 31 #[(0, .const (.int .i64 0)), (2, y)] = some (.agg (cNum (.bool p) v).toArray) := fun r y g => bd_N2 rfl g
  have key : EndsF (aFun pZ (jan pZ X S0 (k + 6200)) 9 [.int .i64 n] μ) fun r μ' => ∃ v, r = .agg (cNum (.bool p) v).toArray ∧ Lv μ' v ls ∧ Grow μ μ' := by
   refine jag Tryz.func9 rfl rfl (nbl rfl) ?_
   simp only [go_sem, Tryz.ntmps9]
   repeat (first | refine jac rfl ?_ | (refine jas rfl ?_; (try simp only [go_sem, al_D, Nat.add_eq, gg23, r1, hbd, hst]); fail_if_success refine ifC ?_) | (refine jae rfl ?_; (repeat (first | (refine jal ?_ rfl ?_; (focus (simp only [go_sem, al_D, Nat.add_eq, gg23, r1, hbd, hst]; done))) | (refine jai (v := ?_) (μ' := ?_) ?_ ?_ rfl ?_; rotate_left 2; (focus (first | rfl | (simp only [go_sem, al_D, Nat.add_eq, gg23, r1, hbd, hst]; done))); (focus (simp only [go_sem, al_D, Nat.add_eq, gg23, r1, hbd, hst]; (try exact rfl); done))))); simp only [go_sem]))
   refine jaf ?_
   refine ⟨rfl, .agg (cNum (.bool p) v).toArray, ?_, v, rfl, hL.putD hB, (hG.trans G2).put_new (Nat.le_refl _)⟩
   simp only [go_sem, Tryz.results9]
   rw [jkf hB rfl]
  obtain ⟨r, μ', h1, v, rfl, h2⟩ := key
  exact ⟨v, μ', h1, h2⟩
 ·have hB : Blk μ3 μ.next 8 31 := blk_D.of_get (G3.2 _ (Nat.lt_succ_self _))
  have hst := st_D (o := 0) (l := cNum (.bool p) w) hB (by omega) rfl (one_num rfl hL2.one)
  have hbd : ∀ (r : Rg) (y : Operand), aev pZ r y = .agg #[.bool false, .float .f64 0, .bool p, w] → jbG pZ (aev pZ r) 31 #[(2, y)] = some (.agg (cNum (.bool p) w).toArray) := fun r y g => bd_N1 g
  have key : EndsF (aFun pZ (jan pZ X S0 (k + 6200)) 10 [.int .i64 n] μ) fun r μ' => ∃ v, r = .agg (cNum (.bool p) v).toArray ∧ Lv μ' v ls ∧ Grow μ μ' := by
   refine jag Tryz.func10 rfl rfl (nbl rfl) ?_
   simp only [go_sem, Tryz.ntmps10]
   repeat (first | refine jac rfl ?_ | (refine jas rfl ?_; (try simp only [go_sem, al_D, Nat.add_eq, gg24, r2, hbd, hst]); fail_if_success refine ifC ?_) | (refine jae rfl ?_; (repeat (first | (refine jal ?_ rfl ?_; (focus (simp only [go_sem, al_D, Nat.add_eq, gg24, r2, hbd, hst]; done))) | (refine jai (v := ?_) (μ' := ?_) ?_ ?_ rfl ?_; rotate_left 2; (focus (first | rfl | (simp only [go_sem, al_D, Nat.add_eq, gg24, r2, hbd, hst]; done))); (focus (simp only [go_sem, al_D, Nat.add_eq, gg24, r2, hbd, hst]; (try exact rfl); done))))); simp only [go_sem]))
   refine jaf ?_
   refine ⟨rfl, .agg (cNum (.bool p) w).toArray, ?_, w, rfl, hL2.putD hB, (hG.trans G3).put_new (Nat.le_refl _)⟩
   simp only [go_sem, Tryz.results10]
   rw [jkf hB rfl]
  obtain ⟨r, μ', h1, v, rfl, h2⟩ := key
  exact ⟨v, μ', h1, h2⟩
theorem jjn {s : ByteArray} {X : XT} {g : Nat} {μ : Mem} (hg : 20 ≤ g) :
  (∃ μ', aFun pZ (jan pZ X S0 g) 11 [.string s] μ = some (.agg (cSym s).toArray, μ') ∧ Grow μ μ') ∧ ∃ μ', aFun pZ (jan pZ X S0 g) 12 [.string s] μ = some (.agg (cSym s).toArray, μ') ∧ Grow μ μ' := by
 obtain ⟨k, rfl⟩ := gle hg
 have hB : Blk ⟨μ.obs.set μ.next (obDt zD8), μ.next + 1⟩ μ.next 8 31 := blk_D
 have hst := st_D (o := 0) (l := cSym s) hB (by omega) rfl rfl
 have hbd : ∀ (r : Rg) (y : Operand), aev pZ r y = .string s → jbG pZ (aev pZ r) 31 #[(0, .const (.int .i64 4)), (3, y)] = some (.agg (cSym s).toArray) := fun r y g => bd_S rfl g
 have hG : Grow μ (putL ⟨μ.obs.set μ.next (obDt zD8), μ.next + 1⟩ μ.next 0 (cSym s)) := (jbp μ (obDt zD8)).put_new (Nat.le_refl _)
 constructor
 ·refine ⟨_, jaI ?_, hG⟩
  refine jag Tryz.func11 rfl rfl (nbl rfl) ?_
  simp only [go_sem, Tryz.ntmps11]
  repeat (first | refine jac rfl ?_ | (refine jas rfl ?_; (try simp only [go_sem, al_D, Nat.add_eq, hbd, hst]); fail_if_success refine ifC ?_) | (refine jae rfl ?_; (repeat (first | (refine jal ?_ rfl ?_; (focus (simp only [go_sem, al_D, Nat.add_eq, hbd, hst]; done))) | (refine jai (v := ?_) (μ' := ?_) ?_ ?_ rfl ?_; rotate_left 2; (focus (first | rfl | (simp only [go_sem, al_D, Nat.add_eq, hbd, hst]; done))); (focus (simp only [go_sem, al_D, Nat.add_eq, hbd, hst]; (try exact rfl); done))))); simp only [go_sem]))
  refine jaf ?_
  refine ⟨rfl, _, ?_, rfl, rfl⟩
  simp only [go_sem, Tryz.results11]
  rw [jkf hB rfl]
 ·refine ⟨_, jaI ?_, hG⟩
  refine jag Tryz.func12 rfl rfl (nbl rfl) ?_
  simp only [go_sem, Tryz.ntmps12]
  repeat (first | refine jac rfl ?_ | (refine jas rfl ?_; (try simp only [go_sem, al_D, Nat.add_eq, hbd, hst]); fail_if_success refine ifC ?_) | (refine jae rfl ?_; (repeat (first | (refine jal ?_ rfl ?_; (focus (simp only [go_sem, al_D, Nat.add_eq, hbd, hst]; done))) | (refine jai (v := ?_) (μ' := ?_) ?_ ?_ rfl ?_; rotate_left 2; (focus (first | rfl | (simp only [go_sem, al_D, Nat.add_eq, hbd, hst]; done))); (focus (simp only [go_sem, al_D, Nat.add_eq, hbd, hst]; (try exact rfl); done))))); simp only [go_sem]))
  refine jaf ?_
  refine ⟨rfl, _, ?_, rfl, rfl⟩
  simp only [go_sem, Tryz.results12]
  rw [jkf hB rfl]
end
noncomputable section
theorem jkB {μ : Mem} {i o : Nat} {a b : List Value} (h1 : Has μ i o a) (h2 : Has μ i (o + a.length) b) : Has μ i o (a ++ b) := by
 obtain ⟨n, z, ov, e1, e2, e3⟩ := h1
 obtain ⟨n', z', ov', f1, f2, f3⟩ := h2
 rw [e1] at f1
 cases f1
 refine ⟨n, z, ov, e1, by rw [List.length_append]; omega, fun k hk => ?_⟩
 rw [List.getElem_append]
 split
 ·exact e3 k _
 ·have := f3 (k - a.length) (by rw [List.length_append] at hk; omega)
  rw [← this]
  congr 1
  omega
def Rows8 (μ : Mem) (l : List Dat) (R : List (List Value)) : Prop := R.length = l.length ∧ ∀ (k : Nat) d row, l[k]? = some d → R[k]? = some row → IsD μ d row
theorem jjr {μ : Mem} {i : Nat} : ∀ {l : List Dat} {o : Nat}, IsDs μ l i o → ∃ R, Rows8 μ l R ∧ (l ≠ [] → Has μ i o R.flatten) ∧ R.flatten.length = 8 * l.length
 | [], o, _ => ⟨[], ⟨rfl, fun k d row h => by simp at h⟩, fun h => absurd rfl h, rfl⟩
 | d :: r, o, h => by
   rw [IsDs] at h
   obtain ⟨⟨cs, hH, hD⟩, hr⟩ := h
   obtain ⟨R, ⟨hl, hR⟩, hH2, hlen⟩ := jjr hr
   have h8 := hD.eight.1
   refine ⟨cs :: R, ⟨by simp [hl], fun k d' row h1 h2 => ?_⟩, fun _ => ?_, by rw [List.flatten_cons, List.length_append, hlen, h8, List.length_cons]; omega⟩
   ·cases k with
    | zero => simp at h1 h2; subst h1 h2; exact hD
    | succ k => exact hR k d' row (by simpa using h1) (by simpa using h2)
   ·rw [List.flatten_cons]
    cases r with
    | nil =>
      have : R = [] := List.eq_nil_of_length_eq_zero (by simpa using hl)
      subst this
      simpa using hH
    | cons e s => exact jkB hH (by rw [h8]; exact hH2 (by simp))
theorem jjG {μ : Mem} {i : Nat} : ∀ {R : List (List Value)} {o k : Nat} {row : List Value}, (∀ r ∈ R, r.length = 8) → Has μ i o R.flatten → R[k]? = some row → Has μ i (o + 8 * k) row
 | [], o, k, row, _, _, h => by simp at h
 | x :: R, o, k, row, h8, hH, h => by
   rw [List.flatten_cons] at hH
   cases k with
   | zero =>
     simp at h
     subst h
     exact Has.part (a := []) (b := x) (c := R.flatten) hH rfl
   | succ k =>
     have := jjG (o := o + 8) (k := k) (row := row) (fun r hr => h8 r (List.mem_cons_of_mem _ hr)) (by
      have := Has.part (a := x) (b := R.flatten) (c := []) hH (by simp)
      rw [h8 x (List.mem_cons_self ..)] at this
      exact this) (by simpa using h)
     rw [show o + 8 * (k + 1) = o + 8 + 8 * k from by omega]
     exact this
theorem Rows8.grow {μ μ' : Mem} {l : List Dat} {R : List (List Value)} (h : Rows8 μ l R) (g : Grow μ μ') : Rows8 μ' l R := ⟨h.1, fun k d row h1 h2 => (h.2 k d row h1 h2).grow g⟩
theorem Rows8.eight {μ : Mem} {l : List Dat} {R : List (List Value)} (h : Rows8 μ l R) : ∀ r ∈ R, r.length = 8 := fun r hr => by
 obtain ⟨k, hk, rfl⟩ := List.mem_iff_getElem.1 hr
 have hk' : k < l.length := by rw [← h.1]; exact hk
 exact (h.2 k _ _ (List.getElem?_eq_getElem hk') (List.getElem?_eq_getElem hk)).eight.1
theorem Rows8.isL {μ : Mem} {l : List Dat} {R : List (List Value)} {i c : Nat} (h : Rows8 μ l R) (hl : l.length ≤ maxLen) (hi : l ≠ [] → i < μ.next) (hH : l ≠ [] → Has μ i 0 R.flatten) (hc : CapK 8 l.length c) : IsL μ l (.slice (some ⟨i, 0, none⟩) l.length c) := by
 refine ⟨hl, .inr ⟨i, 0, c, rfl, hi, jgX fun k d hk => ?_, hc⟩⟩
 have hk' : k < l.length := (List.getElem?_eq_some_iff.1 hk).1
 have hR : R[k]? = some (R[k]'(by rw [h.1]; exact hk')) := List.getElem?_eq_getElem _
 exact ⟨_, jjG h.eight (hH (by rintro rfl; simp at hk)) hR, h.2 k d _ hk hR⟩
def SrcR (μ : Mem) (l : List Dat) (v : Value) (R : List (List Value)) : Prop := R.flatten.length = 8 * l.length ∧ (∀ (μ' : Mem), Grow μ μ' → jbt μ' 8 l.length v = some R.flatten) ∧ lenV v = some l.length
theorem SrcR.grow {μ μ' : Mem} {l : List Dat} {v : Value} {R : List (List Value)} (h : SrcR μ l v R) (g : Grow μ μ') : SrcR μ' l v R := ⟨h.1, fun m gm => h.2.1 m (g.trans gm), h.2.2⟩
theorem srcR_own {μ : Mem} {l : List Dat} {R : List (List Value)} {i c : Nat} {fx sh : Bool} (hl : R.flatten.length = 8 * l.length) (ho : μ.obs.get i = some (.cells R.flatten.length 31 R.flatten.toArray .e 0 0 fx sh)) (hi : i < μ.next) : SrcR μ l (.slice (some ⟨i, 0, none⟩) l.length c) R := by
 refine ⟨hl, fun m g => ?_, rfl⟩
 have ho := (g.2 i hi).trans ho
 obtain ⟨xs, hxs⟩ : ∃ xs, xs = R.flatten := ⟨_, rfl⟩
 rw [← hxs] at ho hl ⊢
 by_cases h0 : l.length = 0
 ·rw [h0] at hl ⊢
  obtain rfl : xs = [] := List.eq_nil_of_length_eq_zero hl
  rfl
 ·unfold jbt
  obtain ⟨k, hk⟩ : ∃ k, xs.length = k + 1 := ⟨xs.length - 1, by omega⟩
  have e0 : Nat.mul l.length 8 = k + 1 := by rw [← hk, hl]; exact Nat.mul_comm _ _
  have hb : Nat.ble (Nat.add 0 (k + 1)) xs.length = true := Nat.ble_eq_true_of_le (by show 0 + (k + 1) ≤ _; omega)
  have hc : jaz xs.toArray .e 0 (k + 1) = xs := jb1 _ _ _ hk (fun j hj => by rw [Nat.zero_add]; exact jb2 xs j hj)
  simp only [e0, ho, hb, hc]
theorem IsL.rows {μ : Mem} {l : List Dat} {v : Value} (h : IsL μ l v) : ∃ R, Rows8 μ l R ∧ SrcR μ l v R := by
 rcases h with ⟨_, ⟨rfl, rfl⟩ | ⟨i, o, c, rfl, h2, h3, _⟩⟩
 ·exact ⟨[], ⟨rfl, fun k d row h => by simp at h⟩, rfl, fun _ _ => rfl, rfl⟩
 ·obtain ⟨R, hR, hH, hl⟩ := jjr h3
  refine ⟨R, hR, hl, fun μ' g => ?_, rfl⟩
  by_cases hn : l = []
  ·subst hn
   have : R = [] := List.eq_nil_of_length_eq_zero hR.1
   subst this
   rfl
  ·have hpos : 0 < l.length := List.length_pos_iff.2 hn
   obtain ⟨m, z, ov, h1, h4, h5⟩ := hH hn
   unfold jbt
   obtain ⟨k, hk⟩ : ∃ k, R.flatten.length = k + 1 := ⟨R.flatten.length - 1, by omega⟩
   have e0 : Nat.mul l.length 8 = k + 1 := by rw [← hk, hl]; exact Nat.mul_comm _ _
   have hb : Nat.ble (Nat.add o (k + 1)) m = true := Nat.ble_eq_true_of_le (by show o + (k + 1) ≤ m; omega)
   have hc : jaz z ov o (k + 1) = R.flatten := jb1 _ _ _ hk h5
   simp only [e0]
   rw [← g.2 i (h2 hn)] at h1
   cases hob : μ'.obs.get i with
   | none => rw [hob] at h1; cases h1
   | some ob =>
     rw [hob] at h1
     cases ob <;> first | (cases h1; simp only [hb, hc]) | cases h1
def obD0 : Ob := .cells 0 31 #[] .e 0 0 false false
theorem bsD0 (ρ : Operand → Value) : jaR pZ ρ 22 0 #[] = some (obD0, fun id => .slice (some ⟨id, 0, none⟩) 0 0) := by
 unfold jaR
 simp only [Tryz.underlying22, i_D]
 rfl
theorem appendD {μ : Mem} {v : Value} {l : List Dat} {R : List (List Value)} (h : SrcR μ l v R) (hn : l.length ≤ 50) : ∃ i c fx sh μ', jbY pZ ⟨μ.obs.set μ.next obD0, Nat.add μ.next 1⟩ 22 22 (.slice (some ⟨μ.next, 0, none⟩) 0 0) v = some (.slice (some ⟨i, 0, none⟩) l.length c, μ') ∧
  μ'.obs.get i = some (.cells R.flatten.length 31 R.flatten.toArray .e 0 0 fx sh) ∧ μ.next ≤ i ∧ i < μ'.next ∧ Grow μ μ' ∧ CapK 8 l.length c := by
 have hg1 : Grow μ ⟨μ.obs.set μ.next obD0, Nat.add μ.next 1⟩ := jbp μ _
 obtain ⟨hl, hs, hlen⟩ := h
 have hs := hs _ hg1
 obtain ⟨xs, hxs⟩ : ∃ xs, xs = R.flatten := ⟨_, rfl⟩
 rw [← hxs] at hs hl ⊢
 have e1 : Nat.ble Tryz.t31.bytes 4096 = true := by kernel_rfl
 have e2 : Nat.beq (ja6 (.agg zD8.toArray)).length 8 = true := by kernel_rfl
 have e3 : Nat.ble l.length 67108864 = true := Nat.ble_eq_true_of_le (by omega)
 have e4 : Tryz.t31.size = 8 := by kernel_rfl
 have e5 : Nat.beq xs.length (Nat.mul l.length 8) = true := by rw [hl, show Nat.mul l.length 8 = 8 * l.length from Nat.mul_comm _ _]; exact Nat.beq_refl _
 obtain ⟨n, hn'⟩ : ∃ n, n = l.length := ⟨_, rfl⟩
 rw [← hn'] at hs hlen e3 e5 hn hl ⊢
 have hap : jbY pZ ⟨μ.obs.set μ.next obD0, Nat.add μ.next 1⟩ 22 22 (.slice (some ⟨μ.next, 0, none⟩) 0 0) v = jbS pZ ⟨μ.obs.set μ.next obD0, Nat.add μ.next 1⟩ 31 8 n xs (.slice (some ⟨μ.next, 0, none⟩) 0 0) := by
  unfold jbY
  simp only [Tryz.underlying22, i_D, e1, z_Dt, e4, e2, hlen, e3, hs, e5]
 rw [hap]
 unfold jbS
 have e6 : Nat.ble (Nat.add 0 n) 67108864 = true := Nat.ble_eq_true_of_le (by show 0 + n ≤ _; omega)
 simp only [e6]
 cases n with
 | zero =>
   obtain rfl : xs = [] := List.eq_nil_of_length_eq_zero hl
   refine ⟨_, _, _, _, _, rfl, by show T.get _ _ = _; rw [T.get_set, if_pos rfl]; rfl, Nat.le_refl _, Nat.lt_succ_self _, hg1, .inl ⟨rfl, Nat.le_refl _⟩⟩
 | succ n =>
   have e7 : Nat.ble (Nat.add 0 (n + 1)) (Nat.div 0 2) = false := by
    cases hb : Nat.ble (Nat.add 0 (n + 1)) (Nat.div 0 2) with
    | false => rfl
    | true => have := Nat.le_of_ble_eq_true hb; have h0 : Nat.div 0 2 = 0 := rfl; rw [h0] at this; have : 0 + (n + 1) ≤ 0 := this; omega
   simp only [show Nat.beq (Nat.mod 0 2) 0 = true from rfl, e7]
   rw [show Nat.add 0 (n + 1) = n + 1 from Nat.zero_add _]
   refine ⟨μ.next + 1, 17, true, false, _, rfl, ?_, by omega, ?_, ⟨?_, fun i hi => ?_⟩, .inr ⟨rfl, rfl⟩⟩
   ·show T.get (T.set _ (Nat.add μ.next 1) _) _ = _
    rw [T.get_set, if_pos rfl]
    rfl
   ·show μ.next + 1 < μ.next + 1 + 1; omega
   ·show μ.next ≤ μ.next + 1 + 1; omega
   ·show T.get (T.set (T.set _ _ _) (Nat.add μ.next 1) _) i = _
    rw [T.get_set, if_neg (by show i ≠ μ.next + 1; omega), T.get_set, if_neg (by omega)]
theorem anD (a : Addr) (n c : Nat) : aNil pZ 22 (.slice (some a) n c) (.slice none 0 0) = true := by
 unfold aNil
 simp only [Tryz.underlying22]
theorem cloneD {a : Addr} {l : List Dat} {R : List (List Value)} {c0 : Nat} {X : XT} {g : Nat} {μ : Mem} (h : SrcR μ l (.slice (some a) l.length c0) R) (hn : l.length ≤ 50) (hg : 20 ≤ g) :
  ∃ i c fx sh μ', aFun pZ (jan pZ X S0 g) 20 [.slice (some a) l.length c0] μ = some (.slice (some ⟨i, 0, none⟩) l.length c, μ') ∧
   μ'.obs.get i = some (.cells R.flatten.length 31 R.flatten.toArray .e 0 0 fx sh) ∧ μ.next ≤ i ∧ i < μ'.next ∧ Grow μ μ' ∧ CapK 8 l.length c := by
 obtain ⟨k, rfl⟩ := gle hg
 obtain ⟨i, c, fx, sh, μ', hap, h3⟩ := appendD h hn
 refine ⟨i, c, fx, sh, μ', jaI ?_, h3⟩
 refine jag Tryz.func20 rfl rfl (nbl rfl) ?_
 simp only [go_sem, Tryz.ntmps20]
 repeat (first | refine jac rfl ?_ | (refine jad rfl ?_; (try simp only [go_sem, anD, bsD0, jaa, hap]); fail_if_success refine ifC ?_))
 refine jaf ?_
 refine ⟨rfl, _, ?_, rfl, rfl⟩
 simp only [go_sem, Tryz.results20]
theorem list_eq {a : Addr} {l : List Dat} {R : List (List Value)} {c0 : Nat} {X : XT} {g : Nat} {μ : Mem} (h : SrcR μ l (.slice (some a) l.length c0) R) (hn : l.length ≤ 50) (hg : 100 ≤ g) :
  ∃ i c fx sh μ', aFun pZ (jan pZ X S0 g) 7 [.slice (some a) l.length c0] μ = some (.agg (cLst (.slice (some ⟨i, 0, none⟩) l.length c)).toArray, μ') ∧
   μ'.obs.get i = some (.cells R.flatten.length 31 R.flatten.toArray .e 0 0 fx sh) ∧ μ.next ≤ i ∧ i < μ'.next ∧ Grow μ μ' ∧ CapK 8 l.length c := by
 obtain ⟨k, rfl⟩ := gle hg
 have hG := jbp μ (obDt zD8)
 obtain ⟨i, c, fx, sh, μ2, hr, h3, h4, h5, G2, hc⟩ := cloneD (X := X) (g := k + 97) (h.grow hG) hn (by omega)
 have hne : i ≠ μ.next := by have : μ.next + 1 ≤ i := h4; omega
 have hB : Blk μ2 μ.next 8 31 := blk_D.of_get (G2.2 _ (Nat.lt_succ_self _))
 have hst := st_D (o := 0) (l := cLst (.slice (some ⟨i, 0, none⟩) l.length c)) hB (by omega) rfl (jiD rfl)
 have hbd : ∀ (r : Rg) (y : Operand), aev pZ r y = .slice (some ⟨i, 0, none⟩) l.length c → jbG pZ (aev pZ r) 31 #[(0, .const (.int .i64 5)), (4, y)] = some (.agg (cLst (.slice (some ⟨i, 0, none⟩) l.length c)).toArray) := fun r y g => bd_L rfl g rfl
 refine ⟨i, c, fx, sh, _, jaI ?_, (jcM _ _ 0 (cLst (.slice (some ⟨i, 0, none⟩) l.length c)) hne).trans h3, by have : μ.next + 1 ≤ i := h4; omega, by rw [jcB]; exact h5, (hG.trans G2).put_new (Nat.le_refl _), hc⟩
 refine jag Tryz.func7 rfl rfl (nbl rfl) ?_
 simp only [go_sem, Tryz.ntmps7]
 repeat (first | refine jac rfl ?_ | (refine jas rfl ?_; (try simp only [go_sem, al_D, Nat.add_eq, gg20, hr, hbd, hst]); fail_if_success refine ifC ?_) | (refine jae rfl ?_; (repeat (first | (refine jal ?_ rfl ?_; (focus (simp only [go_sem, al_D, Nat.add_eq, gg20, hr, hbd, hst]; done))) | (refine jai (v := ?_) (μ' := ?_) ?_ ?_ rfl ?_; rotate_left 2; (focus (first | rfl | (simp only [go_sem, al_D, Nat.add_eq, gg20, hr, hbd, hst]; done))); (focus (simp only [go_sem, al_D, Nat.add_eq, gg20, hr, hbd, hst]; (try exact rfl); done))))); simp only [go_sem]))
 refine jaf ?_
 refine ⟨rfl, _, ?_, rfl, rfl⟩
 simp only [go_sem, Tryz.results7]
 rw [jkf hB rfl]
theorem listR_eq {v : Value} {X : XT} {g : Nat} {μ : Mem} (hv : one v = true) (hg : 20 ≤ g) : ∃ μ', aFun pZ (jan pZ X S0 g) 13 [v] μ = some (.agg (cLst v).toArray, μ') ∧ Grow μ μ' := by
 obtain ⟨k, rfl⟩ := gle hg
 have hB : Blk ⟨μ.obs.set μ.next (obDt zD8), μ.next + 1⟩ μ.next 8 31 := blk_D
 have hst := st_D (o := 0) (l := cLst v) hB (by omega) rfl (jiD hv)
 have hbd : ∀ (r : Rg) (y : Operand), aev pZ r y = v → jbG pZ (aev pZ r) 31 #[(0, .const (.int .i64 5)), (4, y)] = some (.agg (cLst v).toArray) := fun r y g => bd_L rfl g hv
 refine ⟨_, jaI ?_, (jbp μ (obDt zD8)).put_new (o := 0) (vs := cLst v) (Nat.le_refl _)⟩
 refine jag Tryz.func13 rfl rfl (nbl rfl) ?_
 simp only [go_sem, Tryz.ntmps13]
 repeat (first | refine jac rfl ?_ | (refine jas rfl ?_; (try simp only [go_sem, al_D, Nat.add_eq, hbd, hst]); fail_if_success refine ifC ?_) | (refine jae rfl ?_; (repeat (first | (refine jal ?_ rfl ?_; (focus (simp only [go_sem, al_D, Nat.add_eq, hbd, hst]; done))) | (refine jai (v := ?_) (μ' := ?_) ?_ ?_ rfl ?_; rotate_left 2; (focus (first | rfl | (simp only [go_sem, al_D, Nat.add_eq, hbd, hst]; done))); (focus (simp only [go_sem, al_D, Nat.add_eq, hbd, hst]; (try exact rfl); done))))); simp only [go_sem]))
 refine jaf ?_
 refine ⟨rfl, _, ?_, rfl, rfl⟩
 simp only [go_sem, Tryz.results13]
 rw [jkf hB rfl]
end
noncomputable section
theorem jiK {l : List Dat} {v : Value} {n : Int} {s : ByteArray} (hl : l.length ≤ 50) : ∀ (j i : Nat), i + j = l.length → ∀ {X : XT} {e : Nat} {tm : T Value} {μ : Mem}, jbx X → jbT X → Lay μ → jcL X → IsL μ l v → 1300000 ≤ e →
  jak tm 0 = .int .i64 n → jak tm 1 = .string s → jak tm 2 = v → jak tm 17 = v → jak tm 18 = .int .i64 (.ofNat l.length) → jak tm 19 = .int .i64 (.ofNat i) →
  EndsC (jan pZ X S0 (e + j + 30) (.loop (jaB Tryz.f3 0)) ⟨65, tm, [], none⟩ μ) fun x r μ' => Grow μ μ' ∧ ∃ tm', r = ⟨65, tm', [], none⟩ ∧
   ((x = .exit 0 ∧ (∀ d ∈ l.drop i, Sm 71 d) ∧ jak tm' 0 = .int .i64 n ∧ jak tm' 1 = .string s ∧ jak tm' 2 = v) ∨ (x = .ret ∧ jak tm' 6 = .bool true)) := by
 intro j
 induction j with
 | zero =>
   intro i hi X e tm μ hX1 hX2 hY hX hL he h0 h1 h2 h17 h18 h19
   have hi : i = l.length := hi
   have e1 : ilt (.ofNat i) (.ofNat l.length) = false := (jaq _ _).trans (decide_eq_false (by omega))
   refine jam ?_
   repeat (first | refine jac rfl ?_ | (refine jas rfl ?_; (try simp only [go_sem, h18, h19, e1]); fail_if_success refine ifC ?_) | (refine jae rfl ?_; (repeat (first | (refine jal ?_ rfl ?_; (focus (simp only [go_sem, h18, h19, e1]; done))) | (refine jai (v := ?_) (μ' := ?_) ?_ ?_ rfl ?_; rotate_left 2; (focus (first | rfl | (simp only [go_sem, h18, h19, e1]; done))); (focus (simp only [go_sem, h18, h19, e1]; (try exact rfl); done))))); simp only [go_sem]))
   refine ⟨Grow.refl _, _, rfl, .inl ⟨by trivial, ?_, by simp only [go_sem, h0], by simp only [go_sem, h1], by simp only [go_sem, h2]⟩⟩
   rw [hi, List.drop_length]
   intro d hd
   cases hd
 | succ j ihj =>
   intro i hi X e tm μ hX1 hX2 hY hX hL he h0 h1 h2 h17 h18 h19
   have hlt : i < l.length := by omega
   have hdr : l.drop i = l[i]'hlt :: l.drop (i + 1) := List.drop_eq_getElem_cons hlt
   have e1 : ilt (.ofNat i) (.ofNat l.length) = true := (jaq _ _).trans (decide_eq_true hlt)
   have a1 : jar .i64 (Int.add (.ofNat i) 1) = .ofNat (i + 1) := jaW i 1 (by omega)
   obtain ⟨bi, bo, bc, cs, hv, hb, hH, hD⟩ := hL.at (List.getElem?_eq_getElem hlt)
   have hix : ∀ (r : Rg) (x y : Operand), aev pZ r x = v → aev pZ r y = .int .i64 (.ofNat i) → jau pZ (aev pZ r) 22 x y = some (.pointer (some ⟨bi, bo + 8 * i, none⟩)) := fun r x y g1 g2 => ix_D hlt (g1.trans hv) g2
   have hl1 := Has.ld_D hH hD.eight.1
   obtain ⟨μ1, hμ1⟩ : ∃ μ1 : Mem, μ1 = putL ⟨μ.obs.set μ.next (obDt zD8), μ.next + 1⟩ μ.next 0 cs := ⟨_, rfl⟩
   have hst := st_D (o := 0) (blk_D (μ := μ) (l := zD8)) (by omega) hD.eight.1 hD.eight.2
   have hG1 : Grow μ μ1 := by rw [hμ1]; exact (jbp μ _).put_new (Nat.le_refl _)
   have n1 : μ1.next = μ.next + 1 := by rw [hμ1, jcB]
   have hB1 : Has μ1 μ.next 0 cs := by
    rw [hμ1]
    exact Has.of_put (vs := cs) blk_D (by rw [hD.eight.1]; omega)
   have hl2 := Has.ld_D hB1 hD.eight.1
   rw [← hμ1] at hst
   obtain ⟨r, μ2, hr, hG2, hr1, hr2, hr3⟩ := small_ex 71 (deep := 0) rfl (m := 4000) (X := X) (g := e + (j + 1) + 22) (hD.grow hG1) (by decide) (by decide) (by omega)
   have z : (Value.int .i64 (.ofNat 0)) = .int .i64 0 := rfl
   rw [z] at hr
   have hl3 := Has.ld_D (hB1.keep (hG2.2 _ (by omega))) hD.eight.1
   have hG12 := hG1.trans hG2
   by_cases hneg : r < 0
   ·have e2 : ilt r 0 = true := (jbi _ _).trans (decide_eq_true hneg)
    refine jam ?_
    repeat (first | refine jac rfl ?_ | (refine jas rfl ?_; (try simp only [go_sem, undef, h17, h18, h19, e1, hix, hl1, al_D, Nat.add_eq, hst, hl2, gg5, hr, e2]); fail_if_success refine ifC ?_) | (refine jae rfl ?_; (repeat (first | (refine jal ?_ rfl ?_; (focus (simp only [go_sem, undef, h17, h18, h19, e1, hix, hl1, al_D, Nat.add_eq, hst, hl2, gg5, hr, e2]; done))) | (refine jai (v := ?_) (μ' := ?_) ?_ ?_ rfl ?_; rotate_left 2; (focus (first | rfl | (simp only [go_sem, undef, h17, h18, h19, e1, hix, hl1, al_D, Nat.add_eq, hst, hl2, gg5, hr, e2]; done))); (focus (simp only [go_sem, undef, h17, h18, h19, e1, hix, hl1, al_D, Nat.add_eq, hst, hl2, gg5, hr, e2]; (try exact rfl); done))))); simp only [go_sem]))
    refine jaf ?_
    exact ⟨hG12, _, rfl, .inr ⟨by trivial, by simp only [go_sem]⟩⟩
   ·have e2 : ilt r 0 = false := (jbi _ _).trans (decide_eq_false hneg)
    have hS := hr3 (by omega)
    obtain ⟨μ3, hR, hG3⟩ := Right_eq (n := 71) (by decide) (X := X) (g := e + (j + 1) + 22) hS hX1 hX2 (hY.grow hG12) hX (hD.grow hG12) (by omega)
    have hG := hG12.trans hG3
    obtain ⟨b, hbR⟩ : ∃ b, (!ilt (jb9 71 0 (l[i]'hlt) 3000) 0) = b := ⟨_, rfl⟩
    rw [hbR] at hR
    cases b
    ·skip
     refine jam ?_
     repeat (first | refine jac rfl ?_ | (refine jas rfl ?_; (try simp only [go_sem, undef, h17, h18, h19, e1, hix, hl1, al_D, Nat.add_eq, hst, hl2, hl3, gg5, hr, e2, gg6, hR]); fail_if_success refine ifC ?_) | (refine jae rfl ?_; (repeat (first | (refine jal ?_ rfl ?_; (focus (simp only [go_sem, undef, h17, h18, h19, e1, hix, hl1, al_D, Nat.add_eq, hst, hl2, hl3, gg5, hr, e2, gg6, hR]; done))) | (refine jai (v := ?_) (μ' := ?_) ?_ ?_ rfl ?_; rotate_left 2; (focus (first | rfl | (simp only [go_sem, undef, h17, h18, h19, e1, hix, hl1, al_D, Nat.add_eq, hst, hl2, hl3, gg5, hr, e2, gg6, hR]; done))); (focus (simp only [go_sem, undef, h17, h18, h19, e1, hix, hl1, al_D, Nat.add_eq, hst, hl2, hl3, gg5, hr, e2, gg6, hR]; (try exact rfl); done))))); simp only [go_sem]))
     refine jaf ?_
     exact ⟨hG, _, rfl, .inr ⟨by trivial, by simp only [go_sem]⟩⟩
    ·skip
     refine jam ?_
     repeat (first | refine jac rfl ?_ | (refine jas rfl ?_; (try simp only [go_sem, undef, h17, h18, h19, e1, hix, hl1, al_D, Nat.add_eq, hst, hl2, hl3, gg5, hr, e2, gg6, hR, a1]); fail_if_success refine ifC ?_) | (refine jae rfl ?_; (repeat (first | (refine jal ?_ rfl ?_; (focus (simp only [go_sem, undef, h17, h18, h19, e1, hix, hl1, al_D, Nat.add_eq, hst, hl2, hl3, gg5, hr, e2, gg6, hR, a1]; done))) | (refine jai (v := ?_) (μ' := ?_) ?_ ?_ rfl ?_; rotate_left 2; (focus (first | rfl | (simp only [go_sem, undef, h17, h18, h19, e1, hix, hl1, al_D, Nat.add_eq, hst, hl2, hl3, gg5, hr, e2, gg6, hR, a1]; done))); (focus (simp only [go_sem, undef, h17, h18, h19, e1, hix, hl1, al_D, Nat.add_eq, hst, hl2, hl3, gg5, hr, e2, gg6, hR, a1]; (try exact rfl); done))))); simp only [go_sem]))
     rw [show e + (j + 1) + 29 = e + j + 30 from by omega]
     refine EndsC.mono (ihj (i + 1) (by omega) hX1 hX2 (hY.grow hG) hX (hL.grow hG) he (by simp only [go_sem, h0]) (by simp only [go_sem, h1]) (by simp only [go_sem, h2]) (by simp only [go_sem, h17]) (by simp only [go_sem, h18]) (by simp only [go_sem])) ?_
     rintro x r' μ' ⟨g1, tm', g2, ⟨g3, g4, g5⟩ | g3⟩
     ·refine ⟨hG.trans g1, tm', g2, .inl ⟨g3, fun d hd => ?_, g5⟩⟩
      rw [hdr] at hd
      rcases List.mem_cons.1 hd with rfl | hd
      ·exact hS
      ·exact g4 d hd
     ·exact ⟨hG.trans g1, tm', g2, .inr g3⟩
theorem jiJ {len io c p : Nat} {n : Int} {s : ByteArray} {v : Value} (hl : len ≤ 50) : ∀ (j i : Nat), i + j = len → ∀ {X : XT} {e : Nat} {tm : T Value} {μ : Mem}, (len ≠ 0 → Blk μ io (8 * len) 31) →
  jak tm 0 = .int .i64 n → jak tm 1 = .string s → jak tm 2 = v → jak tm 9 = .slice (some ⟨io, 0, none⟩) len c → jak tm 10 = .pointer (some ⟨p, 0, none⟩) → jak tm 38 = .int .i64 (.ofNat len) → jak tm 39 = .int .i64 (.ofNat i) →
  EndsC (jan pZ X S0 (e + j + 30) (.loop (jaB Tryz.f3 1)) ⟨65, tm, [], none⟩ μ) fun x r μ' => x = .exit 2 ∧ μ'.next = μ.next ∧ (∀ q, q ≠ io → μ'.obs.get q = μ.obs.get q) ∧ ∃ tm', r = ⟨65, tm', [], none⟩ ∧ jak tm' 0 = .int .i64 n ∧ jak tm' 1 = .string s ∧ jak tm' 2 = v ∧ jak tm' 10 = .pointer (some ⟨p, 0, none⟩) := by
 intro j
 induction j with
 | zero =>
   intro i hi X e tm μ hB h0 h1 h2 h9 h10 h38 h39
   have hi : i = len := hi
   have e1 : ilt (.ofNat i) (.ofNat len) = false := (jaq _ _).trans (decide_eq_false (by omega))
   refine jam ?_
   repeat (first | refine jac rfl ?_ | (refine jas rfl ?_; (try simp only [go_sem, h38, h39, e1]); fail_if_success refine ifC ?_) | (refine jae rfl ?_; (repeat (first | (refine jal ?_ rfl ?_; (focus (simp only [go_sem, h38, h39, e1]; done))) | (refine jai (v := ?_) (μ' := ?_) ?_ ?_ rfl ?_; rotate_left 2; (focus (first | rfl | (simp only [go_sem, h38, h39, e1]; done))); (focus (simp only [go_sem, h38, h39, e1]; (try exact rfl); done))))); simp only [go_sem]))
   exact ⟨by trivial, by trivial, fun _ _ => by trivial, _, rfl, by simp only [go_sem, h0], by simp only [go_sem, h1], by simp only [go_sem, h2], by simp only [go_sem, h10]⟩
 | succ j ihj =>
   intro i hi X e tm μ hB h0 h1 h2 h9 h10 h38 h39
   have hlt : i < len := by omega
   have hB0 := hB (by omega)
   have e1 : ilt (.ofNat i) (.ofNat len) = true := (jaq _ _).trans (decide_eq_true hlt)
   have a1 : jar .i64 (Int.add (.ofNat i) 1) = .ofNat (i + 1) := jaW i 1 (by omega)
   have hix : ∀ (r : Rg) (x y : Operand), aev pZ r x = .slice (some ⟨io, 0, none⟩) len c → aev pZ r y = .int .i64 (.ofNat i) → jau pZ (aev pZ r) 22 x y = some (.pointer (some ⟨io, 0 + 8 * i, none⟩)) := fun r x y g1 g2 => ix_D hlt g1 g2
   rw [Nat.zero_add] at hix
   have hst := st_D (o := 8 * i) (l := zD8) hB0 (by omega) rfl rfl
   refine jam ?_
   repeat (first | refine jac rfl ?_ | (refine jas rfl ?_; (try simp only [go_sem, h9, h38, h39, e1, bd_0, hix, hst, a1]); fail_if_success refine ifC ?_) | (refine jae rfl ?_; (repeat (first | (refine jal ?_ rfl ?_; (focus (simp only [go_sem, h9, h38, h39, e1, bd_0, hix, hst, a1]; done))) | (refine jai (v := ?_) (μ' := ?_) ?_ ?_ rfl ?_; rotate_left 2; (focus (first | rfl | (simp only [go_sem, h9, h38, h39, e1, bd_0, hix, hst, a1]; done))); (focus (simp only [go_sem, h9, h38, h39, e1, bd_0, hix, hst, a1]; (try exact rfl); done))))); simp only [go_sem]))
   rw [show e + (j + 1) + 29 = e + j + 30 from by omega]
   refine EndsC.mono (ihj (i + 1) (by omega) (fun _ => hB0.put _ _) (by simp only [go_sem, h0]) (by simp only [go_sem, h1]) (by simp only [go_sem, h2]) (by simp only [go_sem, h9]) (by simp only [go_sem, h10]) (by simp only [go_sem, h38]) (by simp only [go_sem])) ?_
   rintro x r μ' ⟨g1, g2, g3, g4⟩
   exact ⟨g1, by rw [g2, jcB], fun q hq => (g3 q hq).trans (jcM _ _ _ _ hq), g4⟩
end
noncomputable section
theorem makes_ex {n : Int} {s : ByteArray} {l : List Dat} {v : Value} {X : XT} {g : Nat} {μ : Mem} (hX1 : jbx X) (hX2 : jbT X) (hY : Lay μ) (hX : jcL X) (hL : IsL μ l v) (hn1 : -9223372036854775808 ≤ n) (hn2 : n < 9223372036854775808) (hs : s.size ≤ maxLen) (hg : 1400000 ≤ g)
  (hal : ∀ k, jbO pZ (jan pZ X S0 k) S0 4 [] μ = some (.bool true, μ)) :
  ∃ μ', aFun pZ (jan pZ X S0 g) 3 [.int .i64 n, .string s, v] μ = some (.bool true, μ') ∧ Grow μ μ' := by
 obtain ⟨k, rfl⟩ := gle hg
 have lL := hL.len
 have key : EndsF (aFun pZ (jan pZ X S0 (k + 1400000)) 3 [.int .i64 n, .string s, v] μ) fun w μ' => w = .bool true ∧ Grow μ μ' := by
  by_cases hlen : 50 < l.length
  ·have e1 : ilt 50 (.ofNat l.length) = true := (jdq _ _ 50 rfl).trans (decide_eq_true hlen)
   refine jag Tryz.func3 rfl rfl (nbl rfl) ?_
   simp only [go_sem, Tryz.ntmps3]
   repeat (first | refine jac rfl ?_ | (refine jas rfl ?_; (try simp only [go_sem, jcR (P := pZ) Tryz.func4 rfl, hal, jaa, lL, jab, e1]); fail_if_success refine ifC ?_) | (refine jae rfl ?_; (repeat (first | (refine jal ?_ rfl ?_; (focus (simp only [go_sem, jcR (P := pZ) Tryz.func4 rfl, hal, jaa, lL, jab, e1]; done))) | (refine jai (v := ?_) (μ' := ?_) ?_ ?_ rfl ?_; rotate_left 2; (focus (first | rfl | (simp only [go_sem, jcR (P := pZ) Tryz.func4 rfl, hal, jaa, lL, jab, e1]; done))); (focus (simp only [go_sem, jcR (P := pZ) Tryz.func4 rfl, hal, jaa, lL, jab, e1]; (try exact rfl); done))))); simp only [go_sem]))
   refine jaf ?_
   refine ⟨rfl, .bool true, ?_, rfl, Grow.refl _⟩
   simp only [go_sem, Tryz.results3]
  ·have e1 : ilt 50 (.ofNat l.length) = false := (jdq _ _ 50 rfl).trans (decide_eq_false hlen)
   have hl : l.length ≤ 50 := by omega
   refine jag Tryz.func3 rfl rfl (nbl rfl) ?_
   simp only [go_sem, Tryz.ntmps3]
   repeat (first | refine jac rfl ?_ | (refine jas rfl ?_; (try simp only [go_sem, jcR (P := pZ) Tryz.func4 rfl, hal, jaa, lL, jab, e1]); fail_if_success refine ifC ?_) | (refine jae rfl ?_; (repeat (first | (refine jal ?_ rfl ?_; (focus (simp only [go_sem, jcR (P := pZ) Tryz.func4 rfl, hal, jaa, lL, jab, e1]; done))) | (refine jai (v := ?_) (μ' := ?_) ?_ ?_ rfl ?_; rotate_left 2; (focus (first | rfl | (simp only [go_sem, jcR (P := pZ) Tryz.func4 rfl, hal, jaa, lL, jab, e1]; done))); (focus (simp only [go_sem, jcR (P := pZ) Tryz.func4 rfl, hal, jaa, lL, jab, e1]; (try exact rfl); done))))); simp only [go_sem]))
   rw [show k + 1399994 = (k + 1399964 - l.length) + l.length + 30 from by omega]
   refine EndsC.mono (jiK (n := n) (s := s) hl l.length 0 (Nat.zero_add _) hX1 hX2 hY hX hL (by omega) (by simp only [go_sem]) (by simp only [go_sem]) (by simp only [go_sem]) (by simp only [go_sem]) (by simp only [go_sem]) (by simp only [go_sem]; try rfl)) ?_
   rintro x r μa ⟨gA, tm, rfl, ⟨rfl, hall, h0, h1, h2⟩ | ⟨rfl, h6⟩⟩
   ·simp only [jaU, reduceIte, jaj]
    rw [List.drop_zero] at hall
    have hLa := hL.grow gA
    obtain ⟨R, hR, hSrc⟩ := hLa.rows
    obtain ⟨io, c, fx, sh, μb, hap, ho, hio1, hio2, gB, hcap⟩ := appendD hSrc hl
    have hSo : SrcR μb l (.slice (some ⟨io, 0, none⟩) l.length c) R := srcR_own hSrc.1 ho hio2
    obtain ⟨i2, c2, fx2, sh2, μc, hli, ho2, hi21, hi22, gC, hcap2⟩ := list_eq (X := X) (g := k + 1399993) hSo hl (by omega)
    obtain ⟨μd, hμd⟩ : ∃ m : Mem, m = putL ⟨μc.obs.set μc.next (obDt zD8), μc.next + 1⟩ μc.next 0 (cLst (.slice (some ⟨i2, 0, none⟩) l.length c2)) := ⟨_, rfl⟩
    have hst := st_D (μ := ⟨μc.obs.set μc.next (obDt zD8), μc.next + 1⟩) (o := 0) (l := cLst (.slice (some ⟨i2, 0, none⟩) l.length c2)) blk_D (by omega) rfl (jiD rfl)
    rw [← hμd] at hst
    have gD : Grow μc μd := by rw [hμd]; exact (jbp μc _).put_new (Nat.le_refl _)
    have nd : μd.next = μc.next + 1 := by rw [hμd, jcB]
    have hdat : Has μd μc.next 0 (cLst (.slice (some ⟨i2, 0, none⟩) l.length c2)) := by rw [hμd]; exact Has.of_put blk_D (by show 0 + 8 ≤ 8; omega)
    have hod : μd.obs.get io = some (.cells R.flatten.length 31 R.flatten.toArray .e 0 0 fx sh) := ((gC.trans gD).2 io hio2).trans ho
    have hod2 : μd.obs.get i2 = some (.cells R.flatten.length 31 R.flatten.toArray .e 0 0 fx2 sh2) := (gD.2 i2 hi22).trans ho2
    have lo : aLen pZ 22 (.slice (some ⟨io, 0, none⟩) l.length c) = some l.length := by
     unfold aLen
     simp only [Tryz.underlying22]
    repeat (first | refine jac rfl ?_ | (refine jas rfl ?_; (try simp only [go_sem, h2, bsD0, Nat.add_eq, jaa, hap, gg7, hli, al_D, hst, lo, jab]); fail_if_success refine ifC ?_) | (refine jae rfl ?_; (repeat (first | (refine jal ?_ rfl ?_; (focus (simp only [go_sem, h2, bsD0, Nat.add_eq, jaa, hap, gg7, hli, al_D, hst, lo, jab]; done))) | (refine jai (v := ?_) (μ' := ?_) ?_ ?_ rfl ?_; rotate_left 2; (focus (first | rfl | (simp only [go_sem, h2, bsD0, Nat.add_eq, jaa, hap, gg7, hli, al_D, hst, lo, jab]; done))); (focus (simp only [go_sem, h2, bsD0, Nat.add_eq, jaa, hap, gg7, hli, al_D, hst, lo, jab]; (try exact rfl); done))))); simp only [go_sem]))
    rw [show k + 1399991 = (k + 1399961 - l.length) + l.length + 30 from by omega]
    refine EndsC.mono (jiJ (n := n) (s := s) (v := v) (io := io) (c := c) (p := μc.next) (len := l.length) hl l.length 0 (Nat.zero_add _) (fun _ => ⟨_, _, _, _, by rw [hod, hSrc.1]⟩) (by simp only [go_sem, h0]) (by simp only [go_sem, h1]) (by simp only [go_sem, h2]) (by simp only [go_sem]) (by simp only [go_sem]) (by simp only [go_sem]) (by simp only [go_sem]; try rfl)) ?_
    rintro x r μe ⟨rfl, ne, fe, tm, rfl, h0, h1, h2, h10⟩
    simp only [jaU, reduceIte, jaj]
    have nb := gB.1
    have nc := gC.1
    have na := gA.1
    have gAD : Grow μa μd := (gB.trans gC).trans gD
    have gAE : Grow μa μe := ⟨by rw [ne]; exact gAD.1, fun i hi => (fe i (by omega)).trans (gAD.2 i hi)⟩
    have gE : Grow μ μe := gA.trans gAE
    have gF : Grow μe ⟨μe.obs, μe.next + 19⟩ := jd6 μe 19
    obtain ⟨pn, ln, hln, hb⟩ := num_both hn1 hn2
    obtain ⟨v1, μ1, rN, hV1, g1⟩ := (hb (X := X) (g := k + 1399991) (μ := ⟨μe.obs, μe.next + 19⟩) (by omega)).1
    obtain ⟨w1, μ2, rM, hW1, g2⟩ := (hb (X := X) (g := k + 1399991) (μ := μ1) (by omega)).2
    have hm2 : ln.length ≤ maxLen := Nat.le_trans hln (by decide)
    obtain ⟨μ3, rS1, g3⟩ := jgN 1 (X := X) (g := k + 1399991) (d := .mk 0 0 false 0 pn ln ⟨#[]⟩ []) ⟨by omega, Nat.zero_le _, (by intro x hx; cases hx)⟩ hX (isD_num ((hV1.grow g2).isU hm2)) (isD_num (hW1.isU hm2)) (by omega)
    obtain ⟨μ4, rY1, g4⟩ := (jjn (s := s) (X := X) (g := k + 1399991) (μ := μ3) (by omega)).1
    obtain ⟨μ5, rY2, g5⟩ := (jjn (s := s) (X := X) (g := k + 1399991) (μ := μ4) (by omega)).2
    obtain ⟨μ6, rS2, g6⟩ := jgN 1 (X := X) (g := k + 1399991) (μ := μ5) (d := .mk 4 0 false 0 false [] s []) ⟨Nat.zero_le _, Nat.zero_le _, (by intro x hx; cases hx)⟩ hX (isD_sym hs) (isD_sym hs) (by omega)
    have g06 : Grow μe μ6 := (((((gF.trans g1).trans g2).trans g3).trans g4).trans g5).trans g6
    have hdat6 : Has μ6 μc.next 0 (cLst (.slice (some ⟨i2, 0, none⟩) l.length c2)) := (hdat.keep (fe _ (by omega))).keep (g06.2 _ (by omega))
    have hld := Has.ld_D hdat6 rfl
    obtain ⟨μ7, rL, g7⟩ := listR_eq (v := v) (X := X) (g := k + 1399991) (μ := μ6) hL.one (by omega)
    have g07 := g06.trans g7
    have hld7 := Has.ld_D (hdat6.keep (g7.2 _ (by have := g06.1; omega))) rfl
    have hob7 : μ7.obs.get i2 = some (.cells R.flatten.length 31 R.flatten.toArray .e 0 0 fx2 sh2) := (g07.2 i2 (by omega)).trans ((fe i2 (by omega)).trans hod2)
    have hL2 : IsL μ7 l (.slice (some ⟨i2, 0, none⟩) l.length c2) := (hR.grow (gAE.trans g07)).isL hL.1 (fun _ => by have := g07.1; omega) (fun _ => Has.new hob7) hcap2
    obtain ⟨μ8, rS3, g8⟩ := jgN 72 (X := X) (g := k + 1399991) (μ := μ7) (d := .mk 5 0 false 0 false [] ⟨#[]⟩ l) ⟨Nat.zero_le _, by omega, fun x hx => (hall x hx).dp⟩ hX (isD_lst hL2) (isD_lst (hL.grow (gE.trans g07))) (by omega)
    have gZ := (gE.trans g07).trans g8
    refine jah ?_
    refine jaN (n := 19) (ms := [0, 1, 0, 7, 15, 31, 63, 127, 63, 511, 1023, 2047, 4095, 8191, 8191, 24575, 65535, 131071, 262143]) (ord := [0, 1, 2, 3, 4, 5, 6, 7, 8, 9, 10, 11, 12, 14, 15, 13, 16, 17, 18]) (ds := ?_) ?_ ?_ ?_ ?_ ?_ ?_
    rotate_left
    ·kernel_rfl
    ·kernel_rfl
    ·kernel_rfl
    ·rfl
    ·rfl
    repeat (first | (refine jcu ?_ rfl ?_; (focus (simp only [go_sem, undef, h0, h1, h2, h10, hld, hld7, gg9, rN, gg10, rM, gg8, rS1, gg11, rY1, gg12, rY2, rS2, gg13, rL, rS3, (show bef [0, 1, 0, 7, 15, 31, 63, 127, 63, 511, 1023, 2047, 4095, 8191, 8191, 24575, 65535, 131071, 262143] 1 13 = true from by kernel_rfl), (show bef [0, 1, 0, 7, 15, 31, 63, 127, 63, 511, 1023, 2047, 4095, 8191, 8191, 24575, 65535, 131071, 262143] 3 13 = true from by kernel_rfl), (show bef [0, 1, 0, 7, 15, 31, 63, 127, 63, 511, 1023, 2047, 4095, 8191, 8191, 24575, 65535, 131071, 262143] 4 13 = true from by kernel_rfl), (show bef [0, 1, 0, 7, 15, 31, 63, 127, 63, 511, 1023, 2047, 4095, 8191, 8191, 24575, 65535, 131071, 262143] 7 13 = true from by kernel_rfl), (show bef [0, 1, 0, 7, 15, 31, 63, 127, 63, 511, 1023, 2047, 4095, 8191, 8191, 24575, 65535, 131071, 262143] 9 13 = true from by kernel_rfl), (show bef [0, 1, 0, 7, 15, 31, 63, 127, 63, 511, 1023, 2047, 4095, 8191, 8191, 24575, 65535, 131071, 262143] 10 13 = true from by kernel_rfl), (show bef [0, 1, 0, 7, 15, 31, 63, 127, 63, 511, 1023, 2047, 4095, 8191, 8191, 24575, 65535, 131071, 262143] 15 13 = false from by kernel_rfl), (show bef [0, 1, 0, 7, 15, 31, 63, 127, 63, 511, 1023, 2047, 4095, 8191, 8191, 24575, 65535, 131071, 262143] 16 13 = false from by kernel_rfl)]; done))) | (refine jaM (v := ?_) (μ' := ?_) (sn' := ?_) ?_ ?_ rfl ?_; rotate_left 3; (focus (first | rfl | (simp only [go_sem, undef, h0, h1, h2, h10, hld, hld7, gg9, rN, gg10, rM, gg8, rS1, gg11, rY1, gg12, rY2, rS2, gg13, rL, rS3, (show bef [0, 1, 0, 7, 15, 31, 63, 127, 63, 511, 1023, 2047, 4095, 8191, 8191, 24575, 65535, 131071, 262143] 1 13 = true from by kernel_rfl), (show bef [0, 1, 0, 7, 15, 31, 63, 127, 63, 511, 1023, 2047, 4095, 8191, 8191, 24575, 65535, 131071, 262143] 3 13 = true from by kernel_rfl), (show bef [0, 1, 0, 7, 15, 31, 63, 127, 63, 511, 1023, 2047, 4095, 8191, 8191, 24575, 65535, 131071, 262143] 4 13 = true from by kernel_rfl), (show bef [0, 1, 0, 7, 15, 31, 63, 127, 63, 511, 1023, 2047, 4095, 8191, 8191, 24575, 65535, 131071, 262143] 7 13 = true from by kernel_rfl), (show bef [0, 1, 0, 7, 15, 31, 63, 127, 63, 511, 1023, 2047, 4095, 8191, 8191, 24575, 65535, 131071, 262143] 9 13 = true from by kernel_rfl), (show bef [0, 1, 0, 7, 15, 31, 63, 127, 63, 511, 1023, 2047, 4095, 8191, 8191, 24575, 65535, 131071, 262143] 10 13 = true from by kernel_rfl), (show bef [0, 1, 0, 7, 15, 31, 63, 127, 63, 511, 1023, 2047, 4095, 8191, 8191, 24575, 65535, 131071, 262143] 15 13 = false from by kernel_rfl), (show bef [0, 1, 0, 7, 15, 31, 63, 127, 63, 511, 1023, 2047, 4095, 8191, 8191, 24575, 65535, 131071, 262143] 16 13 = false from by kernel_rfl)]; done))); (focus (simp only [jaO, heavy, ja8, jaF, go_sem, undef, h0, h1, h2, h10, hld, hld7, gg9, rN, gg10, rM, gg8, rS1, gg11, rY1, gg12, rY2, rS2, gg13, rL, rS3, (show bef [0, 1, 0, 7, 15, 31, 63, 127, 63, 511, 1023, 2047, 4095, 8191, 8191, 24575, 65535, 131071, 262143] 1 13 = true from by kernel_rfl), (show bef [0, 1, 0, 7, 15, 31, 63, 127, 63, 511, 1023, 2047, 4095, 8191, 8191, 24575, 65535, 131071, 262143] 3 13 = true from by kernel_rfl), (show bef [0, 1, 0, 7, 15, 31, 63, 127, 63, 511, 1023, 2047, 4095, 8191, 8191, 24575, 65535, 131071, 262143] 4 13 = true from by kernel_rfl), (show bef [0, 1, 0, 7, 15, 31, 63, 127, 63, 511, 1023, 2047, 4095, 8191, 8191, 24575, 65535, 131071, 262143] 7 13 = true from by kernel_rfl), (show bef [0, 1, 0, 7, 15, 31, 63, 127, 63, 511, 1023, 2047, 4095, 8191, 8191, 24575, 65535, 131071, 262143] 9 13 = true from by kernel_rfl), (show bef [0, 1, 0, 7, 15, 31, 63, 127, 63, 511, 1023, 2047, 4095, 8191, 8191, 24575, 65535, 131071, 262143] 10 13 = true from by kernel_rfl), (show bef [0, 1, 0, 7, 15, 31, 63, 127, 63, 511, 1023, 2047, 4095, 8191, 8191, 24575, 65535, 131071, 262143] 15 13 = false from by kernel_rfl), (show bef [0, 1, 0, 7, 15, 31, 63, 127, 63, 511, 1023, 2047, 4095, 8191, 8191, 24575, 65535, 131071, 262143] 16 13 = false from by kernel_rfl)]; (try exact rfl); done))))
    simp only [dRun, jaG, jaj]
    refine jaf ?_
    refine ⟨rfl, .bool true, ?_, rfl, gZ⟩
    simp only [go_sem, Tryz.results3]
   ·simp only [jaU]
    refine ⟨rfl, .bool true, ?_, rfl, gA⟩
    simp only [go_sem, Tryz.results3]
    rw [h6]
 obtain ⟨w, μ', h1, rfl, h2⟩ := key
 exact ⟨μ', h1, h2⟩
end
noncomputable section
theorem am_loop {S : List (FuncId × LK)} {s : ByteArray} {c : Nat} (hl : (bys s).length ≤ 1000) : ∀ (m i : Nat), i + m = (bys s).length → ∀ {X : XT} {e : Nat} {tm : T Value} {μ : Mem}, jak tm 0 = .string s → jak tm 1 = .int .u8 (.ofNat c) → jak tm 4 = .bool false → jak tm 5 = .int .i64 (.ofNat i) →
  EndsC (jan pZ X S (e + m + 30) (.loop (jaB Tryz.f100 0)) ⟨17, tm, [], none⟩ μ) fun x r μ' => μ' = μ ∧ ∃ tm', r = ⟨17, tm', [], none⟩ ∧ ((((bys s).drop i).contains c = false ∧ x = .exit 0) ∨ (((bys s).drop i).contains c = true ∧ x = .ret ∧ jak tm' 4 = .bool true)) := by
 have ls := jbm s
 intro m
 induction m with
 | zero =>
   intro i hi X e tm μ h0 h1 h2 h3
   have hi : i = (bys s).length := hi
   have e1 : ilt (.ofNat i) (.ofNat (bys s).length) = false := (jaq _ _).trans (decide_eq_false (by omega))
   refine jam ?_
   repeat (first | refine jac rfl ?_ | (refine jad rfl ?_; (try simp only [go_sem, h0, h1, h2, h3, jaa, ls, jab, e1]); fail_if_success refine ifC ?_))
   exact ⟨by trivial, _, rfl, .inl ⟨(by rw [hi, List.drop_length]; rfl), by trivial⟩⟩
 | succ m ih =>
   intro i hi X e tm μ h0 h1 h2 h3
   have hlt : i < (bys s).length := by omega
   have hdr : (bys s).drop i = (bys s)[i]'hlt :: (bys s).drop (i + 1) := List.drop_eq_getElem_cons hlt
   obtain ⟨b, hb⟩ : ∃ b, b = (bys s)[i]'hlt := ⟨_, rfl⟩
   rw [← hb] at hdr
   have hx : ∀ (r : Rg) (x y : Operand), aev pZ r x = .string s → aev pZ r y = .int .i64 (.ofNat i) → jbC pZ (aev pZ r) 9 x y = some (.int .u8 (.ofNat b)) := fun r x y h1 h2 => by rw [hb]; exact jb0 hlt h1 h2
   have e1 : ilt (.ofNat i) (.ofNat (bys s).length) = true := (jaq _ _).trans (decide_eq_true hlt)
   have a1 : jar .i64 (Int.add (.ofNat i) 1) = .ofNat (i + 1) := jaW i 1 (by omega)
   clear hb
   rw [hdr]
   by_cases hp : b = c
   ·have e2 : ieq (.ofNat b) (.ofNat c) = true := (jbW _ _).trans (decide_eq_true hp)
    refine jam ?_
    repeat (first | refine jac rfl ?_ | (refine jad rfl ?_; (try simp only [go_sem, h0, h1, h2, h3, jaa, ls, jab, e1, hx, e2]); fail_if_success refine ifC ?_))
    refine jaf ?_
    exact ⟨by trivial, _, rfl, .inr ⟨(by rw [List.contains_cons, hp]; simp), by trivial, by simp only [go_sem]⟩⟩
   ·have e2 : ieq (.ofNat b) (.ofNat c) = false := (jbW _ _).trans (decide_eq_false hp)
    refine jam ?_
    repeat (first | refine jac rfl ?_ | (refine jad rfl ?_; (try simp only [go_sem, h0, h1, h2, h3, jaa, ls, jab, e1, hx, e2, a1]); fail_if_success refine ifC ?_))
    rw [show e + (m + 1) + 29 = e + m + 30 from by omega]
    refine EndsC.mono (ih (i + 1) (by omega) (by simp only [go_sem, h0]) (by simp only [go_sem, h1]) (by simp only [go_sem, h2]) (by simp only [go_sem])) ?_
    rintro x r μ' ⟨g1, tm', g2, g3⟩
    have ec : (b :: (bys s).drop (i + 1)).contains c = ((bys s).drop (i + 1)).contains c := by
     rw [List.contains_cons, show (c == b) = false from by simpa using fun h => hp h.symm, Bool.false_or]
    rw [ec]
    exact ⟨g1, tm', g2, g3⟩
theorem among_eq {S : List (FuncId × LK)} {s : ByteArray} {c : Nat} (hl : (bys s).length ≤ 1000) {X : XT} {g : Nat} {μ : Mem} (hg : 2000 ≤ g) : aFun pZ (jan pZ X S g) 100 [.string s, .int .u8 (.ofNat c)] μ = some (.bool ((bys s).contains c), μ) := by
 obtain ⟨k, rfl⟩ := gle hg
 refine jaI ?_
 refine jag Tryz.func100 rfl rfl (nbl rfl) ?_
 simp only [go_sem, Tryz.ntmps100]
 repeat (first | refine jac rfl ?_ | (refine jad rfl ?_; (try simp only [go_sem, undef]); fail_if_success refine ifC ?_))
 rw [show k + 1996 = (k + 1966 - (bys s).length) + (bys s).length + 30 from by omega]
 refine EndsC.mono (am_loop (c := c) hl (bys s).length 0 (Nat.zero_add _) (by simp only [go_sem]) (by simp only [go_sem]) (by simp only [go_sem]) (by simp only [go_sem]; try rfl)) ?_
 rintro x r μ' ⟨rfl, tm', rfl, ⟨h1, rfl⟩ | ⟨h1, rfl, h2⟩⟩
 ·rw [List.drop_zero] at h1
  simp only [jaU, reduceIte, jaj]
  rw [h1]
  repeat (first | refine jac rfl ?_ | (refine jad rfl ?_; (try simp only [go_sem, undef]); fail_if_success refine ifC ?_))
  refine jaf ?_
  refine ⟨rfl, _, ?_, rfl, rfl⟩
  simp only [go_sem, Tryz.results100]
 ·rw [List.drop_zero] at h1
  simp only [jaU]
  refine ⟨rfl, _, ?_, rfl, rfl⟩
  simp only [go_sem, Tryz.results100]
  rw [h2, h1]
def jhI : ByteArray := ⟨List.toArray (List.append [97, 98, 99, 100, 101, 102, 103, 104, 105, 106, 107, 108, 109, 110, 111, 112, 113, 114, 115, 116, 117, 118, 119, 120, 121, 122, 65, 66, 67, 68, 69, 70, 71, 72, 73, 74, 75, 76, 77, 78] [79, 80, 81, 82, 83, 84, 85, 86, 87, 88, 89, 90, 48, 49, 50, 51, 52, 53, 54, 55, 56, 57, 33, 36, 37, 38, 42, 47, 58, 60, 61, 62, 63, 94, 95, 126, 43, 45, 46, 64])⟩
theorem jgk : bys jhI = plainL := by kernel_rfl
theorem rplain_eq {c : Nat} {X : XT} {g : Nat} {μ : Mem} (hg : 3000 ≤ g) : aFun pZ (jan pZ X [] g) 80 [.int .u8 (.ofNat c)] μ = some (.bool (plainL.contains c), μ) := by
 obtain ⟨k, rfl⟩ := gle hg
 refine jaI ?_
 have ha := among_eq (S := []) (s := jhI) (c := c) (by rw [jgk]; decide) (X := X) (g := k + 2997) (μ := μ) (by omega)
 rw [jgk] at ha
 have hc : ∀ μ', aGo pZ X (jbO pZ (jan pZ X [] (k + 2997)) []) 100 [.string jhI, .int .u8 (.ofNat c)] μ' = aFun pZ (jan pZ X [] (k + 2997)) 100 [.string jhI, .int .u8 (.ofNat c)] μ' := fun μ' => go_call (P := pZ) (X := X) (S := []) Tryz.func100 rfl rfl _ _
 refine jag Tryz.func80 rfl rfl (nbl rfl) ?_
 simp only [go_sem, Tryz.ntmps80]
 repeat (first | refine jac rfl ?_ | (refine jad rfl ?_; (try simp only [go_sem, show (⟨List.toArray _⟩ : ByteArray) = jhI from rfl, hc, ha]); fail_if_success refine ifC ?_))
 refine jaf ?_
 refine ⟨rfl, _, ?_, rfl, rfl⟩
 simp only [go_sem, Tryz.results80]
theorem plain_run {P : Program} {X : XT} (hN : jcX P) (hX : XOk P X) (hm : P.follows .mixedOrders = true) {S : List (FuncId × LK)} (hS : SumsOk P S) {k : Nat} {g : FuncId} {nx : Nat} (hnx : P.globals.size < nx)
  (f : List Value → Option Value) (h : ∀ args v, f args = some v → ∃ μ', aFun P (jan P X S k) g args ⟨.e, nx⟩ = some (v, μ')) : KOk P g (.plain f) := by
 intro args v hf hp hv W n R hR
 obtain ⟨μ', hrun⟩ := h args v hf
 have hnone : ∀ i b s, jbr nx i ≠ .at b s := fun i b s e => by unfold jbr at e; split at e <;> cases e
 have hr : Rel (jbr nx) ⟨.e, nx⟩ W := ⟨fun i j b s t e _ => absurd e (hnone _ _ _), fun i b s e => absurd e (hnone _ _ _), fun i hi => if_neg (Nat.not_lt.2 hi), fun i o ho _ => by simp [T.get_e] at ho⟩
 have hB : Base P (jbr nx) := ⟨fun g hg => .inr (if_pos (Nat.lt_trans hg hnx)), if_pos hnx⟩
 have ha : ARel (jbr nx) args.toArray args.toArray := ⟨rfl, fun i a b ha hb => by
  rw [ha] at hb; cases hb
  refine ja5 5 (List.all_eq_true.1 hp _ ?_)
  have := Array.mem_of_getElem? ha
  simpa using this⟩
 refine jgq (jg4 hN hX hm hS k).1 g args _ v μ' hrun _ W _ hr hB ha n R fun J' v' w' h1 h2 h3 => ?_
 rw [jek 5 hv h1]
 exact hR w' ⟨h3.os, h3.output, h3.size, fun b hb => h3.frame b hb (fun i s e => absurd e (hnone _ _ _)), h3.tape⟩
end
noncomputable section
theorem isNamed : jcX pZ := named_of (by kernel_rfl)
theorem mixed : pZ.follows .mixedOrders = true := by kernel_rfl
def xs : List (FuncId × XK) := [(49, .f64bits), (106, .f64from), (118, .same), (120, .noZero 5), (154, .f64bits), (221, .f64from), (179, .indexByte)]
theorem rows : ∀ x ∈ xs, ∃ fn, XRow pZ x.1 x.2 fn := by
 intro x hx
 simp only [xs, List.mem_cons, List.not_mem_nil, or_false] at hx
 rcases hx with rfl | rfl | rfl | rfl | rfl | rfl | rfl
 ·exact ⟨_, Tryz.func49, by kernel_rfl, by kernel_rfl, by kernel_rfl, by kernel_rfl, fun e h => by cases h⟩
 ·exact ⟨_, Tryz.func106, by kernel_rfl, by kernel_rfl, by kernel_rfl, by kernel_rfl, fun e h => by cases h⟩
 ·exact ⟨_, Tryz.func118, by kernel_rfl, by kernel_rfl, by kernel_rfl, by kernel_rfl, fun e h => by cases h⟩
 ·exact ⟨_, Tryz.func120, by kernel_rfl, by kernel_rfl, by kernel_rfl, by kernel_rfl, fun e h => by cases h; exact ⟨Tryz.f120.resultTypes.getD 0 0, by kernel_rfl, by kernel_rfl⟩⟩
 ·exact ⟨_, Tryz.func154, by kernel_rfl, by kernel_rfl, by kernel_rfl, by kernel_rfl, fun e h => by cases h⟩
 ·exact ⟨_, Tryz.func221, by kernel_rfl, by kernel_rfl, by kernel_rfl, by kernel_rfl, fun e h => by cases h⟩
 ·exact ⟨_, Tryz.func179, by kernel_rfl, by kernel_rfl, by kernel_rfl, by kernel_rfl, fun e h => by cases h⟩
theorem bits1 : jbx (aExt xs) := fun a μ => rfl
theorem bits2 : jbT (aExt xs) := fun n μ _ => rfl
def domC : List (List Value) := (List.range 256).map fun q => [.int .u8 (.ofNat q)]
theorem domP : ∀ args v, fP args = some v → args ∈ domC := by
 intro args v h
 unfold fP at h
 split at h
 ·rename_i q
  split at h
  ·rename_i hq
   exact List.mem_map.2 ⟨q, List.mem_range.2 hq, rfl⟩
  ·cases h
 ·cases h
theorem domF : ∀ args v, fF args = some v → args ∈ domC := by
 intro args v h
 unfold fF at h
 split at h
 ·rename_i q
  split at h
  ·rename_i hq
   exact List.mem_map.2 ⟨q, List.mem_range.2 hq, rfl⟩
  ·cases h
 ·cases h
theorem tbP : domOk (fun args => aFun pZ (jan pZ (aExt xs) [] 100) 98 args ⟨.e, 900⟩) fP domC = true := by kernel_rfl
theorem ranR : ∀ args v, fP args = some v → ∃ μ', aFun pZ (jan pZ (aExt xs) [] 3000) 80 args ⟨.e, 900⟩ = some (v, μ') := by
 intro args v h
 unfold fP at h
 split at h
 ·split at h
  ·cases h
   exact ⟨_, rplain_eq (Nat.le_refl _)⟩
  ·cases h
 ·cases h
theorem tbF : domOk (fun args => aFun pZ (jan pZ (aExt xs) [] 100) 151 args ⟨.e, 900⟩) fF domC = true := by kernel_rfl
theorem ranAlive : jgV roms (aFun pZ (jan pZ (aExt xs) [] 4000) 4 [] ⟨je4 roms, 900⟩) = true := by kernel_rfl
theorem sums : SumsOk pZ S0 :=
 SumsOk.cons (sum_of isNamed (jf1 rows) mixed (SumsOk.none _) (by decide +kernel) roms (by kernel_rfl) ranAlive)
 (SumsOk.cons (jhH isNamed (jf1 rows) mixed (SumsOk.none _) (by decide +kernel) fP domC domP tbP)
 (SumsOk.cons (plain_run isNamed (jf1 rows) mixed (SumsOk.none _) (by decide +kernel) fP ranR)
 (SumsOk.cons (jhH isNamed (jf1 rows) mixed (SumsOk.none _) (by decide +kernel) fF domC domF tbF) (SumsOk.none _))))
end
noncomputable section
theorem jkN {X : XT} {μ : Mem} (h : jfx μ roms = true) (k : Nat) : jbO pZ (jan pZ X S0 k) S0 4 [] μ = some (.bool true, μ) := by
 show (match jfx μ roms with | true => some (Value.bool true, μ) | false => none) = _
 rw [h]
theorem toBits : jcL (aExt xs) := fun a μ => rfl
theorem wfI_range {n : Int} (h : wfI n) : -9223372036854775808 ≤ n ∧ n < 9223372036854775808 := by
 unfold wfI at h
 simp only [Lit.wf, IntKind.min, IntKind.max, IntKind.signed, IntKind.bits] at h
 simp at h
 omega
theorem arel_3 {J : Nat → Ev.Loc} {a b c a' b' c' : Value} (h1 : VRel J a a') (h2 : VRel J b b') (h3 : VRel J c c') : ARel J [a, b, c].toArray #[a', b', c'] := ⟨rfl, fun i x y hx hy => by
 match i with
 | 0 => simp at hx hy; subst hx hy; exact h1
 | 1 => simp at hx hy; subst hx hy; exact h2
 | 2 => simp at hx hy; subst hx hy; exact h3
 | i + 3 => simp at hx⟩
section
variable {H : Type} {enc : TypeId × Value → H} {W : World} {sp : Nat → Bool} {hd : Bool}
theorem data_trod {gs : Nat} (hlt : gs < 870) {fuel : Nat} {v : Value} {x : DataW H × List MemPlace} (h : DataW.trod enc pZ W 0 sp hd fuel 22 [v] = some x) : ∃ l, IsL (memW W gs) l (absV W gs v) := by
 obtain ⟨v', len, q4, hle, hv⟩ := jin Tryz.underlying22 ji1 (by decide) h
 cases q4
 rcases hv with ⟨rfl, rfl⟩ | ⟨a, cap, rfl, hcp, hr⟩
 ·exact ⟨[], Nat.zero_le _, .inl ⟨rfl, rfl⟩⟩
 ·by_cases h0 : len = 0
  ·subst h0
   obtain ⟨i, o, hi⟩ := ji6 (W := W) (gs := gs) (l := 0) (c := cap) (a := a)
   exact ⟨[], Nat.zero_le _, .inr ⟨i, o, _, hi, fun h => absurd rfl h, (by rw [IsDs]; trivial), .inl ⟨by omega, Nat.zero_le _⟩⟩⟩
  ·obtain ⟨b, o, c, tb, fz, n', rfl, hn', hb, hi⟩ := hr (by omega)
   obtain ⟨l, hl1, hl2⟩ := jiN (len := len) (Q := fun i d => ∃ cs, Has (memW W gs) (idB gs b) (o + 8 * i) cs ∧ IsD (memW W gs) d cs) fun i hil => by
    obtain ⟨row, y, q1, q2⟩ := hi i hil
    obtain ⟨d, hd⟩ := jkH hlt n' q1
    refine ⟨d, _, jgP hlt hb (fun j v hj => ?_) ?_, hd⟩
    ·rw [Nat.mul_comm 8 i]
     exact q2 j v hj
    ·rintro rfl
     cases d
     rw [jcD] at hd
     obtain ⟨_, _, h, _⟩ := hd
     cases h
   exact ⟨l, by omega, .inr ⟨_, _, _, by rw [hl1]; exact abs_sl hb, fun _ => id_lt hb, jgX hl2, .inl ⟨by omega, by omega⟩⟩⟩
theorem ranM (hL : Laid W) {fuel : Nat} {n : Int} {s : ByteArray} {v : Value} {x : DataW H × List MemPlace} (hn : wfI n) (hs : s.size ≤ maxLen) (h : DataW.trod enc pZ W 0 sp hd fuel 22 [v] = some x) :
  Calls pZ 3 #[.int .i64 n, .string s, v] W fun e W' => e = .returned (.bool true) ∧ Same W W' := by
 obtain ⟨l, hl⟩ := data_trod gsz.2 h
 obtain ⟨h1, h2⟩ := wfI_range hn
 obtain ⟨μ', hr, hG⟩ := makes_ex (X := aExt xs) (g := 1400000) (s := s) bits1 bits2 (lay_hand hL) toBits hl h1 h2 hs (Nat.le_refl _) (jkN rfl)
 exact jhS isNamed (jf1 rows) mixed sums (by have := gsz.2; show _ < 900 + _; omega) (handsW rfl gsz.2) (arel_3 (.int _ _) (.string _) (abs_rel gsz.2 v)) hr hG.2 rfl
end
end
end Go.Proofs.YthnglblipoimhaaGreatDoor.dm
