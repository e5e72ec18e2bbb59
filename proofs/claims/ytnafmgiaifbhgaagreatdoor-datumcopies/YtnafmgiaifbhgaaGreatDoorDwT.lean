/-
  distafflaw05.DatumCopies, part T: its walk and its law. No conditions.
-/
import Derived.Test.YtnafmgiaifbhgaaGreatDoorDwS
set_option maxRecDepth 20000
set_option maxHeartbeats 8000000
set_option linter.unusedSimpArgs false
set_option linter.unusedVariables false
set_option linter.unusedSectionVars false
namespace Go.Proofs.YtnafmgiaifbhgaaGreatDoor.dc
open Go Go.Proofs Go.Proofs.YtnafmgiaifbhgaaGreatDoor Go.Proofs.YtnafmgiaifbhgaaGreatDoor.Ev
noncomputable section
theorem jfZ {μ : Mem} {n : Nat} (h : μ.next ≤ n) : Grow μ ⟨μ.obs, n⟩ := ⟨h, fun _ _ => rfl⟩
theorem vs_in {μ0 : Mem} : ∀ (n : Nat) (s : ByteArray), (bys s).length ≤ n → ∀ {X : XT} {e : Nat} {tm : T Value} {μ : Mem}, Grow μ0 μ → jam tm 0 = .string s →
  EndsC (jao pZ X S0 (e + n + 50) (.loop (jaR Tryz.f43 1)) ⟨169, tm, [], none⟩ μ) fun x r μ' => Grow μ0 μ' ∧ x = .exit 2 ∧ ∃ tm' s', r = ⟨169, tm', [], none⟩ ∧ jam tm' 0 = .string s' ∧ (bys s').length ≤ (bys s).length := by
 intro n
 induction n with
 | zero =>
   intro s hs X e tm μ hG h0
   have ls := ja6 s
   have e1 : ilt 32 (.ofNat (bys s).length) = false := (jcn _ 32 32 rfl).trans (decide_eq_false (by omega))
   refine jan ?_
   repeat (first | refine jab rfl ?_ | (refine jap rfl ?_; (try simp only [go_sem, undef]); fail_if_success refine ifC ?_) | (refine jad rfl ?_; (repeat (first | (refine jai ?_ rfl ?_; (solve | simp only [go_sem, undef])) | (refine jaf (v := ?_) (μ' := ?_) ?_ ?_ rfl ?_; rotate_left 2; (solve | rfl | simp only [go_sem, undef]); (solve | simp only [go_sem, undef]; try exact rfl)))); simp only [go_sem]))
   refine jaG (n := 21) (ms := [0, 1, 3, 7, 15, 31, 15, 79, 255, 511, 15, 1039, 3583, 15, 8207, 32255, 65023, 131071, 262143, 524287, 1048575]) (ord := [0, 1, 2, 3, 4, 5, 6, 7, 8, 10, 11, 12, 13, 14, 15, 9, 16, 17, 18, 19, 20]) (ds := ?_) ?_ ?_ ?_ ?_ ?_ ?_
   rotate_left
   ·kernel_rfl
   ·kernel_rfl
   ·kernel_rfl
   ·rfl
   ·rfl
   repeat (first | (refine jaA ?_ rfl ?_; (solve | simp only [go_sem, undef, h0, jaa, ls, jae, e1])) | (refine jar (v := ?_) (μ' := ?_) (sn' := ?_) ?_ ?_ rfl ?_; rotate_left 3; (solve | rfl | simp only [go_sem, undef, h0, jaa, ls, jae, e1]); (solve | simp only [jav, heavy, jaI, jaq, go_sem, undef, h0, jaa, ls, jae, e1]; try exact rfl)))
   simp only [dRun, jay, jak]
   repeat (first | refine jab rfl ?_ | (refine jap rfl ?_; (try simp only [go_sem, undef]); fail_if_success refine ifC ?_) | (refine jad rfl ?_; (repeat (first | (refine jai ?_ rfl ?_; (solve | simp only [go_sem, undef])) | (refine jaf (v := ?_) (μ' := ?_) ?_ ?_ rfl ?_; rotate_left 2; (solve | rfl | simp only [go_sem, undef]); (solve | simp only [go_sem, undef]; try exact rfl)))); simp only [go_sem]))
   exact ⟨hG.trans (jb7 _ _), by trivial, _, _, rfl, by simp only [go_sem, h0], Nat.le_refl _⟩
 | succ n ih =>
   intro s hs X e tm μ hG h0
   have ls := ja6 s
   by_cases h32 : 32 < (bys s).length
   ·have e1 : ilt 32 (.ofNat (bys s).length) = true := (jcn _ 32 32 rfl).trans (decide_eq_true h32)
    have k8 : ∀ (r : Rg) (x : Operand), aev pZ r x = .string s → jbg pZ (aev pZ r) 9 x (some (.const (.int .i64 8))) none none = some (.string (jbw s 8)) := fun r x h => je0 s (by omega) r x _ h rfl
    have k16 : ∀ (r : Rg) (x : Operand), aev pZ r x = .string s → jbg pZ (aev pZ r) 9 x (some (.const (.int .i64 16))) none none = some (.string (jbw s 16)) := fun r x h => je0 s (by omega) r x _ h rfl
    have k24 : ∀ (r : Rg) (x : Operand), aev pZ r x = .string s → jbg pZ (aev pZ r) 9 x (some (.const (.int .i64 24))) none none = some (.string (jbw s 24)) := fun r x h => je0 s (by omega) r x _ h rfl
    have k32 : ∀ (r : Rg) (x : Operand), aev pZ r x = .string s → jbg pZ (aev pZ r) 9 x (some (.const (.int .i64 32))) none none = some (.string (jbw s 32)) := fun r x h => je0 s (by omega) r x _ h rfl
    obtain ⟨n0, w0⟩ := jdK (s := s) (by omega)
    obtain ⟨n1, w1⟩ := jdK (s := jbw s 8) (by rw [jb3]; omega)
    obtain ⟨n2, w2⟩ := jdK (s := jbw s 16) (by rw [jb3]; omega)
    obtain ⟨n3, w3⟩ := jdK (s := jbw s 24) (by rw [jb3]; omega)
    have y0 : ∀ μ', aFun pZ (jao pZ X S0 (e + (n + 1) + 46)) 64 [.string s] μ' = some (u n0, ⟨μ'.obs, μ'.next + 39⟩) := fun μ' => w0 (by omega)
    have y1 : ∀ μ', aFun pZ (jao pZ X S0 (e + (n + 1) + 46)) 64 [.string (jbw s 8)] μ' = some (u n1, ⟨μ'.obs, μ'.next + 39⟩) := fun μ' => w1 (by omega)
    have y2 : ∀ μ', aFun pZ (jao pZ X S0 (e + (n + 1) + 46)) 64 [.string (jbw s 16)] μ' = some (u n2, ⟨μ'.obs, μ'.next + 39⟩) := fun μ' => w2 (by omega)
    have y3 : ∀ μ', aFun pZ (jao pZ X S0 (e + (n + 1) + 46)) 64 [.string (jbw s 24)] μ' = some (u n3, ⟨μ'.obs, μ'.next + 39⟩) := fun μ' => w3 (by omega)
    obtain ⟨t, et⟩ : ∃ t, ieq (.ofNat (W (W (W (W n0 ||| W n1) ||| W (W n2 ||| W n3)) &&& 9259542123273814144))) 0 = t := ⟨_, rfl⟩
    refine jan ?_
    repeat (first | refine jab rfl ?_ | (refine jap rfl ?_; (try simp only [go_sem, undef]); fail_if_success refine ifC ?_) | (refine jad rfl ?_; (repeat (first | (refine jai ?_ rfl ?_; (solve | simp only [go_sem, undef])) | (refine jaf (v := ?_) (μ' := ?_) ?_ ?_ rfl ?_; rotate_left 2; (solve | rfl | simp only [go_sem, undef]); (solve | simp only [go_sem, undef]; try exact rfl)))); simp only [go_sem]))
    refine jaG (n := 21) (ms := [0, 1, 3, 7, 15, 31, 15, 79, 255, 511, 15, 1039, 3583, 15, 8207, 32255, 65023, 131071, 262143, 524287, 1048575]) (ord := [0, 1, 2, 3, 4, 5, 6, 7, 8, 10, 11, 12, 13, 14, 15, 9, 16, 17, 18, 19, 20]) (ds := ?_) ?_ ?_ ?_ ?_ ?_ ?_
    rotate_left
    ·kernel_rfl
    ·kernel_rfl
    ·kernel_rfl
    ·rfl
    ·rfl
    have zz := (⟨@h0, @ls, @jae, @e1, @k8, @k16, @k24, @gg64, @y0, @y1, @y2, @y3, @wOr, @wAndV, @et⟩ : _ ∧ _ ∧ _ ∧ _ ∧ _ ∧ _ ∧ _ ∧ _ ∧ _ ∧ _ ∧ _ ∧ _ ∧ _ ∧ _ ∧ _)
    repeat (first | (refine jaA ?_ rfl ?_; (solve | simp only [go_sem, undef, jaa, zz])) | (refine jar (v := ?_) (μ' := ?_) (sn' := ?_) ?_ ?_ rfl ?_; rotate_left 3; (solve | rfl | simp only [go_sem, undef, jaa, zz]); (solve | simp only [jav, heavy, jaI, jaq, go_sem, undef, jaa, zz]; try exact rfl)))
    clear zz
    simp only [dRun, jay, jak]
    have hG' : Grow μ0 ⟨μ.obs, μ.next + 21 + 39 + 39 + 39 + 39⟩ := hG.trans (jfZ (by omega))
    cases t with
    | true =>
      repeat (first | refine jab rfl ?_ | (refine jap rfl ?_; (try simp only [go_sem, h0, k32]); fail_if_success refine ifC ?_) | (refine jad rfl ?_; (repeat (first | (refine jai ?_ rfl ?_; (solve | simp only [go_sem, h0, k32])) | (refine jaf (v := ?_) (μ' := ?_) ?_ ?_ rfl ?_; rotate_left 2; (solve | rfl | simp only [go_sem, h0, k32]); (solve | simp only [go_sem, h0, k32]; try exact rfl)))); simp only [go_sem]))
      rw [show e + (n + 1) + 49 = e + n + 50 from by omega]
      refine EndsC.mono (ih (jbw s 32) (by rw [jb3]; omega) hG' (by simp only [go_sem])) ?_
      rintro x r μ' ⟨g1, rfl, tm', s', rfl, g2, g3⟩
      exact ⟨g1, rfl, _, _, rfl, g2, Nat.le_trans g3 (by rw [jb3]; omega)⟩
    | false =>
      repeat (first | refine jab rfl ?_ | (refine jap rfl ?_; (try simp only [go_sem, undef]); fail_if_success refine ifC ?_) | (refine jad rfl ?_; (repeat (first | (refine jai ?_ rfl ?_; (solve | simp only [go_sem, undef])) | (refine jaf (v := ?_) (μ' := ?_) ?_ ?_ rfl ?_; rotate_left 2; (solve | rfl | simp only [go_sem, undef]); (solve | simp only [go_sem, undef]; try exact rfl)))); simp only [go_sem]))
      exact ⟨hG', by trivial, _, _, rfl, by simp only [go_sem, h0], Nat.le_refl _⟩
   ·have e1 : ilt 32 (.ofNat (bys s).length) = false := (jcn _ 32 32 rfl).trans (decide_eq_false h32)
    refine jan ?_
    repeat (first | refine jab rfl ?_ | (refine jap rfl ?_; (try simp only [go_sem, undef]); fail_if_success refine ifC ?_) | (refine jad rfl ?_; (repeat (first | (refine jai ?_ rfl ?_; (solve | simp only [go_sem, undef])) | (refine jaf (v := ?_) (μ' := ?_) ?_ ?_ rfl ?_; rotate_left 2; (solve | rfl | simp only [go_sem, undef]); (solve | simp only [go_sem, undef]; try exact rfl)))); simp only [go_sem]))
    refine jaG (n := 21) (ms := [0, 1, 3, 7, 15, 31, 15, 79, 255, 511, 15, 1039, 3583, 15, 8207, 32255, 65023, 131071, 262143, 524287, 1048575]) (ord := [0, 1, 2, 3, 4, 5, 6, 7, 8, 10, 11, 12, 13, 14, 15, 9, 16, 17, 18, 19, 20]) (ds := ?_) ?_ ?_ ?_ ?_ ?_ ?_
    rotate_left
    ·kernel_rfl
    ·kernel_rfl
    ·kernel_rfl
    ·rfl
    ·rfl
    repeat (first | (refine jaA ?_ rfl ?_; (solve | simp only [go_sem, undef, h0, jaa, ls, jae, e1])) | (refine jar (v := ?_) (μ' := ?_) (sn' := ?_) ?_ ?_ rfl ?_; rotate_left 3; (solve | rfl | simp only [go_sem, undef, h0, jaa, ls, jae, e1]); (solve | simp only [jav, heavy, jaI, jaq, go_sem, undef, h0, jaa, ls, jae, e1]; try exact rfl)))
    simp only [dRun, jay, jak]
    repeat (first | refine jab rfl ?_ | (refine jap rfl ?_; (try simp only [go_sem, undef]); fail_if_success refine ifC ?_) | (refine jad rfl ?_; (repeat (first | (refine jai ?_ rfl ?_; (solve | simp only [go_sem, undef])) | (refine jaf (v := ?_) (μ' := ?_) ?_ ?_ rfl ?_; rotate_left 2; (solve | rfl | simp only [go_sem, undef]); (solve | simp only [go_sem, undef]; try exact rfl)))); simp only [go_sem]))
    exact ⟨hG.trans (jb7 _ _), by trivial, _, _, rfl, by simp only [go_sem, h0], Nat.le_refl _⟩
theorem vs_loop {μ0 : Mem} (hY : Lay8 μ0) : ∀ (n : Nat) (s : ByteArray), (bys s).length ≤ n → ∀ {X : XT} {e : Nat} {tm : T Value} {μ : Mem}, Grow μ0 μ → jam tm 0 = .string s →
  EndsC (jao pZ X S0 (e + n + 200) (.loop (jaR Tryz.f43 0)) ⟨169, tm, [], none⟩ μ) fun x r μ' => Grow μ0 μ' ∧ ∃ tm', r = ⟨169, tm', [], none⟩ ∧ (x = .exit 0 ∨ (x = .ret ∧ jam tm' 2 = .bool false)) := by
 have done : ∀ (s : ByteArray), (bys s).length = 0 → ∀ {X : XT} {e : Nat} {tm : T Value} {μ : Mem}, Grow μ0 μ → jam tm 0 = .string s → EndsC (jao pZ X S0 (e + 200) (.loop (jaR Tryz.f43 0)) ⟨169, tm, [], none⟩ μ) fun x r μ' => Grow μ0 μ' ∧ ∃ tm', r = ⟨169, tm', [], none⟩ ∧ (x = .exit 0 ∨ (x = .ret ∧ jam tm' 2 = .bool false)) := by
  intro s hs X e tm μ hG h0
  have ls := ja6 s
  have e1 : ilt 0 (.ofNat (bys s).length) = false := (jcn _ 0 0 rfl).trans (decide_eq_false (by omega))
  refine jan ?_
  have zz := (⟨@h0, @ls, @jae, @e1⟩ : _ ∧ _ ∧ _ ∧ _)
  repeat (first | refine jab rfl ?_ | (refine jap rfl ?_; (try simp only [go_sem, undef, jaa, zz]); fail_if_success refine ifC ?_) | (refine jad rfl ?_; (repeat (first | (refine jai ?_ rfl ?_; (solve | simp only [go_sem, undef, jaa, zz])) | (refine jaf (v := ?_) (μ' := ?_) ?_ ?_ rfl ?_; rotate_left 2; (solve | rfl | simp only [go_sem, undef, jaa, zz]); (solve | simp only [go_sem, undef, jaa, zz]; try exact rfl)))); simp only [go_sem]))
  clear zz
  exact ⟨hG, _, rfl, .inl (by trivial)⟩
 intro n
 induction n with
 | zero =>
   intro s hs X e tm μ hG h0
   exact done s (by omega) hG h0
 | succ n ih =>
   intro s hs X e tm μ hG h0
   by_cases hpos : (bys s).length = 0
   ·exact done s hpos (e := e + (n + 1)) hG h0
   have ls := ja6 s
   have e1 : ilt 0 (.ofNat (bys s).length) = true := (jcn _ 0 0 rfl).trans (decide_eq_true (by omega))
   obtain ⟨c, hc, g0⟩ := byte_at s (i := 0) (by omega)
   have x0 : ∀ (r : Rg) (x : Operand), aev pZ r x = .string s → ja3 pZ (aev pZ r) 9 x (.const (.int .i64 0)) = some (.int .u8 (.ofNat c)) := fun r x h => g0 r x _ h rfl
   obtain ⟨t0, et0⟩ : ∃ t, ilt (.ofNat c) 128 = t := ⟨_, rfl⟩
   refine jan ?_
   have zz := (⟨@h0, @ls, @jae, @e1, @x0, @et0⟩ : _ ∧ _ ∧ _ ∧ _ ∧ _ ∧ _)
   repeat (first | refine jab rfl ?_ | (refine jap rfl ?_; (try simp only [go_sem, undef, jaa, zz]); fail_if_success refine ifC ?_) | (refine jad rfl ?_; (repeat (first | (refine jai ?_ rfl ?_; (solve | simp only [go_sem, undef, jaa, zz])) | (refine jaf (v := ?_) (μ' := ?_) ?_ ?_ rfl ?_; rotate_left 2; (solve | rfl | simp only [go_sem, undef, jaa, zz]); (solve | simp only [go_sem, undef, jaa, zz]; try exact rfl)))); simp only [go_sem]))
   clear zz
   cases t0 with
   | true =>
     obtain ⟨s1, hs1⟩ : ∃ s1, s1 = jbw s 1 := ⟨_, rfl⟩
     have l1 : (bys s1).length = (bys s).length - 1 := by rw [hs1, jb3]
     have k1 : ∀ (r : Rg) (x : Operand), aev pZ r x = .string s → jbg pZ (aev pZ r) 9 x (some (.const (.int .i64 1))) none none = some (.string s1) := fun r x h => by rw [hs1]; exact je0 s (by omega) r x _ h rfl
     have ls1 := ja6 s1
     by_cases h8 : 8 < (bys s1).length
     ·have e2 : ilt 8 (.ofNat (bys s1).length) = true := (jcn _ 8 8 rfl).trans (decide_eq_true h8)
      obtain ⟨n0, w0⟩ := jdK (s := s1) (by omega)
      have y0 : ∀ μ', aFun pZ (jao pZ X S0 (e + (n + 1) + 189)) 64 [.string s1] μ' = some (u n0, ⟨μ'.obs, μ'.next + 39⟩) := fun μ' => w0 (by omega)
      obtain ⟨t, et⟩ : ∃ t, ieq (.ofNat (W (W n0 &&& 9259542123273814144))) 0 = t := ⟨_, rfl⟩
      cases t with
      | false =>
        have zz := (⟨@h0, @k1, @ls1, @jae, @e2, @gg64, @y0, @wAndV, @et⟩ : _ ∧ _ ∧ _ ∧ _ ∧ _ ∧ _ ∧ _ ∧ _ ∧ _)
        repeat (first | refine jab rfl ?_ | (refine jap rfl ?_; (try simp only [go_sem, undef, jaa, zz]); fail_if_success refine ifC ?_) | (refine jad rfl ?_; (repeat (first | (refine jai ?_ rfl ?_; (solve | simp only [go_sem, undef, jaa, zz])) | (refine jaf (v := ?_) (μ' := ?_) ?_ ?_ rfl ?_; rotate_left 2; (solve | rfl | simp only [go_sem, undef, jaa, zz]); (solve | simp only [go_sem, undef, jaa, zz]; try exact rfl)))); simp only [go_sem]))
        clear zz
        rw [show e + (n + 1) + 199 = e + n + 200 from by omega]
        exact ih s1 (by omega) (hG.trans (jfZ (Nat.le_add_right _ _))) (by simp only [go_sem])
      | true =>
        obtain ⟨s2, hs2⟩ : ∃ s2, s2 = jbw s1 8 := ⟨_, rfl⟩
        have l2 : (bys s2).length = (bys s1).length - 8 := by rw [hs2, jb3]
        have k2 : ∀ (r : Rg) (x : Operand), aev pZ r x = .string s1 → jbg pZ (aev pZ r) 9 x (some (.const (.int .i64 8))) none none = some (.string s2) := fun r x h => by rw [hs2]; exact je0 s1 (by omega) r x _ h rfl
        have ls2 := ja6 s2
        have zz := (⟨@h0, @k1, @k2, @ls1, @jae, @e2, @gg64, @y0, @wAndV, @et⟩ : _ ∧ _ ∧ _ ∧ _ ∧ _ ∧ _ ∧ _ ∧ _ ∧ _ ∧ _)
        repeat (first | refine jab rfl ?_ | (refine jap rfl ?_; (try simp only [go_sem, undef, jaa, zz]); fail_if_success refine ifC ?_) | (refine jad rfl ?_; (repeat (first | (refine jai ?_ rfl ?_; (solve | simp only [go_sem, undef, jaa, zz])) | (refine jaf (v := ?_) (μ' := ?_) ?_ ?_ rfl ?_; rotate_left 2; (solve | rfl | simp only [go_sem, undef, jaa, zz]); (solve | simp only [go_sem, undef, jaa, zz]; try exact rfl)))); simp only [go_sem]))
        clear zz
        by_cases h16 : 16 < (bys s2).length
        ·have e3 : ilt 16 (.ofNat (bys s2).length) = true := (jcn _ 16 16 rfl).trans (decide_eq_true h16)
         obtain ⟨s3, hs3⟩ : ∃ s3, s3 = jbw s2 8 := ⟨_, rfl⟩
         have l3 : (bys s3).length = (bys s2).length - 8 := by rw [hs3, jb3]
         have k3 : ∀ (r : Rg) (x : Operand), aev pZ r x = .string s2 → jbg pZ (aev pZ r) 9 x (some (.const (.int .i64 8))) none none = some (.string s3) := fun r x h => by rw [hs3]; exact je0 s2 (by omega) r x _ h rfl
         obtain ⟨n1, w1⟩ := jdK (s := s2) (by omega)
         obtain ⟨n2, w2⟩ := jdK (s := s3) (by omega)
         have y1 : ∀ μ', aFun pZ (jao pZ X S0 (e + (n + 1) + 186)) 64 [.string s2] μ' = some (u n1, ⟨μ'.obs, μ'.next + 39⟩) := fun μ' => w1 (by omega)
         have y2 : ∀ μ', aFun pZ (jao pZ X S0 (e + (n + 1) + 186)) 64 [.string s3] μ' = some (u n2, ⟨μ'.obs, μ'.next + 39⟩) := fun μ' => w2 (by omega)
         obtain ⟨t, et⟩ : ∃ t, ieq (.ofNat (W (W (W n1 ||| W n2) &&& 9259542123273814144))) 0 = t := ⟨_, rfl⟩
         refine jaG (n := 13) (ms := [0, 1, 3, 7, 15, 31, 15, 79, 255, 511, 1023, 2047, 4095]) (ord := [0, 1, 2, 3, 4, 5, 6, 7, 8, 9, 10, 11, 12]) (ds := ?_) ?_ ?_ ?_ ?_ ?_ ?_
         rotate_left
         ·kernel_rfl
         ·kernel_rfl
         ·kernel_rfl
         ·rfl
         ·rfl
         have zz := (⟨@h0, @ls2, @jae, @e3, @k3, @gg64, @y1, @y2, @wOr, @wAndV, @et⟩ : _ ∧ _ ∧ _ ∧ _ ∧ _ ∧ _ ∧ _ ∧ _ ∧ _ ∧ _ ∧ _)
         repeat (first | (refine jaA ?_ rfl ?_; (solve | simp only [go_sem, undef, jaa, zz])) | (refine jar (v := ?_) (μ' := ?_) (sn' := ?_) ?_ ?_ rfl ?_; rotate_left 3; (solve | rfl | simp only [go_sem, undef, jaa, zz]); (solve | simp only [jav, heavy, jaI, jaq, go_sem, undef, jaa, zz]; try exact rfl)))
         clear zz
         simp only [dRun, jay, jak]
         cases t with
         | false =>
           repeat (first | refine jab rfl ?_ | (refine jap rfl ?_; (try simp only [go_sem, undef]); fail_if_success refine ifC ?_) | (refine jad rfl ?_; (repeat (first | (refine jai ?_ rfl ?_; (solve | simp only [go_sem, undef])) | (refine jaf (v := ?_) (μ' := ?_) ?_ ?_ rfl ?_; rotate_left 2; (solve | rfl | simp only [go_sem, undef]); (solve | simp only [go_sem, undef]; try exact rfl)))); simp only [go_sem]))
           rw [show e + (n + 1) + 199 = e + n + 200 from by omega]
           exact ih s2 (by omega) (hG.trans (jfZ (by omega))) (by simp only [go_sem])
         | true =>
           obtain ⟨s4, hs4⟩ : ∃ s4, s4 = jbw s2 16 := ⟨_, rfl⟩
           have l4 : (bys s4).length = (bys s2).length - 16 := by rw [hs4, jb3]
           have k4 : ∀ (r : Rg) (x : Operand), aev pZ r x = .string s2 → jbg pZ (aev pZ r) 9 x (some (.const (.int .i64 16))) none none = some (.string s4) := fun r x h => by rw [hs4]; exact je0 s2 (by omega) r x _ h rfl
           repeat (first | refine jab rfl ?_ | (refine jap rfl ?_; (try simp only [go_sem, undef, k4]); fail_if_success refine ifC ?_) | (refine jad rfl ?_; (repeat (first | (refine jai ?_ rfl ?_; (solve | simp only [go_sem, undef, k4])) | (refine jaf (v := ?_) (μ' := ?_) ?_ ?_ rfl ?_; rotate_left 2; (solve | rfl | simp only [go_sem, undef, k4]); (solve | simp only [go_sem, undef, k4]; try exact rfl)))); simp only [go_sem]))
           rw [show e + (n + 1) + 184 = (e + 135) + n + 50 from by omega]
           refine EndsC.mono (vs_in n s4 (by omega) (hG.trans (jfZ (by omega))) (by simp only [go_sem])) ?_
           rintro x r μ' ⟨g1, rfl, tm', s5, rfl, g2, g3⟩
           simp only [jaX, reduceIte, jak]
           repeat (first | refine jab rfl ?_ | (refine jap rfl ?_; (try simp only [go_sem, undef]); fail_if_success refine ifC ?_) | (refine jad rfl ?_; (repeat (first | (refine jai ?_ rfl ?_; (solve | simp only [go_sem, undef])) | (refine jaf (v := ?_) (μ' := ?_) ?_ ?_ rfl ?_; rotate_left 2; (solve | rfl | simp only [go_sem, undef]); (solve | simp only [go_sem, undef]; try exact rfl)))); simp only [go_sem]))
           rw [show e + (n + 1) + 199 = e + n + 200 from by omega]
           exact ih s5 (by omega) g1 g2
        ·have e3 : ilt 16 (.ofNat (bys s2).length) = false := (jcn _ 16 16 rfl).trans (decide_eq_false h16)
         refine jaG (n := 13) (ms := [0, 1, 3, 7, 15, 31, 15, 79, 255, 511, 1023, 2047, 4095]) (ord := [0, 1, 2, 3, 4, 5, 6, 7, 8, 9, 10, 11, 12]) (ds := ?_) ?_ ?_ ?_ ?_ ?_ ?_
         rotate_left
         ·kernel_rfl
         ·kernel_rfl
         ·kernel_rfl
         ·rfl
         ·rfl
         repeat (first | (refine jaA ?_ rfl ?_; (solve | simp only [go_sem, undef, h0, jaa, ls2, jae, e3])) | (refine jar (v := ?_) (μ' := ?_) (sn' := ?_) ?_ ?_ rfl ?_; rotate_left 3; (solve | rfl | simp only [go_sem, undef, h0, jaa, ls2, jae, e3]); (solve | simp only [jav, heavy, jaI, jaq, go_sem, undef, h0, jaa, ls2, jae, e3]; try exact rfl)))
         simp only [dRun, jay, jak]
         repeat (first | refine jab rfl ?_ | (refine jap rfl ?_; (try simp only [go_sem, undef]); fail_if_success refine ifC ?_) | (refine jad rfl ?_; (repeat (first | (refine jai ?_ rfl ?_; (solve | simp only [go_sem, undef])) | (refine jaf (v := ?_) (μ' := ?_) ?_ ?_ rfl ?_; rotate_left 2; (solve | rfl | simp only [go_sem, undef]); (solve | simp only [go_sem, undef]; try exact rfl)))); simp only [go_sem]))
         rw [show e + (n + 1) + 199 = e + n + 200 from by omega]
         exact ih s2 (by omega) (hG.trans (jfZ (by omega))) (by simp only [go_sem])
     ·have e2 : ilt 8 (.ofNat (bys s1).length) = false := (jcn _ 8 8 rfl).trans (decide_eq_false h8)
      have zz := (⟨@h0, @k1, @ls1, @jae, @e2⟩ : _ ∧ _ ∧ _ ∧ _ ∧ _)
      repeat (first | refine jab rfl ?_ | (refine jap rfl ?_; (try simp only [go_sem, undef, jaa, zz]); fail_if_success refine ifC ?_) | (refine jad rfl ?_; (repeat (first | (refine jai ?_ rfl ?_; (solve | simp only [go_sem, undef, jaa, zz])) | (refine jaf (v := ?_) (μ' := ?_) ?_ ?_ rfl ?_; rotate_left 2; (solve | rfl | simp only [go_sem, undef, jaa, zz]); (solve | simp only [go_sem, undef, jaa, zz]; try exact rfl)))); simp only [go_sem]))
      clear zz
      rw [show e + (n + 1) + 199 = e + n + 200 from by omega]
      exact ih s1 (by omega) hG (by simp only [go_sem])
   | false =>
     obtain ⟨x, hxm, hxc⟩ := (hY.grow hG).fs c hc
     obtain ⟨sz, hi, hhi, hsz, b1, b2⟩ := jju x hxm
     obtain ⟨a, b, hAR⟩ := (hY.grow hG).ar hi hhi
     have qsz : jax .i64 (.ofNat sz) = .ofNat sz := q64 sz (by omega)
     have hld : jbH pZ μ 94 (.pointer (some ⟨2, 2 * hi, none⟩)) = some (.agg [Value.int .u8 (.ofNat a), .int .u8 (.ofNat b)].toArray) := hAR.load Tryz.underlying94 i_ar rfl
     have i256 := ix256 hc
     have i16 := ix16 hhi
     have hst : jbt pZ ⟨μ.obs.set μ.next obAr, μ.next + 1⟩ 94 (.pointer (some ⟨μ.next, 0, none⟩)) (.agg [Value.int .u8 (.ofNat a), .int .u8 (.ofNat b)].toArray) = some (undef, putL ⟨μ.obs.set μ.next obAr, μ.next + 1⟩ μ.next 0 [.int .u8 (.ofNat a), .int .u8 (.ofNat b)]) := jcL (vs := [Value.int .u8 (.ofNat a), .int .u8 (.ofNat b)]) i_ar rfl rfl blk_ar (by show 0 + 2 ≤ 2; omega)
     obtain ⟨m1, hm1⟩ : ∃ m1 : Mem, m1 = putL ⟨μ.obs.set μ.next obAr, μ.next + 1⟩ μ.next 0 [.int .u8 (.ofNat a), .int .u8 (.ofNat b)] := ⟨_, rfl⟩
     have G1 : Grow μ m1 := by rw [hm1]; exact (jbn μ _).put_new (Nat.le_refl _)
     have hA : Has m1 μ.next 0 [.int .u8 (.ofNat a), .int .u8 (.ofNat b)] := by rw [hm1]; exact Has.of_put blk_ar (by show 0 + 2 ≤ 2; omega)
     rw [← hm1] at hst
     have ca : ∀ y, jal ⟨m1.obs, y⟩ μ.next 0 = some (.int .u8 (.ofNat a)) := fun y => (Has.c2 (μ := ⟨m1.obs, y⟩) hA).1
     have cb : ∀ y, jal ⟨m1.obs, y⟩ μ.next 1 = some (.int .u8 (.ofNat b)) := fun y => (Has.c2 (μ := ⟨m1.obs, y⟩) hA).2
     have GG : ∀ d, Grow μ0 ⟨m1.obs, m1.next + d⟩ := fun d => (hG.trans G1).trans (jfZ (Nat.le_add_right _ _))
     obtain ⟨z2, f2⟩ : ∃ t, ieq (.ofNat sz) 2 = t := ⟨_, rfl⟩
     obtain ⟨z3, f3⟩ : ∃ t, ieq (.ofNat sz) 3 = t := ⟨_, rfl⟩
     obtain ⟨z4, f4⟩ : ∃ t, ieq (.ofNat sz) 4 = t := ⟨_, rfl⟩
     obtain ⟨t2, d2⟩ : ∃ t, ilt (.ofNat (bys s).length) 2 = t := ⟨_, rfl⟩
     obtain ⟨t3, d3⟩ : ∃ t, ilt (.ofNat (bys s).length) 3 = t := ⟨_, rfl⟩
     obtain ⟨t4, d4⟩ : ∃ t, ilt (.ofNat (bys s).length) 4 = t := ⟨_, rfl⟩
     have zz := (⟨@h0, @i256, @i16, @ja4, @hxc, @sh8_none, @and8_none, @b1, @jco, @qsz, @hld, @al_ar, @hst, @f2⟩ : _ ∧ _ ∧ _ ∧ _ ∧ _ ∧ _ ∧ _ ∧ _ ∧ _ ∧ _ ∧ _ ∧ _ ∧ _ ∧ _)
     repeat (first | refine jab rfl ?_ | (refine jap rfl ?_; (try simp only [go_sem, undef, b2, Nat.add_eq, zz]); fail_if_success refine ifC ?_) | (refine jad rfl ?_; (repeat (first | (refine jai ?_ rfl ?_; (solve | simp only [go_sem, undef, b2, Nat.add_eq, zz])) | (refine jaf (v := ?_) (μ' := ?_) ?_ ?_ rfl ?_; rotate_left 2; (solve | rfl | simp only [go_sem, undef, b2, Nat.add_eq, zz]); (solve | simp only [go_sem, undef, b2, Nat.add_eq, zz]; try exact rfl)))); simp only [go_sem]))
     clear zz
     cases z2 with
     | true =>
       repeat (first | refine jab rfl ?_ | (refine jap rfl ?_; (try simp only [go_sem, undef]); fail_if_success refine ifC ?_) | (refine jad rfl ?_; (repeat (first | (refine jai ?_ rfl ?_; (solve | simp only [go_sem, undef])) | (refine jaf (v := ?_) (μ' := ?_) ?_ ?_ rfl ?_; rotate_left 2; (solve | rfl | simp only [go_sem, undef]); (solve | simp only [go_sem, undef]; try exact rfl)))); simp only [go_sem]))
       have zy := (⟨@h0, @ls, @jae, @d2, @fa_ar0, @fa_ar1, @ja4, @ca, @cb⟩ : _ ∧ _ ∧ _ ∧ _ ∧ _ ∧ _ ∧ _ ∧ _ ∧ _)
       refine jaG (n := 17) (ms := [0, 1, 3, 7, 15, 31, 15, 79, 255, 511, 1023, 2047, 4095, 2047, 10239, 32767, 65535]) (ord := [0, 1, 2, 3, 4, 5, 6, 7, 8, 9, 10, 11, 12, 13, 14, 15, 16]) (ds := ?_) ?_ ?_ ?_ ?_ ?_ ?_
       rotate_left
       ·kernel_rfl
       ·kernel_rfl
       ·kernel_rfl
       ·rfl
       ·rfl
       repeat (first | (refine jaA ?_ rfl ?_; (solve | simp only [go_sem, undef, jaa, zy])) | (refine jar (v := ?_) (μ' := ?_) (sn' := ?_) ?_ ?_ rfl ?_; rotate_left 3; (solve | rfl | simp only [go_sem, undef, jaa, zy]); (solve | simp only [jav, heavy, jaI, jaq, go_sem, undef, jaa, zy]; try exact rfl)))
       cases t2
       have hk : 2 ≤ (bys s).length := by rw [jbM _ 2 2 rfl, decide_eq_false_iff_not] at d2; omega
       obtain ⟨c1, _, g1⟩ := byte_at s (i := 1) (by omega)
       have x1 : ∀ (r : Rg) (x : Operand), aev pZ r x = .string s → ja3 pZ (aev pZ r) 9 x (.const (.int .i64 1)) = some (.int .u8 (.ofNat c1)) := fun r x h => g1 r x _ h rfl
       obtain ⟨u1, eu1⟩ : ∃ t, ilt (.ofNat c1) (.ofNat a) = t := ⟨_, rfl⟩
       obtain ⟨u2, eu2⟩ : ∃ t, ilt (.ofNat b) (.ofNat c1) = t := ⟨_, rfl⟩
       have zw := (⟨@x1, @eu1, @eu2⟩ : _ ∧ _ ∧ _)
       repeat (first | (refine jaA ?_ rfl ?_; (solve | simp only [go_sem, undef, jaa, zy, zw])) | (refine jar (v := ?_) (μ' := ?_) (sn' := ?_) ?_ ?_ rfl ?_; rotate_left 3; (solve | rfl | simp only [go_sem, undef, jaa, zy, zw]); (solve | simp only [jav, heavy, jaI, jaq, go_sem, undef, jaa, zy, zw]; try exact rfl)))
       cases u1
       repeat (first | (refine jaA ?_ rfl ?_; (solve | simp only [go_sem, undef, jaa, zy, zw])) | (refine jar (v := ?_) (μ' := ?_) (sn' := ?_) ?_ ?_ rfl ?_; rotate_left 3; (solve | rfl | simp only [go_sem, undef, jaa, zy, zw]); (solve | simp only [jav, heavy, jaI, jaq, go_sem, undef, jaa, zy, zw]; try exact rfl)))
       cases u2
       have ks : ∀ (r : Rg) (x : Operand), aev pZ r x = .string s → jbg pZ (aev pZ r) 9 x (some (.const (.int .i64 2))) none none = some (.string (jbw s 2)) := fun r x h => je0 s (by omega) r x _ h rfl
       repeat (first | (refine jaA ?_ rfl ?_; (solve | simp only [go_sem, undef, jaa, zy, zw])) | (refine jar (v := ?_) (μ' := ?_) (sn' := ?_) ?_ ?_ rfl ?_; rotate_left 3; (solve | rfl | simp only [go_sem, undef, jaa, zy, zw]); (solve | simp only [jav, heavy, jaI, jaq, go_sem, undef, jaa, zy, zw]; try exact rfl)))
       simp only [dRun, jay, jak]
       repeat (first | refine jab rfl ?_ | (refine jap rfl ?_; (try simp only [go_sem, undef, h0, ks]); fail_if_success refine ifC ?_) | (refine jad rfl ?_; (repeat (first | (refine jai ?_ rfl ?_; (solve | simp only [go_sem, undef, h0, ks])) | (refine jaf (v := ?_) (μ' := ?_) ?_ ?_ rfl ?_; rotate_left 2; (solve | rfl | simp only [go_sem, undef, h0, ks]); (solve | simp only [go_sem, undef, h0, ks]; try exact rfl)))); simp only [go_sem]))
       rw [show e + (n + 1) + 199 = e + n + 200 from by omega]
       exact ih (jbw s 2) (by rw [jb3]; omega) (GG _) (by simp only [go_sem])
       all_goals (try have zw := zy)
       all_goals
        repeat (first | (refine jaA ?_ rfl ?_; (solve | simp only [go_sem, undef, jaa, zy, zw])) | (refine jar (v := ?_) (μ' := ?_) (sn' := ?_) ?_ ?_ rfl ?_; rotate_left 3; (solve | rfl | simp only [go_sem, undef, jaa, zy, zw]); (solve | simp only [jav, heavy, jaI, jaq, go_sem, undef, jaa, zy, zw]; try exact rfl)))
        simp only [dRun, jay, jak]
        repeat (first | refine jab rfl ?_ | (refine jap rfl ?_; (try simp only [go_sem, undef]); fail_if_success refine ifC ?_) | (refine jad rfl ?_; (repeat (first | (refine jai ?_ rfl ?_; (solve | simp only [go_sem, undef])) | (refine jaf (v := ?_) (μ' := ?_) ?_ ?_ rfl ?_; rotate_left 2; (solve | rfl | simp only [go_sem, undef]); (solve | simp only [go_sem, undef]; try exact rfl)))); simp only [go_sem]))
        refine jah ?_
        exact ⟨GG _, _, rfl, .inr ⟨by trivial, by simp only [go_sem]⟩⟩
     | false =>
       repeat (first | refine jab rfl ?_ | (refine jap rfl ?_; (try simp only [go_sem, undef, f2, f3, f4]); fail_if_success refine ifC ?_) | (refine jad rfl ?_; (repeat (first | (refine jai ?_ rfl ?_; (solve | simp only [go_sem, undef, f2, f3, f4])) | (refine jaf (v := ?_) (μ' := ?_) ?_ ?_ rfl ?_; rotate_left 2; (solve | rfl | simp only [go_sem, undef, f2, f3, f4]); (solve | simp only [go_sem, undef, f2, f3, f4]; try exact rfl)))); simp only [go_sem]))
       cases z3 with
       | true =>
         repeat (first | refine jab rfl ?_ | (refine jap rfl ?_; (try simp only [go_sem, undef]); fail_if_success refine ifC ?_) | (refine jad rfl ?_; (repeat (first | (refine jai ?_ rfl ?_; (solve | simp only [go_sem, undef])) | (refine jaf (v := ?_) (μ' := ?_) ?_ ?_ rfl ?_; rotate_left 2; (solve | rfl | simp only [go_sem, undef]); (solve | simp only [go_sem, undef]; try exact rfl)))); simp only [go_sem]))
         have zy := (⟨@h0, @ls, @jae, @d3, @fa_ar0, @fa_ar1, @ja4, @ca, @cb⟩ : _ ∧ _ ∧ _ ∧ _ ∧ _ ∧ _ ∧ _ ∧ _ ∧ _)
         refine jaG (n := 27) (ms := [0, 1, 3, 7, 15, 31, 15, 79, 255, 511, 1023, 2047, 4095, 2047, 10239, 32767, 65535, 131071, 262143, 524287, 1048575, 2097151, 4194303, 8388607, 16777215, 33554431, 67108863]) (ord := [0, 1, 2, 3, 4, 5, 6, 7, 8, 9, 10, 11, 12, 13, 14, 15, 16, 17, 18, 19, 20, 21, 22, 23, 24, 25, 26]) (ds := ?_) ?_ ?_ ?_ ?_ ?_ ?_
         rotate_left
         ·kernel_rfl
         ·kernel_rfl
         ·kernel_rfl
         ·rfl
         ·rfl
         repeat (first | (refine jaA ?_ rfl ?_; (solve | simp only [go_sem, undef, jaa, zy])) | (refine jar (v := ?_) (μ' := ?_) (sn' := ?_) ?_ ?_ rfl ?_; rotate_left 3; (solve | rfl | simp only [go_sem, undef, jaa, zy]); (solve | simp only [jav, heavy, jaI, jaq, go_sem, undef, jaa, zy]; try exact rfl)))
         cases t3
         have hk : 3 ≤ (bys s).length := by rw [jbM _ 3 3 rfl, decide_eq_false_iff_not] at d3; omega
         obtain ⟨c1, _, g1⟩ := byte_at s (i := 1) (by omega)
         have x1 : ∀ (r : Rg) (x : Operand), aev pZ r x = .string s → ja3 pZ (aev pZ r) 9 x (.const (.int .i64 1)) = some (.int .u8 (.ofNat c1)) := fun r x h => g1 r x _ h rfl
         obtain ⟨c2, _, g2⟩ := byte_at s (i := 2) (by omega)
         have x2 : ∀ (r : Rg) (x : Operand), aev pZ r x = .string s → ja3 pZ (aev pZ r) 9 x (.const (.int .i64 2)) = some (.int .u8 (.ofNat c2)) := fun r x h => g2 r x _ h rfl
         obtain ⟨u1, eu1⟩ : ∃ t, ilt (.ofNat c1) (.ofNat a) = t := ⟨_, rfl⟩
         obtain ⟨u2, eu2⟩ : ∃ t, ilt (.ofNat b) (.ofNat c1) = t := ⟨_, rfl⟩
         obtain ⟨u3, eu3⟩ : ∃ t, ilt (.ofNat c2) 128 = t := ⟨_, rfl⟩
         obtain ⟨u4, eu4⟩ : ∃ t, ilt 191 (.ofNat c2) = t := ⟨_, rfl⟩
         have zw := (⟨@x1, @x2, @eu1, @eu2, @eu3, @eu4⟩ : _ ∧ _ ∧ _ ∧ _ ∧ _ ∧ _)
         repeat (first | (refine jaA ?_ rfl ?_; (solve | simp only [go_sem, undef, jaa, zy, zw])) | (refine jar (v := ?_) (μ' := ?_) (sn' := ?_) ?_ ?_ rfl ?_; rotate_left 3; (solve | rfl | simp only [go_sem, undef, jaa, zy, zw]); (solve | simp only [jav, heavy, jaI, jaq, go_sem, undef, jaa, zy, zw]; try exact rfl)))
         cases u1
         repeat (first | (refine jaA ?_ rfl ?_; (solve | simp only [go_sem, undef, jaa, zy, zw])) | (refine jar (v := ?_) (μ' := ?_) (sn' := ?_) ?_ ?_ rfl ?_; rotate_left 3; (solve | rfl | simp only [go_sem, undef, jaa, zy, zw]); (solve | simp only [jav, heavy, jaI, jaq, go_sem, undef, jaa, zy, zw]; try exact rfl)))
         cases u2
         repeat (first | (refine jaA ?_ rfl ?_; (solve | simp only [go_sem, undef, jaa, zy, zw])) | (refine jar (v := ?_) (μ' := ?_) (sn' := ?_) ?_ ?_ rfl ?_; rotate_left 3; (solve | rfl | simp only [go_sem, undef, jaa, zy, zw]); (solve | simp only [jav, heavy, jaI, jaq, go_sem, undef, jaa, zy, zw]; try exact rfl)))
         cases u3
         repeat (first | (refine jaA ?_ rfl ?_; (solve | simp only [go_sem, undef, jaa, zy, zw])) | (refine jar (v := ?_) (μ' := ?_) (sn' := ?_) ?_ ?_ rfl ?_; rotate_left 3; (solve | rfl | simp only [go_sem, undef, jaa, zy, zw]); (solve | simp only [jav, heavy, jaI, jaq, go_sem, undef, jaa, zy, zw]; try exact rfl)))
         cases u4
         have ks : ∀ (r : Rg) (x : Operand), aev pZ r x = .string s → jbg pZ (aev pZ r) 9 x (some (.const (.int .i64 3))) none none = some (.string (jbw s 3)) := fun r x h => je0 s (by omega) r x _ h rfl
         repeat (first | (refine jaA ?_ rfl ?_; (solve | simp only [go_sem, undef, jaa, zy, zw])) | (refine jar (v := ?_) (μ' := ?_) (sn' := ?_) ?_ ?_ rfl ?_; rotate_left 3; (solve | rfl | simp only [go_sem, undef, jaa, zy, zw]); (solve | simp only [jav, heavy, jaI, jaq, go_sem, undef, jaa, zy, zw]; try exact rfl)))
         simp only [dRun, jay, jak]
         repeat (first | refine jab rfl ?_ | (refine jap rfl ?_; (try simp only [go_sem, undef, h0, ks]); fail_if_success refine ifC ?_) | (refine jad rfl ?_; (repeat (first | (refine jai ?_ rfl ?_; (solve | simp only [go_sem, undef, h0, ks])) | (refine jaf (v := ?_) (μ' := ?_) ?_ ?_ rfl ?_; rotate_left 2; (solve | rfl | simp only [go_sem, undef, h0, ks]); (solve | simp only [go_sem, undef, h0, ks]; try exact rfl)))); simp only [go_sem]))
         rw [show e + (n + 1) + 199 = e + n + 200 from by omega]
         exact ih (jbw s 3) (by rw [jb3]; omega) (GG _) (by simp only [go_sem])
         all_goals (try have zw := zy)
         all_goals
          repeat (first | (refine jaA ?_ rfl ?_; (solve | simp only [go_sem, undef, jaa, zy, zw])) | (refine jar (v := ?_) (μ' := ?_) (sn' := ?_) ?_ ?_ rfl ?_; rotate_left 3; (solve | rfl | simp only [go_sem, undef, jaa, zy, zw]); (solve | simp only [jav, heavy, jaI, jaq, go_sem, undef, jaa, zy, zw]; try exact rfl)))
          simp only [dRun, jay, jak]
          repeat (first | refine jab rfl ?_ | (refine jap rfl ?_; (try simp only [go_sem, undef]); fail_if_success refine ifC ?_) | (refine jad rfl ?_; (repeat (first | (refine jai ?_ rfl ?_; (solve | simp only [go_sem, undef])) | (refine jaf (v := ?_) (μ' := ?_) ?_ ?_ rfl ?_; rotate_left 2; (solve | rfl | simp only [go_sem, undef]); (solve | simp only [go_sem, undef]; try exact rfl)))); simp only [go_sem]))
          refine jah ?_
          exact ⟨GG _, _, rfl, .inr ⟨by trivial, by simp only [go_sem]⟩⟩
       | false =>
         repeat (first | refine jab rfl ?_ | (refine jap rfl ?_; (try simp only [go_sem, undef, f2, f3, f4]); fail_if_success refine ifC ?_) | (refine jad rfl ?_; (repeat (first | (refine jai ?_ rfl ?_; (solve | simp only [go_sem, undef, f2, f3, f4])) | (refine jaf (v := ?_) (μ' := ?_) ?_ ?_ rfl ?_; rotate_left 2; (solve | rfl | simp only [go_sem, undef, f2, f3, f4]); (solve | simp only [go_sem, undef, f2, f3, f4]; try exact rfl)))); simp only [go_sem]))
         cases z4 with
         | true =>
           repeat (first | refine jab rfl ?_ | (refine jap rfl ?_; (try simp only [go_sem, undef]); fail_if_success refine ifC ?_) | (refine jad rfl ?_; (repeat (first | (refine jai ?_ rfl ?_; (solve | simp only [go_sem, undef])) | (refine jaf (v := ?_) (μ' := ?_) ?_ ?_ rfl ?_; rotate_left 2; (solve | rfl | simp only [go_sem, undef]); (solve | simp only [go_sem, undef]; try exact rfl)))); simp only [go_sem]))
           have zy := (⟨@h0, @ls, @jae, @d4, @fa_ar0, @fa_ar1, @ja4, @ca, @cb⟩ : _ ∧ _ ∧ _ ∧ _ ∧ _ ∧ _ ∧ _ ∧ _ ∧ _)
           refine jaG (n := 37) (ms := [0, 1, 3, 7, 15, 31, 15, 79, 255, 511, 1023, 2047, 4095, 2047, 10239, 32767, 65535, 131071, 262143, 524287, 1048575, 2097151, 4194303, 8388607, 16777215, 33554431, 67108863, 134217727, 268435455, 536870911, 1073741823, 2147483647, 4294967295, 8589934591, 17179869183, 34359738367, 68719476735]) (ord := [0, 1, 2, 3, 4, 5, 6, 7, 8, 9, 10, 11, 12, 13, 14, 15, 16, 17, 18, 19, 20, 21, 22, 23, 24, 25, 26, 27, 28, 29, 30, 31, 32, 33, 34, 35, 36]) (ds := ?_) ?_ ?_ ?_ ?_ ?_ ?_
           rotate_left
           ·kernel_rfl
           ·kernel_rfl
           ·kernel_rfl
           ·rfl
           ·rfl
           repeat (first | (refine jaA ?_ rfl ?_; (solve | simp only [go_sem, undef, jaa, zy])) | (refine jar (v := ?_) (μ' := ?_) (sn' := ?_) ?_ ?_ rfl ?_; rotate_left 3; (solve | rfl | simp only [go_sem, undef, jaa, zy]); (solve | simp only [jav, heavy, jaI, jaq, go_sem, undef, jaa, zy]; try exact rfl)))
           cases t4
           have hk : 4 ≤ (bys s).length := by rw [jbM _ 4 4 rfl, decide_eq_false_iff_not] at d4; omega
           obtain ⟨c1, _, g1⟩ := byte_at s (i := 1) (by omega)
           have x1 : ∀ (r : Rg) (x : Operand), aev pZ r x = .string s → ja3 pZ (aev pZ r) 9 x (.const (.int .i64 1)) = some (.int .u8 (.ofNat c1)) := fun r x h => g1 r x _ h rfl
           obtain ⟨c2, _, g2⟩ := byte_at s (i := 2) (by omega)
           have x2 : ∀ (r : Rg) (x : Operand), aev pZ r x = .string s → ja3 pZ (aev pZ r) 9 x (.const (.int .i64 2)) = some (.int .u8 (.ofNat c2)) := fun r x h => g2 r x _ h rfl
           obtain ⟨c3, _, g3⟩ := byte_at s (i := 3) (by omega)
           have x3 : ∀ (r : Rg) (x : Operand), aev pZ r x = .string s → ja3 pZ (aev pZ r) 9 x (.const (.int .i64 3)) = some (.int .u8 (.ofNat c3)) := fun r x h => g3 r x _ h rfl
           obtain ⟨u1, eu1⟩ : ∃ t, ilt (.ofNat c1) (.ofNat a) = t := ⟨_, rfl⟩
           obtain ⟨u2, eu2⟩ : ∃ t, ilt (.ofNat b) (.ofNat c1) = t := ⟨_, rfl⟩
           obtain ⟨u3, eu3⟩ : ∃ t, ilt (.ofNat c2) 128 = t := ⟨_, rfl⟩
           obtain ⟨u4, eu4⟩ : ∃ t, ilt 191 (.ofNat c2) = t := ⟨_, rfl⟩
           obtain ⟨u5, eu5⟩ : ∃ t, ilt (.ofNat c3) 128 = t := ⟨_, rfl⟩
           obtain ⟨u6, eu6⟩ : ∃ t, ilt 191 (.ofNat c3) = t := ⟨_, rfl⟩
           have zw := (⟨@x1, @x2, @x3, @eu1, @eu2, @eu3, @eu4, @eu5, @eu6⟩ : _ ∧ _ ∧ _ ∧ _ ∧ _ ∧ _ ∧ _ ∧ _ ∧ _)
           repeat (first | (refine jaA ?_ rfl ?_; (solve | simp only [go_sem, undef, jaa, zy, zw])) | (refine jar (v := ?_) (μ' := ?_) (sn' := ?_) ?_ ?_ rfl ?_; rotate_left 3; (solve | rfl | simp only [go_sem, undef, jaa, zy, zw]); (solve | simp only [jav, heavy, jaI, jaq, go_sem, undef, jaa, zy, zw]; try exact rfl)))
           cases u1
           repeat (first | (refine jaA ?_ rfl ?_; (solve | simp only [go_sem, undef, jaa, zy, zw])) | (refine jar (v := ?_) (μ' := ?_) (sn' := ?_) ?_ ?_ rfl ?_; rotate_left 3; (solve | rfl | simp only [go_sem, undef, jaa, zy, zw]); (solve | simp only [jav, heavy, jaI, jaq, go_sem, undef, jaa, zy, zw]; try exact rfl)))
           cases u2
           repeat (first | (refine jaA ?_ rfl ?_; (solve | simp only [go_sem, undef, jaa, zy, zw])) | (refine jar (v := ?_) (μ' := ?_) (sn' := ?_) ?_ ?_ rfl ?_; rotate_left 3; (solve | rfl | simp only [go_sem, undef, jaa, zy, zw]); (solve | simp only [jav, heavy, jaI, jaq, go_sem, undef, jaa, zy, zw]; try exact rfl)))
           cases u3
           repeat (first | (refine jaA ?_ rfl ?_; (solve | simp only [go_sem, undef, jaa, zy, zw])) | (refine jar (v := ?_) (μ' := ?_) (sn' := ?_) ?_ ?_ rfl ?_; rotate_left 3; (solve | rfl | simp only [go_sem, undef, jaa, zy, zw]); (solve | simp only [jav, heavy, jaI, jaq, go_sem, undef, jaa, zy, zw]; try exact rfl)))
           cases u4
           repeat (first | (refine jaA ?_ rfl ?_; (solve | simp only [go_sem, undef, jaa, zy, zw])) | (refine jar (v := ?_) (μ' := ?_) (sn' := ?_) ?_ ?_ rfl ?_; rotate_left 3; (solve | rfl | simp only [go_sem, undef, jaa, zy, zw]); (solve | simp only [jav, heavy, jaI, jaq, go_sem, undef, jaa, zy, zw]; try exact rfl)))
           cases u5
           repeat (first | (refine jaA ?_ rfl ?_; (solve | simp only [go_sem, undef, jaa, zy, zw])) | (refine jar (v := ?_) (μ' := ?_) (sn' := ?_) ?_ ?_ rfl ?_; rotate_left 3; (solve | rfl | simp only [go_sem, undef, jaa, zy, zw]); (solve | simp only [jav, heavy, jaI, jaq, go_sem, undef, jaa, zy, zw]; try exact rfl)))
           cases u6
           have ks : ∀ (r : Rg) (x : Operand), aev pZ r x = .string s → jbg pZ (aev pZ r) 9 x (some (.const (.int .i64 4))) none none = some (.string (jbw s 4)) := fun r x h => je0 s (by omega) r x _ h rfl
           repeat (first | (refine jaA ?_ rfl ?_; (solve | simp only [go_sem, undef, jaa, zy, zw])) | (refine jar (v := ?_) (μ' := ?_) (sn' := ?_) ?_ ?_ rfl ?_; rotate_left 3; (solve | rfl | simp only [go_sem, undef, jaa, zy, zw]); (solve | simp only [jav, heavy, jaI, jaq, go_sem, undef, jaa, zy, zw]; try exact rfl)))
           simp only [dRun, jay, jak]
           repeat (first | refine jab rfl ?_ | (refine jap rfl ?_; (try simp only [go_sem, undef, h0, ks]); fail_if_success refine ifC ?_) | (refine jad rfl ?_; (repeat (first | (refine jai ?_ rfl ?_; (solve | simp only [go_sem, undef, h0, ks])) | (refine jaf (v := ?_) (μ' := ?_) ?_ ?_ rfl ?_; rotate_left 2; (solve | rfl | simp only [go_sem, undef, h0, ks]); (solve | simp only [go_sem, undef, h0, ks]; try exact rfl)))); simp only [go_sem]))
           rw [show e + (n + 1) + 199 = e + n + 200 from by omega]
           exact ih (jbw s 4) (by rw [jb3]; omega) (GG _) (by simp only [go_sem])
           all_goals (try have zw := zy)
           all_goals
            repeat (first | (refine jaA ?_ rfl ?_; (solve | simp only [go_sem, undef, jaa, zy, zw])) | (refine jar (v := ?_) (μ' := ?_) (sn' := ?_) ?_ ?_ rfl ?_; rotate_left 3; (solve | rfl | simp only [go_sem, undef, jaa, zy, zw]); (solve | simp only [jav, heavy, jaI, jaq, go_sem, undef, jaa, zy, zw]; try exact rfl)))
            simp only [dRun, jay, jak]
            repeat (first | refine jab rfl ?_ | (refine jap rfl ?_; (try simp only [go_sem, undef]); fail_if_success refine ifC ?_) | (refine jad rfl ?_; (repeat (first | (refine jai ?_ rfl ?_; (solve | simp only [go_sem, undef])) | (refine jaf (v := ?_) (μ' := ?_) ?_ ?_ rfl ?_; rotate_left 2; (solve | rfl | simp only [go_sem, undef]); (solve | simp only [go_sem, undef]; try exact rfl)))); simp only [go_sem]))
            refine jah ?_
            exact ⟨GG _, _, rfl, .inr ⟨by trivial, by simp only [go_sem]⟩⟩
         | false =>
           repeat (first | refine jab rfl ?_ | (refine jap rfl ?_; (try simp only [go_sem, undef]); fail_if_success refine ifC ?_) | (refine jad rfl ?_; (repeat (first | (refine jai ?_ rfl ?_; (solve | simp only [go_sem, undef])) | (refine jaf (v := ?_) (μ' := ?_) ?_ ?_ rfl ?_; rotate_left 2; (solve | rfl | simp only [go_sem, undef]); (solve | simp only [go_sem, undef]; try exact rfl)))); simp only [go_sem]))
           refine jah ?_
           exact ⟨hG.trans G1, _, rfl, .inr ⟨by trivial, by simp only [go_sem]⟩⟩
theorem vs_ok {X : XT} {μ0 : Mem} (hY : Lay8 μ0) : VsOk X μ0 := by
 intro s g μ hs hG hg
 obtain ⟨k, rfl⟩ := gle hg
 have key : EndsF (aFun pZ (jao pZ X S0 (k + 50000)) 43 [.string s] μ) fun r μ' => (∃ b, r = .bool b) ∧ Grow μ μ' := by
  refine jaj Tryz.func43 rfl rfl (nbl rfl) ?_
  simp only [go_sem, Tryz.ntmps43]
  repeat (first | refine jab rfl ?_ | (refine jap rfl ?_; (try simp only [go_sem, undef]); fail_if_success refine ifC ?_) | (refine jad rfl ?_; (repeat (first | (refine jai ?_ rfl ?_; (solve | simp only [go_sem, undef])) | (refine jaf (v := ?_) (μ' := ?_) ?_ ?_ rfl ?_; rotate_left 2; (solve | rfl | simp only [go_sem, undef]); (solve | simp only [go_sem, undef]; try exact rfl)))); simp only [go_sem]))
  rw [show k + 49997 = (k + 44797) + 5000 + 200 from by omega]
  refine EndsC.mono (vs_loop (hY.grow hG) 5000 s hs (Grow.refl _) (by simp only [go_sem])) ?_
  rintro x r μ' ⟨g1, tm', rfl, rfl | ⟨rfl, g2⟩⟩
  ·simp only [jaX, reduceIte, jak]
   repeat (first | refine jab rfl ?_ | (refine jap rfl ?_; (try simp only [go_sem, undef]); fail_if_success refine ifC ?_) | (refine jad rfl ?_; (repeat (first | (refine jai ?_ rfl ?_; (solve | simp only [go_sem, undef])) | (refine jaf (v := ?_) (μ' := ?_) ?_ ?_ rfl ?_; rotate_left 2; (solve | rfl | simp only [go_sem, undef]); (solve | simp only [go_sem, undef]; try exact rfl)))); simp only [go_sem]))
   refine jah ?_
   refine ⟨rfl, ?_⟩
   simp only [go_sem, Tryz.results43]
   exact ⟨_, rfl, ⟨_, rfl⟩, g1⟩
  ·simp only [jaX]
   refine ⟨rfl, ?_⟩
   simp only [go_sem, Tryz.results43]
   exact ⟨_, rfl, ⟨_, g2⟩, g1⟩
 obtain ⟨r, μ', h1, ⟨b, rfl⟩, h2⟩ := key
 exact ⟨b, μ', h1, h2⟩
end
noncomputable section
section
set_option linter.defProp false
variable {X : XT} {ev : Code → Rg → Mem → Option (Ax × Rg × Mem)}
def gg16 := go_call (P := pZ) (X := X) (ev := ev) (S := S0) Tryz.func16 rfl rfl
def gg29 := go_call (P := pZ) (X := X) (ev := ev) (S := S0) Tryz.func29 rfl rfl
def gg28 := go_call (P := pZ) (X := X) (ev := ev) (S := S0) Tryz.func28 rfl rfl
def gg47 := go_call (P := pZ) (X := X) (ev := ev) (S := S0) Tryz.func47 rfl rfl
def gg6 := go_call (P := pZ) (X := X) (ev := ev) (S := S0) Tryz.func6 rfl rfl
end
def Trn (B : Nat) (μ μ' : Mem) : Prop := μ.next ≤ μ'.next ∧ ∀ i, i < μ.next → i ≠ B → μ'.obs.get i = μ.obs.get i
theorem Trn.refl (B : Nat) (μ : Mem) : Trn B μ μ := ⟨Nat.le_refl _, fun _ _ _ => rfl⟩
theorem Trn.trans {B : Nat} {a b c : Mem} (h : Trn B a b) (g : Trn B b c) : Trn B a c := ⟨Nat.le_trans h.1 g.1, fun i hi hB => (g.2 i (Nat.lt_of_lt_of_le hi h.1) hB).trans (h.2 i hi hB)⟩
theorem Trn.of_grow {B : Nat} {a b : Mem} (h : Grow a b) : Trn B a b := ⟨h.1, fun i hi _ => h.2 i hi⟩
theorem Trn.grow0 {B : Nat} {μ0 a b : Mem} (h : Trn B a b) (g : Grow μ0 a) (hB : μ0.next ≤ B) : Grow μ0 b := ⟨Nat.le_trans g.1 h.1, fun i hi => (h.2 i (Nat.lt_of_lt_of_le hi g.1) (by omega)).trans (g.2 i hi)⟩
def Bud (μ : Mem) (B : Nat) : Prop := (∃ l : Int, jal μ B 0 = some (.int .i64 l)) ∧ Blk μ B 1 45 ∧ B < μ.next
theorem jbF {μ μ' : Mem} {i : Nat} (h : μ'.obs.get i = μ.obs.get i) (o : Nat) : jal μ' i o = jal μ i o := by unfold jal; rw [h]
theorem Bud.grow {μ μ' : Mem} {B : Nat} (h : Bud μ B) (g : Grow μ μ') : Bud μ' B := by
 obtain ⟨⟨l, h1⟩, h2, h3⟩ := h
 exact ⟨⟨l, (jbF (g.2 B h3) 0).trans h1⟩, h2.of_get (g.2 B h3), Nat.lt_of_lt_of_le h3 g.1⟩
theorem fa_bud (ρ : Operand → Value) (x : Operand) : jaL pZ ρ 45 x 0 = (match ρ x with | .pointer (some a) => some (.pointer (some (a.add 0))) | _ => none) := jaK (ft := 3) (off := 0) Tryz.underlying45 rfl jdn rfl ρ x
theorem ld_pb (μ : Mem) (i o : Nat) : jbH pZ μ 43 (.pointer (some ⟨i, o, none⟩)) = jal μ i o := jb6 Tryz.underlying43 rfl μ i o
theorem box_pb (a : Addr) : aBox 43 (.pointer (some a)) = some (obL 43 [.pointer (some a)], fun id => .pointer (some ⟨id, 0, none⟩)) := rfl
theorem box_int (n : Int) : aBox 3 (.int .i64 n) = some (obL 3 [.int .i64 n], fun id => .pointer (some ⟨id, 0, none⟩)) := rfl
theorem rclos_ex {X : XT} {g q3 q5 B : Nat} {deep : Int} {l : List Value} {μ : Mem} {R : Mem → Prop} (hg : 20 ≤ g) (hl : l.length = 8) (h1 : l.all one = true) (c3 : jal μ q3 0 = some (.pointer (some ⟨B, 0, none⟩))) (c5 : jal μ q5 0 = some (.int .i64 deep)) (n3 : q3 < μ.next) (n5 : q5 < μ.next)
  (hR : ∀ μ1 dp, Grow μ μ1 → ∃ b μ2, aFun pZ (jao pZ X S0 (g - 3)) 16 [.pointer (some ⟨B, 0, none⟩), .agg l.toArray, .int .i64 dp] μ1 = some (.bool b, μ2) ∧ R μ2) :
  ∃ b μ', aFun pZ (jao pZ X S0 g) 29 [.agg l.toArray, .pointer (some ⟨q3, 0, none⟩), .pointer (some ⟨q5, 0, none⟩)] μ = some (.bool b, μ') ∧ R μ' := by
 obtain ⟨k, rfl⟩ := gle hg
 obtain ⟨v0, v1, v2, v3, v4, v5, v6, v7, rfl⟩ : ∃ a b c d e f g h, l = [a, b, c, d, e, f, g, h] := by
  match l, hl with
  | [a, b, c, d, e, f, g, h], _ => exact ⟨_, _, _, _, _, _, _, _, rfl⟩
 have hH := jd7 μ 30 [v0, v1, v2, v3, v4, v5, v6, v7]
 have hG := jbn μ (obL 30 [v0, v1, v2, v3, v4, v5, v6, v7])
 obtain ⟨μ1, hμ1⟩ : ∃ μ1 : Mem, μ1 = ⟨μ.obs.set μ.next (obL 30 [v0, v1, v2, v3, v4, v5, v6, v7]), μ.next + 1⟩ := ⟨_, rfl⟩
 rw [← hμ1] at hH hG
 have hld := Has.ld_D hH rfl
 have d3 := (jbF (hG.2 q3 n3) 0).trans c3
 have d5 := (jbF (hG.2 q5 n5) 0).trans c5
 obtain ⟨dp, hdp⟩ : ∃ dp, jax .i64 (Int.add deep 1) = dp := ⟨_, rfl⟩
 obtain ⟨b, μ2, hr, hR2⟩ := hR μ1 dp hG
 rw [show k + 20 - 3 = k + 17 from by omega] at hr
 have key : EndsF (aFun pZ (jao pZ X S0 (k + 20)) 29 [.agg #[v0, v1, v2, v3, v4, v5, v6, v7], .pointer (some ⟨q3, 0, none⟩), .pointer (some ⟨q5, 0, none⟩)] μ) fun r μ' => (∃ b, r = .bool b) ∧ R μ' := by
  refine jaj Tryz.func29 rfl rfl (nbl rfl) ?_
  simp only [go_sem, Tryz.ntmps29]
  refine jag ?_
  refine jaw ?_ ?_
  ·rfl
  simp only [go_sem, jda, Nat.add_eq]
  rw [← hμ1]
  have zz := (⟨@ld_pb, @jau, @hld, @d3, @d5, @hdp, @gg16, @hr⟩ : _ ∧ _ ∧ _ ∧ _ ∧ _ ∧ _ ∧ _ ∧ _)
  repeat (first | refine jab rfl ?_ | (refine jap rfl ?_; (try simp only [go_sem, zz]); fail_if_success refine ifC ?_) | (refine jad rfl ?_; (repeat (first | (refine jai ?_ rfl ?_; (solve | simp only [go_sem, zz])) | (refine jaf (v := ?_) (μ' := ?_) ?_ ?_ rfl ?_; rotate_left 2; (solve | rfl | simp only [go_sem, zz]); (solve | simp only [go_sem, zz]; try exact rfl)))); simp only [go_sem]))
  clear zz
  refine jah ?_
  refine ⟨rfl, ?_⟩
  simp only [go_sem, Tryz.results29]
  exact ⟨_, rfl, ⟨_, rfl⟩, hR2⟩
 obtain ⟨r, μ', h1, ⟨b, rfl⟩, h2⟩ := key
 exact ⟨b, μ', h1, h2⟩
theorem ridx_loop {X : XT} {l : List Dat} {v : Value} {μ0 μs : Mem} {B q3 q5 G : Nat} (hll : l.length ≤ 4000) (hL : IsL μ0 l v) (h0 : Grow μ0 μs) (hB : μ0.next ≤ B)
  (hC : ∀ {d : Dat} {cs : List Value} {g : Nat} {μ : Mem}, d ∈ l → IsD μ0 d cs → Trn B μs μ → Bud μ B → G ≤ g → ∃ b μ', aFun pZ (jao pZ X S0 g) 29 [.agg cs.toArray, .pointer (some ⟨q3, 0, none⟩), .pointer (some ⟨q5, 0, none⟩)] μ = some (.bool b, μ') ∧ Trn B μs μ' ∧ Bud μ' B) :
  ∀ (j i : Nat), i + j = l.length → ∀ {e : Nat} {tm : T Value} {μ : Mem}, Trn B μs μ → Bud μ B → jam tm 0 = v → jam tm 1 = .func (.func 29) #[] #[.pointer (some ⟨q3, 0, none⟩), .pointer (some ⟨q5, 0, none⟩)] → jam tm 7 = .int .i64 (.ofNat l.length) → jam tm 8 = .int .i64 (.ofNat i) →
  EndsC (jao pZ X S0 (G + e + j + 30) (.loop (jaR Tryz.f47 0)) ⟨19, tm, [], none⟩ μ) fun x r μ' => Trn B μs μ' ∧ Bud μ' B ∧ ∃ tm', r = ⟨19, tm', [], none⟩ ∧ (x = .exit 0 ∨ (x = .ret ∧ ∃ m, jam tm' 4 = .int .i64 m)) := by
 intro j
 induction j with
 | zero =>
   intro i hi e tm μ hT hU r0 r1 r7 r8
   have hi : i = l.length := hi
   have e1 : ilt (.ofNat i) (.ofNat l.length) = false := (jat _ _).trans (decide_eq_false (by omega))
   refine jan ?_
   repeat (first | refine jab rfl ?_ | (refine jap rfl ?_; (try simp only [go_sem, r7, r8, e1]); fail_if_success refine ifC ?_) | (refine jad rfl ?_; (repeat (first | (refine jai ?_ rfl ?_; (solve | simp only [go_sem, r7, r8, e1])) | (refine jaf (v := ?_) (μ' := ?_) ?_ ?_ rfl ?_; rotate_left 2; (solve | rfl | simp only [go_sem, r7, r8, e1]); (solve | simp only [go_sem, r7, r8, e1]; try exact rfl)))); simp only [go_sem]))
   exact ⟨hT, hU, _, rfl, .inl (by trivial)⟩
 | succ j ih =>
   intro i hi e tm μ hT hU r0 r1 r7 r8
   have hlt : i < l.length := by omega
   have e1 : ilt (.ofNat i) (.ofNat l.length) = true := (jat _ _).trans (decide_eq_true hlt)
   have a1 : jax .i64 (Int.add (.ofNat i) 1) = .ofNat (i + 1) := jaV i 1 (by omega)
   obtain ⟨bi, bo, bc, cs, hbv, hb, hH, hD⟩ := hL.at (List.getElem?_eq_getElem hlt)
   have hix : ∀ (r : Rg) (x y : Operand), aev pZ r x = v → aev pZ r y = .int .i64 (.ofNat i) → jas pZ (aev pZ r) 28 x y = some (.pointer (some ⟨bi, bo + 8 * i, none⟩)) := fun r x y g1 g2 => ix_D hlt (g1.trans hbv) g2
   have g0 := hT.grow0 h0 hB
   have hld := Has.ld_D (hH.keep (g0.2 _ hb)) hD.eight.1
   obtain ⟨b, μ', hc, hT', hU'⟩ := hC (g := G + e + (j + 1) + 22) (List.getElem_mem hlt) hD hT hU (by omega)
   cases b with
   | true =>
     refine jan ?_
     have zz := (⟨@r0, @r1, @r7, @r8, @e1, @hix, @hld, @gg29, @hc⟩ : _ ∧ _ ∧ _ ∧ _ ∧ _ ∧ _ ∧ _ ∧ _ ∧ _)
     repeat (first | refine jab rfl ?_ | (refine jap rfl ?_; (try simp only [go_sem, List.cons_append, zz]); fail_if_success refine ifC ?_) | (refine jad rfl ?_; (repeat (first | (refine jai ?_ rfl ?_; (solve | simp only [go_sem, List.cons_append, zz])) | (refine jaf (v := ?_) (μ' := ?_) ?_ ?_ rfl ?_; rotate_left 2; (solve | rfl | simp only [go_sem, List.cons_append, zz]); (solve | simp only [go_sem, List.cons_append, zz]; try exact rfl)))); simp only [go_sem]))
     clear zz
     refine jah ?_
     exact ⟨hT', hU', _, rfl, .inr ⟨by trivial, .ofNat i, by simp only [go_sem]⟩⟩
   | false =>
     refine jan ?_
     have zz := (⟨@r0, @r1, @r7, @r8, @e1, @a1, @hix, @hld, @gg29, @hc⟩ : _ ∧ _ ∧ _ ∧ _ ∧ _ ∧ _ ∧ _ ∧ _ ∧ _ ∧ _)
     repeat (first | refine jab rfl ?_ | (refine jap rfl ?_; (try simp only [go_sem, List.cons_append, zz]); fail_if_success refine ifC ?_) | (refine jad rfl ?_; (repeat (first | (refine jai ?_ rfl ?_; (solve | simp only [go_sem, List.cons_append, zz])) | (refine jaf (v := ?_) (μ' := ?_) ?_ ?_ rfl ?_; rotate_left 2; (solve | rfl | simp only [go_sem, List.cons_append, zz]); (solve | simp only [go_sem, List.cons_append, zz]; try exact rfl)))); simp only [go_sem]))
     clear zz
     rw [show G + e + (j + 1) + 29 = G + e + j + 30 from by omega]
     refine ih (i + 1) (by omega) hT' hU' ?_ ?_ ?_ ?_ <;> simp only [go_sem, r0, r1, r7]
theorem rcont_ex {X : XT} {l : List Dat} {v : Value} {μ0 μs : Mem} {B q3 q5 G g : Nat} (hll : l.length ≤ 4000) (hL : IsL μ0 l v) (h0 : Grow μ0 μs) (hB : μ0.next ≤ B) (hU : Bud μs B) (hg : G + 4200 ≤ g)
  (hC : ∀ {d : Dat} {cs : List Value} {g : Nat} {μ : Mem}, d ∈ l → IsD μ0 d cs → Trn B μs μ → Bud μ B → G ≤ g → ∃ b μ', aFun pZ (jao pZ X S0 g) 29 [.agg cs.toArray, .pointer (some ⟨q3, 0, none⟩), .pointer (some ⟨q5, 0, none⟩)] μ = some (.bool b, μ') ∧ Trn B μs μ' ∧ Bud μ' B) :
  ∃ b μ', aFun pZ (jao pZ X S0 g) 28 [v, .func (.func 29) #[] #[.pointer (some ⟨q3, 0, none⟩), .pointer (some ⟨q5, 0, none⟩)]] μs = some (.bool b, μ') ∧ Trn B μs μ' ∧ Bud μ' B := by
 have hlv := (hL.grow h0).len
 have hI : ∀ k, G + 4100 ≤ k + 60 → ∃ m μ', aFun pZ (jao pZ X S0 (k + 60)) 47 [v, .func (.func 29) #[] #[.pointer (some ⟨q3, 0, none⟩), .pointer (some ⟨q5, 0, none⟩)]] μs = some (.int .i64 m, μ') ∧ Trn B μs μ' ∧ Bud μ' B := by
  intro k hk
  have key : EndsF (aFun pZ (jao pZ X S0 (k + 60)) 47 [v, .func (.func 29) #[] #[.pointer (some ⟨q3, 0, none⟩), .pointer (some ⟨q5, 0, none⟩)]] μs) fun r μ' => (∃ m, r = .int .i64 m) ∧ Trn B μs μ' ∧ Bud μ' B := by
   refine jaj Tryz.func47 rfl rfl (nbl rfl) ?_
   simp only [go_sem, Tryz.ntmps47]
   repeat (first | refine jab rfl ?_ | (refine jap rfl ?_; (try simp only [go_sem, jaa, hlv, jae]); fail_if_success refine ifC ?_) | (refine jad rfl ?_; (repeat (first | (refine jai ?_ rfl ?_; (solve | simp only [go_sem, jaa, hlv, jae])) | (refine jaf (v := ?_) (μ' := ?_) ?_ ?_ rfl ?_; rotate_left 2; (solve | rfl | simp only [go_sem, jaa, hlv, jae]); (solve | simp only [go_sem, jaa, hlv, jae]; try exact rfl)))); simp only [go_sem]))
   rw [show k + 56 = G + (k + 26 - G - l.length) + l.length + 30 from by omega]
   refine EndsC.mono (ridx_loop hll hL h0 hB hC l.length 0 (Nat.zero_add _) (Trn.refl _ _) hU ?_ ?_ ?_ ?_) ?_
   ·simp only [go_sem]
   ·simp only [go_sem]
   ·simp only [go_sem]
   ·simp only [go_sem]; try rfl
   rintro a r μ' ⟨hT, hU, tm', rfl, rfl | ⟨rfl, m, h4⟩⟩
   ·simp only [jaX, reduceIte, jak]
    repeat (first | refine jab rfl ?_ | (refine jap rfl ?_; (try simp only [go_sem, undef]); fail_if_success refine ifC ?_) | (refine jad rfl ?_; (repeat (first | (refine jai ?_ rfl ?_; (solve | simp only [go_sem, undef])) | (refine jaf (v := ?_) (μ' := ?_) ?_ ?_ rfl ?_; rotate_left 2; (solve | rfl | simp only [go_sem, undef]); (solve | simp only [go_sem, undef]; try exact rfl)))); simp only [go_sem]))
    refine jah ?_
    refine ⟨rfl, ?_⟩
    simp only [go_sem, Tryz.results47]
    exact ⟨_, rfl, ⟨_, rfl⟩, hT, hU⟩
   ·simp only [jaX]
    refine ⟨rfl, ?_⟩
    simp only [go_sem, Tryz.results47]
    exact ⟨_, rfl, ⟨_, h4⟩, hT, hU⟩
  obtain ⟨r, μ', h1, ⟨m, rfl⟩, h2⟩ := key
  exact ⟨m, μ', h1, h2⟩
 obtain ⟨k, rfl⟩ : ∃ k, g = k + 100 := ⟨g - 100, by omega⟩
 obtain ⟨m, μ', hi, hT, hU⟩ := hI (k + 37) (by omega)
 rw [show k + 37 + 60 = k + 97 from by omega] at hi
 have key : EndsF (aFun pZ (jao pZ X S0 (k + 100)) 28 [v, .func (.func 29) #[] #[.pointer (some ⟨q3, 0, none⟩), .pointer (some ⟨q5, 0, none⟩)]] μs) fun r μ' => (∃ b, r = .bool b) ∧ Trn B μs μ' ∧ Bud μ' B := by
  obtain ⟨t, et⟩ : ∃ t, ilt m 0 = t := ⟨_, rfl⟩
  refine jaj Tryz.func28 rfl rfl (nbl rfl) ?_
  simp only [go_sem, Tryz.ntmps28]
  repeat (first | refine jab rfl ?_ | (refine jap rfl ?_; (try simp only [go_sem, gg47, hi, et]); fail_if_success refine ifC ?_) | (refine jad rfl ?_; (repeat (first | (refine jai ?_ rfl ?_; (solve | simp only [go_sem, gg47, hi, et])) | (refine jaf (v := ?_) (μ' := ?_) ?_ ?_ rfl ?_; rotate_left 2; (solve | rfl | simp only [go_sem, gg47, hi, et]); (solve | simp only [go_sem, gg47, hi, et]; try exact rfl)))); simp only [go_sem]))
  refine jah ?_
  refine ⟨rfl, ?_⟩
  simp only [go_sem, Tryz.results28]
  exact ⟨_, rfl, ⟨_, rfl⟩, hT, hU⟩
 obtain ⟨r, μ', h1, ⟨b, rfl⟩, h2⟩ := key
 exact ⟨b, μ', h1, h2⟩
theorem bright_ex : ∀ (n : Nat) {d : Dat} {cs : List Value} {X : XT} {g B : Nat} {deep : Int} {μ μ0 : Mem} (hX0 : jbs X) (hX2 : jb1 X) (hY : Lay μ0) (hV : VsOk X μ0) (hX : jch X) (hS : Sm n d) (hD : IsD μ0 d cs) (h0 : Grow μ0 μ) (hB : μ0.next ≤ B) (hU : Bud μ B) (hg : 110000 + 5000 * n ≤ g),
  ∃ b μ', aFun pZ (jao pZ X S0 g) 16 [.pointer (some ⟨B, 0, none⟩), .agg cs.toArray, .int .i64 deep] μ = some (.bool b, μ') ∧ Trn B μ μ' ∧ Bud μ' B := by
 intro n
 induction n with
 | zero => intro d cs X g B deep μ μ0 hX0 hX2 hY hV hX hS; exact hS.elim
 | succ n ih =>
   intro d cs X g B deep μ μ0 hX0 hX2 hY hV hX hS hD h0 hB hU hg
   obtain ⟨k, hk, rfl⟩ : ∃ k, 5000 * (n + 1) ≤ k ∧ g = k + 110000 := ⟨g - 110000, by omega, by omega⟩
   obtain ⟨⟨lf, hlf⟩, hblk, hBn⟩ := hU
   have hS0 := hS
   have hD0 := hD
   obtain ⟨kd, m, fl, f, neg, ls, s, l⟩ := d
   obtain ⟨hls, hsl, hll, hsub⟩ : ls.length ≤ 200 ∧ (bys s).length ≤ 5000 ∧ l.length ≤ 4000 ∧ ∀ x ∈ l, Sm n x := hS
   obtain ⟨vl, vi, rfl, _, hUU, hL⟩ := jce.1 hD
   obtain ⟨cs, hcs⟩ : ∃ cs, cs = [Value.int .i64 kd, .int .i64 m, .bool fl, .float .f64 f, .bool neg, vl, .string s, vi] := ⟨_, rfl⟩
   obtain ⟨m1, hm1⟩ : ∃ m1 : Mem, m1 = ⟨μ.obs.set μ.next (obL 43 [.pointer (some ⟨B, 0, none⟩)]), μ.next + 1⟩ := ⟨_, rfl⟩
   have H3 := jd7 μ 43 [.pointer (some ⟨B, 0, none⟩)]
   have G1 := jbn μ (obL 43 [.pointer (some ⟨B, 0, none⟩)])
   rw [← hm1] at H3 G1
   have n1 : m1.next = μ.next + 1 := by rw [hm1]
   obtain ⟨m2, hm2⟩ : ∃ m2 : Mem, m2 = ⟨m1.obs.set m1.next (obL 30 cs), m1.next + 1⟩ := ⟨_, rfl⟩
   have H4 := jd7 m1 30 cs
   have G2 := jbn m1 (obL 30 cs)
   rw [← hm2] at H4 G2
   have n2 : m2.next = m1.next + 1 := by rw [hm2]
   obtain ⟨m3, hm3⟩ : ∃ m3 : Mem, m3 = ⟨m2.obs.set m2.next (obL 3 [.int .i64 deep]), m2.next + 1⟩ := ⟨_, rfl⟩
   have H5 := jd7 m2 3 [.int .i64 deep]
   have G3 := jbn m2 (obL 3 [.int .i64 deep])
   rw [← hm3] at H5 G3
   have n3 : m3.next = m2.next + 1 := by rw [hm3]
   have hB3 : μ.next ≤ m3.next := by omega
   have hmm : (⟨((μ.obs.set μ.next (obL 43 [.pointer (some ⟨B, 0, none⟩)])).set (μ.next + 1) (obL 30 [.int .i64 kd, .int .i64 m, .bool fl, .float .f64 f, .bool neg, vl, .string s, vi])).set (μ.next + 1 + 1) (obL 3 [.int .i64 deep]), μ.next + 1 + 1 + 1⟩ : Mem) = m3 := by rw [hm3, hm2, hm1, hcs]
   have q12 : μ.next + 1 = m1.next := n1.symm
   have q22 : μ.next + 1 + 1 = m2.next := by omega
   have GG3 : Grow μ m3 := (G1.trans G2).trans G3
   obtain ⟨l1, hl1⟩ : ∃ l1, jax .i64 (Int.sub lf 1) = l1 := ⟨_, rfl⟩
   have hst := jbl (P := pZ) (t := 3) (v := .int .i64 l1) jdn rfl rfl (hblk.of_get (GG3.2 B hBn)) (show 0 < 1 by decide)
   obtain ⟨m4, hm4⟩ : ∃ m4 : Mem, m4 = putL m3 B 0 [.int .i64 l1] := ⟨_, rfl⟩
   rw [← hm4] at hst
   have n4 : m4.next = m3.next := by rw [hm4, jbb]
   have hf4 : ∀ i, i ≠ B → m4.obs.get i = m3.obs.get i := fun i hi => by rw [hm4, jbx _ _ _ _ hi]
   have HB4 : Has m4 B 0 [.int .i64 l1] := by rw [hm4]; exact Has.of_put (hblk.of_get (GG3.2 B hBn)) (by show 0 + 1 ≤ 1; omega)
   have hblk4 : Blk m4 B 1 45 := by rw [hm4]; exact Blk.put (i := B) 0 [.int .i64 l1] (hblk.of_get (GG3.2 B hBn))
   have H3' : Has m4 μ.next 0 [.pointer (some ⟨B, 0, none⟩)] := ((H3.keep (G2.2 _ (by omega))).keep (G3.2 _ (by omega))).keep (hf4 _ (by omega))
   have H4' : Has m4 m1.next 0 cs := (H4.keep (G3.2 _ (by omega))).keep (hf4 _ (by omega))
   have H5' : Has m4 m2.next 0 [.int .i64 deep] := H5.keep (hf4 _ (by omega))
   have T4 : Trn B μ m4 := ⟨by omega, fun i hi hb => (hf4 i hb).trans (GG3.2 i hi)⟩
   have pk : ∀ w : Mem, (∀ j, j < m4.next → w.obs.get j = m4.obs.get j) → jal w μ.next 0 = some (.pointer (some ⟨B, 0, none⟩)) ∧ jal w m2.next 0 = some (.int .i64 deep) ∧ jal w B 0 = some (.int .i64 l1) ∧ Has w m1.next 0 cs := fun w hw =>
    ⟨(H3'.keep (hw _ (by omega))).cell 0 (by simp), (H5'.keep (hw _ (by omega))).cell 0 (by simp), (HB4.keep (hw _ (by omega))).cell 0 (by simp), H4'.keep (hw _ (by omega))⟩
   have gv : ∀ y, ∀ j, j < m4.next → (⟨m4.obs, y⟩ : Mem).obs.get j = m4.obs.get j := fun y j _ => rfl
   have z1 : ∀ y, jal ⟨m4.obs, y⟩ μ.next 0 = some (.pointer (some ⟨B, 0, none⟩)) := fun y => (pk _ (gv y)).1
   have z2 : ∀ y, jal ⟨m4.obs, y⟩ m2.next 0 = some (.int .i64 deep) := fun y => (pk _ (gv y)).2.1
   have z3 : ∀ y, jal ⟨m4.obs, y⟩ B 0 = some (.int .i64 l1) := fun y => (pk _ (gv y)).2.2.1
   have zH : ∀ y, Has ⟨m4.obs, y⟩ m1.next 0 cs := fun y => (pk _ (gv y)).2.2.2
   obtain ⟨ν, hν⟩ : ∃ ν : Mem, ν = ⟨m4.obs, m4.next + 43⟩ := ⟨_, rfl⟩
   have gν : Grow m4 ν := by rw [hν]; exact jb7 m4 43
   have T0ν : Trn B μ ν := T4.trans (Trn.of_grow gν)
   have g0ν := T0ν.grow0 h0 hB
   have Uν : Bud ν B := Bud.grow ⟨⟨_, HB4.cell 0 (by simp)⟩, hblk4, by omega⟩ gν
   obtain ⟨ba, μa, ra, Ga⟩ := jgM (X := X) (g := k + 109995) (fl := fl) (neg := neg) (f := f) (μ := ν) hX (hUU.grow g0ν) hls (by omega)
   have gA := gν.trans Ga
   have g0a := g0ν.trans Ga
   obtain ⟨pa1, pa2, pa3, paH⟩ := pk μa gA.2
   obtain ⟨bc, μc, rc, Gc⟩ := single_ex (X := X) (g := k + 109995) (μ := μa) (μ0 := μ0) (n := n + 1) hX0 hX2 (hY.grow g0a) hV g0a hX hS0 (hD0.grow g0a) (by omega)
   have gC := gA.trans Gc
   have g0c := g0a.trans Gc
   obtain ⟨pc1, pc2, pc3, pcH⟩ := pk μc gC.2
   obtain ⟨bd, μd, rd, Gd⟩ := extra_ex (X := X) (g := k + 109995) (μ := μc) (n := n + 1) hX hS0.dp (hD0.grow g0c) (by omega)
   have gD := gC.trans Gd
   have g0d := g0c.trans Gd
   obtain ⟨pd1, pd2, pd3, pdH⟩ := pk μd gD.2
   have Ta := T0ν.trans (Trn.of_grow Ga)
   have Tc := Ta.trans (Trn.of_grow Gc)
   have Td := Tc.trans (Trn.of_grow Gd)
   have Ua := Uν.grow Ga
   have Uc := Ua.grow Gc
   have Ud := Uc.grow Gd
   have lL := (hL.grow g0d).len
   subst hcs
   have z4 := fun y => jeF (zH y)
   have z5 := fun y => Has.ld_D (zH y) rfl
   have z6 := fun y => (Has.c8 (zH y)).1
   have z7 := fun y => (Has.c8 (zH y)).2.2.2.2.2.2.2
   have pa4 := jeF paH
   have pa5 := Has.ld_D paH rfl
   have pa6 := (Has.c8 paH).1
   have pa7 := (Has.c8 paH).2.2.2.2.2.2.2
   have pc4 := jeF pcH
   have pc5 := Has.ld_D pcH rfl
   have pc6 := (Has.c8 pcH).1
   have pc7 := (Has.c8 pcH).2.2.2.2.2.2.2
   have pd4 := jeF pdH
   have pd5 := Has.ld_D pdH rfl
   have pd6 := (Has.c8 pdH).1
   have pd7 := (Has.c8 pdH).2.2.2.2.2.2.2
   obtain ⟨t0, e0⟩ : ∃ b, ilt l1 0 = b := ⟨_, rfl⟩
   obtain ⟨t1, e1⟩ : ∃ b, ilt 60 deep = b := ⟨_, rfl⟩
   obtain ⟨t2, e2⟩ : ∃ b, ilt kd 5 = b := ⟨_, rfl⟩
   obtain ⟨t3, e3⟩ : ∃ b, ilt deep 60 = b := ⟨_, rfl⟩
   obtain ⟨t5, e5⟩ : ∃ b, ilt l1 (.ofNat l.length) = b := ⟨_, rfl⟩
   have c0 := (jbF (GG3.2 B hBn) 0).trans hlf
   have c1 : jal m3 μ.next 0 = some (.pointer (some ⟨B, 0, none⟩)) := ((H3.keep (G2.2 _ (by omega))).keep (G3.2 _ (by omega))).cell 0 (by simp)
   obtain ⟨bz, μz, rz, Tz, Uz⟩ := rcont_ex (X := X) (l := l) (v := vi) (μ0 := μ0) (μs := μd) (B := B) (q3 := μ.next) (q5 := m2.next) (G := 110000 + 5000 * n + 30) (g := k + 109995) hll hL g0d hB Ud (by omega) (fun {d' cs' g' w} hm hd ht hu hg' => by
    refine rclos_ex (g := g') (B := B) (deep := deep) (R := fun w' => Trn B μd w' ∧ Bud w' B) (by omega) hd.eight.1 hd.eight.2 ?_ ?_ ?_ ?_ ?_
    ·exact (jbF (ht.2 _ (by have := gD.1; omega) (by omega)) 0).trans pd1
    ·exact (jbF (ht.2 _ (by have := gD.1; omega) (by omega)) 0).trans pd2
    ·have := gD.1; have := ht.1; omega
    ·have := gD.1; have := ht.1; omega
    ·intro w1 dp hgr
     obtain ⟨b, w2, q1, q2, q3⟩ := ih (X := X) (g := g' - 3) (B := B) (deep := dp) (μ := w1) (μ0 := μ0) hX0 hX2 hY hV hX (hsub _ hm) hd ((ht.grow0 g0d hB).trans hgr) hB (hu.grow hgr) (by omega)
     exact ⟨b, w2, q1, (ht.trans (Trn.of_grow hgr)).trans q2, q3⟩)
   have key : EndsF (aFun pZ (jao pZ X S0 (k + 110000)) 16 [.pointer (some ⟨B, 0, none⟩), .agg #[.int .i64 kd, .int .i64 m, .bool fl, .float .f64 f, .bool neg, vl, .string s, vi], .int .i64 deep] μ) fun r μ' => (∃ b, r = .bool b) ∧ Trn B μ μ' ∧ Bud μ' B := by
    refine jaj Tryz.func16 rfl rfl (nbl rfl) ?_
    simp only [go_sem, Tryz.ntmps16]
    refine jag ?_
    refine jaw ?_ ?_
    ·rfl
    simp only [go_sem, box_pb, jda, box_int, Nat.add_eq]
    rw [hmm, q22, q12]
    have zz := (⟨@ld_pb, @jau, @c0, @c1, @fa_bud, @hl1, @hst⟩ : _ ∧ _ ∧ _ ∧ _ ∧ _ ∧ _ ∧ _)
    repeat (first | refine jab rfl ?_ | (refine jap rfl ?_; (try simp only [go_sem, zz]); fail_if_success refine ifC ?_) | (refine jad rfl ?_; (repeat (first | (refine jai ?_ rfl ?_; (solve | simp only [go_sem, zz])) | (refine jaf (v := ?_) (μ' := ?_) ?_ ?_ rfl ?_; rotate_left 2; (solve | rfl | simp only [go_sem, zz]); (solve | simp only [go_sem, zz]; try exact rfl)))); simp only [go_sem]))
    clear zz
    rw [hν] at ra
    have T0ν' := T0ν
    have Uν' := Uν
    rw [hν] at T0ν' Uν'
    have zy := (⟨@fa_bud, @jfI, @jdQ, @jc1, @ld_pb, @jau, @jdb, @z1, @z2, @z3, @z4, @z5, @z6, @z7, @pa1, @pa2, @pa3, @pa4, @pa5, @pa6, @pa7, @pc1, @pc2, @pc3, @pc4, @pc5, @pc6, @pc7, @pd1, @pd2, @pd3, @pd4, @pd5, @pd6, @pd7, @e0, @e1, @e2, @e3, @e5, @lL, @jae, @gg25, @gg26, @gg27, @ra, @rc, @rd⟩ : _ ∧ _ ∧ _ ∧ _ ∧ _ ∧ _ ∧ _ ∧ _ ∧ _ ∧ _ ∧ _ ∧ _ ∧ _ ∧ _ ∧ _ ∧ _ ∧ _ ∧ _ ∧ _ ∧ _ ∧ _ ∧ _ ∧ _ ∧ _ ∧ _ ∧ _ ∧ _ ∧ _ ∧ _ ∧ _ ∧ _ ∧ _ ∧ _ ∧ _ ∧ _ ∧ _ ∧ _ ∧ _ ∧ _ ∧ _ ∧ _ ∧ _ ∧ _ ∧ _ ∧ _ ∧ _ ∧ _ ∧ _)
    obtain ⟨zf, hzf⟩ : ∃ zf, zf = bef [0, 1, 3, 7, 15, 31, 63, 127, 255, 511, 1023, 2047, 4095, 8191, 16383, 32767, 65535, 131071, 262143, 524287, 1048575, 2097151, 4194303, 8388607, 16777215, 33554431, 67108863, 134217727, 268435455, 536870911, 1073741823, 2147483647, 4294967295, 8589934591, 17179869183, 34359738367, 68719476735, 17179869183, 154618822655, 429496729599, 979252543487, 2199023255551, 4398046511103] := ⟨_, rfl⟩
    have zx : zf 21 0 = false ∧ zf 26 0 = false ∧ zf 31 0 = false ∧ zf 21 3 = false ∧ zf 26 3 = false ∧ zf 31 3 = false ∧ zf 21 6 = false ∧ zf 26 6 = false ∧ zf 31 6 = false ∧ zf 21 11 = false ∧ zf 26 11 = false ∧ zf 31 11 = false ∧ zf 21 14 = false ∧ zf 26 14 = false ∧ zf 31 14 = false ∧ zf 21 20 = false ∧ zf 26 20 = false ∧ zf 31 20 = false ∧ zf 21 25 = true ∧ zf 26 25 = false ∧ zf 31 25 = false ∧ zf 21 30 = true ∧ zf 26 30 = true ∧ zf 31 30 = false ∧ zf 21 35 = true ∧ zf 26 35 = true ∧ zf 31 35 = true ∧ zf 21 37 = true ∧ zf 26 37 = true ∧ zf 31 37 = true ∧ zf 21 40 = true ∧ zf 26 40 = true ∧ zf 31 40 = true := by rw [hzf]; repeat' (first | apply And.intro | kernel_rfl)
    rw [hzf] at zx
    refine jaG (n := 43) (ms := [0, 1, 3, 7, 15, 31, 63, 127, 255, 511, 1023, 2047, 4095, 8191, 16383, 32767, 65535, 131071, 262143, 524287, 1048575, 2097151, 4194303, 8388607, 16777215, 33554431, 67108863, 134217727, 268435455, 536870911, 1073741823, 2147483647, 4294967295, 8589934591, 17179869183, 34359738367, 68719476735, 17179869183, 154618822655, 429496729599, 979252543487, 2199023255551, 4398046511103]) (ord := [0, 1, 2, 3, 4, 5, 6, 7, 8, 9, 10, 11, 12, 13, 14, 15, 16, 17, 18, 19, 20, 21, 22, 23, 24, 25, 26, 27, 28, 29, 30, 31, 32, 33, 34, 35, 36, 37, 38, 39, 40, 41, 42]) (ds := ?_) ?_ ?_ ?_ ?_ ?_ ?_
    rotate_left
    ·kernel_rfl
    ·kernel_rfl
    ·kernel_rfl
    ·rfl
    ·rfl
    repeat (first | (refine jaA ?_ rfl ?_; (solve | simp only [go_sem, undef, jaa, zy, zx])) | (refine jar (v := ?_) (μ' := ?_) (sn' := ?_) ?_ ?_ rfl ?_; rotate_left 3; (solve | rfl | simp only [go_sem, undef, jaa, zy, zx]); (solve | simp only [jav, heavy, jaI, jaq, go_sem, undef, jaa, zy, zx]; try exact rfl)))
    repeat (first | (refine jaA ?_ rfl ?_; (solve | simp only [go_sem, undef, jaa, zy, zx])) | (refine jar (v := ?_) (μ' := ?_) (sn' := ?_) ?_ ?_ rfl ?_; rotate_left 3; (solve | rfl | simp only [go_sem, undef, jaa, zy, zx]); (solve | simp only [jav, heavy, jaI, jaq, go_sem, undef, jaa, zy, zx]; try exact rfl)))
    cases t0
    repeat (first | (refine jaA ?_ rfl ?_; (solve | simp only [go_sem, undef, jaa, zy, zx])) | (refine jar (v := ?_) (μ' := ?_) (sn' := ?_) ?_ ?_ rfl ?_; rotate_left 3; (solve | rfl | simp only [go_sem, undef, jaa, zy, zx]); (solve | simp only [jav, heavy, jaI, jaq, go_sem, undef, jaa, zy, zx]; try exact rfl)))
    cases t1
    repeat (first | (refine jaA ?_ rfl ?_; (solve | simp only [go_sem, undef, jaa, zy, zx])) | (refine jar (v := ?_) (μ' := ?_) (sn' := ?_) ?_ ?_ rfl ?_; rotate_left 3; (solve | rfl | simp only [go_sem, undef, jaa, zy, zx]); (solve | simp only [jav, heavy, jaI, jaq, go_sem, undef, jaa, zy, zx]; try exact rfl)))
    cases t2
    repeat (first | (refine jaA ?_ rfl ?_; (solve | simp only [go_sem, undef, jaa, zy, zx])) | (refine jar (v := ?_) (μ' := ?_) (sn' := ?_) ?_ ?_ rfl ?_; rotate_left 3; (solve | rfl | simp only [go_sem, undef, jaa, zy, zx]); (solve | simp only [jav, heavy, jaI, jaq, go_sem, undef, jaa, zy, zx]; try exact rfl)))
    cases t3
    rotate_left
    repeat (first | (refine jaA ?_ rfl ?_; (solve | simp only [go_sem, undef, jaa, zy, zx])) | (refine jar (v := ?_) (μ' := ?_) (sn' := ?_) ?_ ?_ rfl ?_; rotate_left 3; (solve | rfl | simp only [go_sem, undef, jaa, zy, zx]); (solve | simp only [jav, heavy, jaI, jaq, go_sem, undef, jaa, zy, zx]; try exact rfl)))
    cases ba
    rotate_left
    repeat (first | (refine jaA ?_ rfl ?_; (solve | simp only [go_sem, undef, jaa, zy, zx])) | (refine jar (v := ?_) (μ' := ?_) (sn' := ?_) ?_ ?_ rfl ?_; rotate_left 3; (solve | rfl | simp only [go_sem, undef, jaa, zy, zx]); (solve | simp only [jav, heavy, jaI, jaq, go_sem, undef, jaa, zy, zx]; try exact rfl)))
    cases bc
    rotate_left
    repeat (first | (refine jaA ?_ rfl ?_; (solve | simp only [go_sem, undef, jaa, zy, zx])) | (refine jar (v := ?_) (μ' := ?_) (sn' := ?_) ?_ ?_ rfl ?_; rotate_left 3; (solve | rfl | simp only [go_sem, undef, jaa, zy, zx]); (solve | simp only [jav, heavy, jaI, jaq, go_sem, undef, jaa, zy, zx]; try exact rfl)))
    cases bd
    repeat (first | (refine jaA ?_ rfl ?_; (solve | simp only [go_sem, undef, jaa, zy, zx])) | (refine jar (v := ?_) (μ' := ?_) (sn' := ?_) ?_ ?_ rfl ?_; rotate_left 3; (solve | rfl | simp only [go_sem, undef, jaa, zy, zx]); (solve | simp only [jav, heavy, jaI, jaq, go_sem, undef, jaa, zy, zx]; try exact rfl)))
    cases t5
    repeat (first | (refine jaA ?_ rfl ?_; (solve | simp only [go_sem, undef, jaa, zy, zx])) | (refine jar (v := ?_) (μ' := ?_) (sn' := ?_) ?_ ?_ rfl ?_; rotate_left 3; (solve | rfl | simp only [go_sem, undef, jaa, zy, zx]); (solve | simp only [jav, heavy, jaI, jaq, go_sem, undef, jaa, zy, zx]; try exact rfl)))
    simp only [dRun, jay, jak]
    have zz := (⟨@jc1, @jdb, @pd7, @gg28, @rz⟩ : _ ∧ _ ∧ _ ∧ _ ∧ _)
    repeat (first | refine jab rfl ?_ | (refine jap rfl ?_; (try simp only [go_sem, jbK, zz]); fail_if_success refine ifC ?_) | (refine jad rfl ?_; (repeat (first | (refine jai ?_ rfl ?_; (solve | simp only [go_sem, jbK, zz])) | (refine jaf (v := ?_) (μ' := ?_) ?_ ?_ rfl ?_; rotate_left 2; (solve | rfl | simp only [go_sem, jbK, zz]); (solve | simp only [go_sem, jbK, zz]; try exact rfl)))); simp only [go_sem]))
    clear zz
    refine jah ?_
    refine ⟨rfl, ?_⟩
    simp only [go_sem, Tryz.results16]
    exact ⟨_, rfl, ⟨_, rfl⟩, Td.trans Tz, Uz⟩
    rotate_left 2
    repeat (first | (refine jaA ?_ rfl ?_; (solve | simp only [go_sem, undef, jaa, zy, zx])) | (refine jar (v := ?_) (μ' := ?_) (sn' := ?_) ?_ ?_ rfl ?_; rotate_left 3; (solve | rfl | simp only [go_sem, undef, jaa, zy, zx]); (solve | simp only [jav, heavy, jaI, jaq, go_sem, undef, jaa, zy, zx]; try exact rfl)))
    cases ba
    rotate_left
    repeat (first | (refine jaA ?_ rfl ?_; (solve | simp only [go_sem, undef, jaa, zy, zx])) | (refine jar (v := ?_) (μ' := ?_) (sn' := ?_) ?_ ?_ rfl ?_; rotate_left 3; (solve | rfl | simp only [go_sem, undef, jaa, zy, zx]); (solve | simp only [jav, heavy, jaI, jaq, go_sem, undef, jaa, zy, zx]; try exact rfl)))
    cases bc
    rotate_left
    repeat (first | (refine jaA ?_ rfl ?_; (solve | simp only [go_sem, undef, jaa, zy, zx])) | (refine jar (v := ?_) (μ' := ?_) (sn' := ?_) ?_ ?_ rfl ?_; rotate_left 3; (solve | rfl | simp only [go_sem, undef, jaa, zy, zx]); (solve | simp only [jav, heavy, jaI, jaq, go_sem, undef, jaa, zy, zx]; try exact rfl)))
    cases bd
    repeat (first | (refine jaA ?_ rfl ?_; (solve | simp only [go_sem, undef, jaa, zy, zx])) | (refine jar (v := ?_) (μ' := ?_) (sn' := ?_) ?_ ?_ rfl ?_; rotate_left 3; (solve | rfl | simp only [go_sem, undef, jaa, zy, zx]); (solve | simp only [jav, heavy, jaI, jaq, go_sem, undef, jaa, zy, zx]; try exact rfl)))
    cases t5
    repeat (first | (refine jaA ?_ rfl ?_; (solve | simp only [go_sem, undef, jaa, zy, zx])) | (refine jar (v := ?_) (μ' := ?_) (sn' := ?_) ?_ ?_ rfl ?_; rotate_left 3; (solve | rfl | simp only [go_sem, undef, jaa, zy, zx]); (solve | simp only [jav, heavy, jaI, jaq, go_sem, undef, jaa, zy, zx]; try exact rfl)))
    simp only [dRun, jay, jak]
    have zz := (⟨@jc1, @jdb, @pd7, @gg28, @rz⟩ : _ ∧ _ ∧ _ ∧ _ ∧ _)
    repeat (first | refine jab rfl ?_ | (refine jap rfl ?_; (try simp only [go_sem, jbK, zz]); fail_if_success refine ifC ?_) | (refine jad rfl ?_; (repeat (first | (refine jai ?_ rfl ?_; (solve | simp only [go_sem, jbK, zz])) | (refine jaf (v := ?_) (μ' := ?_) ?_ ?_ rfl ?_; rotate_left 2; (solve | rfl | simp only [go_sem, jbK, zz]); (solve | simp only [go_sem, jbK, zz]; try exact rfl)))); simp only [go_sem]))
    clear zz
    refine jah ?_
    refine ⟨rfl, ?_⟩
    simp only [go_sem, Tryz.results16]
    exact ⟨_, rfl, ⟨_, rfl⟩, Td.trans Tz, Uz⟩
    all_goals
     repeat (first | (refine jaA ?_ rfl ?_; (solve | simp only [go_sem, undef, jaa, zy, zx])) | (refine jar (v := ?_) (μ' := ?_) (sn' := ?_) ?_ ?_ rfl ?_; rotate_left 3; (solve | rfl | simp only [go_sem, undef, jaa, zy, zx]); (solve | simp only [jav, heavy, jaI, jaq, go_sem, undef, jaa, zy, zx]; try exact rfl)))
     simp only [dRun, jay, jak]
     repeat (first | refine jab rfl ?_ | (refine jap rfl ?_; (try simp only [go_sem, undef]); fail_if_success refine ifC ?_) | (refine jad rfl ?_; (repeat (first | (refine jai ?_ rfl ?_; (solve | simp only [go_sem, undef])) | (refine jaf (v := ?_) (μ' := ?_) ?_ ?_ rfl ?_; rotate_left 2; (solve | rfl | simp only [go_sem, undef]); (solve | simp only [go_sem, undef]; try exact rfl)))); simp only [go_sem]))
     refine jah ?_
     refine ⟨rfl, ?_⟩
     simp only [go_sem, Tryz.results16]
     first | exact ⟨_, rfl, ⟨_, rfl⟩, T0ν', Uν'⟩ | exact ⟨_, rfl, ⟨_, rfl⟩, Ta, Ua⟩ | exact ⟨_, rfl, ⟨_, rfl⟩, Tc, Uc⟩ | exact ⟨_, rfl, ⟨_, rfl⟩, Td, Ud⟩
   obtain ⟨r, μ', h1, ⟨b, rfl⟩, h2⟩ := key
   exact ⟨b, μ', h1, h2⟩
end
noncomputable section
section
set_option linter.defProp false
variable {X : XT} {ev : Code → Rg → Mem → Option (Ax × Rg × Mem)}
def gg8 := go_call (P := pZ) (X := X) (ev := ev) (S := S0) Tryz.func8 rfl rfl
end
theorem anDn : aNil pZ 28 (.slice none 0 0) (.slice none 0 0) = false := rfl
theorem p_slD (r : Rg) {d : Option Tmp} {yt ty : TypeId} {x : Operand} {ps : String} {af : Array Edge} {gd : Option (Nat × Bool)} (hx : aev pZ r x = .slice none 0 0) : jaT pZ (aev pZ r) ⟨d, .binOp .eql 28 x (.const (.slice none 0 0)) yt, ty, ps, af, gd⟩ = some (.bool true) := by
 have hy : aev pZ r (.const (.slice none 0 0)) = .slice none 0 0 := rfl
 unfold jaT
 have e : pv pZ (execOp (aev pZ r) ⟨d, .binOp .eql 28 x (.const (.slice none 0 0)) yt, ty, ps, af, gd⟩) = some (.value (.bool true)) := by
  simp only [execOp, hx, hy]
  kernel_rfl
 simp only [opsOf, jbV, hx, hy, jaS, e]
def ClD (μ0 μ μ' : Mem) (l : List Dat) (v' : Value) : Prop := (v' = .slice none 0 0 ∧ l = []) ∨ ∃ b c fx sh R, v' = .slice (some ⟨b, 0, none⟩) l.length c ∧ Rows8 μ0 l R ∧ μ'.obs.get b = some (.cells R.flatten.length 30 R.flatten.toArray .e 0 0 fx sh) ∧ R.flatten.length = 8 * l.length ∧ μ.next ≤ b ∧ b < μ'.next ∧ CapK 8 l.length c
theorem jjD {X : XT} {g : Nat} {l : List Dat} {v : Value} {μ0 μ : Mem} (h : IsL μ0 l v) (h0 : Grow μ0 μ) (hn : l.length ≤ 4000) (hg : 20 ≤ g) : ∃ v' μ', aFun pZ (jao pZ X S0 g) 18 [v] μ = some (v', μ') ∧ Grow μ μ' ∧ ClD μ0 μ μ' l v' := by
 obtain ⟨R, hR, hS⟩ := h.rows
 rcases h with ⟨_, ⟨rfl, rfl⟩ | ⟨i, o, c, rfl, _⟩⟩
 ·obtain ⟨k, rfl⟩ := gle hg
  refine ⟨.slice none 0 0, μ, jaN ?_, Grow.refl _, .inl ⟨rfl, rfl⟩⟩
  refine jaj Tryz.func18 rfl rfl (nbl rfl) ?_
  simp only [go_sem, Tryz.ntmps18]
  repeat (first | refine jab rfl ?_ | (refine jac rfl ?_; (try simp only [go_sem, anDn, p_slD]); fail_if_success refine ifC ?_))
  refine jah ?_
  refine ⟨rfl, .slice none 0 0, ?_, rfl, rfl⟩
  simp only [go_sem, Tryz.results18]
 ·obtain ⟨b, c', fx, sh, μ', h1, h2, h3, h4, h5, h6⟩ := cloneD (X := X) (hS.grow h0) hn hg
  exact ⟨_, μ', h1, h5, .inr ⟨b, c', fx, sh, R, rfl, hR, h2, hS.1, h3, h4, h6⟩⟩
def Rws (μ m : Mem) (b i : Nat) (l : List Dat) : Prop := ∀ (k : Nat) d, l[k]? = some d → (k < i → ∃ cs, Has m b (8 * k) cs ∧ InD (b + 1) m.next m d cs) ∧ (i ≤ k → ∃ cs, Has m b (8 * k) cs ∧ IsD μ d cs)
theorem ix_D0 {r : Rg} {x y : Operand} {v : Value} {b l c k : Nat} (hk : k < l) (hv : v = .slice (some ⟨b, 0, none⟩) l c) (h1 : aev pZ r x = v) (h2 : aev pZ r y = .int .i64 (.ofNat k)) : jas pZ (aev pZ r) 28 x y = some (.pointer (some ⟨b, 8 * k, none⟩)) := by
 have := ix_D hk (h1.trans hv) h2
 rw [Nat.zero_add] at this
 exact this
theorem jjz {n : Nat} {l : List Dat} {v : Value} {b c q1 q2 : Nat} {μ μc : Mem} (hl : l.length ≤ 4000) (hv : l ≠ [] → v = .slice (some ⟨b, 0, none⟩) l.length c ∧ b < μc.next) (hq : q1 < μc.next) (hqb : q1 ≠ b) (hq1 : jal μc q1 7 = some v) (hG : Grow μ μc) (hb : μ.next ≤ b)
  (ih : ∀ {d : Dat} {cs : List Value} {X : XT} {g : Nat} {μ : Mem}, d ∈ l → IsD μ d cs → 600 + 5000 * n ≤ g → ∃ cs' μ', aFun pZ (jao pZ X S0 g) 8 [.agg cs.toArray] μ = some (.agg cs'.toArray, μ') ∧ Grow μ μ' ∧ InD μ.next μ'.next μ' d cs') :
  ∀ (j i : Nat), i + j = l.length → ∀ {X : XT} {e : Nat} {tm : T Value} {m : Mem}, Trn b μc m → (l ≠ [] → Blk m b (8 * l.length) 30) → Rws μ m b i l → 600 + 5000 * n ≤ e → jam tm 1 = .pointer (some ⟨q1, 0, none⟩) → jam tm 2 = .pointer (some ⟨q2, 0, none⟩) → jam tm 18 = v → jam tm 19 = .int .i64 (.ofNat l.length) → jam tm 20 = .int .i64 (.ofNat i) →
  EndsC (jao pZ X S0 (e + j + 40) (.loop (jaR Tryz.f8 0)) ⟨33, tm, [], none⟩ m) fun x r m' => x = .exit 0 ∧ Trn b μc m' ∧ (l ≠ [] → Blk m' b (8 * l.length) 30) ∧ Rws μ m' b l.length l ∧ ∃ tm', r = ⟨33, tm', [], none⟩ ∧ jam tm' 1 = .pointer (some ⟨q1, 0, none⟩) ∧ jam tm' 2 = .pointer (some ⟨q2, 0, none⟩) := by
 intro j
 induction j with
 | zero =>
   intro i hi X e tm m hT hB hR he r1 r2 r18 r19 r20
   have hi : i = l.length := hi
   subst hi
   have e1 : ilt (.ofNat l.length) (.ofNat l.length) = false := (jat _ _).trans (decide_eq_false (by omega))
   refine jan ?_
   repeat (first | refine jab rfl ?_ | (refine jap rfl ?_; (try simp only [go_sem, r19, r20, e1]); fail_if_success refine ifC ?_) | (refine jad rfl ?_; (repeat (first | (refine jai ?_ rfl ?_; (solve | simp only [go_sem, r19, r20, e1])) | (refine jaf (v := ?_) (μ' := ?_) ?_ ?_ rfl ?_; rotate_left 2; (solve | rfl | simp only [go_sem, r19, r20, e1]); (solve | simp only [go_sem, r19, r20, e1]; try exact rfl)))); simp only [go_sem]))
   exact ⟨by trivial, hT, hB, hR, _, rfl, by simp only [go_sem, r1], by simp only [go_sem, r2]⟩
 | succ j ihj =>
   intro i hi X e tm m hT hB hR he r1 r2 r18 r19 r20
   have hlt : i < l.length := by omega
   have hne : l ≠ [] := fun h => by rw [h] at hlt; exact Nat.not_lt_zero _ hlt
   obtain ⟨hv1, hbc⟩ := hv hne
   have hB := hB hne
   obtain ⟨d, hd⟩ : ∃ d, l[i]? = some d := ⟨_, List.getElem?_eq_getElem hlt⟩
   have hdm : d ∈ l := List.mem_of_getElem? hd
   obtain ⟨cs, hH, hD⟩ := (hR i d hd).2 (Nat.le_refl _)
   have h8 := hD.eight
   have hix : ∀ (r : Rg) (x y : Operand), aev pZ r x = v → aev pZ r y = .int .i64 (.ofNat i) → jas pZ (aev pZ r) 28 x y = some (.pointer (some ⟨b, 8 * i, none⟩)) := fun r x y g1 g2 => ix_D0 hlt hv1 g1 g2
   have e1 : ilt (.ofNat i) (.ofNat l.length) = true := (jat _ _).trans (decide_eq_true hlt)
   have a1 : jax .i64 (Int.add (.ofNat i) 1) = .ofNat (i + 1) := jaV i 1 (by omega)
   have hl1 := Has.ld_D hH h8.1
   have nT := hT.1
   obtain ⟨m1, hm1⟩ : ∃ m1 : Mem, m1 = putL ⟨m.obs.set m.next (obDt zD8), m.next + 1⟩ m.next 0 cs := ⟨_, rfl⟩
   have hst := st_D (o := 0) (blk_D (μ := m) (l := zD8)) (by omega) h8.1 h8.2
   have hG1 : Grow m m1 := by rw [hm1]; exact (jbn m _).put_new (Nat.le_refl _)
   have n1 : m1.next = m.next + 1 := by rw [hm1, jbb]
   have hA : Has m1 m.next 0 cs := by rw [hm1]; exact Has.of_put (vs := cs) blk_D (by rw [h8.1]; omega)
   rw [← hm1] at hst
   obtain ⟨ν, hν⟩ : ∃ ν : Mem, ν = ⟨m1.obs, m1.next + 7⟩ := ⟨_, rfl⟩
   have hGν : Grow m ν := by rw [hν]; exact hG1.trans (jb7 m1 7)
   have nν : ν.next = m1.next + 7 := by rw [hν]
   obtain ⟨cs', μ2, hr, hG2, hI⟩ := ih (X := X) (g := e + (j + 1) + 33) hdm (hD.grow ((hT.grow0 hG hb).trans hGν)) (by omega)
   have hI8 := hI.isD.eight
   have hG02 : Grow m μ2 := hGν.trans hG2
   have cA : ∀ y, jal ⟨m1.obs, y⟩ q1 7 = some v := fun y => ((jbF (hG1.2 q1 (by omega)) 7).trans (jbF (hT.2 q1 hq hqb) 7)).trans hq1
   have cB : jal μ2 q1 7 = some v := ((jbF (hG02.2 q1 (by omega)) 7).trans (jbF (hT.2 q1 hq hqb) 7)).trans hq1
   have lA : ∀ y, jbH pZ ⟨m1.obs, y⟩ 30 (.pointer (some ⟨m.next, 0, none⟩)) = some (.agg cs.toArray) := fun y => Has.ld_D (μ := ⟨m1.obs, y⟩) hA h8.1
   have hB2 : Blk μ2 b (8 * l.length) 30 := hB.of_get (hG02.2 b (by omega))
   have hst2 := st_D (o := 8 * i) hB2 (by omega) hI8.1 hI8.2
   obtain ⟨μ3, hμ3⟩ : ∃ μ3 : Mem, μ3 = putL μ2 b (8 * i) cs' := ⟨_, rfl⟩
   rw [← hμ3] at hst2
   have n3 : μ3.next = μ2.next := by rw [hμ3, jbb]
   have k3 : ∀ q, q ≠ b → μ3.obs.get q = μ2.obs.get q := fun q hq => by rw [hμ3, jbx _ _ _ _ hq]
   have n02 := hG02.1
   have n12 := hG2.1
   have hT3 : Trn b μc μ3 := ⟨by omega, fun q h1 h2 => (k3 q h2).trans ((hG02.2 q (by omega)).trans (hT.2 q h1 h2))⟩
   have hB3 : Blk μ3 b (8 * l.length) 30 := by rw [hμ3]; exact Blk.put (i := b) (8 * i) cs' hB2
   have hR3 : Rws μ μ3 b (i + 1) l := fun k d' hk => by
    have keep : ∀ {ks : List Value}, k ≠ i → ks.length = 8 → Has m b (8 * k) ks → Has μ3 b (8 * k) ks := fun hne' h8' hh => by
     rw [hμ3]
     exact (hh.keep (hG02.2 b (by omega))).put hB2 (by rw [h8', hI8.1]; omega)
    refine ⟨fun hki => ?_, fun hki => ?_⟩
    ·by_cases hki' : k = i
     ·subst hki'
      rw [hd] at hk
      cases hk
      refine ⟨cs', ?_, ?_⟩
      ·rw [hμ3]
       exact Has.of_put hB2 (by rw [hI8.1]; omega)
      ·exact (InD.move (by omega) (fun q h1 h2 => k3 q (by omega)) hI).wide (by omega) (by omega)
     ·obtain ⟨ks, q1', q2'⟩ := (hR k d' hk).1 (by omega)
      refine ⟨ks, keep hki' q2'.isD.eight.1 q1', ?_⟩
      exact (InD.move (by omega) (fun q h1 h2 => (k3 q (by omega)).trans (hG02.2 q h2)) q2').wide (Nat.le_refl _) (by omega)
    ·obtain ⟨ks, q1', q2'⟩ := (hR k d' hk).2 (by omega)
     exact ⟨ks, keep (by omega) q2'.eight.1 q1', q2'⟩
   rw [hν] at hr
   refine jan ?_
   have zz := (⟨@r18, @r19, @r20, @e1, @hix, @hl1, @al_D, @hst⟩ : _ ∧ _ ∧ _ ∧ _ ∧ _ ∧ _ ∧ _ ∧ _)
   repeat (first | refine jab rfl ?_ | (refine jap rfl ?_; (try simp only [go_sem, Nat.add_eq, zz]); fail_if_success refine ifC ?_) | (refine jad rfl ?_; (repeat (first | (refine jai ?_ rfl ?_; (solve | simp only [go_sem, Nat.add_eq, zz])) | (refine jaf (v := ?_) (μ' := ?_) ?_ ?_ rfl ?_; rotate_left 2; (solve | rfl | simp only [go_sem, Nat.add_eq, zz]); (solve | simp only [go_sem, Nat.add_eq, zz]; try exact rfl)))); simp only [go_sem]))
   clear zz
   have zz := (⟨@r1, @r2, @r18, @r19, @r20, @hix, @jc1, @jdb, @cA, @cB, @lA, @gg8, @hr, @hst2⟩ : _ ∧ _ ∧ _ ∧ _ ∧ _ ∧ _ ∧ _ ∧ _ ∧ _ ∧ _ ∧ _ ∧ _ ∧ _ ∧ _)
   refine jaG (n := 7) (ms := [0, 1, 0, 0, 8, 31, 63]) (ord := [3, 4, 0, 1, 2, 5, 6]) (ds := ?_) ?_ ?_ ?_ ?_ ?_ ?_
   rotate_left
   ·kernel_rfl
   ·kernel_rfl
   ·kernel_rfl
   ·rfl
   ·rfl
   repeat (first | (refine jaA ?_ rfl ?_; (solve | simp only [go_sem, zz])) | (refine jar (v := ?_) (μ' := ?_) (sn' := ?_) ?_ ?_ rfl ?_; rotate_left 3; (solve | rfl | simp only [go_sem, zz]); (solve | simp only [jav, heavy, jaI, jaq, go_sem, zz]; try exact rfl)))
   clear zz
   simp only [dRun, jay, jak]
   repeat (first | refine jab rfl ?_ | (refine jap rfl ?_; (try simp only [go_sem, r20, a1]); fail_if_success refine ifC ?_) | (refine jad rfl ?_; (repeat (first | (refine jai ?_ rfl ?_; (solve | simp only [go_sem, r20, a1])) | (refine jaf (v := ?_) (μ' := ?_) ?_ ?_ rfl ?_; rotate_left 2; (solve | rfl | simp only [go_sem, r20, a1]); (solve | simp only [go_sem, r20, a1]; try exact rfl)))); simp only [go_sem]))
   rw [show e + (j + 1) + 39 = e + j + 40 from by omega]
   exact ihj (i + 1) (by omega) hT3 (fun _ => hB3) hR3 he (by simp only [go_sem, r1]) (by simp only [go_sem, r2]) (by simp only [go_sem, r18]) (by simp only [go_sem, r19]) (by simp only [go_sem])
theorem dcopy_ex : ∀ (n : Nat) {d : Dat} {cs : List Value} {X : XT} {g : Nat} {μ : Mem}, Dp n d → IsD μ d cs → 600 + 5000 * n ≤ g →
  ∃ cs' μ', aFun pZ (jao pZ X S0 g) 8 [.agg cs.toArray] μ = some (.agg cs'.toArray, μ') ∧ Grow μ μ' ∧ InD μ.next μ'.next μ' d cs' := by
 intro n
 induction n with
 | zero => intro d cs X g μ hS; exact hS.elim
 | succ n ih =>
   intro d cs X g μ hS hD hg
   obtain ⟨k, hk, rfl⟩ : ∃ k, 5000 * (n + 1) ≤ k ∧ g = k + 600 := ⟨g - 600, by omega, by omega⟩
   obtain ⟨kd, m, fl, f, neg, ls, s, l⟩ := d
   obtain ⟨hls, hll, hsub⟩ : ls.length ≤ 200 ∧ l.length ≤ 4000 ∧ ∀ x ∈ l, Dp n x := hS
   obtain ⟨vl, vi, rfl, hw, hU, hL⟩ := jce.1 hD
   obtain ⟨m1, hm1⟩ : ∃ m1 : Mem, m1 = ⟨(μ.obs.set μ.next (obL 30 [.int .i64 kd, .int .i64 m, .bool fl, .float .f64 f, .bool neg, vl, .string s, vi])).set (μ.next + 1) (obDt zD8), μ.next + 1 + 1⟩ := ⟨_, rfl⟩
   obtain ⟨H1, H2⟩ := jgo μ 30 30 [.int .i64 kd, .int .i64 m, .bool fl, .float .f64 f, .bool neg, vl, .string s, vi] zD8
   have G1 := jd8 μ (obL 30 [.int .i64 kd, .int .i64 m, .bool fl, .float .f64 f, .bool neg, vl, .string s, vi]) (obL 30 zD8)
   have hob : obL 30 zD8 = obDt zD8 := rfl
   rw [hob, ← hm1] at H1 H2
   rw [hob, ← hm1] at G1
   have n1 : m1.next = μ.next + 1 + 1 := by rw [hm1]
   have B1 : Blk m1 μ.next 8 30 := ⟨_, _, _, _, by rw [hm1]; show T.get _ _ = _; rw [T.get_set, if_neg (by omega), T.get_set, if_pos rfl]; rfl⟩
   have B2 : Blk m1 (μ.next + 1) 8 30 := ⟨_, _, _, _, by rw [hm1]; show T.get _ _ = _; rw [T.get_set, if_pos rfl]; rfl⟩
   obtain ⟨vl', m2, r1, hLv, G2, hNew⟩ := jjC (X := X) (g := k + 597) (hU.grow G1) (by omega) (by omega)
   have n2 := G2.1
   have B12 := B1.of_get (G2.2 _ (by omega))
   have one1 : one vl' = true := by
    rcases hLv with ⟨rfl, _⟩ | ⟨_, _, _, _, _, _, _, rfl, _⟩ <;> rfl
   have st1 := jbl (P := pZ) (t := 23) (v := vl') i_Ls rfl one1 B12 (show 5 < 8 by decide)
   obtain ⟨m3, hm3⟩ : ∃ m3 : Mem, m3 = putL m2 μ.next 5 [vl'] := ⟨_, rfl⟩
   rw [← hm3] at st1
   have n3 : m3.next = m2.next := by rw [hm3, jbb]
   have f3 : ∀ q, q ≠ μ.next → m3.obs.get q = m2.obs.get q := fun q hq => by rw [hm3, jbx _ _ _ _ hq]
   have H13 : Has m3 μ.next 0 [.int .i64 kd, .int .i64 m, .bool fl, .float .f64 f, .bool neg, vl', .string s, vi] := by
    rw [hm3]
    have := Has.set (k := 5) (v := vl') (H1.keep (G2.2 _ (by omega))) B12 (by simp)
    rw [Nat.zero_add] at this
    exact this
   have B13 : Blk m3 μ.next 8 30 := by rw [hm3]; exact Blk.put (i := μ.next) 5 [vl'] B12
   have G03 : Grow μ m3 := ⟨by omega, fun q hq => (f3 q (by omega)).trans ((G2.2 q (by omega)).trans (G1.2 q hq))⟩
   obtain ⟨vi', m4, r2, G4, hC⟩ := jjD (X := X) (g := k + 596) hL G03 hll (by omega)
   have n4 := G4.1
   have B14 := B13.of_get (G4.2 _ (by omega))
   have one2 : one vi' = true := by
    rcases hC with ⟨rfl, _⟩ | ⟨_, _, _, _, _, rfl, _⟩ <;> rfl
   have st2 := jbl (P := pZ) (t := 28) (v := vi') i_Dl rfl one2 B14 (show 7 < 8 by decide)
   obtain ⟨m5, hm5⟩ : ∃ m5 : Mem, m5 = putL m4 μ.next 7 [vi'] := ⟨_, rfl⟩
   rw [← hm5] at st2
   have n5 : m5.next = m4.next := by rw [hm5, jbb]
   have f5 : ∀ q, q ≠ μ.next → m5.obs.get q = m4.obs.get q := fun q hq => by rw [hm5, jbx _ _ _ _ hq]
   have H15 : Has m5 μ.next 0 [.int .i64 kd, .int .i64 m, .bool fl, .float .f64 f, .bool neg, vl', .string s, vi'] := by
    rw [hm5]
    have := Has.set (k := 7) (v := vi') (H13.keep (G4.2 _ (by omega))) B14 (by simp)
    rw [Nat.zero_add] at this
    exact this
   have G05 : Grow μ m5 := ⟨by omega, fun q hq => (f5 q (by omega)).trans ((G4.2 q (by omega)).trans (G03.2 q hq))⟩
   have c5 := (Has.c8 H1).2.2.2.2.2.1
   have c7 := (Has.c8 H13).2.2.2.2.2.2.2
   have c7' := (Has.c8 H15).2.2.2.2.2.2.2
   have lI : aLen pZ 28 vi' = some l.length := by
    rcases hC with ⟨rfl, rfl⟩ | ⟨_, _, _, _, _, rfl, _⟩ <;> (unfold aLen; simp only [Tryz.underlying28]; try rfl)
   obtain ⟨b, c, hb4, hvb, hB5, hR5, hcap⟩ : ∃ b c, m3.next ≤ b ∧ (l ≠ [] → vi' = .slice (some ⟨b, 0, none⟩) l.length c ∧ b < m5.next) ∧ (l ≠ [] → Blk m5 b (8 * l.length) 30) ∧ Rws μ m5 b 0 l ∧ (vi' ≠ .slice none 0 0 → vi' = .slice (some ⟨b, 0, none⟩) l.length c ∧ CapK 8 l.length c) := by
    rcases hC with ⟨rfl, rfl⟩ | ⟨b, c, fx, sh, R, rfl, hR, hob, hlen, h1, h2, h3⟩
    ·exact ⟨m3.next, 0, Nat.le_refl _, fun h => absurd rfl h, fun h => absurd rfl h, fun k d h => by simp at h, fun h => absurd rfl h⟩
    ·have hbq : b ≠ μ.next := by omega
     refine ⟨b, c, h1, fun _ => ⟨rfl, by omega⟩, fun _ => ⟨_, _, _, _, by rw [f5 b hbq, hob, hlen]⟩, fun k d hk => ⟨fun h => absurd h (Nat.not_lt_zero _), fun _ => ?_⟩, fun _ => ⟨rfl, h3⟩⟩
     have hkl : k < l.length := (List.getElem?_eq_some_iff.1 hk).1
     have hRk : R[k]? = some (R[k]'(by rw [hR.1]; exact hkl)) := List.getElem?_eq_getElem _
     have hHb : Has m5 b 0 R.flatten := Has.new ((f5 b hbq).trans hob)
     have := jgn hR.eight hHb hRk
     rw [Nat.zero_add] at this
     exact ⟨_, this, hR.2 k d _ hk hRk⟩
   have loop := fun (e : Nat) (tm : T Value) => jjz (n := n) (l := l) (v := vi') (b := b) (c := c) (q1 := μ.next) (q2 := μ.next + 1) (μ := μ) (μc := m5) hll hvb (by omega) (by omega) c7' G05 (by omega) (fun hm hd hg => ih (hsub _ hm) hd hg) l.length 0 (Nat.zero_add _) (X := X) (e := e) (tm := tm) (Trn.refl _ _) hB5 hR5
   have key : EndsF (aFun pZ (jao pZ X S0 (k + 600)) 8 [.agg #[.int .i64 kd, .int .i64 m, .bool fl, .float .f64 f, .bool neg, vl, .string s, vi]] μ) fun r μ' => r = .agg #[.int .i64 kd, .int .i64 m, .bool fl, .float .f64 f, .bool neg, vl', .string s, vi'] ∧ Grow μ μ' ∧ InD μ.next μ'.next μ' (.mk kd m fl f neg ls s l) [.int .i64 kd, .int .i64 m, .bool fl, .float .f64 f, .bool neg, vl', .string s, vi'] := by
    refine jaj Tryz.func8 rfl rfl (nbl rfl) ?_
    simp only [go_sem, Tryz.ntmps8]
    refine jag ?_
    refine jaw ?_ ?_
    ·rfl
    simp only [go_sem, jda, al_D, Nat.add_eq]
    rw [← hm1]
    have zz := (⟨@jdQ, @jc1, @jbN, @jb8, @jdP, @jdb, @c5, @c7, @c7', @gg17, @r1, @st1, @gg18, @r2, @st2, @lI, @jae⟩ : _ ∧ _ ∧ _ ∧ _ ∧ _ ∧ _ ∧ _ ∧ _ ∧ _ ∧ _ ∧ _ ∧ _ ∧ _ ∧ _ ∧ _ ∧ _ ∧ _)
    repeat (first | refine jab rfl ?_ | (refine jap rfl ?_; (try simp only [go_sem, jaa, zz]); fail_if_success refine ifC ?_) | (refine jad rfl ?_; (repeat (first | (refine jai ?_ rfl ?_; (solve | simp only [go_sem, jaa, zz])) | (refine jaf (v := ?_) (μ' := ?_) ?_ ?_ rfl ?_; rotate_left 2; (solve | rfl | simp only [go_sem, jaa, zz]); (solve | simp only [go_sem, jaa, zz]; try exact rfl)))); simp only [go_sem]))
    clear zz
    rw [show k + 594 = (k + 554 - l.length) + l.length + 40 from by omega]
    refine EndsC.mono (loop (k + 554 - l.length) _ (by omega) (by simp only [go_sem]) (by simp only [go_sem]) (by simp only [go_sem]) (by simp only [go_sem]) (by simp only [go_sem]; try rfl)) ?_
    rintro x r m6 ⟨rfl, hT6, hB6, hR6, tm', rfl, z1, z2⟩
    simp only [jaX, reduceIte, jak]
    have n6 := hT6.1
    have H16 : Has m6 μ.next 0 [.int .i64 kd, .int .i64 m, .bool fl, .float .f64 f, .bool neg, vl', .string s, vi'] := H15.keep (hT6.2 _ (by omega) (by omega))
    have B26 : Blk m6 (μ.next + 1) 8 30 := (((B2.of_get (G2.2 _ (by omega))).of_get (f3 _ (by omega))).of_get (G4.2 _ (by omega)) |>.of_get (f5 _ (by omega))).of_get (hT6.2 _ (by omega) (by omega))
    have ld6 := Has.ld_D H16 rfl
    have st6 := st_D (o := 0) (l := [.int .i64 kd, .int .i64 m, .bool fl, .float .f64 f, .bool neg, vl', .string s, vi']) B26 (by omega) rfl (by simp only [List.all_cons, List.all_nil, one1, one2]; rfl)
    obtain ⟨m7, hm7⟩ : ∃ m7 : Mem, m7 = putL m6 (μ.next + 1) 0 [.int .i64 kd, .int .i64 m, .bool fl, .float .f64 f, .bool neg, vl', .string s, vi'] := ⟨_, rfl⟩
    have n7 : m7.next = m6.next := by rw [hm7, jbb]
    have f7 : ∀ q, q ≠ μ.next + 1 → m7.obs.get q = m6.obs.get q := fun q hq => by rw [hm7, jbx _ _ _ _ hq]
    have g76 : ∀ q, m1.next ≤ q → q < m2.next → m7.obs.get q = m2.obs.get q := fun q h1 h2 => (f7 q (by omega)).trans ((hT6.2 q (by omega) (by omega)).trans ((f5 q (by omega)).trans ((G4.2 q (by omega)).trans (f3 q (by omega)))))
    have hV := lv_vIn hLv hNew
    have hml : ls.length ≤ maxLen := hU.2.1
    rw [← hm7] at st6
    repeat (first | refine jab rfl ?_ | (refine jap rfl ?_; (try simp only [go_sem, z1, z2, ld6, st6]); fail_if_success refine ifC ?_) | (refine jad rfl ?_; (repeat (first | (refine jai ?_ rfl ?_; (solve | simp only [go_sem, z1, z2, ld6, st6])) | (refine jaf (v := ?_) (μ' := ?_) ?_ ?_ rfl ?_; rotate_left 2; (solve | rfl | simp only [go_sem, z1, z2, ld6, st6]); (solve | simp only [go_sem, z1, z2, ld6, st6]; try exact rfl)))); simp only [go_sem]))
    refine jah ?_
    refine ⟨rfl, _, ?_, rfl, ⟨by omega, fun q hq => (f7 q (by omega)).trans ((hT6.2 q (by omega) (by omega)).trans (G05.2 q hq))⟩, ?_⟩
    ·skip
     simp only [go_sem, Tryz.results8]
     simp only [z2]
     rw [hm7, put_D B26 rfl]
    ·rw [InD]
     refine ⟨vl', vi', rfl, ⟨hw.1, hw.2.1, hw.2.2.1, hw.2.2.2, hL.1⟩, ⟨jgj (hLv.isU hml) hV (by omega) g76, (hV.move g76).wide (by omega) (by omega)⟩, ?_⟩
     by_cases hvn : vi' = .slice none 0 0
     ·left
      refine ⟨hvn, ?_⟩
      rcases hC with ⟨_, h⟩ | ⟨_, _, _, _, _, h, _⟩
      ·exact h
      ·rw [h] at hvn; cases hvn
     ·right
      obtain ⟨hvi, hcp⟩ := hcap hvn
      refine ⟨b, 0, c, hvi, fun hne => ?_, jhZ fun q d' hq => ?_, hcp⟩
      ·obtain ⟨t1, t2, t3, t4⟩ := hB6 hne
       have hb5 := (hvb hne).2
       exact ⟨by omega, by omega, by omega, 8 * l.length, _, (hB6 hne).of_get (f7 b (by omega)), by omega⟩
      ·have hql : q < l.length := (List.getElem?_eq_some_iff.1 hq).1
       obtain ⟨cs', w1, w2⟩ := (hR6 q d' hq).1 hql
       refine ⟨cs', ?_, ?_⟩
       ·rw [Nat.zero_add]
        exact w1.keep (f7 b (by omega))
       ·exact (InD.move (by omega) (fun q h1 h2 => f7 q (by omega)) w2).wide (by omega) (by omega)
   obtain ⟨r, μ', h1, rfl, h2⟩ := key
   exact ⟨[.int .i64 kd, .int .i64 m, .bool fl, .float .f64 f, .bool neg, vl', .string s, vi'], μ', h1, h2⟩
end
noncomputable section
section
set_option linter.defProp false
variable {X : XT} {ev : Code → Rg → Mem → Option (Ax × Rg × Mem)}
def gg7 := go_call (P := pZ) (X := X) (ev := ev) (S := S0) Tryz.func7 rfl rfl
end
theorem bsD1 (ρ : Operand → Value) (a : Operand) (l : List Value) (h1 : ρ a = .agg l.toArray) (hl : l.length = 8) : jbd pZ ρ 28 1 #[(0, a)] = some (.cells l.length 30 l.toArray .e 0 0 false false, fun id => .slice (some ⟨id, 0, none⟩) 1 2) := by
 match l, hl with
 | [a0, a1, a2, a3, a4, a5, a6, a7], _ =>
   unfold jbd
   simp only [Tryz.underlying28, i_D, z_Dt]
   show (match jc7 _ _ [(0, ρ a)] with | some cs => _ | none => _) = _
   rw [h1]
   rfl
theorem IsD.scalars {μ : Mem} {d : Dat} {cs : List Value} (h : IsD μ d cs) : scalars cs = true := by
 cases d
 obtain ⟨vl, vi, rfl, _, hU, hL⟩ := jce.1 h
 obtain ⟨_, _, ⟨rfl, _⟩ | ⟨_, _, _, rfl, _⟩⟩ := hU <;> obtain ⟨_, ⟨rfl, _⟩ | ⟨_, _, _, rfl, _⟩⟩ := hL <;> rfl
theorem flat8 : ∀ {R : List (List Value)}, (∀ r ∈ R, r.length = 8) → R.flatten.length = 8 * R.length
 | [], _ => rfl
 | x :: R, h => by
   rw [List.flatten_cons, List.length_append, flat8 fun r hr => h r (List.mem_cons_of_mem _ hr), h x (List.mem_cons_self ..), List.length_cons]
   omega
def CpR (μs m : Mem) (v : Value) (i : Nat) (l : List Dat) : Prop := ∃ (R : List (List Value)) (dd : Option Nat), R.length = i ∧ (∀ r ∈ R, r.length = 8) ∧ (∀ (k : Nat) d row, l[k]? = some d → R[k]? = some row → ∃ lo hi, μs.next ≤ lo ∧ hi ≤ m.next ∧ InD lo hi m d row ∧ ∀ b, SlAt v b → b < lo ∨ hi ≤ b) ∧
 OwnK 30 8 dd μs m v i R.flatten ∧ (∀ d', dd = some d' → d' < 1) ∧ v ≠ .slice none 0 0
theorem jja {n : Nat} {l : List Dat} {vi : Value} {μ μs : Mem} (hl : l.length ≤ 4000) (hL : IsL μ l vi) (hG : Grow μ μs)
  (ih : ∀ {d : Dat} {cs : List Value} {X : XT} {g : Nat} {μ : Mem}, d ∈ l → IsD μ d cs → 600 + 5000 * n ≤ g → ∃ cs' μ', aFun pZ (jao pZ X S0 g) 7 [.agg cs.toArray] μ = some (.agg cs'.toArray, μ') ∧ Grow μ μ' ∧ InD μ.next μ'.next μ' d cs') :
  ∀ (j i : Nat), i + j = l.length → ∀ {X : XT} {e q1 q2 : Nat} {tm : T Value} {m : Mem} {v : Value}, CpR μs m v i l → 600 + 5000 * n ≤ e → jam tm 1 = .pointer (some ⟨q1, 0, none⟩) → jam tm 2 = .pointer (some ⟨q2, 0, none⟩) → jam tm 3 = v → jam tm 8 = vi → jam tm 9 = .int .i64 (.ofNat l.length) → jam tm 10 = .int .i64 (.ofNat i) →
  EndsC (jao pZ X S0 (e + j + 40) (.loop (jaR Tryz.f7 0)) ⟨32, tm, [], none⟩ m) fun x r m' => x = .exit 0 ∧ ∃ v', CpR μs m' v' l.length l ∧ ∃ tm', r = ⟨32, tm', [], none⟩ ∧ jam tm' 1 = .pointer (some ⟨q1, 0, none⟩) ∧ jam tm' 2 = .pointer (some ⟨q2, 0, none⟩) ∧ jam tm' 3 = v' := by
 intro j
 induction j with
 | zero =>
   intro i hi X e q1 q2 tm m v hR he r1 r2 r3 r8 r9 r10
   have hi : i = l.length := hi
   subst hi
   have e1 : ilt (.ofNat l.length) (.ofNat l.length) = false := (jat _ _).trans (decide_eq_false (by omega))
   refine jan ?_
   repeat (first | refine jab rfl ?_ | (refine jap rfl ?_; (try simp only [go_sem, r9, r10, e1]); fail_if_success refine ifC ?_) | (refine jad rfl ?_; (repeat (first | (refine jai ?_ rfl ?_; (solve | simp only [go_sem, r9, r10, e1])) | (refine jaf (v := ?_) (μ' := ?_) ?_ ?_ rfl ?_; rotate_left 2; (solve | rfl | simp only [go_sem, r9, r10, e1]); (solve | simp only [go_sem, r9, r10, e1]; try exact rfl)))); simp only [go_sem]))
   exact ⟨by trivial, v, hR, _, rfl, by simp only [go_sem, r1], by simp only [go_sem, r2], by simp only [go_sem, r3]⟩
 | succ j ihj =>
   intro i hi X e q1 q2 tm m v hR he r1 r2 r3 r8 r9 r10
   obtain ⟨R, dd, hRl, hR8, hRows, hO, hdd, hvn⟩ := hR
   have hlt : i < l.length := by omega
   obtain ⟨d, hd⟩ : ∃ d, l[i]? = some d := ⟨_, List.getElem?_eq_getElem hlt⟩
   have hdm : d ∈ l := List.mem_of_getElem? hd
   have g0 : Grow μ m := hG.trans hO.grow
   obtain ⟨bi, bo, bc, cs, hbv, hb, hH, hD⟩ := (hL.grow g0).at hd
   have h8 := hD.eight
   have hix : ∀ (r : Rg) (x y : Operand), aev pZ r x = vi → aev pZ r y = .int .i64 (.ofNat i) → jas pZ (aev pZ r) 28 x y = some (.pointer (some ⟨bi, bo + 8 * i, none⟩)) := fun r x y g1 g2 => ix_D hlt (g1.trans hbv) g2
   have e1 : ilt (.ofNat i) (.ofNat l.length) = true := (jat _ _).trans (decide_eq_true hlt)
   have a1 : jax .i64 (Int.add (.ofNat i) 1) = .ofNat (i + 1) := jaV i 1 (by omega)
   have hl1 := Has.ld_D hH h8.1
   obtain ⟨m1, hm1⟩ : ∃ m1 : Mem, m1 = putL ⟨m.obs.set m.next (obDt zD8), m.next + 1⟩ m.next 0 cs := ⟨_, rfl⟩
   have hst := st_D (o := 0) (blk_D (μ := m) (l := zD8)) (by omega) h8.1 h8.2
   have hG1 : Grow m m1 := by rw [hm1]; exact (jbn m _).put_new (Nat.le_refl _)
   have n1 : m1.next = m.next + 1 := by rw [hm1, jbb]
   have hA : Has m1 m.next 0 cs := by rw [hm1]; exact Has.of_put (vs := cs) blk_D (by rw [h8.1]; omega)
   rw [← hm1] at hst
   have lA := Has.ld_D hA h8.1
   obtain ⟨cs', m2, hr, hG2, hI⟩ := ih (X := X) (g := e + (j + 1) + 33) hdm (hD.grow hG1) (by omega)
   have hI8 := hI.isD.eight
   have hbs : ∀ (r : Rg) (x : Operand), aev pZ r x = .agg cs'.toArray → jbd pZ (aev pZ r) 28 1 #[(0, x)] = some (.cells cs'.length 30 cs'.toArray .e 0 0 false false, fun id => .slice (some ⟨id, 0, none⟩) 1 2) := fun r x h => bsD1 _ _ _ h hI8.1
   have hG02 : Grow m m2 := hG1.trans hG2
   have n02 := hG02.1
   have n12 := hG2.1
   have gq : Grow m2 ⟨m2.obs.set m2.next (.cells cs'.length 30 cs'.toArray .e 0 0 false false), m2.next + 1⟩ := jbn m2 _
   obtain ⟨v', m3, hap, hO3, hat, hn3, hk3⟩ := OwnK.app (P := pZ) (st := 28) (xt := 28) (x := .slice (some ⟨m2.next, 0, none⟩) 1 2) (n := 1) (ys := cs') (k := 8) Tryz.underlying28 i_D rfl (by decide) (by kernel_rfl) z_Dt rfl (by rw [Tryz.underlying28]) ((hO.keep hG02).keep gq) rfl ((GoodK.fresh m2 m2.next (m2.next + 1) hI8.1).src (by decide)) (by rw [hI8.1]) (by omega) hI.isD.scalars (by decide) hdd
   have hn3 : m3.next = m2.next + 1 + 1 := hn3
   have hap' : jbk pZ ⟨m2.obs.set m2.next (.cells cs'.length 30 cs'.toArray .e 0 0 false false), Nat.add m2.next 1⟩ 28 28 v (.slice (some ⟨m2.next, 0, none⟩) 1 2) = some (v', m3) := hap
   have hkeep : ∀ q, q < m2.next → ¬ SlAt v q → m3.obs.get q = m2.obs.get q := fun q hq hs => by
    rw [hk3 q (by show q ≠ m2.next + 1; omega) hs]
    show T.get _ _ = _
    rw [T.get_set, if_neg (by omega)]
   have hnew : ∀ b, SlAt v' b → b = m2.next + 1 := fun b hb => by
    obtain ⟨x, y, hx⟩ := hb
    obtain ⟨x', y', hx'⟩ := hat
    rw [hx] at hx'
    injection hx' with e1
    injection e1 with e2
    injection e2 with e3
   have hR' : CpR μs m3 v' (i + 1) l := by
    refine ⟨R ++ [cs'], none, by simp [hRl], fun r hr => ?_, fun k d' row h1 h2 => ?_, ?_, fun d' h => (by cases h), ?_⟩
    ·rw [List.mem_append, List.mem_singleton] at hr
     rcases hr with hr | rfl
     ·exact hR8 r hr
     ·exact hI8.1
    ·by_cases hk : k < i
     ·rw [List.getElem?_append_left (by omega)] at h2
      obtain ⟨lo, hi', w1, w2, w3, w4⟩ := hRows k d' row h1 h2
      exact ⟨lo, hi', w1, by omega, InD.move (by omega) (fun q q1 q2 => (hkeep q (by omega) (fun hs => by have := w4 q hs; omega)).trans (hG02.2 q (by omega))) w3, fun b hb => .inr (by rw [hnew b hb]; omega)⟩
     ·rw [List.getElem?_append_right (by omega), hRl] at h2
      have hk0 : k - i = 0 := by
       have := (List.getElem?_eq_some_iff.1 h2).1
       rw [List.length_singleton] at this
       omega
      have hki : k = i := by omega
      subst hki
      rw [hd] at h1
      cases h1
      rw [hk0] at h2
      simp at h2
      subst h2
      have hs1 := hO.grow.1
      exact ⟨m1.next, m2.next, by omega, by omega, InD.move (by omega) (fun q q1 q2 => hkeep q q2 (fun hs => by have := (hO.above q hs).2; omega)) hI, fun b hb => .inr (by rw [hnew b hb]; omega)⟩
    ·rw [List.flatten_append]
     simpa using hO3
    ·rintro rfl
     obtain ⟨x, y, hx⟩ := hat
     cases hx
   refine jan ?_
   have zz := (⟨@r3, @r8, @r9, @r10, @e1, @hix, @hl1, @al_D, @hst, @lA, @gg7, @hr, @hbs, @hap', @a1⟩ : _ ∧ _ ∧ _ ∧ _ ∧ _ ∧ _ ∧ _ ∧ _ ∧ _ ∧ _ ∧ _ ∧ _ ∧ _ ∧ _ ∧ _)
   repeat (first | refine jab rfl ?_ | (refine jap rfl ?_; (try simp only [go_sem, Nat.add_eq, jaa, zz]); fail_if_success refine ifC ?_) | (refine jad rfl ?_; (repeat (first | (refine jai ?_ rfl ?_; (solve | simp only [go_sem, Nat.add_eq, jaa, zz])) | (refine jaf (v := ?_) (μ' := ?_) ?_ ?_ rfl ?_; rotate_left 2; (solve | rfl | simp only [go_sem, Nat.add_eq, jaa, zz]); (solve | simp only [go_sem, Nat.add_eq, jaa, zz]; try exact rfl)))); simp only [go_sem]))
   clear zz
   rw [show e + (j + 1) + 39 = e + j + 40 from by omega]
   exact ihj (i + 1) (by omega) hR' he (by simp only [go_sem, r1]) (by simp only [go_sem, r2]) (by simp only [go_sem]) (by simp only [go_sem, r8]) (by simp only [go_sem, r9]) (by simp only [go_sem])
theorem rcopy_ex : ∀ (n : Nat) {d : Dat} {cs : List Value} {X : XT} {g : Nat} {μ : Mem}, Dp n d → IsD μ d cs → 600 + 5000 * n ≤ g →
  ∃ cs' μ', aFun pZ (jao pZ X S0 g) 7 [.agg cs.toArray] μ = some (.agg cs'.toArray, μ') ∧ Grow μ μ' ∧ InD μ.next μ'.next μ' d cs' := by
 intro n
 induction n with
 | zero => intro d cs X g μ hS; exact hS.elim
 | succ n ih =>
   intro d cs X g μ hS hD hg
   obtain ⟨k, hk, rfl⟩ : ∃ k, 5000 * (n + 1) ≤ k ∧ g = k + 600 := ⟨g - 600, by omega, by omega⟩
   obtain ⟨kd, m, fl, f, neg, ls, s, l⟩ := d
   obtain ⟨hls, hll, hsub⟩ : ls.length ≤ 200 ∧ l.length ≤ 4000 ∧ ∀ x ∈ l, Dp n x := hS
   obtain ⟨vl, vi, rfl, hw, hU, hL⟩ := jce.1 hD
   obtain ⟨m1, hm1⟩ : ∃ m1 : Mem, m1 = ⟨(μ.obs.set μ.next (obL 30 [.int .i64 kd, .int .i64 m, .bool fl, .float .f64 f, .bool neg, vl, .string s, vi])).set (μ.next + 1) (obDt zD8), μ.next + 1 + 1⟩ := ⟨_, rfl⟩
   obtain ⟨H1, H2⟩ := jgo μ 30 30 [.int .i64 kd, .int .i64 m, .bool fl, .float .f64 f, .bool neg, vl, .string s, vi] zD8
   have G1 := jd8 μ (obL 30 [.int .i64 kd, .int .i64 m, .bool fl, .float .f64 f, .bool neg, vl, .string s, vi]) (obL 30 zD8)
   have hob : obL 30 zD8 = obDt zD8 := rfl
   rw [hob, ← hm1] at H1 H2
   rw [hob, ← hm1] at G1
   have n1 : m1.next = μ.next + 1 + 1 := by rw [hm1]
   have B1 : Blk m1 μ.next 8 30 := ⟨_, _, _, _, by rw [hm1]; show T.get _ _ = _; rw [T.get_set, if_neg (by omega), T.get_set, if_pos rfl]; rfl⟩
   have B2 : Blk m1 (μ.next + 1) 8 30 := ⟨_, _, _, _, by rw [hm1]; show T.get _ _ = _; rw [T.get_set, if_pos rfl]; rfl⟩
   obtain ⟨m2, hm2⟩ : ∃ m2 : Mem, m2 = ⟨m1.obs.set m1.next obD0, m1.next + 1⟩ := ⟨_, rfl⟩
   have G2 : Grow m1 m2 := by rw [hm2]; exact jbn m1 _
   have n2 : m2.next = m1.next + 1 := by rw [hm2]
   have hC0 : CpR m1 m2 (.slice (some ⟨m1.next, 0, none⟩) 0 0) 0 l := by
    refine ⟨[], some 0, rfl, fun r hr => by simp at hr, fun k d row _ h2 => by simp at h2, ⟨⟨rfl, .inr ⟨m1.next, 0, #[], .e, false, false, 0, rfl, ?_, Nat.le_refl _, fun j h => absurd h (Nat.not_lt_zero _), .inl ⟨rfl, Nat.le_refl _, 0, rfl, Nat.le_refl _⟩⟩⟩, G2, fun q hq => ?_⟩, fun d' h => (by cases h; decide), fun h => by cases h⟩
    ·rw [hm2]; show T.get _ _ = _; rw [T.get_set, if_pos rfl]; rfl
    ·obtain ⟨x, y, hx⟩ := hq
     injection hx with e1
     injection e1 with e2
     injection e2 with e3
     omega
   have c7 := (Has.c8 (H1.keep (G2.2 _ (by omega)))).2.2.2.2.2.2.2
   have lI := (hL.grow (G1.trans G2)).len
   have key : EndsF (aFun pZ (jao pZ X S0 (k + 600)) 7 [.agg #[.int .i64 kd, .int .i64 m, .bool fl, .float .f64 f, .bool neg, vl, .string s, vi]] μ) fun r μ' => ∃ cs', r = .agg cs'.toArray ∧ Grow μ μ' ∧ InD μ.next μ'.next μ' (.mk kd m fl f neg ls s l) cs' := by
    refine jaj Tryz.func7 rfl rfl (nbl rfl) ?_
    simp only [go_sem, Tryz.ntmps7]
    refine jag ?_
    refine jaw ?_ ?_
    ·rfl
    simp only [go_sem, jda, al_D, Nat.add_eq]
    rw [← hm1]
    refine jag ?_
    refine jaw ?_ ?_
    ·rfl
    simp only [go_sem, bsD0, Nat.add_eq]
    rw [← hm2]
    have zz := (⟨@jc1, @jdb, @c7, @lI, @jae⟩ : _ ∧ _ ∧ _ ∧ _ ∧ _)
    repeat (first | refine jab rfl ?_ | (refine jap rfl ?_; (try simp only [go_sem, jaa, zz]); fail_if_success refine ifC ?_) | (refine jad rfl ?_; (repeat (first | (refine jai ?_ rfl ?_; (solve | simp only [go_sem, jaa, zz])) | (refine jaf (v := ?_) (μ' := ?_) ?_ ?_ rfl ?_; rotate_left 2; (solve | rfl | simp only [go_sem, jaa, zz]); (solve | simp only [go_sem, jaa, zz]; try exact rfl)))); simp only [go_sem]))
    clear zz
    rw [show k + 595 = (k + 555 - l.length) + l.length + 40 from by omega]
    refine EndsC.mono (jja (n := n) (l := l) (vi := vi) (μ := μ) (μs := m1) hll hL G1 (fun hm hd hg => ih (hsub _ hm) hd hg) l.length 0 (Nat.zero_add _) (X := X) (e := k + 555 - l.length) hC0 (by omega) (q1 := μ.next) (q2 := μ.next + 1) (by simp only [go_sem]) (by simp only [go_sem]) (by simp only [go_sem]) (by simp only [go_sem]) (by simp only [go_sem]) (by simp only [go_sem]; try rfl)) ?_
    rintro x r m3 ⟨rfl, v', ⟨R, dd, hRl, hR8, hRows, hO, hdd, hvn⟩, tm', rfl, z1, z2, z3⟩
    simp only [jaX, reduceIte, jak]
    have G13 := hO.grow
    have n3 := G13.1
    have H13 := H1.keep (G13.2 _ (by omega))
    have c5 := (Has.c8 H13).2.2.2.2.2.1
    obtain ⟨vl', m4, hap, hLv, G4, hNew⟩ := appendU (hU.grow (G1.trans G13)) (by omega)
    have n4 := G4.1
    have c5' : ∀ ob, jal ⟨m3.obs.set m3.next ob, m3.next + 1⟩ μ.next 5 = some vl := fun ob => (jbF ((jbn m3 ob).2 _ (by omega)) 5).trans c5
    have one1 : one vl' = true := by
     rcases hLv with ⟨rfl, _⟩ | ⟨_, _, _, _, _, _, _, rfl, _⟩ <;> rfl
    have B14 := (B1.of_get (G13.2 _ (by omega))).of_get (G4.2 _ (by omega))
    have st1 := jbl (P := pZ) (t := 23) (v := vl') i_Ls rfl one1 B14 (show 5 < 8 by decide)
    obtain ⟨m5, hm5⟩ : ∃ m5 : Mem, m5 = putL m4 μ.next 5 [vl'] := ⟨_, rfl⟩
    rw [← hm5] at st1
    have n5 : m5.next = m4.next := by rw [hm5, jbb]
    have f5 : ∀ q, q ≠ μ.next → m5.obs.get q = m4.obs.get q := fun q hq => by rw [hm5, jbx _ _ _ _ hq]
    have H15 : Has m5 μ.next 0 [.int .i64 kd, .int .i64 m, .bool fl, .float .f64 f, .bool neg, vl', .string s, vi] := by
     rw [hm5]
     have := Has.set (k := 5) (v := vl') (H13.keep (G4.2 _ (by omega))) B14 (by simp)
     rw [Nat.zero_add] at this
     exact this
    have B15 : Blk m5 μ.next 8 30 := by rw [hm5]; exact Blk.put (i := μ.next) 5 [vl'] B14
    obtain ⟨vb, c, hv', hvc⟩ : ∃ vb c, v' = .slice (some ⟨vb, 0, none⟩) l.length c ∧ CapK 8 l.length c := by
     obtain ⟨hxl, ⟨h, _⟩ | ⟨i, M, z, ov, fx, sh, c, h, _, _, _, hc⟩⟩ := hO.good
     ·exact absurd h hvn
     ·exact ⟨i, c, h, hc.imp (fun h => ⟨h.1, h.2.1⟩) fun h => h⟩
    have one2 : one v' = true := by rw [hv']; rfl
    have st2 := jbl (P := pZ) (t := 28) (v := v') i_Dl rfl one2 B15 (show 7 < 8 by decide)
    obtain ⟨m6, hm6⟩ : ∃ m6 : Mem, m6 = putL m5 μ.next 7 [v'] := ⟨_, rfl⟩
    rw [← hm6] at st2
    have n6 : m6.next = m5.next := by rw [hm6, jbb]
    have f6 : ∀ q, q ≠ μ.next → m6.obs.get q = m5.obs.get q := fun q hq => by rw [hm6, jbx _ _ _ _ hq]
    have H16 : Has m6 μ.next 0 [.int .i64 kd, .int .i64 m, .bool fl, .float .f64 f, .bool neg, vl', .string s, v'] := by
     rw [hm6]
     have := Has.set (k := 7) (v := v') H15 B15 (by simp)
     rw [Nat.zero_add] at this
     exact this
    have B26 : Blk m6 (μ.next + 1) 8 30 := (((B2.of_get (G13.2 _ (by omega))).of_get (G4.2 _ (by omega))).of_get (f5 _ (by omega))).of_get (f6 _ (by omega))
    have ld6 := Has.ld_D H16 rfl
    have st6 := st_D (o := 0) (l := [.int .i64 kd, .int .i64 m, .bool fl, .float .f64 f, .bool neg, vl', .string s, v']) B26 (by omega) rfl (by simp only [List.all_cons, List.all_nil, one1, one2]; rfl)
    obtain ⟨m7, hm7⟩ : ∃ m7 : Mem, m7 = putL m6 (μ.next + 1) 0 [.int .i64 kd, .int .i64 m, .bool fl, .float .f64 f, .bool neg, vl', .string s, v'] := ⟨_, rfl⟩
    have n7 : m7.next = m6.next := by rw [hm7, jbb]
    have f7 : ∀ q, q ≠ μ.next + 1 → m7.obs.get q = m6.obs.get q := fun q hq => by rw [hm7, jbx _ _ _ _ hq]
    rw [← hm7] at st6
    have g74 : ∀ q, q ≠ μ.next → q ≠ μ.next + 1 → m7.obs.get q = m4.obs.get q := fun q h1 h2 => (f7 q h2).trans ((f6 q h1).trans (f5 q h1))
    have hV := lv_vIn hLv hNew
    have hml : ls.length ≤ maxLen := hU.2.1
    have hap' : jbk pZ ⟨m3.obs.set m3.next ob0, m3.next + 1⟩ 23 23 (.slice (some ⟨m3.next, 0, none⟩) 0 0) vl = some (vl', m4) := hap
    have zz := (⟨@z1, @z2, @z3, @bs0, @jdQ, @jc1, @jbN, @jb8, @jdP, @c5', @hap', @st1, @st2, @ld6, @st6⟩ : _ ∧ _ ∧ _ ∧ _ ∧ _ ∧ _ ∧ _ ∧ _ ∧ _ ∧ _ ∧ _ ∧ _ ∧ _ ∧ _ ∧ _)
    repeat (first | refine jab rfl ?_ | (refine jap rfl ?_; (try simp only [go_sem, Nat.add_eq, jaa, zz]); fail_if_success refine ifC ?_) | (refine jad rfl ?_; (repeat (first | (refine jai ?_ rfl ?_; (solve | simp only [go_sem, Nat.add_eq, jaa, zz])) | (refine jaf (v := ?_) (μ' := ?_) ?_ ?_ rfl ?_; rotate_left 2; (solve | rfl | simp only [go_sem, Nat.add_eq, jaa, zz]); (solve | simp only [go_sem, Nat.add_eq, jaa, zz]; try exact rfl)))); simp only [go_sem]))
    clear zz
    refine jah ?_
    refine ⟨rfl, _, ?_, [.int .i64 kd, .int .i64 m, .bool fl, .float .f64 f, .bool neg, vl', .string s, v'], rfl, ⟨by omega, fun q hq => (g74 q (by omega) (by omega)).trans ((G4.2 q (by omega)).trans ((G13.2 q (by omega)).trans (G1.2 q hq)))⟩, ?_⟩
    ·skip
     simp only [go_sem, Tryz.results7]
     simp only [z2]
     rw [hm7, put_D B26 rfl]
    ·rw [InD]
     refine ⟨vl', v', rfl, ⟨hw.1, hw.2.1, hw.2.2.1, hw.2.2.2, hL.1⟩, ⟨jgj (hLv.isU hml) hV (by omega) (fun q h1 h2 => g74 q (by omega) (by omega)), (hV.move (fun q h1 h2 => g74 q (by omega) (by omega))).wide (by omega) (by omega)⟩, .inr ⟨vb, 0, c, hv', fun hne => ?_, jhZ fun q d' hq => ?_, hvc⟩⟩
     ·have hab := hO.above vb ⟨_, _, hv'⟩
      obtain ⟨M, hM1, hM2⟩ := GoodK.blk (hv' ▸ hO.good)
      rw [flat8 hR8, hRl] at hM2
      exact ⟨by omega, by omega, by omega, M, _, (hM1.of_get (G4.2 vb (by omega))).of_get (g74 vb (by omega) (by omega)), by omega⟩
     ·have hql : q < l.length := (List.getElem?_eq_some_iff.1 hq).1
      have hRq : R[q]? = some (R[q]'(by omega)) := List.getElem?_eq_getElem _
      obtain ⟨lo, hi', w1, w2, w3, w4⟩ := hRows q d' _ hq hRq
      have hab := hO.above vb ⟨_, _, hv'⟩
      refine ⟨_, ?_, (InD.move (by omega) (fun q h1 h2 => (g74 q (by omega) (by omega)).trans (G4.2 q (by omega))) w3).wide (by omega) (by omega)⟩
      have hall : Has m3 vb 0 R.flatten := GoodK.has (a := []) (b := []) (hv' ▸ hO.good) (by simp)
      have := jgn hR8 hall hRq
      exact (this.keep (G4.2 vb (by omega))).keep (g74 vb (by omega) (by omega))
   obtain ⟨r, μ', h1, cs', rfl, h2⟩ := key
   exact ⟨cs', μ', h1, h2⟩
end
noncomputable section
theorem z_bud : jbh pZ 45 = some (.agg #[.int .i64 0]) := by kernel_rfl
theorem bd_bud (r : Rg) : jcc pZ (aev pZ r) 45 #[(0, .const (.int .i64 3000))] = some (.agg #[.int .i64 3000]) := jbJ (pl := [(0, 1)]) (cs := [.int .i64 3000]) z_bud Tryz.underlying45 (by kernel_rfl) rfl
theorem box_bud (n : Int) : aBox 45 (.agg #[.int .i64 n]) = some (obL 45 [.int .i64 n], fun id => .pointer (some ⟨id, 0, none⟩)) := rfl
theorem dright_ex {n : Nat} {d : Dat} {cs : List Value} {X : XT} {g : Nat} {μ : Mem} (hX0 : jbs X) (hX2 : jb1 X) (hY : Lay μ) (hY8 : Lay8 μ) (hX : jch X) (hS : Sm n d) (hD : IsD μ d cs) (hg : 110100 + 5000 * n ≤ g) :
  ∃ b μ', aFun pZ (jao pZ X S0 g) 6 [.agg cs.toArray] μ = some (.bool b, μ') ∧ Grow μ μ' := by
 obtain ⟨k, hk, rfl⟩ : ∃ k, 5000 * n ≤ k ∧ g = k + 110100 := ⟨g - 110100, by omega, by omega⟩
 have h8 := hD.eight
 obtain ⟨v0, v1, v2, v3, v4, v5, v6, v7, rfl⟩ := eight h8.1
 obtain ⟨m1, hm1⟩ : ∃ m1 : Mem, m1 = ⟨μ.obs.set μ.next (obL 30 [v0, v1, v2, v3, v4, v5, v6, v7]), μ.next + 1⟩ := ⟨_, rfl⟩
 have H1 := jd7 μ 30 [v0, v1, v2, v3, v4, v5, v6, v7]
 have G1 := jbn μ (obL 30 [v0, v1, v2, v3, v4, v5, v6, v7])
 rw [← hm1] at H1 G1
 have n1 : m1.next = μ.next + 1 := by rw [hm1]
 obtain ⟨m2, hm2⟩ : ∃ m2 : Mem, m2 = ⟨m1.obs.set m1.next (obL 45 [.int .i64 3000]), m1.next + 1⟩ := ⟨_, rfl⟩
 have H2 := jd7 m1 45 [.int .i64 3000]
 have G2 := jbn m1 (obL 45 [.int .i64 3000])
 rw [← hm2] at H2 G2
 have n2 : m2.next = m1.next + 1 := by rw [hm2]
 have hU : Bud m2 m1.next := ⟨⟨3000, H2.cell 0 (by simp)⟩, ⟨_, _, _, _, by rw [hm2]; show T.get _ _ = _; rw [T.get_set, if_pos rfl]; rfl⟩, by omega⟩
 have ld1 := Has.ld_D (H1.keep (G2.2 _ (by omega))) rfl
 have G12 := G1.trans G2
 obtain ⟨b, μ3, hr, hT, _⟩ := bright_ex n (X := X) (g := k + 110096) (B := m1.next) (deep := 0) (μ := m2) (μ0 := m1) hX0 hX2 (hY.grow G1) (vs_ok (hY8.grow G1)) hX hS (hD.grow G1) G2 (Nat.le_refl _) hU (by omega)
 have key : EndsF (aFun pZ (jao pZ X S0 (k + 110100)) 6 [.agg #[v0, v1, v2, v3, v4, v5, v6, v7]] μ) fun r μ' => (∃ b, r = .bool b) ∧ Grow μ μ' := by
  refine jaj Tryz.func6 rfl rfl (nbl rfl) ?_
  simp only [go_sem, Tryz.ntmps6]
  refine jag ?_
  refine jaw ?_ ?_
  ·rfl
  simp only [go_sem, jda, Nat.add_eq]
  rw [← hm1]
  refine jag ?_
  refine jaw ?_ ?_
  ·rfl
  simp only [go_sem, bd_bud, box_bud, Nat.add_eq]
  rw [← hm2]
  repeat (first | refine jab rfl ?_ | (refine jap rfl ?_; (try simp only [go_sem, ld1, gg16, hr]); fail_if_success refine ifC ?_) | (refine jad rfl ?_; (repeat (first | (refine jai ?_ rfl ?_; (solve | simp only [go_sem, ld1, gg16, hr])) | (refine jaf (v := ?_) (μ' := ?_) ?_ ?_ rfl ?_; rotate_left 2; (solve | rfl | simp only [go_sem, ld1, gg16, hr]); (solve | simp only [go_sem, ld1, gg16, hr]; try exact rfl)))); simp only [go_sem]))
  refine jah ?_
  refine ⟨rfl, ?_⟩
  simp only [go_sem, Tryz.results6]
  exact ⟨_, rfl, ⟨_, rfl⟩, hT.grow0 G12 (by omega)⟩
 obtain ⟨r, μ', h1, ⟨b, rfl⟩, h2⟩ := key
 exact ⟨b, μ', h1, h2⟩
theorem copies_ex {d : Dat} {cs : List Value} {X : XT} {g : Nat} {μ : Mem} (hX1 : jbs X) (hX2 : jb1 X) (hY : Lay μ) (hY8 : Lay8 μ) (hX : jch X) (hD : IsD μ d cs) (hg : 1400000 ≤ g)
  (hal : ∀ k μ, jbL pZ (jao pZ X S0 k) S0 4 [] μ = some (.bool true, μ)) :
  ∃ μ', aFun pZ (jao pZ X S0 g) 3 [.agg cs.toArray] μ = some (.bool true, μ') ∧ Grow μ μ' := by
 obtain ⟨k, rfl⟩ := gle hg
 have h8 := hD.eight
 obtain ⟨v0, v1, v2, v3, v4, v5, v6, v7, rfl⟩ := eight h8.1
 obtain ⟨m1, hm1⟩ : ∃ m1 : Mem, m1 = ⟨μ.obs.set μ.next (obL 30 [v0, v1, v2, v3, v4, v5, v6, v7]), μ.next + 1⟩ := ⟨_, rfl⟩
 have H1 := jd7 μ 30 [v0, v1, v2, v3, v4, v5, v6, v7]
 have G1 := jbn μ (obL 30 [v0, v1, v2, v3, v4, v5, v6, v7])
 rw [← hm1] at H1 G1
 have n1 : m1.next = μ.next + 1 := by rw [hm1]
 have ld1 := Has.ld_D H1 rfl
 obtain ⟨r, m2, rS, G2, hr1, hr2, hr3⟩ := small_ex 71 (deep := 0) rfl (m := 4000) (X := X) (g := k + 1399995) (hD.grow G1) (by decide) (by decide) (by omega)
 have z : (Value.int .i64 (.ofNat 0)) = .int .i64 0 := rfl
 rw [z] at rS
 have G02 := G1.trans G2
 have n2 := G2.1
 have key : EndsF (aFun pZ (jao pZ X S0 (k + 1400000)) 3 [.agg #[v0, v1, v2, v3, v4, v5, v6, v7]] μ) fun w μ' => w = .bool true ∧ Grow μ μ' := by
  refine jaj Tryz.func3 rfl rfl (nbl rfl) ?_
  simp only [go_sem, Tryz.ntmps3]
  refine jag ?_
  refine jaw ?_ ?_
  ·rfl
  simp only [go_sem, jda, Nat.add_eq]
  rw [← hm1]
  by_cases hneg : r < 0
  ·have e2 : ilt r 0 = true := (jbf _ _).trans (decide_eq_true hneg)
   have zz := (⟨@hal, @ld1, @gg5, @rS, @e2⟩ : _ ∧ _ ∧ _ ∧ _ ∧ _)
   repeat (first | refine jab rfl ?_ | (refine jap rfl ?_; (try simp only [go_sem, undef, jcf (P := pZ) Tryz.func4 rfl, zz]); fail_if_success refine ifC ?_) | (refine jad rfl ?_; (repeat (first | (refine jai ?_ rfl ?_; (solve | simp only [go_sem, undef, jcf (P := pZ) Tryz.func4 rfl, zz])) | (refine jaf (v := ?_) (μ' := ?_) ?_ ?_ rfl ?_; rotate_left 2; (solve | rfl | simp only [go_sem, undef, jcf (P := pZ) Tryz.func4 rfl, zz]); (solve | simp only [go_sem, undef, jcf (P := pZ) Tryz.func4 rfl, zz]; try exact rfl)))); simp only [go_sem]))
   clear zz
   refine jah ?_
   refine ⟨rfl, .bool true, ?_, rfl, G02⟩
   simp only [go_sem, Tryz.results3]
  ·have e2 : ilt r 0 = false := (jbf _ _).trans (decide_eq_false hneg)
   have hS := hr3 (by omega)
   have H12 := H1.keep (G2.2 _ (by omega))
   have ld2 := Has.ld_D H12 rfl
   obtain ⟨b, m3, rR, G3⟩ := dright_ex (n := 71) (X := X) (g := k + 1399995) (μ := m2) hX1 hX2 (hY.grow G02) (hY8.grow G02) hX hS (hD.grow G02) (by omega)
   have G03 := G02.trans G3
   have n3 := G3.1
   cases b with
   | false =>
     have zz := (⟨@hal, @ld1, @ld2, @gg5, @rS, @e2, @gg6, @rR⟩ : _ ∧ _ ∧ _ ∧ _ ∧ _ ∧ _ ∧ _ ∧ _)
     repeat (first | refine jab rfl ?_ | (refine jap rfl ?_; (try simp only [go_sem, undef, jcf (P := pZ) Tryz.func4 rfl, zz]); fail_if_success refine ifC ?_) | (refine jad rfl ?_; (repeat (first | (refine jai ?_ rfl ?_; (solve | simp only [go_sem, undef, jcf (P := pZ) Tryz.func4 rfl, zz])) | (refine jaf (v := ?_) (μ' := ?_) ?_ ?_ rfl ?_; rotate_left 2; (solve | rfl | simp only [go_sem, undef, jcf (P := pZ) Tryz.func4 rfl, zz]); (solve | simp only [go_sem, undef, jcf (P := pZ) Tryz.func4 rfl, zz]; try exact rfl)))); simp only [go_sem]))
     clear zz
     refine jah ?_
     refine ⟨rfl, .bool true, ?_, rfl, G03⟩
     simp only [go_sem, Tryz.results3]
   | true =>
     have hS' := hS.dp
     obtain ⟨cs1, m4, rC, G4, hI1⟩ := rcopy_ex 71 (X := X) (g := k + 1399995) hS' (hD.grow G03) (by omega)
     have n4 := G4.1
     have i1 := hI1.isD.eight
     obtain ⟨m5, hm5⟩ : ∃ m5 : Mem, m5 = putL ⟨m4.obs.set m4.next (obDt zD8), m4.next + 1⟩ m4.next 0 cs1 := ⟨_, rfl⟩
     have st5 := st_D (o := 0) (blk_D (μ := m4) (l := zD8)) (by omega) i1.1 i1.2
     have G5 : Grow m4 m5 := by rw [hm5]; exact (jbn m4 _).put_new (Nat.le_refl _)
     have n5 : m5.next = m4.next + 1 := by rw [hm5, jbb]
     have H5 : Has m5 m4.next 0 cs1 := by rw [hm5]; exact Has.of_put (vs := cs1) blk_D (by rw [i1.1]; omega)
     rw [← hm5] at st5
     have G05 := (G03.trans G4).trans G5
     obtain ⟨cs2, m6, rD, G6, hI2⟩ := dcopy_ex 71 (X := X) (g := k + 1399994) hS' (hD.grow G05) (by omega)
     have n6 := G6.1
     have i2 := hI2.isD.eight
     obtain ⟨m7, hm7⟩ : ∃ m7 : Mem, m7 = putL ⟨m6.obs.set m6.next (obDt zD8), m6.next + 1⟩ m6.next 0 cs2 := ⟨_, rfl⟩
     have st7 := st_D (o := 0) (blk_D (μ := m6) (l := zD8)) (by omega) i2.1 i2.2
     have G7 : Grow m6 m7 := by rw [hm7]; exact (jbn m6 _).put_new (Nat.le_refl _)
     have n7 : m7.next = m6.next + 1 := by rw [hm7, jbb]
     have H7 : Has m7 m6.next 0 cs2 := by rw [hm7]; exact Has.of_put (vs := cs2) blk_D (by rw [i2.1]; omega)
     rw [← hm7] at st7
     have G57 := G6.trans G7
     have G07 := G05.trans G57
     obtain ⟨m8, rE, G8⟩ := dsame_eq 71 (X := X) (g := k + 1399992) hS' hX (hI2.isD.grow G7) (hD.grow G07) (by omega)
     have n8 := G8.1
     have hI8 : InD m5.next m6.next m8 d cs2 := InD.move (by omega) (fun q h1 h2 => (G8.2 q (by omega)).trans (G7.2 q h2)) hI2
     obtain ⟨vz, m9, rZ, K9⟩ := spoil_eq (lo := m5.next) 71 (X := X) (g := k + 1399992) hS' (by omega) hI8.shD (by omega)
     have G59 : Grow m5 m9 := ⟨by have := K9.1; omega, fun q hq => (K9.2.1 q hq).trans ((G8.2 q (by omega)).trans (G57.2 q hq))⟩
     obtain ⟨m10, rF, G10⟩ := same5_eq 71 (X := X) (g := k + 1399991) hS' hX (hD.grow (G05.trans G59)) ((hI1.isD.grow G5).grow G59) (by omega)
     have H13 := H12.keep (G3.2 _ (by omega))
     have H15 := (H13.keep (G4.2 _ (by omega))).keep (G5.2 _ (by omega))
     have H17 := H15.keep (G57.2 _ (by omega))
     have H19 := H15.keep (G59.2 _ (by omega))
     have ld3 := Has.ld_D H13 rfl
     have ld5 := Has.ld_D H15 rfl
     have ld7 := Has.ld_D H17 rfl
     have ld9 := Has.ld_D H19 rfl
     have le7 := Has.ld_D H7 i2.1
     have le8 := Has.ld_D (H7.keep (G8.2 _ (by omega))) i2.1
     have le9 := Has.ld_D (H5.keep (G59.2 _ (by omega))) i1.1
     have zz := (⟨@hal, @ld1, @ld2, @gg5, @rS, @e2, @gg6, @rR, @ld3, @ld5, @ld7, @ld9, @le7, @le8, @le9, @al_D, @gg7, @rC, @st5, @gg8, @rD, @st7, @gg9, @rE, @gg10, @rZ, @gg11, @rF⟩ : _ ∧ _ ∧ _ ∧ _ ∧ _ ∧ _ ∧ _ ∧ _ ∧ _ ∧ _ ∧ _ ∧ _ ∧ _ ∧ _ ∧ _ ∧ _ ∧ _ ∧ _ ∧ _ ∧ _ ∧ _ ∧ _ ∧ _ ∧ _ ∧ _ ∧ _ ∧ _ ∧ _)
     repeat (first | refine jab rfl ?_ | (refine jap rfl ?_; (try simp only [go_sem, undef, jcf (P := pZ) Tryz.func4 rfl, Nat.add_eq, zz]); fail_if_success refine ifC ?_) | (refine jad rfl ?_; (repeat (first | (refine jai ?_ rfl ?_; (solve | simp only [go_sem, undef, jcf (P := pZ) Tryz.func4 rfl, Nat.add_eq, zz])) | (refine jaf (v := ?_) (μ' := ?_) ?_ ?_ rfl ?_; rotate_left 2; (solve | rfl | simp only [go_sem, undef, jcf (P := pZ) Tryz.func4 rfl, Nat.add_eq, zz]); (solve | simp only [go_sem, undef, jcf (P := pZ) Tryz.func4 rfl, Nat.add_eq, zz]; try exact rfl)))); simp only [go_sem]))
     clear zz
     refine jah ?_
     refine ⟨rfl, .bool true, ?_, rfl, (G05.trans G59).trans G10⟩
     simp only [go_sem, Tryz.results3]
 obtain ⟨w, μ', h1, rfl, h2⟩ := key
 exact ⟨μ', h1, h2⟩
end
noncomputable section
theorem isNamed : jdc pZ := named_of (by kernel_rfl)
theorem mixed : pZ.follows .mixedOrders = true := by kernel_rfl
def xs : List (FuncId × XK) := [(40, .f64bits), (85, .f64from), (97, .same), (99, .noZero 5), (128, .f64bits), (191, .f64from), (122, .indexByte)]
theorem rows : ∀ x ∈ xs, ∃ fn, XRow pZ x.1 x.2 fn := by
 intro x hx
 simp only [xs, List.mem_cons, List.not_mem_nil, or_false] at hx
 rcases hx with rfl | rfl | rfl | rfl | rfl | rfl | rfl
 ·exact ⟨_, Tryz.func40, by kernel_rfl, by kernel_rfl, by kernel_rfl, by kernel_rfl, fun e h => by cases h⟩
 ·exact ⟨_, Tryz.func85, by kernel_rfl, by kernel_rfl, by kernel_rfl, by kernel_rfl, fun e h => by cases h⟩
 ·exact ⟨_, Tryz.func97, by kernel_rfl, by kernel_rfl, by kernel_rfl, by kernel_rfl, fun e h => by cases h⟩
 ·exact ⟨_, Tryz.func99, by kernel_rfl, by kernel_rfl, by kernel_rfl, by kernel_rfl, fun e h => by cases h; exact ⟨Tryz.f99.resultTypes.getD 0 0, by kernel_rfl, by kernel_rfl⟩⟩
 ·exact ⟨_, Tryz.func128, by kernel_rfl, by kernel_rfl, by kernel_rfl, by kernel_rfl, fun e h => by cases h⟩
 ·exact ⟨_, Tryz.func191, by kernel_rfl, by kernel_rfl, by kernel_rfl, by kernel_rfl, fun e h => by cases h⟩
 ·exact ⟨_, Tryz.func122, by kernel_rfl, by kernel_rfl, by kernel_rfl, by kernel_rfl, fun e h => by cases h⟩
theorem bits1 : jbs (aExt xs) := fun a μ => rfl
theorem bits2 : jb1 (aExt xs) := fun n μ _ => rfl
def domC : List (List Value) := (List.range 256).map fun q => [.int .u8 (.ofNat q)]
theorem domP : ∀ args v, fP args = some v → args ∈ domC := by
 intro args v h
 unfold fP at h
 split at h
 ·rename_i q
  split at h
  ·rename_i hq
   exact List.mem_map.2 ⟨q, List.mem_range.2 hq, rfl⟩
  ·cases h
 ·cases h
theorem tbP : domOk (fun args => aFun pZ (jao pZ (aExt xs) [] 100) 65 args ⟨.e, 900⟩) fP domC = true := by kernel_rfl
theorem ranAlive : jgk roms (aFun pZ (jao pZ (aExt xs) [] 4000) 4 [] ⟨jeB roms, 900⟩) = true := by kernel_rfl
theorem sums : SumsOk pZ S0 :=
 SumsOk.cons (sum_of isNamed (jik rows) mixed (SumsOk.none _) (by decide +kernel) roms (by kernel_rfl) ranAlive)
 (SumsOk.cons (plain_dom isNamed (jik rows) mixed (SumsOk.none _) (by decide +kernel) fP domC domP tbP) (SumsOk.none _))
end
noncomputable section
def fOk (l : List Value) : Bool := Nat.beq l.length 256 && l.all fun v => match v with | .int .u8 (.ofNat n) => firstL.contains n | _ => false
def aOk (l : List Value) : Bool := Nat.beq l.length 32 && l.all fun v => match v with | .int .u8 (.ofNat _) => true | _ => false
structure Laid8 (W : World) : Prop where
 fs : ∃ l t, W.heap[(1 : Nat)]? = some (.cells l.toArray t (0, 0)) ∧ fOk l = true
 ar : ∃ l t, W.heap[(2 : Nat)]? = some (.cells l.toArray t (0, 0)) ∧ aOk l = true
theorem lay8_hand {W : World} (hL : Laid8 W) : Lay8 (memW W pZ.globals.size) := by
 obtain ⟨l1, t1, h1, o1⟩ := hL.fs
 obtain ⟨l2, t2, h2, o2⟩ := hL.ar
 unfold fOk at o1
 unfold aOk at o2
 rw [Bool.and_eq_true] at o1 o2
 have n1 : l1.length = 256 := Nat.eq_of_beq_eq_true o1.1
 have n2 : l2.length = 32 := Nat.eq_of_beq_eq_true o2.1
 have hz := gsz
 obtain ⟨gs, hgs⟩ : ∃ gs, gs = pZ.globals.size := ⟨_, rfl⟩
 rw [← hgs] at hz ⊢
 have hlt : gs < 870 := hz.2
 refine ⟨fun k hk => ?_, fun k hk => ?_, by show 20 < 900 + _; omega⟩
 ·have hv := List.all_eq_true.1 o1.2 _ (List.getElem_mem (show k < l1.length by omega))
  have he : l1.toArray[k]? = some (l1[k]'(by omega)) := by rw [List.getElem?_toArray]; exact List.getElem?_eq_getElem _
  have hc := jcQ hlt h1 he
  rw [jh0 (by omega)] at hc
  revert hv hc
  generalize l1[k]'(by omega) = v
  intro hv hc
  split at hv
  ·rename_i n
   exact ⟨n, by simpa using hv, hc⟩
  ·cases hv
 ·have hva := List.all_eq_true.1 o2.2 _ (List.getElem_mem (show 2 * k < l2.length by omega))
  have hvb := List.all_eq_true.1 o2.2 _ (List.getElem_mem (show 2 * k + 1 < l2.length by omega))
  have hrow := jge (row := [l2[2 * k]'(by omega), l2[2 * k + 1]'(by omega)]) (o := 2 * k) hlt h2 (fun j v hj => by
   rw [List.getElem?_toArray]
   match j, hj with
   | 0, hj => simp at hj; subst hj; exact List.getElem?_eq_getElem _
   | 1, hj => simp at hj; subst hj; exact List.getElem?_eq_getElem _
   | j + 2, hj => simp at hj) (by simp)
  rw [jh0 (by omega)] at hrow
  revert hva hvb hrow
  generalize l2[2 * k]'(by omega) = a
  generalize l2[2 * k + 1]'(by omega) = b
  intro hva hvb hrow
  split at hva
  ·split at hvb
   ·exact ⟨_, _, hrow⟩
   ·cases hvb
  ·cases hva
theorem jjM {X : XT} {μ : Mem} (h : je4 μ roms = true) (k : Nat) : jbL pZ (jao pZ X S0 k) S0 4 [] μ = some (.bool true, μ) := by
 show (match je4 μ roms with | true => some (Value.bool true, μ) | false => none) = _
 rw [h]
theorem toBits : jch (aExt xs) := fun a μ => rfl
theorem arel_1 {J : Nat → Ev.Loc} {a a' : Value} (h1 : VRel J a a') : ARel J [a].toArray #[a'] := ⟨rfl, fun i x y hx hy => by
 match i with
 | 0 => simp at hx hy; subst hx hy; exact h1
 | i + 1 => simp at hx⟩
theorem agg_hand {W : World} {gs : Nat} (hlt : gs < 870) (c : Array Value) : VRel (jW W gs) (.agg (c.toList.map (absV W gs)).toArray) (.agg c) := .agg (by simp) fun i a b ha hb => by
 simp only [List.getElem?_toArray, List.getElem?_map, Array.getElem?_toList, hb, Option.map_some, Option.some.injEq] at ha
 subst ha
 exact abs_rel hlt b
section
variable {H : Type} {enc : TypeId × Value → H} {W : World} {sp : Nat → Bool} {hd : Bool}
theorem ranC (hL : Laid W) (hL8 : Laid8 W) {fuel : Nat} {c : Array Value} {x : DataW H × List MemPlace} (h : DataW.trod enc pZ W 0 sp hd fuel 30 c.toList = some x) :
  Calls pZ 3 #[.agg c] W fun e W' => e = .returned (.bool true) ∧ Same W W' := by
 obtain ⟨d, hd⟩ := jjA gsz.2 fuel h
 obtain ⟨μ', hr, hG⟩ := copies_ex (X := aExt xs) (g := 1400000) bits1 bits2 (lay_hand hL) (lay8_hand hL8) toBits hd (Nat.le_refl _) (fun k μ => jjM rfl k)
 exact jg9 isNamed (jik rows) mixed sums (by have := gsz.2; show _ < 900 + _; omega) (handsW rfl gsz.2) (arel_1 (agg_hand gsz.2 c)) hr hG.2 rfl
end
end
end Go.Proofs.YtnafmgiaifbhgaaGreatDoor.dc
