/-
  distafflaw18.ValueNums, part Qj: its walk and its law. No conditions.
-/
import Derived.Test.YtdmfakpngnlokaaGreatDoorDwQb
import Derived.Test.YtdmfakpngnlokaaGreatDoorDwQi
set_option linter.all false
set_option maxRecDepth 20000
set_option maxHeartbeats 8000000
namespace Go.Proofs.YtdmfakpngnlokaaGreatDoor.nu
open YtdmfakpngnlokaaGreatDoor.Ev
noncomputable section
@[go_sem] def gg57 {X ev} := gC X ev Tryz.func57 rfl rfl
@[go_sem] def gg21 {X ev} := gC X ev Tryz.func21 rfl rfl
theorem ms_w : jbh pZ 69 (.int .i64 256) (.int .i64 256) = some (wsO 256, fun id => .slice (some ⟨id, 0, none⟩) 256 512) := msW 256 (by decide)
def lnO16 : Ob := .cells 32 229 #[.bool false, .bool false] .e 0 0 false false
theorem ms_l : jbh pZ 172 (.int .i64 16) (.int .i64 16) = some (lnO16, fun id => .slice (some ⟨id, 0, none⟩) 16 32) := by
 show jbh pZ 172 (.int .i64 (.ofNat 16)) (.int .i64 (.ofNat 16)) = _
 unfold jbh
 simp only [Tryz.underlying172, iL, zL]
 rfl
def arL (w l : Nat) : List Value := [.slice (some ⟨w, 0, none⟩) 256 512, .slice (some ⟨l, 0, none⟩) 16 32, .int .i64 0, .int .i64 0, .int .i64 0, .int .i64 0, .int .i64 0, .int .i64 0, .int .i64 0]
theorem z_Ar : jaO pZ 176 = some (.agg #[.slice none 0 0, .slice none 0 0, .int .i64 0, .int .i64 0, .int .i64 0, .int .i64 0, .int .i64 0, .int .i64 0, .int .i64 0]) := by kernel_rfl
theorem bd_Ar {ρ : Operand → Value} {a b : Operand} {w l : Nat} (ha : ρ a = .slice (some ⟨w, 0, none⟩) 256 512) (hb : ρ b = .slice (some ⟨l, 0, none⟩) 16 32) : jbF pZ ρ 176 #[(0, a), (1, b)] = some (.agg (arL w l).toArray) := by
 refine jba (pl := [(0, 1), (1, 1), (2, 2), (4, 2), (6, 2), (8, 1)]) (cs := arL w l) z_Ar Tryz.underlying176 (by kernel_rfl) ?_
 simp only [List.map_cons, List.map_nil, ha, hb]
 rfl
def memA (μ : Mem) : Mem := ⟨((μ.obs.set (μ.next + 2) (wsO 256)).set (μ.next + 5) lnO16).set (μ.next + 7) (obL 176 (arL (μ.next + 2) (μ.next + 5))), μ.next + 9⟩
theorem jiY {X : XT} {g : Nat} {μ : Mem} (hg : 40 ≤ g) : aFun pZ (jai pZ X S0 g) 57 [.int .i64 1] μ = some (.pointer (some ⟨μ.next + 7, 0, none⟩), memA μ) := by
 obtain ⟨k, rfl⟩ := gle hg
 have m1 : (if (4096 : Int) < 1 then (4096 : Int) else 1) = 1 := rfl
 have m2 : (if (1 : Int) > 1 then (1 : Int) else 1) = 1 := rfl
 have q1 : jak .i64 (Int.mul 1 256) = 256 := rfl
 have q2 : jak .i64 (Int.mul 1 16) = 16 := rfl
 have bd := fun (r : Rg) (a b : Operand) (ha : aev pZ r a = .slice (some ⟨μ.next + 2, 0, none⟩) 256 512) (hb : aev pZ r b = .slice (some ⟨μ.next + 5, 0, none⟩) 16 32) => bd_Ar ha hb
 have bx : aBox 176 (.agg (arL (μ.next + 2) (μ.next + 5)).toArray) = some (obL 176 (arL (μ.next + 2) (μ.next + 5)), fun id => .pointer (some ⟨id, 0, none⟩)) := rfl
 refine jau ?_
 refine jac Tryz.func57 rfl rfl (nbl rfl) ?_
 simp only [go_sem, Tryz.ntmps57]
 repeat ((first | refine jaa rfl ?_ | refine jaj rfl ?_); (try simp only [go_sem, m1, m2]); fail_if_success refine stk ?_)
 refine jaY (n := 9) (ms := [0, 1, 3, 0, 8, 24, 63, 127, 255]) (ord := [0, 1, 2, 3, 4, 5, 6, 7, 8]) (ds := ?_) ?_ ?_ ?_ ?_ ?_ ?_
 rotate_left
 ·kernel_rfl
 ·kernel_rfl
 ·kernel_rfl
 ·rfl
 ·rfl
 repeat (first | (refine ja0 ?_ rfl ?_; (solve | simp only [go_sem, q1, q2, ms_w, ms_l, bd, bx])) | (refine ja5 (v := ?_) (μ' := ?_) (sn' := ?_) ?_ ?_ rfl ?_; rotate_left 3; (solve | rfl | simp only [go_sem, q1, q2, ms_w, ms_l, bd, bx]); (solve | simp only [jaV, heavy, jbg, jaQ, go_sem, q1, q2, ms_w, ms_l, bd, bx]; try exact rfl)))
 simp only [dRun, jaK, jag]
 exact jae ⟨rfl, _, by simp only [go_sem, Tryz.results57], rfl, rfl⟩
theorem z_He : jaO pZ 131 = some (.agg #[.pointer none]) := by kernel_rfl
theorem bd_He {ρ : Operand → Value} {a : Operand} {q : Nat} (ha : ρ a = .pointer (some ⟨q, 0, none⟩)) : jbF pZ ρ 131 #[(0, a)] = some (.agg #[.pointer (some ⟨q, 0, none⟩)]) := by
 refine jba (pl := [(0, 1)]) (cs := [.pointer (some ⟨q, 0, none⟩)]) z_He Tryz.underlying131 (by kernel_rfl) ?_
 simp only [List.map_cons, List.map_nil, ha]
 rfl
theorem bx_He (q : Nat) : aBox 131 (.agg #[.pointer (some ⟨q, 0, none⟩)]) = some (obL 131 [.pointer (some ⟨q, 0, none⟩)], fun id => .pointer (some ⟨id, 0, none⟩)) := rfl
def memH (μ : Mem) : Mem := ⟨(memA μ).obs.set (μ.next + 9) (obL 131 [.pointer (some ⟨μ.next + 7, 0, none⟩)]), μ.next + 10⟩
theorem jkE {X : XT} {g : Nat} {μ : Mem} (hg : 60 ≤ g) : aFun pZ (jai pZ X S0 g) 21 [.int .i64 1] μ = some (.pointer (some ⟨μ.next + 9, 0, none⟩), memH μ) := by
 obtain ⟨k, rfl⟩ := gle hg
 have r1 := jiY (X := X) (g := k + 57) (μ := μ) (by omega)
 have bd := fun (r : Rg) (a : Operand) (ha : aev pZ r a = .pointer (some ⟨μ.next + 7, 0, none⟩)) => bd_He ha
 have hn : (memA μ).next = μ.next + 9 := rfl
 refine jau ?_
 refine jac Tryz.func21 rfl rfl (nbl rfl) ?_
 simp only [go_sem, Tryz.ntmps21]
 repeat ((first | refine jaa rfl ?_ | refine jaj rfl ?_); (try simp only [go_sem, r1, bd, bx_He, hn]); fail_if_success refine stk ?_)
 exact jae ⟨rfl, _, by simp only [go_sem, Tryz.results21], rfl, rfl⟩
theorem z_Sp : jaO pZ 67 = some (.agg #[.pointer none, .slice none 0 0, .map none]) := by kernel_rfl
theorem bd_Sp {ρ : Operand → Value} {a b : Operand} {q m : Nat} (ha : ρ a = .pointer (some ⟨q, 0, none⟩)) (hb : ρ b = .map (some m)) : jbF pZ ρ 67 #[(0, a), (2, b)] = some (.agg #[.pointer (some ⟨q, 0, none⟩), .slice none 0 0, .map (some m)]) := by
 refine jba (pl := [(0, 1), (1, 1), (2, 1)]) (cs := [.pointer (some ⟨q, 0, none⟩), .slice none 0 0, .map (some m)]) z_Sp Tryz.underlying67 (by kernel_rfl) ?_
 simp only [List.map_cons, List.map_nil, ha, hb]
 rfl
theorem bx_Sp (q m : Nat) : aBox 67 (.agg #[.pointer (some ⟨q, 0, none⟩), .slice none 0 0, .map (some m)]) = some (obL 67 [.pointer (some ⟨q, 0, none⟩), .slice none 0 0, .map (some m)], fun id => .pointer (some ⟨id, 0, none⟩)) := rfl
def memN (μ : Mem) : Mem := ⟨((memH μ).obs.set (μ.next + 10) (.map [] 0)).set (μ.next + 11) (obL 67 [.pointer (some ⟨μ.next + 9, 0, none⟩), .slice none 0 0, .map (some (μ.next + 10))]), μ.next + 12⟩
theorem jif {X : XT} {g : Nat} {μ : Mem} (hg : 80 ≤ g) : aFun pZ (jai pZ X S0 g) 6 [.int .i64 1] μ = some (.pointer (some ⟨μ.next + 11, 0, none⟩), memN μ) := by
 obtain ⟨k, rfl⟩ := gle hg
 have r1 := jkE (X := X) (g := k + 77) (μ := μ) (by omega)
 have bd := fun (r : Rg) (a b : Operand) (ha : aev pZ r a = .pointer (some ⟨μ.next + 9, 0, none⟩)) (hb : aev pZ r b = .map (some (μ.next + 10))) => bd_Sp ha hb
 have hn : (memH μ).next = μ.next + 10 := rfl
 refine jau ?_
 refine jac Tryz.func6 rfl rfl (nbl rfl) ?_
 simp only [go_sem, Tryz.ntmps6]
 repeat ((first | refine jaa rfl ?_ | refine jaj rfl ?_); (try simp only [go_sem, r1, bd, bx_Sp, hn]); fail_if_success refine stk ?_)
 exact jae ⟨rfl, _, by simp only [go_sem, Tryz.results6], rfl, rfl⟩
theorem memN_old {μ : Mem} {i : Nat} (h : i < μ.next) : (memN μ).obs.get i = μ.obs.get i := by
 show T.get (T.set (T.set (T.set (T.set (T.set (T.set _ _ _) _ _) _ _) _ _) _ _) _ _) i = _
 repeat rw [T.get_set, if_neg (by omega)]
theorem memN_w (μ : Mem) : (memN μ).obs.get (μ.next + 2) = some (wsO 256) := by
 show T.get (T.set (T.set (T.set (T.set (T.set (T.set _ _ _) _ _) _ _) _ _) _ _) _ _) _ = _
 repeat (first | rw [T.get_set, if_pos rfl] | rw [T.get_set, if_neg (by omega)])
theorem memN_l (μ : Mem) : (memN μ).obs.get (μ.next + 5) = some lnO16 := by
 show T.get (T.set (T.set (T.set (T.set (T.set (T.set _ _ _) _ _) _ _) _ _) _ _) _ _) _ = _
 repeat (first | rw [T.get_set, if_pos rfl] | rw [T.get_set, if_neg (by omega)])
theorem memN_a (μ : Mem) : (memN μ).obs.get (μ.next + 7) = some (obL 176 (arL (μ.next + 2) (μ.next + 5))) := by
 show T.get (T.set (T.set (T.set (T.set (T.set (T.set _ _ _) _ _) _ _) _ _) _ _) _ _) _ = _
 repeat (first | rw [T.get_set, if_pos rfl] | rw [T.get_set, if_neg (by omega)])
theorem memN_h (μ : Mem) : (memN μ).obs.get (μ.next + 9) = some (obL 131 [.pointer (some ⟨μ.next + 7, 0, none⟩)]) := by
 show T.get (T.set (T.set (T.set (T.set (T.set (T.set _ _ _) _ _) _ _) _ _) _ _) _ _) _ = _
 repeat (first | rw [T.get_set, if_pos rfl] | rw [T.get_set, if_neg (by omega)])
theorem memN_s (μ : Mem) : (memN μ).obs.get (μ.next + 11) = some (obL 67 [.pointer (some ⟨μ.next + 9, 0, none⟩), .slice none 0 0, .map (some (μ.next + 10))]) := by
 show T.get (T.set (T.set (T.set (T.set (T.set (T.set _ _ _) _ _) _ _) _ _) _ _) _ _) _ = _
 repeat (first | rw [T.get_set, if_pos rfl] | rw [T.get_set, if_neg (by omega)])
theorem memN_grow (μ : Mem) : Grow μ (memN μ) := ⟨by show μ.next ≤ μ.next + 12; omega, fun i hi => memN_old hi⟩
theorem jd9 {μ : Mem} {i n t o : Nat} {z : Array Value} {ov : T Value} {fx sh : Bool} (h : μ.obs.get i = some (.cells n t z ov 0 0 fx sh)) (ho : o < n) : jad μ i o = some (cellAt z ov o) := by
 unfold jad
 rw [h]
 show (if o < n then _ else _) = _
 rw [if_pos ho]
theorem cell_one (v : Value) (k : Nat) : cellAt #[v] .e k = v := by
 show (#[v] : Array Value).getD (Nat.mod k 1) undef = v
 rw [show Nat.mod k 1 = 0 from Nat.mod_one k]
 rfl
theorem jjR (v : Value) (k : Nat) : cellAt #[v, v] .e k = v := by
 show (#[v, v] : Array Value).getD (Nat.mod k 2) undef = v
 have : Nat.mod k 2 < 2 := Nat.mod_lt k (by decide)
 match h : Nat.mod k 2, this with
 | 0, _ => rfl
 | 1, _ => rfl
theorem space_new (μ : Mem) : SP (memN μ) (μ.next + 11) (μ.next + 9) (μ.next + 7) (μ.next + 2) (μ.next + 5) 256 16 (fun _ => 0) P0 := by
 have c7 : ∀ o, o < 9 → jad (memN μ) (μ.next + 7) o = (arL (μ.next + 2) (μ.next + 5))[o]? := fun o ho => by
  rw [jd9 (memN_a μ) ho]
  have := ja3 (arL (μ.next + 2) (μ.next + 5)) o ho
  rw [this]
  exact (rzK ho).symm
 refine ⟨(jd9 (memN_s μ) (by show 0 < 3; decide)).trans rfl, by show μ.next + 11 < μ.next + 12; omega, by omega, by omega, by omega, ⟨(jd9 (memN_h μ) (by show 0 < 1; decide)).trans rfl, ⟨⟨⟨_, c7 0 (by decide)⟩, ⟨_, _, _, _, memN_w μ, fun k hk => cell_one _ _⟩, by omega⟩, ⟨⟨16, c7 1 (by decide), by decide⟩, ⟨_, _, _, _, memN_l μ⟩, fun k hk => (jd9 (memN_l μ) (by omega)).trans (by rw [jjR]; rfl), fun k hk => ⟨false, (jd9 (memN_l μ) (by omega)).trans (by rw [jjR])⟩⟩, ⟨_, _, _, _, memN_a μ⟩, by show _ < μ.next + 12; omega, by show _ < μ.next + 12; omega, by show _ < μ.next + 12; omega, by omega, by omega, by decide, by decide⟩, by show _ < μ.next + 12; omega, by omega, by omega, by omega⟩, ⟨c7 2 (by decide), c7 3 (by decide), c7 4 (by decide), c7 5 (by decide), c7 8 (by decide)⟩⟩
@[go_sem] def gg27 {X ev} := gC X ev Tryz.func27 rfl rfl
theorem IsU.take {μ : Mem} {v : Value} {ls : List Nat} {k : Nat} (h : IsU μ ls v) (hk : k ≤ ls.length) : ∃ v', (∀ (ρ : Operand → Value) (x y : Operand), ρ x = v → ρ y = .int .i64 (.ofNat k) → jaJ pZ ρ 23 x none (some y) none = some v') ∧ IsU μ (ls.take k) v' := by
 have hlen : (ls.take k).length = k := by rw [List.length_take]; omega
 obtain ⟨h1, h2, ⟨rfl, rfl⟩ | ⟨i, o, c, rfl, h3, h6⟩⟩ := h
 ·obtain rfl : k = 0 := by simpa using hk
  refine ⟨.slice none 0 0, fun ρ x y hx hy => ?_, h1, h2, .inl ⟨rfl, rfl⟩⟩
  unfold jaJ
  simp only [hx, Tryz.underlying23, jci, ja2, jbl, hy]
  try rfl
 ·refine ⟨.slice (some ⟨i, o, none⟩) k c, fun ρ x y hx hy => ?_, fun x hx => h1 x (List.mem_of_mem_take hx), by omega, .inr ⟨i, o, c, by rw [hlen], fun hn => ?_, by rw [hlen]; unfold CapK at h6 ⊢; omega⟩⟩
  ·unfold jaJ
   unfold CapK at h6
   rcases h6 with ⟨g1, g2⟩ | ⟨g1, g2⟩
   ·have e1 : Nat.beq (Nat.mod c 2) 0 = true := by rw [show Nat.mod c 2 = 0 from g1]; rfl
    have e3 : Nat.ble k (Nat.div c 2) = true := rzP (by show k ≤ c / 2; omega)
    simp only [hx, Tryz.underlying23, jci, e1, ja2, jbl, hy, e3]
    have e4 : Addr.add ⟨i, o, none⟩ (Nat.mul 0 Tryz.t73.size) = ⟨i, o, none⟩ := by rw [show Nat.mul 0 Tryz.t73.size = 0 from Nat.zero_mul _]; rfl
    have e5 : Nat.mul 2 (Nat.sub (Nat.div c 2) 0) = c := by show 2 * (c / 2 - 0) = c; omega
    have e6 : Nat.sub k 0 = k := rfl
    cases Nat.beq (Nat.div c 2) 0 <;> simp only [e4, e5, e6]
   ·have e1 : Nat.beq (Nat.mod c 2) 0 = false := by rw [show Nat.mod c 2 = 1 from g1]; rfl
    have e3 : Nat.ble k ls.length = true := rzP hk
    simp only [hx, Tryz.underlying23, jci, e1, ja2, jbl, hy, e3]
    try rfl
  ·have hn' : ls ≠ [] := by rintro rfl; simp at hn
   refine ⟨(h3 hn').1, ?_⟩
   have := (h3 hn').2
   rw [show (ls.map fun x => Value.int .u32 (.ofNat x)) = (ls.take k).map (fun x => Value.int .u32 (.ofNat x)) ++ (ls.drop k).map (fun x => Value.int .u32 (.ofNat x)) from by rw [← List.map_append, List.take_append_drop]] at this
   have := this.part (a := []) rfl
   simpa using this
theorem jj7 {ls : List Nat} (hn : ls.length ≤ 2000000) : ∀ k, k ≤ ls.length → ∀ {X : XT} {e : Nat} {tm : T Value} {v : Value} {μ : Mem}, IsU μ ls v → jah tm 0 = v → jah tm 3 = .int .i64 (.ofNat k) →
  LpC X (e + k + 20) Tryz.f101 0 22 tm μ fun x r μ' => x = .exit 0 ∧ μ' = μ ∧ ∃ tm', r = ⟨22, tm', [], none⟩ ∧ jah tm' 0 = v ∧ jah tm' 3 = .int .i64 (.ofNat (trN ls k)) := by
 intro k
 induction k with
 | zero =>
   intro hk X e tm v μ h h0 h3
   have e1 : ilt 0 (.ofNat 0) = false := rfl
   refine jam ?_
   repeat ((first | refine jaa rfl ?_ | refine jaj rfl ?_); (try simp only [go_sem, h0, h3, e1]); fail_if_success refine stk ?_)
   exact ⟨by trivial, by trivial, _, rfl, by simp only [go_sem, h0], by simp only [go_sem, h3]; rfl⟩
 | succ k ih =>
   intro hk X e tm v μ h h0 h3
   obtain ⟨a, ha0⟩ : ∃ a, ls[k]? = some a := ⟨_, rzK (by omega)⟩
   obtain ⟨ha, bi, bo, c, hv, _, hc⟩ := h.at ha0
   have hgd : ls.getD k 0 = a := by rw [List.getD_eq_getElem?_getD, ha0]; rfl
   have e1 : ilt 0 (.ofNat (k + 1)) = true := dT (jap 0 (k + 1)) (rzW k)
   have q1 : jak .i64 (Int.sub (.ofNat (k + 1)) 1) = .ofNat k := jaZ (k + 1) 1 (by omega) (by omega)
   have hix : ∀ rg a b, aev pZ rg a = v → aev pZ rg b = .int .i64 (.ofNat k) → jal pZ (aev pZ rg) 23 a b = some (.pointer (some ⟨bi, bo + k, none⟩)) := fun rg a b g1 g2 => by
    rw [hv] at g1
    rw [jaF (P := pZ) Tryz.underlying23 jci rfl g1 g2 (by omega)]
   by_cases hz : a = 0
   ·have e2 : ieq (.ofNat a) 0 = true := dT (jbo _ 0 0 rfl) hz
    have et : trN ls (k + 1) = trN ls k := by rw [trN, hgd, if_pos hz]
    rw [et]
    refine jam ?_
    repeat ((first | refine jaa rfl ?_ | refine jaj rfl ?_); (try simp only [go_sem, h0, h3, e1, q1, hix, hc, e2]); fail_if_success refine stk ?_)
    rw [(by omega : e + (k + 1) + 19 = e + k + 20)]
    exact ih (by omega) h (by simp only [go_sem, h0]) (by simp only [go_sem])
   ·have e2 : ieq (.ofNat a) 0 = false := dF (jbo _ 0 0 rfl) hz
    have et : trN ls (k + 1) = k + 1 := by rw [trN, hgd, if_neg hz]
    rw [et]
    refine jam ?_
    repeat ((first | refine jaa rfl ?_ | refine jaj rfl ?_); (try simp only [go_sem, h0, h3, e1, q1, hix, hc, e2]); fail_if_success refine stk ?_)
    exact ⟨by trivial, by trivial, _, rfl, by simp only [go_sem, h0], by simp only [go_sem, h3]⟩
theorem jje {X : XT} {g : Nat} {ls : List Nat} {v : Value} {μ : Mem} (h : IsU μ ls v) (hn : ls.length ≤ 1000) (hg : ls.length + 100 ≤ g) : ∃ v' μ', aFun pZ (jai pZ X S0 g) 101 [v] μ = some (v', μ') ∧ Lv μ' v' (ja6 ls) ∧ Grow μ μ' := by
 obtain ⟨k, hk, rfl⟩ : ∃ k, ls.length ≤ k ∧ g = k + 100 := ⟨g - 100, by omega, by omega⟩
 have lv := h.len
 obtain ⟨v1, hsl, hR1⟩ := h.take (trN_le ls ls.length)
 have hsl : ∀ rg x y, aev pZ rg x = v → aev pZ rg y = .int .i64 (.ofNat (trN ls ls.length)) → jaJ pZ (aev pZ rg) 23 x none (some y) none = some v1 := fun rg x y g1 g2 => hsl _ x y g1 g2
 have hm : maxLen = 281474976710656 ∨ 1000 ≤ maxLen := .inr (by decide)
 have hlt : (ls.take (trN ls ls.length)).length ≤ 1000 := by rw [List.length_take]; omega
 obtain ⟨v2, μ2, hr, hR2, hG⟩ := cloneU (X := X) (g := k + 95) hR1 (by omega) (by omega)
 have key : EndsF (aFun pZ (jai pZ X S0 (k + 100)) 101 [v] μ) fun w μ' => Lv μ' w (ja6 ls) ∧ Grow μ μ' := by
  refine jac Tryz.func101 rfl rfl (nbl rfl) ?_
  simp only [go_sem, Tryz.ntmps101]
  repeat (refine jaz rfl ?_; (try simp only [go_sem, lv, jao]); fail_if_success refine stk ?_)
  rw [(by omega : k + 96 = (k + 76 - ls.length) + ls.length + 20)]
  refine rzM (jj7 (ls := ls) (by omega) ls.length (rzN _) h (by simp only [go_sem]) (by simp only [go_sem])) ?_
  rintro x r μ' ⟨rfl, rfl, tm', rfl, h0, h3⟩
  simp only [go_sem]
  repeat (refine jaz rfl ?_; (try simp only [go_sem, h0, h3, hsl, hr]); fail_if_success refine stk ?_)
  exact jae ⟨rfl, v2, by simp only [go_sem, Tryz.results101], hR2, hG⟩
 obtain ⟨w, μ', h1, h2, h3⟩ := key
 exact ⟨w, μ', h1, h2, h3⟩
theorem Lv.one {μ : Mem} {v : Value} {ls : List Nat} (h : Lv μ v ls) : one v = true := h.rd.one
theorem jhl {X : XT} {g : Nat} {ls : List Nat} {v : Value} {b : Bool} {μ : Mem} (h : Lv μ v ls) (hg : 20 ≤ g) : ∃ μ', aFun pZ (jai pZ X S0 g) 103 [.bool b, v] μ = some (.agg #[.bool (b && decide (0 < ls.length)), v], μ') ∧ Grow μ μ' := by
 obtain ⟨k, rfl⟩ := gle hg
 have lv := (h.grow (jbc μ obI)).rd.len
 have e1 : ilt 0 (.ofNat ls.length) = decide (0 < ls.length) := jap 0 ls.length
 have hb : ∀ (c : Bool) (r : Rg) (x y : Operand), aev pZ r x = .bool c → aev pZ r y = v → jbF pZ (aev pZ r) 25 #[(0, x), (1, y)] = some (.agg #[.bool c, v]) := fun c r x y g1 g2 => build_I g1 g2 rfl h.one
 have hs : ∀ c : Bool, jbu pZ ⟨μ.obs.set μ.next obI, μ.next + 1⟩ 25 (.pointer (some ⟨μ.next, 0, none⟩)) (.agg #[.bool c, v]) = some (undef, putL ⟨μ.obs.set μ.next obI, μ.next + 1⟩ μ.next 0 [.bool c, v]) := fun c => st_I blkI rfl h.one
 have key : EndsF (aFun pZ (jai pZ X S0 (k + 20)) 103 [.bool b, v] μ) fun w μ' => w = .agg #[.bool (b && decide (0 < ls.length)), v] ∧ Grow μ μ' := by
  cases b with
  | false =>
    have hb := hb false
    refine jac Tryz.func103 rfl rfl (nbl rfl) ?_
    simp only [go_sem, Tryz.ntmps103]
    repeat ((first | refine jaa rfl ?_ | refine jaj rfl ?_); (try simp only [go_sem, lv, jao, e1, hb, hs]); fail_if_success refine stk ?_)
    refine jae ?_
    refine ⟨rfl, .agg #[.bool false, v], ?_, by rw [Bool.false_and], (jbc μ obI).put_new (rzN _)⟩
    simp only [go_sem, Tryz.results103]
    rw [ld_I blkI]
  | true =>
    have hb := hb (decide (0 < ls.length))
    refine jac Tryz.func103 rfl rfl (nbl rfl) ?_
    simp only [go_sem, Tryz.ntmps103]
    repeat ((first | refine jaa rfl ?_ | refine jaj rfl ?_); (try simp only [go_sem, lv, jao, e1, hb, hs]); fail_if_success refine stk ?_)
    refine jae ?_
    refine ⟨rfl, .agg #[.bool (decide (0 < ls.length)), v], ?_, by rw [Bool.true_and], (jbc μ obI).put_new (rzN _)⟩
    simp only [go_sem, Tryz.results103]
    rw [ld_I blkI]
 obtain ⟨w, μ', h1, rfl, h2⟩ := key
 exact ⟨μ', h1, h2⟩
theorem Lv.put {μ : Mem} {v : Value} {ls : List Nat} {q o n : Nat} {vs : List Value} {t : TypeId} (h : Lv μ v ls) (hq : Blk μ q n t) (ht : t ≠ 73) : Lv (putL μ q o vs) v ls := by
 rcases h with h | ⟨i, c, m, z, ov, fx, sh, h1, h2, h3, h4, h5, h6⟩
 ·exact .inl h
 ·have hne : i ≠ q := by
   rintro rfl
   obtain ⟨z', ov', fx', sh', e⟩ := hq
   rw [h2] at e
   injection e with e
   injection e with _ e
   exact ht e.symm
  exact .inr ⟨i, c, m, z, ov, fx, sh, h1, (jaX _ _ _ _ hne).trans h2, h3, by rw [jaE]; exact h4, h5, h6⟩
theorem neg_i {ρ : Operand → Value} {d : Option Tmp} {t ty : TypeId} {x : Operand} {ps : String} {af : Array Edge} {gd : Option (Nat × Bool)} {n : Int} {a : Nat} (hx : ρ x = .int .i64 n) (ha : -n = .ofNat a) (h2 : a < 9223372036854775808) : jaC pZ ρ ⟨d, .unOp .neg t x, ty, ps, af, gd⟩ = some (.int .i64 (.ofNat a)) := by
 have ha' : -n = (a : Int) := ha
 unfold jaC
 have e : pv pZ (execOp ρ ⟨d, .unOp .neg t x, ty, ps, af, gd⟩) = some (.value (.int .i64 (.ofNat a))) := by
  simp only [execOp, hx]
  show some (Next.value (.int .i64 (IntKind.i64.wrap (0 - n)))) = _
  rw [IntWalk.i64_in _ (by omega), Int.zero_sub, ha]
 simp only [opsOf, jbn, hx, jaw, e]
theorem two_lt {a : Nat} (h : a < 18446744073709551616) : ∀ x ∈ two a, x < 4294967296 := by
 intro x hx
 simp only [two, List.mem_cons, List.not_mem_nil, or_false] at hx
 rcases hx with rfl | rfl <;> omega
theorem two_pos {a : Nat} (h : 0 < a) : 0 < (ja6 (two a)).length := by
 rcases Nat.eq_zero_or_pos (ja6 (two a)).length with h0 | h0
 ·have := jct (two a)
  rw [List.eq_nil_of_length_eq_zero h0, two_val] at this
  simp only [lval] at this
  omega
 ·exact h0
theorem jkK {n : Int} (h1 : -9223372036854775808 ≤ n) (h2 : n < 9223372036854775808) {X : XT} {g : Nat} {μ : Mem} (hg : 6000 ≤ g) :
  ∃ v μ', aFun pZ (jai pZ X S0 g) 63 [.int .i64 n] μ = some (.agg #[.bool (decide (n < 0)), v], μ') ∧ Lv μ' v (ja6 (two n.natAbs)) ∧ Grow μ μ' := by
 by_cases hn : n < 0
 ·obtain ⟨a, ha⟩ : ∃ a : Nat, -(n + 1) = .ofNat a := ⟨(-(n + 1)).toNat, (Int.toNat_of_nonneg (by omega)).symm⟩
  have ha' : -(n + 1) = (a : Int) := ha
  have ha1 : a < 9223372036854775808 := by omega
  have hna : n.natAbs = a + 1 := by omega
  rw [rzU hn, hna]
  have e1 : ilt n 0 = true := dT (jfo _ _) hn
  have q1 : jak .i64 (Int.add n 1) = n + 1 := wrap_i64 (n + 1) (by omega) (by omega)
  have q2 : ∀ (r : Rg) (d : Option Tmp) (t ty : TypeId) (x : Operand) (ps : String) (af : Array Edge) (gd : Option (Nat × Bool)), aev pZ r x = .int .i64 (n + 1) → jaC pZ (aev pZ r) ⟨d, .unOp .neg t x, ty, ps, af, gd⟩ = some (.int .i64 (.ofNat a)) := fun r d t ty x ps af gd g => neg_i g ha ha1
  have q3 : jak .u64 (.ofNat a) = .ofNat a := nw (by omega)
  have q4 : jak .u64 (Int.add (.ofNat a) 1) = .ofNat (a + 1) := n_add (b := 1) (by omega)
  have hu1 : u (a + 1) = .int .u64 (.ofNat (a + 1)) := by show Value.int .u64 (.ofNat (W (a + 1))) = _; rw [W_of (by omega)]
  have hpos := two_pos (a := a + 1) (by omega)
  obtain ⟨k, rfl⟩ := gle hg
  have hG := jbc μ obI
  obtain ⟨v, μ2, r1, hL, G2⟩ := ofP_eq (X := X) (g := k + 5994) (μ := ⟨μ.obs.set μ.next obI, μ.next + 1⟩) (a := a + 1) (by omega) (by omega)
  rw [hu1] at r1
  obtain ⟨μ3, r2, G3⟩ := jhl (X := X) (g := k + 5994) (b := true) hL (by omega)
  rw [rzU hpos, Bool.true_and] at r2
  have hB : Blk μ3 μ.next 2 25 := blkI.of_get ((G2.trans G3).2 _ (rzQ _))
  have hst := st_I (x := .bool true) (y := v) hB rfl hL.one
  have hGa : Grow μ (putL μ3 μ.next 0 [.bool true, v]) := ((hG.trans G2).trans G3).put_new (rzN _)
  have key : EndsF (aFun pZ (jai pZ X S0 (k + 6000)) 63 [.int .i64 n] μ) fun r μ' => ∃ v, r = .agg #[.bool true, v] ∧ Lv μ' v (ja6 (two (a + 1))) ∧ Grow μ μ' := by
   refine jac Tryz.func63 rfl rfl (nbl rfl) ?_
   simp only [go_sem, Tryz.ntmps63]
   repeat ((first | refine jaa rfl ?_ | refine jaj rfl ?_); (try simp only [go_sem, e1, q1, q2, conv_iu, q3, q4, r1, r2, hst]); fail_if_success refine stk ?_)
   refine jae ?_
   refine ⟨rfl, .agg #[.bool true, v], ?_, v, rfl, ?_, hGa⟩
   ·skip
    simp only [go_sem, Tryz.results63]
    rw [ld_I hB]
   ·exact ((hL.grow G3).put hB (by decide))
  obtain ⟨r, μ', h1, v, rfl, h2⟩ := key
  exact ⟨v, μ', h1, h2⟩
 ·obtain ⟨a, ha⟩ : ∃ a : Nat, n = .ofNat a := ⟨n.toNat, (Int.toNat_of_nonneg (by omega)).symm⟩
  rw [rzV hn]
  subst ha
  have hna : (Int.ofNat a).natAbs = a := rfl
  rw [hna]
  have ha1 : a < 9223372036854775808 := by have : (a : Int) < 9223372036854775808 := h2; omega
  have e1 : ilt (.ofNat a) 0 = false := dF (jcV a 0 0 rfl) (Nat.not_lt_zero _)
  have q3 : jak .u64 (.ofNat a) = .ofNat a := nw (by omega)
  have hu0 : u a = .int .u64 (.ofNat a) := by show Value.int .u64 (.ofNat (W a)) = _; rw [W_of (by omega)]
  obtain ⟨k, rfl⟩ := gle hg
  have hG := jbc μ obI
  obtain ⟨v, μ2, r1, hL, G2⟩ := ofP_eq (X := X) (g := k + 5996) (μ := ⟨μ.obs.set μ.next obI, μ.next + 1⟩) (a := a) (by omega) (by omega)
  rw [hu0] at r1
  obtain ⟨μ3, r2, G3⟩ := jhl (X := X) (g := k + 5996) (b := false) hL (by omega)
  rw [Bool.false_and] at r2
  have hB : Blk μ3 μ.next 2 25 := blkI.of_get ((G2.trans G3).2 _ (rzQ _))
  have hst := st_I (x := .bool false) (y := v) hB rfl hL.one
  have hGa : Grow μ (putL μ3 μ.next 0 [.bool false, v]) := ((hG.trans G2).trans G3).put_new (rzN _)
  have key : EndsF (aFun pZ (jai pZ X S0 (k + 6000)) 63 [.int .i64 (.ofNat a)] μ) fun r μ' => ∃ v, r = .agg #[.bool false, v] ∧ Lv μ' v (ja6 (two a)) ∧ Grow μ μ' := by
   refine jac Tryz.func63 rfl rfl (nbl rfl) ?_
   simp only [go_sem, Tryz.ntmps63]
   repeat ((first | refine jaa rfl ?_ | refine jaj rfl ?_); (try simp only [go_sem, e1, conv_iu, q3, r1, r2, hst]); fail_if_success refine stk ?_)
   refine jae ?_
   refine ⟨rfl, .agg #[.bool false, v], ?_, v, rfl, ((hL.grow G3).put hB (by decide)), hGa⟩
   simp only [go_sem, Tryz.results63]
   rw [ld_I hB]
  obtain ⟨r, μ', h1, v, rfl, h2⟩ := key
  exact ⟨v, μ', h1, h2⟩
end
noncomputable section
variable {X : XT}
def wl (k : IntKind) (f : Nat → Nat) (m : Nat) : List Value := (List.range m).map fun i => .int k (.ofNat (f i))
theorem jbv (k : IntKind) (f : Nat → Nat) (m : Nat) : (wl k f m).length = m := by simp [wl]
theorem wl_succ (k : IntKind) (f : Nat → Nat) (m : Nat) : wl k f (m + 1) = wl k f m ++ [.int k (.ofNat (f m))] := by simp [wl, List.range_succ]
theorem wl_get (k : IntKind) (f : Nat → Nat) (m i : Nat) (h : i < (wl k f m).length) : (wl k f m)[i] = .int k (.ofNat (f i)) := by simp [wl]
theorem GoodSl.cell {μ : Mem} {e : TypeId} {v : Value} {kd : IntKind} {f : Nat → Nat} {m : Nat} (h : GoodSl μ e v (wl kd f m)) {i c k : Nat} (hv : v = .slice (some ⟨i, 0, none⟩) m c) (hk : k < m) : jad μ i k = some (.int kd (.ofNat (f k))) := by
 rw [jhT h hv (by rw [jbv]; exact hk), wl_get]
theorem Own.set {e : TypeId} {μ0 μ : Mem} {kd : IntKind} {f g : Nat → Nat} {m i c : Nat} {b : Nat} (h : Own e μ0 μ (.slice (some ⟨b, 0, none⟩) m c) (wl kd f m)) (hi : i < m) (hgf : ∀ j, j < m → j ≠ i → g j = f j) : Own e μ0 (putL μ b i [.int kd (.ofNat (g i))]) (.slice (some ⟨b, 0, none⟩) m c) (wl kd g m) := by
 obtain ⟨hg, hgr, hab⟩ := h
 have hb := hab b ⟨m, c, rfl⟩
 refine ⟨?_, ⟨by rw [jaE]; exact hgr.1, fun j hj => by rw [jaX _ _ _ _ (by omega)]; exact hgr.2 j hj⟩, fun j hj => by rw [jaE]; exact hab j hj⟩
 rcases hg with ⟨h1, _⟩ | ⟨i', M, z, ov, fx, sh, c', h1, hob, hM, hc, hcc⟩
 ·cases h1
 ·injection h1 with e1 e2 e3
  injection e1 with e1
  injection e1 with e1
  subst e1
  refine .inr ⟨b, M, z, ov.lay i [.int kd (.ofNat (g i))], fx, sh, c, by rw [jbv], jdK hob, by rw [jbv]; rw [jbv] at hM; exact hM, fun j hj => ?_, ?_⟩
  ·rw [jbv] at hj
   rw [jex, wl_get]
   by_cases e4 : j = i
   ·subst e4
    rw [dif_pos ⟨rzN _, by show j < j + 1; omega⟩]
    simp
   ·rw [dif_neg (by rintro ⟨g1, g2⟩; simp only [List.length_cons, List.length_nil] at g2; omega), hc j (by rw [jbv]; exact hj), wl_get, hgf j hj e4]
  ·rw [jbv]; rw [jbv] at hcc; rw [e3]; exact hcc
theorem Own.blk {e : TypeId} {μ0 μ : Mem} {xs : List Value} {m c b : Nat} (h : Own e μ0 μ (.slice (some ⟨b, 0, none⟩) m c) xs) : ∃ M, Blk μ b M e ∧ xs.length ≤ M := by
 rcases h.good with ⟨h1, _⟩ | ⟨i', M, z, ov, fx, sh, c', h1, hob, hM, hc, hcc⟩
 ·cases h1
 ·injection h1 with e1 e2 e3
  injection e1 with e1
  injection e1 with e1
  subst e1
  exact ⟨M, ⟨z, ov, fx, sh, hob⟩, hM⟩
end
noncomputable section
def pw (x : Nat → Nat) (each wide : Nat) : Nat → Nat → Nat
 | 0 => fun _ => 0
 | i + 1 => fun k => if k = 1 + i / each then pw x each wide i k + x i * 2 ^ (i % each * wide) else pw x each wide i k
theorem jd2 (x : Nat → Nat) (each wide : Nat) (he : 0 < each) (hx : ∀ t, x t < 2 ^ wide) : ∀ i, pw x each wide i (1 + i / each) < 2 ^ (i % each * wide) ∧ ∀ k, 1 + i / each < k → pw x each wide i k = 0 := by
 intro i
 induction i with
 | zero => exact ⟨by show 0 < _; exact Nat.two_pow_pos _, fun k hk => rfl⟩
 | succ i ih =>
   obtain ⟨h1, h2⟩ := ih
   have hd := Nat.div_add_mod i each
   by_cases hm : (i + 1) % each = 0
   ·have hq : (i + 1) / each = i / each + 1 := Nat.succ_div_of_mod_eq_zero hm
    refine ⟨?_, fun k hk => ?_⟩
    ·rw [hm, hq, Nat.zero_mul]
     unfold pw
     rw [if_neg (by omega), h2 _ (by omega)]
     exact Nat.one_pos
    ·unfold pw
     rw [if_neg (by omega), h2 _ (by omega)]
   ·have hq : (i + 1) / each = i / each := Nat.succ_div_of_mod_ne_zero hm
    have hr : (i + 1) % each = i % each + 1 := by
     have := Nat.div_add_mod (i + 1) each
     rw [hq] at this
     omega
    refine ⟨?_, fun k hk => ?_⟩
    ·rw [hr, hq]
     unfold pw
     rw [if_pos rfl, Nat.add_mul, Nat.one_mul, Nat.pow_add]
     have h3 := hx i
     have h4 : (x i + 1) * 2 ^ (i % each * wide) ≤ 2 ^ wide * 2 ^ (i % each * wide) := Nat.mul_le_mul_right _ h3
     rw [Nat.add_mul, Nat.one_mul] at h4
     rw [Nat.mul_comm (2 ^ (i % each * wide)) (2 ^ wide)]
     omega
    ·rw [hq] at hk
     unfold pw
     rw [if_neg (by omega), h2 _ hk]
theorem pw_lt (x : Nat → Nat) (each wide : Nat) (he : 0 < each) (hx : ∀ t, x t < 2 ^ wide) : ∀ i k, pw x each wide i k < 2 ^ (each * wide) := by
 intro i
 induction i with
 | zero => exact fun k => Nat.two_pow_pos _
 | succ i ih =>
   intro k
   unfold pw
   split
   ·rename_i hk
    subst hk
    have h1 := (jd2 x each wide he hx i).1
    have h3 := hx i
    have h4 : (x i + 1) * 2 ^ (i % each * wide) ≤ 2 ^ wide * 2 ^ (i % each * wide) := Nat.mul_le_mul_right _ h3
    rw [Nat.add_mul, Nat.one_mul, ← Nat.pow_add] at h4
    have h5 : i % each < each := Nat.mod_lt _ he
    have h6 : wide + i % each * wide ≤ each * wide := by
     calc wide + i % each * wide = (i % each + 1) * wide := by rw [Nat.add_mul, Nat.one_mul, Nat.add_comm]
      _ ≤ each * wide := Nat.mul_le_mul_right _ h5
    have h7 : 2 ^ (wide + i % each * wide) ≤ 2 ^ (each * wide) := Nat.pow_le_pow_right (by decide) h6
    omega
   ·exact ih k
theorem pw_or (x : Nat → Nat) (each wide : Nat) (he : 0 < each) (hx : ∀ t, x t < 2 ^ wide) (i : Nat) : pw x each wide i (1 + i / each) ||| x i * 2 ^ (i % each * wide) = pw x each wide (i + 1) (1 + i / each) := by
 have h1 := (jd2 x each wide he hx i).1
 rw [Nat.or_comm, jf5 _ _ _ h1]
 conv => rhs; unfold pw
 rw [if_pos rfl, Nat.add_comm]
theorem pw_read (x : Nat → Nat) (each wide : Nat) (he : 0 < each) (hx : ∀ t, x t < 2 ^ wide) : ∀ i j, j < i → pw x each wide i (1 + j / each) / 2 ^ (j % each * wide) % 2 ^ wide = x j := by
 intro i
 induction i with
 | zero => intro j hj; omega
 | succ i ih =>
   intro j hj
   by_cases hji : j = i
   ·subst hji
    have h1 := (jd2 x each wide he hx j).1
    unfold pw
    rw [if_pos rfl, Nat.add_mul_div_right _ _ (Nat.two_pow_pos _), Nat.div_eq_of_lt h1, rzT, Nat.mod_eq_of_lt (hx j)]
   ·have hj' : j < i := by omega
    have h0 := ih j hj'
    unfold pw
    split
    ·rename_i hk
     have hq : j / each = i / each := by omega
     have hd1 := Nat.div_add_mod i each
     have hd2 := Nat.div_add_mod j each
     rw [hq] at hd2
     have hr : j % each + 1 ≤ i % each := by omega
     obtain ⟨d, hd⟩ : ∃ d, i % each = j % each + 1 + d := ⟨i % each - (j % each + 1), by omega⟩
     rw [← h0, hd]
     rw [show (j % each + 1 + d) * wide = j % each * wide + (wide + d * wide) from by rw [Nat.add_mul, Nat.add_mul, Nat.one_mul, Nat.add_assoc]]
     rw [Nat.pow_add, Nat.mul_comm (2 ^ (j % each * wide)), ← Nat.mul_assoc, Nat.add_mul_div_right _ _ (Nat.two_pow_pos _)]
     rw [Nat.pow_add, Nat.mul_comm (2 ^ wide), ← Nat.mul_assoc, Nat.add_mul_mod_self_right]
    ·exact h0
end
noncomputable section
variable {X : XT}
def nwH (each : Nat) : Nat → Nat
 | 0 => 1
 | j + 1 => if j % each = 0 then nwH each j + 1 else nwH each j
theorem jgx (each : Nat) (he : 0 < each) : ∀ j, nwH each (j + 1) = 2 + j / each := by
 intro j
 induction j with
 | zero => show (if 0 % each = 0 then _ else _) = _; rw [Nat.zero_mod, if_pos rfl, Nat.zero_div]; rfl
 | succ j ih =>
   show (if (j + 1) % each = 0 then nwH each (j + 1) + 1 else nwH each (j + 1)) = _
   rw [ih]
   by_cases hm : (j + 1) % each = 0
   ·rw [if_pos hm, Nat.succ_div_of_mod_eq_zero hm]; omega
   ·rw [if_neg hm, Nat.succ_div_of_mod_ne_zero hm]
theorem nw_zero (each : Nat) (he : 0 < each) (j : Nat) (h : j % each = 0) : nwH each j = 1 + j / each := by
 cases j with
 | zero => rw [Nat.zero_div]; rfl
 | succ j => rw [jgx each he, Nat.succ_div_of_mod_eq_zero h]; omega
theorem nw_le (each : Nat) (he : 0 < each) (j : Nat) : nwH each j ≤ 1 + j := by
 cases j with
 | zero => exact rzN _
 | succ j => rw [jgx each he]; have := Nat.div_le_self j each; omega
def pf (x : Nat → Nat) (each wide n j : Nat) : Nat → Nat := fun k => if k = 0 then n else pw x each wide j k
theorem bsW (ρ : Operand → Value) (x : Operand) (hv : one (ρ x) = true) : jas pZ ρ 69 1 #[(0, x)] = some (.cells 1 33 #[ρ x] .e 0 0 false false, fun id => .slice (some ⟨id, 0, none⟩) 1 2) := jec Tryz.underlying69 iW rfl zW rfl ρ x hv
theorem bsW0 (r : Rg) : jas pZ (aev pZ r) 69 1 #[(0, .const (.int .u64 0))] = some (.cells 1 33 #[.int .u64 0] .e 0 0 false false, fun id => .slice (some ⟨id, 0, none⟩) 1 2) := jec Tryz.underlying69 iW rfl zW rfl (aev pZ r) (.const (.int .u64 0)) rfl
end
end Go.Proofs.YtdmfakpngnlokaaGreatDoor.nu
