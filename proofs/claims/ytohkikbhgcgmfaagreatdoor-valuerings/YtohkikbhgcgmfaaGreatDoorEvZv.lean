/-
  The evaluator, part Zv: what single operations give, for what is not known: a slice of one, a store of one cell, an element's place. No conditions.
-/
import Derived.Test.YtohkikbhgcgmfaaGreatDoorEvZu
set_option linter.unusedSimpArgs false
set_option linter.unusedVariables false
namespace Go.Proofs.YtohkikbhgcgmfaaGreatDoor.Ev
noncomputable section
variable {P : Program}
def one : Value → Bool
 | .agg _ => false
 | .tuple _ => false
 | .chan _ => false
 | _ => true
theorem one_cells {v : Value} (h : one v = true) : cellsL v = [v] := by cases v <;> first | rfl | cases h
theorem one_notAny {v : Value} (h : one v = true) : notAny v = true := by cases v <;> first | rfl | cases h
theorem one_scalar {v : Value} (h : one v = true) : scalar v = true := by cases v <;> first | rfl | cases h
theorem buildSlice_one {ρ : Operand → Value} {t e : TypeId} {inf : TypeInfo} {z0 v : Value} {x : Operand} (hu : P.underlying t = some (.slice e)) (hi : P.info? e = some inf) (hsz : inf.size = 1) (hz : aZeroOf P e = some z0) (hzl : one z0 = true) (hx : ρ x = v) (hv : one v = true) :
  aBuildSlice P ρ t 1 #[(0, x)] = some (.cells 1 e #[v] .e 0 0 false false, fun id => .slice (some ⟨id, 0, none⟩) 1 2) := by
 unfold aBuildSlice
 simp only [hu, hi, hsz, hz, one_cells hzl]
 have e1 : aFill (fun i => some (Nat.mul i 1, 1)) (tile [z0] (Nat.mul 1 1)) (#[(0, x)].toList.map fun p => (p.1, ρ p.2)) = some [v] := by
  simp only [List.map_cons, List.map_nil, hx]
  unfold aFill
  simp only [one_cells hv, one_notAny hv]
  rfl
 rw [e1]
 rfl
theorem buildSlice_if {t e : TypeId} {inf : TypeInfo} {z0 : Value} (hu : P.underlying t = some (.slice e)) (hi : P.info? e = some inf) (hsz : inf.size = 1) (hz : aZeroOf P e = some z0) (hzl : one z0 = true) (ρ : Operand → Value) (x : Operand) (hv : one (ρ x) = true) :
  aBuildSlice P ρ t 1 #[(0, x)] = some (.cells 1 e #[ρ x] .e 0 0 false false, fun id => .slice (some ⟨id, 0, none⟩) 1 2) := buildSlice_one hu hi hsz hz hzl rfl hv
theorem store_one {t : TypeId} {inf : TypeInfo} {v : Value} {μ : Mem} {i o n te : Nat} {zero : Array Value} {over : T Value} {fx sh : Bool} (hi : P.info? t = some inf) (hsz : inf.size = 1) (hv : one v = true) (hob : μ.obs.get i = some (.cells n te zero over 0 0 fx sh)) (ho : o < n) :
  aStore P μ t (.pointer (some ⟨i, o, none⟩)) v = some (undef, ⟨μ.obs.set i (.cells n te zero (over.set o v) 0 0 fx sh), μ.next⟩) := by
 unfold aStore
 have e1 : writable n 0 0 o 1 = true := by
  unfold writable
  rw [show Nat.ble (Nat.add o 1) n = true from Nat.ble_eq_true_of_le (by show o + 1 ≤ n; omega)]
  rfl
 have e2 : scalars [v] = true := by simp only [scalars, one_scalar hv]
 simp only [hob, one_notAny hv, hi, hsz, one_cells hv, List.length_cons, List.length_nil, Nat.zero_add, e1, e2, T.lay]
theorem cellAt_set (z : Array Value) (ov : T Value) (o k : Nat) (v : Value) : cellAt z (ov.set o v) k = if k = o then v else cellAt z ov k := by
 unfold cellAt
 rw [T.get_set]
 by_cases h : k = o
 ·rw [if_pos h, if_pos h]
 ·rw [if_neg h, if_neg h]
theorem indexAddr_slice {ρ : Operand → Value} {t e : TypeId} {inf : TypeInfo} {x y : Operand} {i o n c m : Nat} {kd : IntKind} (hu : P.underlying t = some (.slice e)) (hi : P.info? e = some inf) (hsz : inf.size = 1) (hx : ρ x = .slice (some ⟨i, o, none⟩) n c) (hy : ρ y = .int kd (.ofNat m)) (hm : m < n) :
  aIndexAddr P ρ t x y = some (.pointer (some ⟨i, o + m, none⟩)) := by
 unfold aIndexAddr
 simp only [hx, hy, hu, aIdx, hi, hsz]
 rw [show Nat.blt m n = true from by simpa using hm]
 simp only [Addr.add, Nat.mul_eq, Nat.mul_one]
 by_cases h0 : m = 0
 ·subst h0; rfl
 ·rw [if_neg h0]
theorem cellsAt_good {μ : Mem} {e : TypeId} {v : Value} {xs : List Value} (h : GoodSl μ e v xs) {i l c k : Nat} (hv : v = .slice (some ⟨i, 0, none⟩) l c) (hk : k < xs.length) : cellsAt μ i k = some xs[k] := by
 rcases h with ⟨h1, h2⟩ | ⟨i', m, z, ov, fx, sh, c', h1, hob, hm, hc, _⟩
 ·subst h2; simp at hk
 ·rw [hv] at h1
  cases h1
  rw [cellsAt_of (n := m) (z := z) (ov := ov) (by rw [hob]; rfl) (by omega), hc k hk]
theorem notAny_agg (x : Array Value) : notAny (.agg x) = true := rfl
theorem scalars_one : ∀ (vs : List Value), vs.all one = true → scalars vs = true := by
 intro vs
 induction vs with
 | nil => intro _; rfl
 | cons v r ih => intro h; simp only [List.all_cons, Bool.and_eq_true] at h; simp only [scalars, one_scalar h.1, ih h.2]
theorem store_list {t : TypeId} {inf : TypeInfo} {vs : List Value} {μ : Mem} {i o n te : Nat} {zero : Array Value} {over : T Value} {fx sh : Bool} (hi : P.info? t = some inf) (hsz : inf.size = vs.length) (hv : vs.all one = true) (hob : μ.obs.get i = some (.cells n te zero over 0 0 fx sh)) (ho : o + vs.length ≤ n) :
  aStore P μ t (.pointer (some ⟨i, o, none⟩)) (.agg vs.toArray) = some (undef, ⟨μ.obs.set i (.cells n te zero (over.lay o vs) 0 0 fx sh), μ.next⟩) := by
 unfold aStore
 have e1 : writable n 0 0 o vs.length = true := by
  unfold writable
  rw [show Nat.ble (Nat.add o vs.length) n = true from Nat.ble_eq_true_of_le ho]
  rfl
 have e3 : cellsL (.agg vs.toArray) = vs := rfl
 have e4 : Nat.beq vs.length vs.length = true := by simp
 simp only [hob, notAny_agg, hi, hsz, e3, e4, e1, scalars_one vs hv]
theorem load_struct {t : TypeId} {fields : Array Field} {inf : TypeInfo} {μ : Mem} {i o n : Nat} {z : Array Value} {ov : T Value} (hu : P.underlying t = some (.struct fields)) (hi : P.info? t = some inf) (hob : obCells (μ.obs.get i) = some (n, z, ov)) (ho : o + inf.size ≤ n) :
  aLoad P μ t (.pointer (some ⟨i, o, none⟩)) = some (.agg (cellsFrom z ov o inf.size).toArray) := by
 unfold aLoad
 simp only [hob, hu, hi]
 rw [show Nat.ble (Nat.add o inf.size) n = true from Nat.ble_eq_true_of_le ho]
theorem go_call {X : FuncId → List Value → Mem → Option (Value × Mem)} {ev : Code → Rg → Mem → Option (Ax × Rg × Mem)} {S : List (FuncId × LK)} {g : FuncId} {fn : Func} (hf : P.funcs[g]? = some fn) (hb : fn.body.isSome = true) (hS : lkOf S g = none) (args : List Value) (μ : Mem) :
  aGo P X (aCallS P ev S) g args μ = aFun P ev g args μ := (go_body hf hb).trans (call_body hS)
theorem build_struct {ρ : Operand → Value} {t : TypeId} {parts : Array (Nat × Operand)} {fields : Array Field} {z : Value} {pl : List (Nat × Nat)} {cs : List Value} (hz : aZeroOf P t = some z) (hu : P.underlying t = some (.struct fields)) (hp : aPlaces P fields.toList = some pl)
  (hf : aFill (fun i => pl[i]?) (cellsL z) (parts.toList.map fun p => (p.1, ρ p.2)) = some cs) : aBuild P ρ t parts = some (.agg cs.toArray) := by
 unfold aBuild
 simp only [hz, hu, hp, hf]
theorem aFill_one {place : Nat → Option (Nat × Nat)} {cs : List Value} {i off : Nat} {v : Value} {r : List (Nat × Value)} (hp : place i = some (off, 1)) (hv : one v = true) (ho : off < cs.length) :
  aFill place cs ((i, v) :: r) = aFill place (cs.set off v) r := by
 have e0 : setL cs off [v] = cs.set off v := by
  unfold setL
  show cs.take off ++ ([v] ++ cs.drop (off + 1)) = cs.set off v
  rw [List.set_eq_take_append_cons_drop, if_pos ho]
  rfl
 rw [aFill]
 simp only [hp, one_notAny hv, one_cells hv, List.length_cons, List.length_nil, Nat.zero_add, e0]
 rw [show Nat.ble (Nat.add off 1) cs.length = true from Nat.ble_eq_true_of_le ho]
end
end Go.Proofs.YtohkikbhgcgmfaaGreatDoor.Ev
