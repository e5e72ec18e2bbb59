/-
  The evaluator, part Zv: what single operations give, for what is not known: a slice of one, a store of one cell, an element's place. No conditions.
-/
import Derived.Test.YtfcpiamdmbliaaaGreatDoorEvZu
set_option linter.unusedSimpArgs false
set_option linter.unusedVariables false
namespace Go.Proofs.YtfcpiamdmbliaaaGreatDoor.Ev
noncomputable section
variable {P : Program}

/-- values of one cell that are known -/
def one : Value → Bool
  | .agg _ => false
  | .tuple _ => false
  | .chan _ => false
  | _ => true
theorem one_cells {v : Value} (h : one v = true) : cellsL v = [v] := by cases v <;> first | rfl | cases h
theorem one_notAny {v : Value} (h : one v = true) : notAny v = true := by cases v <;> first | rfl | cases h
theorem one_scalar {v : Value} (h : one v = true) : scalar v = true := by cases v <;> first | rfl | cases h

theorem buildSlice_one {ρ : Operand → Value} {t e : TypeId} {inf : TypeInfo} {z0 v : Value} {x : Operand} (hu : P.underlying t = some (.slice e)) (hi : P.info? e = some inf) (hsz : inf.size = 1) (hz : aZeroOf P e = some z0) (hzl : one z0 = true) (hx : ρ x = v) (hv : one v = true) :
    aBuildSlice P ρ t 1 #[(0, x)] = some (.cells 1 e #[v] .e 0 0 false false, fun id => .slice (some ⟨id, 0, none⟩) 1 2) := by
  unfold aBuildSlice
  simp only [hu, hi, hsz, hz, one_cells hzl]
  have e1 : aFill (fun i => some (Nat.mul i 1, 1)) (tile [z0] (Nat.mul 1 1)) (#[(0, x)].toList.map fun p => (p.1, ρ p.2)) = some [v] := by
    simp only [List.map_cons, List.map_nil, hx]
    unfold aFill
    simp only [one_cells hv, one_notAny hv]
    rfl
  rw [e1]
  rfl

theorem buildSlice_if {t e : TypeId} {inf : TypeInfo} {z0 : Value} (hu : P.underlying t = some (.slice e)) (hi : P.info? e = some inf) (hsz : inf.size = 1) (hz : aZeroOf P e = some z0) (hzl : one z0 = true) (ρ : Operand → Value) (x : Operand) (hv : one (ρ x) = true) :
    aBuildSlice P ρ t 1 #[(0, x)] = some (.cells 1 e #[ρ x] .e 0 0 false false, fun id => .slice (some ⟨id, 0, none⟩) 1 2) := buildSlice_one hu hi hsz hz hzl rfl hv

theorem store_one {t : TypeId} {inf : TypeInfo} {v : Value} {μ : Mem} {i o n te : Nat} {zero : Array Value} {over : T Value} {fx sh : Bool} (hi : P.info? t = some inf) (hsz : inf.size = 1) (hv : one v = true) (hob : μ.obs.get i = some (.cells n te zero over 0 0 fx sh)) (ho : o < n) :
    aStore P μ t (.pointer (some ⟨i, o, none⟩)) v = some (undef, ⟨μ.obs.set i (.cells n te zero (over.set o v) 0 0 fx sh), μ.next⟩) := by
  unfold aStore
  have e1 : writable n 0 0 o 1 = true := by
    unfold writable
    rw [show Nat.ble (Nat.add o 1) n = true from Nat.ble_eq_true_of_le (by show o + 1 ≤ n; omega)]
    rfl
  have e2 : scalars [v] = true := by simp only [scalars, one_scalar hv]
  simp only [hob, one_notAny hv, hi, hsz, one_cells hv, List.length_cons, List.length_nil, Nat.zero_add, e1, e2, T.lay]

theorem cellAt_set (z : Array Value) (ov : T Value) (o k : Nat) (v : Value) : cellAt z (ov.set o v) k = if k = o then v else cellAt z ov k := by
  unfold cellAt
  rw [T.get_set]
  by_cases h : k = o
  · rw [if_pos h, if_pos h]
  · rw [if_neg h, if_neg h]

theorem indexAddr_slice {ρ : Operand → Value} {t e : TypeId} {inf : TypeInfo} {x y : Operand} {i o n c m : Nat} {kd : IntKind} (hu : P.underlying t = some (.slice e)) (hi : P.info? e = some inf) (hsz : inf.size = 1) (hx : ρ x = .slice (some ⟨i, o, none⟩) n c) (hy : ρ y = .int kd (.ofNat m)) (hm : m < n) :
    aIndexAddr P ρ t x y = some (.pointer (some ⟨i, o + m, none⟩)) := by
  unfold aIndexAddr
  simp only [hx, hy, hu, aIdx, hi, hsz]
  rw [show Nat.blt m n = true from by simpa using hm]
  simp only [Addr.add, Nat.mul_eq, Nat.mul_one]
  by_cases h0 : m = 0
  · subst h0; rfl
  · rw [if_neg h0]

theorem slice_take {ρ : Operand → Value} {t e : TypeId} {inf : TypeInfo} {x y : Operand} {a : Addr} {n c i : Nat} {kd : IntKind} (hu : P.underlying t = some (.slice e)) (hi : P.info? e = some inf) (hx : ρ x = .slice (some a) n (2 * c)) (hy : ρ y = .int kd (.ofNat i)) (hic : i ≤ c) :
    aSlice P ρ t x none (some y) none = some (.slice (some a) i (2 * c)) := by
  unfold aSlice
  have e1 : Nat.beq (Nat.mod (2 * c) 2) 0 = true := by rw [show Nat.mod (2 * c) 2 = 0 from Nat.mul_mod_right 2 c]; rfl
  have e2 : Nat.div (2 * c) 2 = c := by show 2 * c / 2 = c; omega
  have e3 : Nat.ble i c = true := Nat.ble_eq_true_of_le hic
  simp only [hx, hu, hi, e1, e2, aBounds, aBound, hy, e3]
  have e4 : a.add (Nat.mul 0 inf.size) = a := by rw [show Nat.mul 0 inf.size = 0 from Nat.zero_mul _]; rfl
  cases Nat.beq c 0
  · simp only [e4]; rfl
  · rfl

theorem veq_int (k : IntKind) (n : Int) : veq 5 (.int k n) (.int k n) = true := by simp [veq]

theorem cellsAt_good {μ : Mem} {e : TypeId} {v : Value} {xs : List Value} (h : GoodSl μ e v xs) {i l c k : Nat} (hv : v = .slice (some ⟨i, 0, none⟩) l c) (hk : k < xs.length) : cellsAt μ i k = some xs[k] := by
  rcases h with ⟨h1, h2⟩ | ⟨i', m, z, ov, fx, sh, c', h1, hob, hm, hc, _⟩
  · subst h2; simp at hk
  · rw [hv] at h1
    cases h1
    rw [cellsAt_of (n := m) (z := z) (ov := ov) (by rw [hob]; rfl) (by omega), hc k hk]

theorem good_len {μ : Mem} {e : TypeId} {v : Value} {xs : List Value} (h : GoodSl μ e v xs) : ∃ a c, v = .slice a xs.length c ∧ (0 < xs.length → ∃ i, a = some ⟨i, 0, none⟩) := by
  rcases h with ⟨h1, h2⟩ | ⟨i', m, z, ov, fx, sh, c', h1, _⟩
  · subst h2; exact ⟨none, 0, h1, fun h => by simp at h⟩
  · exact ⟨_, _, h1, fun _ => ⟨_, rfl⟩⟩

theorem notAny_agg (x : Array Value) : notAny (.agg x) = true := rfl
theorem scalars_one : ∀ (vs : List Value), vs.all one = true → scalars vs = true := by
  intro vs
  induction vs with
  | nil => intro _; rfl
  | cons v r ih => intro h; simp only [List.all_cons, Bool.and_eq_true] at h; simp only [scalars, one_scalar h.1, ih h.2]

theorem store_list {t : TypeId} {inf : TypeInfo} {vs : List Value} {μ : Mem} {i o n te : Nat} {zero : Array Value} {over : T Value} {fx sh : Bool} (hi : P.info? t = some inf) (hsz : inf.size = vs.length) (hv : vs.all one = true) (hob : μ.obs.get i = some (.cells n te zero over 0 0 fx sh)) (ho : o + vs.length ≤ n) :
    aStore P μ t (.pointer (some ⟨i, o, none⟩)) (.agg vs.toArray) = some (undef, ⟨μ.obs.set i (.cells n te zero (over.lay o vs) 0 0 fx sh), μ.next⟩) := by
  unfold aStore
  have e1 : writable n 0 0 o vs.length = true := by
    unfold writable
    rw [show Nat.ble (Nat.add o vs.length) n = true from Nat.ble_eq_true_of_le ho]
    rfl
  have e3 : cellsL (.agg vs.toArray) = vs := rfl
  have e4 : Nat.beq vs.length vs.length = true := by simp
  simp only [hob, notAny_agg, hi, hsz, e3, e4, e1, scalars_one vs hv]

theorem load_struct {t : TypeId} {fields : Array Field} {inf : TypeInfo} {μ : Mem} {i o n : Nat} {z : Array Value} {ov : T Value} (hu : P.underlying t = some (.struct fields)) (hi : P.info? t = some inf) (hob : obCells (μ.obs.get i) = some (n, z, ov)) (ho : o + inf.size ≤ n) :
    aLoad P μ t (.pointer (some ⟨i, o, none⟩)) = some (.agg (cellsFrom z ov o inf.size).toArray) := by
  unfold aLoad
  simp only [hob, hu, hi]
  rw [show Nat.ble (Nat.add o inf.size) n = true from Nat.ble_eq_true_of_le ho]

theorem go_call {X : FuncId → List Value → Mem → Option (Value × Mem)} {ev : Code → Rg → Mem → Option (Ax × Rg × Mem)} {S : List (FuncId × LK)} {g : FuncId} {fn : Func} (hf : P.funcs[g]? = some fn) (hb : fn.body.isSome = true) (hS : lkOf S g = none) (args : List Value) (μ : Mem) :
    aGo P X (aCallS P ev S) g args μ = aFun P ev g args μ := (go_body hf hb).trans (call_body hS)

theorem build_struct {ρ : Operand → Value} {t : TypeId} {parts : Array (Nat × Operand)} {fields : Array Field} {z : Value} {pl : List (Nat × Nat)} {cs : List Value} (hz : aZeroOf P t = some z) (hu : P.underlying t = some (.struct fields)) (hp : aPlaces P fields.toList = some pl)
    (hf : aFill (fun i => pl[i]?) (cellsL z) (parts.toList.map fun p => (p.1, ρ p.2)) = some cs) : aBuild P ρ t parts = some (.agg cs.toArray) := by
  unfold aBuild
  simp only [hz, hu, hp, hf]

theorem aFill_one {place : Nat → Option (Nat × Nat)} {cs : List Value} {i off : Nat} {v : Value} {r : List (Nat × Value)} (hp : place i = some (off, 1)) (hv : one v = true) (ho : off < cs.length) :
    aFill place cs ((i, v) :: r) = aFill place (cs.set off v) r := by
  have e0 : setL cs off [v] = cs.set off v := by
    unfold setL
    show cs.take off ++ ([v] ++ cs.drop (off + 1)) = cs.set off v
    rw [List.set_eq_take_append_cons_drop, if_pos ho]
    rfl
  rw [aFill]
  simp only [hp, one_notAny hv, one_cells hv, List.length_cons, List.length_nil, Nat.zero_add, e0]
  rw [show Nat.ble (Nat.add off 1) cs.length = true from Nat.ble_eq_true_of_le ho]

/-! ### a function whose results are known on a list of arguments -/
def domOk (run : List Value → Option (Value × Mem)) (f : List Value → Option Value) (dom : List (List Value)) : Bool := dom.all fun args => match f args with
  | none => true
  | some v => match run args with
    | some (v', _) => veq 5 v' v
    | none => false

theorem plain_dom {X : FuncId → List Value → Mem → Option (Value × Mem)} (hN : Named P) (hX : XOk P X) (hm : P.follows .mixedOrders = true) {S : List (FuncId × LK)} (hS : SumsOk P S) {k : Nat} {g : FuncId} {nx : Nat} (hnx : P.globals.size < nx)
    (f : List Value → Option Value) (dom : List (List Value)) (hdom : ∀ args v, f args = some v → args ∈ dom) (h : domOk (fun args => aFun P (aCode P X S k) g args ⟨.e, nx⟩) f dom = true) : KOk P g (.plain f) := by
  intro args v hf hp hv W n R hR
  have h2 := List.all_eq_true.1 h args (hdom args v hf)
  rw [hf] at h2
  simp only at h2
  split at h2
  · rename_i v1 μ' hrun
    have hv1 : v1 = v := veq_eq 5 _ _ h2
    subst hv1
    have hnone : ∀ i b s, noneKnown nx i ≠ .at b s := fun i b s e => by unfold noneKnown at e; split at e <;> cases e
    have hr : Rel (noneKnown nx) ⟨.e, nx⟩ W := ⟨fun i j b s t e _ => absurd e (hnone _ _ _), fun i b s e => absurd e (hnone _ _ _), fun i hi => if_neg (Nat.not_lt.2 hi), fun i o ho _ => by simp [T.get_e] at ho⟩
    have hB : Base P (noneKnown nx) := ⟨fun g hg => .inr (if_pos (Nat.lt_trans hg hnx)), if_pos hnx⟩
    have ha : ARel (noneKnown nx) args.toArray args.toArray := ⟨rfl, fun i a b ha hb => by
      rw [ha] at hb; cases hb
      refine plain_refl 5 (List.all_eq_true.1 hp _ ?_)
      have := Array.mem_of_getElem? ha
      simpa using this⟩
    refine fun_ok (code_ok hN hX hm hS k).1 g args _ v1 μ' hrun _ W _ hr hB ha n R fun J' v' w' h1 h2 h3 => ?_
    rw [plain_eq 5 hv h1]
    exact hR w' ⟨h3.os, h3.output, h3.size, fun b hb => h3.frame b hb (fun i s e => absurd e (hnone _ _ _)), h3.tape⟩
  · cases h2

/-! ### numbers of what lies -/
def T.under {α : Type} : T α → Nat → Nat → Nat → Bool
  | .e, _, _, _ => true
  | .n v l r, a, b, N => (match v with
    | some _ => Nat.blt b N
    | none => true) && (T.under l (Nat.mul 2 a) (Nat.add a b) N && T.under r (Nat.mul 2 a) (Nat.add (Nat.mul 2 a) b) N)

theorem T.under_spec {α : Type} : ∀ (t : T α) (a b N : Nat), t.under a b N = true → ∀ (m : Nat) (v : α), t.get m = some v → a * m + b < N := by
  intro t
  induction t with
  | e => intro a b N _ m v h; simp [T.get_e] at h
  | n o l r ihl ihr =>
    intro a b N h m v hg
    simp only [T.under, Bool.and_eq_true] at h
    obtain ⟨h1, h2, h3⟩ := h
    rw [T.get_eq0] at hg
    cases m with
    | zero =>
      simp only [T.get0] at hg
      subst hg
      simp only at h1
      simpa using h1
    | succ m =>
      simp only [T.get0] at hg
      cases hb : Nat.beq (Nat.mod m 2) 0 with
      | true =>
        rw [hb] at hg
        simp only at hg
        have hm : m % 2 = 0 := Nat.eq_of_beq_eq_true hb
        rw [← T.get_eq0] at hg
        have this : 2 * a * (m / 2) + (a + b) < N := ihl _ _ _ h2 _ _ hg
        have e : 2 * a * (m / 2) = a * m := by rw [show 2 * a * (m / 2) = a * (2 * (m / 2)) from by rw [Nat.mul_comm 2 a, Nat.mul_assoc], show 2 * (m / 2) = m from by omega]
        rw [e] at this
        rw [Nat.mul_succ]; omega
      | false =>
        rw [hb] at hg
        simp only at hg
        have hm : m % 2 ≠ 0 := Nat.ne_of_beq_eq_false hb
        rw [← T.get_eq0] at hg
        have this : 2 * a * (m / 2) + (2 * a + b) < N := ihr _ _ _ h3 _ _ hg
        have e : 2 * a * (m / 2) + a = a * m := by
          rw [show 2 * a * (m / 2) = a * (2 * (m / 2)) from by rw [Nat.mul_comm 2 a, Nat.mul_assoc]]
          rw [← Nat.mul_succ, show (2 * (m / 2)).succ = m from by omega]
        rw [Nat.mul_succ]; omega
end
end Go.Proofs.YtfcpiamdmbliaaaGreatDoor.Ev
