/-
  An evaluator, and what is proved of it. No conditions.
-/
import Derived.RangeFuncLeaves
import Derived.OrdersIn
import Derived.WalkKit
import Derived.Lib.UnsafeStr
set_option linter.unusedSimpArgs false
set_option linter.unusedVariables false
set_option linter.defProp false
namespace Go.Proofs.YtdmfakpngnlokaaGreatDoor.Ev
noncomputable section
def rzA := @Result.andThen_ok
def rzB := @Sem.run_bind
def rzC := @Sem.run_pure
def rzD := @Nat.eq_of_beq_eq_true
def rzE := @Nat.le_of_ble_eq_true
def rzF := @Nat.ne_of_beq_eq_false
def rzJ := @Array.getElem?_eq_getElem
def rzK := @List.getElem?_eq_getElem
inductive T (α : Type) where
 | e : T α
 | n (v : Option α) (l r : T α) : T α
namespace T
variable {α : Type}
def get0 : T α → Nat → Option α
 | .e, _ => none
 | .n v l r, k => match k with
   | 0 => v
   | k + 1 => match Nat.beq (Nat.mod k 2) 0 with
     | true => l.get0 (Nat.div k 2)
     | false => r.get0 (Nat.div k 2)
def single (v : α) : Nat → Nat → T α
 | 0, _ => .n (some v) .e .e
 | _ + 1, 0 => .n (some v) .e .e
 | f + 1, k + 1 => match Nat.beq (Nat.mod k 2) 0 with
   | true => .n none (single v f (Nat.div k 2)) .e
   | false => .n none .e (single v f (Nat.div k 2))
def set0 : T α → Nat → α → T α
 | .e, k, v => single v k k
 | .n o l r, k, v => match k with
   | 0 => .n (some v) l r
   | k + 1 => match Nat.beq (Nat.mod k 2) 0 with
     | true => .n o (l.set0 (Nat.div k 2) v) r
     | false => .n o l (r.set0 (Nat.div k 2) v)
theorem jiI (v : α) : ∀ (f k j : Nat), k ≤ f → (single v f k).get0 j = if j = k then some v else none := by
 intro f
 induction f with
 | zero =>
   intro k j hk
   obtain rfl : k = 0 := by omega
   cases j with
   | zero => rfl
   | succ j => simp only [single, get0]; cases Nat.beq (Nat.mod j 2) 0 <;> simp [get0]
 | succ f ih =>
   intro k j hk
   cases k with
   | zero =>
     cases j with
     | zero => rfl
     | succ j => simp only [single, get0]; cases Nat.beq (Nat.mod j 2) 0 <;> simp [get0]
   | succ k =>
     have hd : Nat.div k 2 ≤ f := by show k / 2 ≤ f; omega
     cases j with
     | zero =>
       simp only [single]
       cases Nat.beq (Nat.mod k 2) 0 <;> simp [get0]
     | succ j =>
       simp only [single]
       cases h1 : Nat.beq (Nat.mod k 2) 0 with
       | true =>
         simp only [get0]
         cases h2 : Nat.beq (Nat.mod j 2) 0 with
         | true =>
           rw [ih _ _ hd]
           have e1 : k % 2 = 0 := rzD h1
           have e2 : j % 2 = 0 := rzD h2
           have : (Nat.div j 2 = Nat.div k 2) ↔ (j + 1 = k + 1) := by show (j / 2 = k / 2) ↔ _; omega
           simp only [this]
         | false =>
           have e1 : k % 2 = 0 := rzD h1
           have e2 : j % 2 ≠ 0 := rzF h2
           rw [if_neg (by omega)]
       | false =>
         simp only [get0]
         cases h2 : Nat.beq (Nat.mod j 2) 0 with
         | true =>
           have e1 : k % 2 ≠ 0 := rzF h1
           have e2 : j % 2 = 0 := rzD h2
           rw [if_neg (by omega)]
         | false =>
           rw [ih _ _ hd]
           have e1 : k % 2 ≠ 0 := rzF h1
           have e2 : j % 2 ≠ 0 := rzF h2
           have : (Nat.div j 2 = Nat.div k 2) ↔ (j + 1 = k + 1) := by show (j / 2 = k / 2) ↔ _; omega
           simp only [this]
theorem get0_set0 : ∀ (t : T α) (k j : Nat) (v : α), (t.set0 k v).get0 j = if j = k then some v else t.get0 j := by
 intro t
 induction t with
 | e => intro k j v; rw [set0, jiI v k k j (Nat.le_refl _)]; rfl
 | n o l r ihl ihr =>
   intro k j v
   cases k with
   | zero =>
     cases j with
     | zero => rfl
     | succ j => simp [set0, get0]
   | succ k =>
     simp only [set0]
     cases h1 : Nat.beq (Nat.mod k 2) 0 with
     | true =>
       cases j with
       | zero => simp [get0]
       | succ j =>
         simp only [get0]
         cases h2 : Nat.beq (Nat.mod j 2) 0 with
         | true =>
           simp only [ihl]
           have e1 : k % 2 = 0 := rzD h1
           have e2 : j % 2 = 0 := rzD h2
           have : (Nat.div j 2 = Nat.div k 2) ↔ (j + 1 = k + 1) := by show (j / 2 = k / 2) ↔ _; omega
           simp only [this]
         | false =>
           have e1 : k % 2 = 0 := rzD h1
           have e2 : j % 2 ≠ 0 := rzF h2
           rw [if_neg (by omega)]
     | false =>
       cases j with
       | zero => simp [get0]
       | succ j =>
         simp only [get0]
         cases h2 : Nat.beq (Nat.mod j 2) 0 with
         | true =>
           have e1 : k % 2 ≠ 0 := rzF h1
           have e2 : j % 2 = 0 := rzD h2
           rw [if_neg (by omega)]
         | false =>
           simp only [ihr]
           have e1 : k % 2 ≠ 0 := rzF h1
           have e2 : j % 2 ≠ 0 := rzF h2
           have : (Nat.div j 2 = Nat.div k 2) ↔ (j + 1 = k + 1) := by show (j / 2 = k / 2) ↔ _; omega
           simp only [this]
def get (t : T α) : Nat → Option α :=
 T.rec (motive := fun _ => Nat → Option α) (fun _ => none)
  (fun v _ _ ihl ihr k => Nat.rec (motive := fun _ => Option α) v (fun k _ => Bool.rec (motive := fun _ => Option α) (ihr (Nat.div k 2)) (ihl (Nat.div k 2)) (Nat.beq (Nat.mod k 2) 0)) k) t
def set (t : T α) : Nat → α → T α :=
 T.rec (motive := fun _ => Nat → α → T α) (fun k v => T.single v k k)
  (fun o l r ihl ihr k v => Nat.rec (motive := fun _ => T α) (T.n (some v) l r) (fun k _ => Bool.rec (motive := fun _ => T α) (T.n o l (ihr (Nat.div k 2) v)) (T.n o (ihl (Nat.div k 2) v) r) (Nat.beq (Nat.mod k 2) 0)) k) t
theorem jgH : ∀ (t : T α) (k : Nat), t.get k = t.get0 k
 | .e, _ => rfl
 | .n v l r, 0 => rfl
 | .n v l r, k + 1 => by
   show Bool.rec (motive := fun _ => Option α) (r.get (Nat.div k 2)) (l.get (Nat.div k 2)) (Nat.beq (Nat.mod k 2) 0) = _
   simp only [get0]
   cases Nat.beq (Nat.mod k 2) 0
   ·exact jgH r _
   ·exact jgH l _
theorem jin : ∀ (t : T α) (k : Nat) (v : α), t.set k v = t.set0 k v
 | .e, _, _ => rfl
 | .n o l r, 0, _ => rfl
 | .n o l r, k + 1, v => by
   show Bool.rec (motive := fun _ => T α) (T.n o l (r.set (Nat.div k 2) v)) (T.n o (l.set (Nat.div k 2) v) r) (Nat.beq (Nat.mod k 2) 0) = _
   simp only [set0]
   cases Nat.beq (Nat.mod k 2) 0
   ·show T.n o l (r.set (Nat.div k 2) v) = T.n o l (r.set0 (Nat.div k 2) v)
    rw [jin r]
   ·show T.n o (l.set (Nat.div k 2) v) r = T.n o (l.set0 (Nat.div k 2) v) r
    rw [jin l]
theorem get_set (t : T α) (k j : Nat) (v : α) : (t.set k v).get j = if j = k then some v else t.get j := by
 rw [jgH, jgH, jin]; exact get0_set0 t k j v
theorem get_e (k : Nat) : (T.e : T α).get k = none := rfl
end T
def T.lay {α : Type} (t : T α) (i : Nat) : List α → T α
 | [] => t
 | v :: r => (t.set i v).lay (i + 1) r
theorem T.get_lay {α : Type} : ∀ (l : List α) (t : T α) (i j : Nat), (t.lay i l).get j = if i ≤ j ∧ j < i + l.length then l[j - i]? else t.get j := by
 intro l
 induction l with
 | nil => intro t i j; rw [T.lay, if_neg (by simp)]
 | cons v r ih =>
   intro t i j
   rw [T.lay, ih, T.get_set]
   by_cases h1 : i + 1 ≤ j ∧ j < i + 1 + r.length
   ·rw [if_pos h1, if_pos (by simp; omega)]
    rw [show j - i = (j - (i + 1)) + 1 from by omega, List.getElem?_cons_succ]
   ·rw [if_neg h1]
    by_cases h2 : j = i
    ·subst h2; rw [if_pos rfl, if_pos (by simp)]; simp
    ·rw [if_neg h2, if_neg (by simp; omega)]
inductive Loc where
 | unborn
 | dead
 | at (b s : Nat)
def CapRel (c c' l off sz : Nat) : Prop := (c % 2 = 0 ∧ c' = c / 2) ∨ (c % 2 = 1 ∧ l ≤ c' ∧ off + c' * (c / 2) ≤ sz)
def CapD (c c' l : Nat) : Prop := (c % 2 = 0 ∧ c' = c / 2) ∨ (c % 2 = 1 ∧ l ≤ c')
theorem CapRel.dead {c c' l off sz : Nat} (h : CapRel c c' l off sz) : CapD c c' l := h.imp id (fun h => ⟨h.1, h.2.1⟩)
inductive FnRel (J : Nat → Loc) : Fn → Fn → Prop where
 | func (f : FuncId) : FnRel J (.func f) (.func f)
 | method (name : String) : FnRel J (.method name) (.method name)
 | methodOf (t : TypeId) (name : String) : FnRel J (.methodOf t name) (.methodOf t name)
 | via (t : TypeId) (path : Array FieldStep) (f : FuncId) (p : Bool) : FnRel J (.via t path f p) (.via t path f p)
 | yield {l b s : Nat} (h : J l = .at b s) : FnRel J (.yield l) (.yield b)
 | yieldDead {l : Nat} (l' : Nat) (h : J l = .dead) : FnRel J (.yield l) (.yield l')
inductive VRel (J : Nat → Loc) : Value → Value → Prop where
 | any (r : Option Nat) (v : Value) : VRel J (.chan r) v
 | bool (b : Bool) : VRel J (.bool b) (.bool b)
 | int (k : IntKind) (n : Int) : VRel J (.int k n) (.int k n)
 | float (k : FloatKind) (n : Nat) : VRel J (.float k n) (.float k n)
 | complex (k : FloatKind) (n m : Nat) : VRel J (.complex k n m) (.complex k n m)
 | string (s : ByteArray) : VRel J (.string s) (.string s)
 | ptrNil : VRel J (.pointer none) (.pointer none)
 | ptr {i o b s : Nat} (h : J i = .at b s) : VRel J (.pointer (some ⟨i, o, none⟩)) (.pointer (some ⟨b, o, none⟩))
 | ptrDead {a : Addr} (a' : Addr) (h : J a.block = .dead) : VRel J (.pointer (some a)) (.pointer (some a'))
 | sliceNil (l c : Nat) : VRel J (.slice none l c) (.slice none l c)
 | slice {i o b s l c c' : Nat} (h : J i = .at b s) (hc : CapRel c c' l o s) : VRel J (.slice (some ⟨i, o, none⟩) l c) (.slice (some ⟨b, o, none⟩) l c')
 | sliceDead {a : Addr} {l c : Nat} (a' : Addr) (c' : Nat) (h : J a.block = .dead) (hc : CapD c c' l) : VRel J (.slice (some a) l c) (.slice (some a') l c')
 | mapNil : VRel J (.map none) (.map none)
 | map {i b s : Nat} (h : J i = .at b s) : VRel J (.map (some i)) (.map (some b))
 | mapDead {i : Nat} (b : Nat) (h : J i = .dead) : VRel J (.map (some i)) (.map (some b))
 | nilFunc : VRel J .nilFunc .nilFunc
 | func {fn fn' : Fn} {x x' y y' : Array Value} (h : FnRel J fn fn') (hx : x.size = x'.size) (hx' : ∀ (i : Nat) a b, x[i]? = some a → x'[i]? = some b → VRel J a b)
   (hy : y.size = y'.size) (hy' : ∀ (i : Nat) a b, y[i]? = some a → y'[i]? = some b → VRel J a b) : VRel J (.func fn x y) (.func fn' x' y')
 | iface {t : TypeId} {v v' : Value} (h : VRel J v v') : VRel J (.iface t v) (.iface t v')
 | nilIface : VRel J .nilIface .nilIface
 | agg {x x' : Array Value} (hx : x.size = x'.size) (hx' : ∀ (i : Nat) a b, x[i]? = some a → x'[i]? = some b → VRel J a b) : VRel J (.agg x) (.agg x')
 | tuple {x x' : Array Value} (hx : x.size = x'.size) (hx' : ∀ (i : Nat) a b, x[i]? = some a → x'[i]? = some b → VRel J a b) : VRel J (.tuple x) (.tuple x')
structure ARel (J : Nat → Loc) (x x' : Array Value) : Prop where
 size : x.size = x'.size
 at_ : ∀ (i : Nat) a b, x[i]? = some a → x'[i]? = some b → VRel J a b
theorem ARel.get {J : Nat → Loc} {x x' : Array Value} (h : ARel J x x') {i : Nat} {a : Value} (ha : x[i]? = some a) : ∃ b, x'[i]? = some b ∧ VRel J a b := by
 have hi : i < x'.size := by rw [← h.size]; exact (Array.getElem?_eq_some_iff.1 ha).1
 exact ⟨x'[i], rzJ hi, h.at_ i a _ ha (rzJ hi)⟩
structure Ext (J J' : Nat → Loc) : Prop where
 at_ : ∀ i b s, J i = .at b s → J' i = .at b s ∨ J' i = .dead
 dead : ∀ i, J i = .dead → J' i = .dead
theorem Ext.refl (J : Nat → Loc) : Ext J J := ⟨fun _ _ _ h => .inl h, fun _ h => h⟩
theorem Ext.trans {J K L : Nat → Loc} (h : Ext J K) (g : Ext K L) : Ext J L :=
 ⟨fun i b s e => by
  rcases h.at_ i b s e with e1 | e1
  ·exact g.at_ i b s e1
  ·exact .inr (g.dead i e1), fun i e => g.dead i (h.dead i e)⟩
theorem FnRel.mono {J J' : Nat → Loc} (h : Ext J J') {f f' : Fn} (hf : FnRel J f f') : FnRel J' f f' := by
 cases hf with
 | func f => exact .func f
 | method n => exact .method n
 | methodOf t n => exact .methodOf t n
 | via t p f b => exact .via t p f b
 | yield e => exact (h.at_ _ _ _ e).elim (fun e1 => .yield e1) (fun e1 => .yieldDead _ e1)
 | yieldDead l' e => exact .yieldDead l' (h.dead _ e)
theorem VRel.mono {J J' : Nat → Loc} (h : Ext J J') {v v' : Value} (hv : VRel J v v') : VRel J' v v' := by
 induction hv with
 | any r v => exact .any r v
 | bool b => exact .bool b
 | int k n => exact .int k n
 | float k n => exact .float k n
 | complex k n m => exact .complex k n m
 | string s => exact .string s
 | ptrNil => exact .ptrNil
 | ptr e => exact (h.at_ _ _ _ e).elim (fun e1 => .ptr e1) (fun e1 => .ptrDead _ e1)
 | ptrDead a' e => exact .ptrDead a' (h.dead _ e)
 | sliceNil l c => exact .sliceNil l c
 | slice e hc => exact (h.at_ _ _ _ e).elim (fun e1 => .slice e1 hc) (fun e1 => .sliceDead _ _ e1 hc.dead)
 | sliceDead a' c' e hc => exact .sliceDead a' c' (h.dead _ e) hc
 | mapNil => exact .mapNil
 | map e => exact (h.at_ _ _ _ e).elim (fun e1 => .map e1) (fun e1 => .mapDead _ e1)
 | mapDead b e => exact .mapDead b (h.dead _ e)
 | nilFunc => exact .nilFunc
 | func hf hx _ hy _ ihx ihy => exact .func (hf.mono h) hx (fun i a b ha hb => ihx i a b ha hb) hy (fun i a b ha hb => ihy i a b ha hb)
 | iface _ ih => exact .iface ih
 | nilIface => exact .nilIface
 | agg hx _ ih => exact .agg hx (fun i a b ha hb => ih i a b ha hb)
 | tuple hx _ ih => exact .tuple hx (fun i a b ha hb => ih i a b ha hb)
end
noncomputable section
inductive Ob where
 | cells (n : Nat) (t : TypeId) (zero : Array Value) (over : T Value) (lo hi : Nat) (fx sh : Bool)
 | map (es : List (Value × Value × Nat)) (clock : Nat)
 | siter (s : ByteArray) (pos : Nat)
 | loop (st : LoopState) (pe : Option Code) (ps : Array Tmp) (asg body : Code) (n : Nat) (tm : T Value) (d : Nat)
 | deferred
 | rom (l : List Value) (t : TypeId)
 | opn (t : TypeId)
 | held (c : Array Value) (t : TypeId) (fz : Nat × Nat)
 | pin (l : List Value) (c : Array Value) (t : TypeId) (fz : Nat × Nat)
 | dead
def deZ (s : Nat) : Int := if s % 2 = 0 then ((s / 2 : Nat) : Int) else -(((s + 1) / 2 : Nat) : Int)
theorem deZ_onto (m : Int) : ∃ s, deZ s = m := by
 cases m with
 | ofNat n => exact ⟨2 * n, by unfold deZ; rw [if_pos (by omega)]; show (((2 * n) / 2 : Nat) : Int) = (n : Int); omega⟩
 | negSucc n => exact ⟨2 * n + 1, by unfold deZ; rw [if_neg (by omega)]; omega⟩
structure Mem where
 obs : T Ob
 next : Nat
abbrev XT : Type := FuncId → List Value → Mem → Option (Value × Mem)
abbrev NT : Type := Nat → List Value → Mem → Option (Value × Mem)
def cellAt (zero : Array Value) (over : T Value) (i : Nat) : Value :=
 match over.get i with
 | some v => v
 | none => zero.getD (Nat.mod i zero.size) undef
def jah (tm : T Value) (t : Nat) : Value :=
 match tm.get t with
 | some v => v
 | none => undef
def RegRel (J : Nat → Loc) (tm : T Value) (tmps : Array Value) : Prop := ∀ (t : Nat), VRel J (jah tm t) (tmps.getD t undef)
def FzRel (fz : Nat × Nat) (s lo hi : Nat) (sh : Bool) : Prop := fz.1 = fz.2 ∨ (sh = true ∧ s ≤ fz.1) ∨ (lo ≤ fz.1 ∧ fz.2 ≤ hi ∧ lo < hi)
def ObRel (J : Nat → Loc) (w : World) (b s : Nat) : Ob → Prop
 | .cells n t zero over lo hi fx sh => ∃ c fz, w.heap[b]? = some (.cells c t fz) ∧ c.size = s ∧ n ≤ s ∧ (fx = false → n = s) ∧
   (∀ i, i < n → ∃ x, c[i]? = some x ∧ VRel J (cellAt zero over i) x) ∧ FzRel fz s lo hi sh
 | .map es clock => ∃ es', w.heap[b]? = some (.map es' clock) ∧ es.length = es'.size ∧
   ∀ (i : Nat) k v n, es[i]? = some (k, v, n) → ∃ e, es'[i]? = some e ∧ VRel J k e.key ∧ VRel J v e.val ∧ e.born = n
 | .siter x pos => w.heap[b]? = some (.stringIter x pos)
 | .loop st pe ps asg body n tm d => ∃ l : Loop, w.heap[b]? = some (.loop l) ∧ l.state = st ∧ l.pending = pe ∧ l.params = ps ∧ l.assign = asg ∧ l.body = body ∧ l.tmps.size = n ∧
   RegRel J tm l.tmps ∧ ((∃ z, J d = .at l.defers z) ∨ J d = .dead)
 | .deferred => w.heap[b]? = some (.deferred (some []))
 | .rom l t => w.heap[b]? = some (.cells l.toArray t (0, 0)) ∧ ∀ v ∈ l, VRel J v v
 | .opn t => w.heap[b]? = some (.cells #[.int .i64 (deZ s)] t (0, 0))
 | .held c t fz => w.heap[b]? = some (.cells c t fz)
 | .pin l c t fz => w.heap[b]? = some (.cells c t fz) ∧ ARel J l.toArray c
 | .dead => True
structure Rel (J : Nat → Loc) (μ : Mem) (w : World) : Prop where
 inj : ∀ i j b s t, J i = .at b s → J j = .at b t → i = j
 bnd : ∀ i b s, J i = .at b s → b < w.heap.size
 fresh : ∀ i, μ.next ≤ i → J i = .unborn
 obj : ∀ i o, μ.obs.get i = some o → o ≠ .dead → ∃ b s, J i = .at b s ∧ ObRel J w b s o
def gone (μ : Mem) (i : Nat) : Prop := ∀ o, μ.obs.get i = some o → o = .dead
structure Step (J : Nat → Loc) (μ : Mem) (w : World) (J' : Nat → Loc) (μ' : Mem) (w' : World) : Prop where
 at_ : ∀ i b s, J i = .at b s → J' i = .at b s ∨ (J' i = .dead ∧ ¬ gone μ i)
 dead : ∀ i, J i = .dead → J' i = .dead
 unborn : ∀ i, i < μ.next → J i = .unborn → J' i = .unborn
 born : ∀ i b s, J i = .unborn → J' i = .at b s → w.heap.size ≤ b ∨ ∃ j t, J j = .at b t ∧ ¬ gone μ j
 next : μ.next ≤ μ'.next
 gone_ : ∀ i, i < μ.next → gone μ i → gone μ' i
 size : w.heap.size ≤ w'.heap.size
 frame : ∀ b, b < w.heap.size → (∀ i s, J i = .at b s → gone μ i) → w'.heap[b]? = w.heap[b]?
 os : w'.os = w.os
 tape : w'.tape = w.tape
 output : w'.output = w.output
theorem Step.ext {J : Nat → Loc} {μ : Mem} {w : World} {J' : Nat → Loc} {μ' : Mem} {w' : World} (h : Step J μ w J' μ' w') : Ext J J' :=
 ⟨fun i b s e => (h.at_ i b s e).imp id (·.1), h.dead⟩
theorem Step.refl (J : Nat → Loc) (μ : Mem) (w : World) : Step J μ w J μ w where
 at_ i b s h := .inl h
 dead i h := h
 unborn i _ h := h
 born i b s h g := by rw [h] at g; cases g
 next := Nat.le_refl _
 gone_ i _ h := h
 size := Nat.le_refl _
 frame b _ _ := rfl
 os := rfl
 tape := rfl
 output := rfl
theorem jdn {J : Nat → Loc} {μ : Mem} {w : World} (h : Rel J μ w) {i b s : Nat} (e : J i = .at b s) : i < μ.next := by
 rcases Nat.lt_or_ge i μ.next with h1 | h1
 ·exact h1
 ·rw [h.fresh i h1] at e; cases e
theorem Step.trans {J : Nat → Loc} {μ : Mem} {w : World} {J1 : Nat → Loc} {μ1 : Mem} {w1 : World} {J2 : Nat → Loc} {μ2 : Mem} {w2 : World}
  (hr : Rel J μ w) (h : Step J μ w J1 μ1 w1) (g : Step J1 μ1 w1 J2 μ2 w2) : Step J μ w J2 μ2 w2 where
 at_ i b s e := by
  rcases h.at_ i b s e with e1 | ⟨e1, e2⟩
  ·rcases g.at_ i b s e1 with e3 | ⟨e3, e4⟩
   ·exact .inl e3
   ·exact .inr ⟨e3, fun hg => e4 (h.gone_ i (jdn hr e) hg)⟩
  ·exact .inr ⟨g.dead i e1, e2⟩
 dead i e := g.dead i (h.dead i e)
 unborn i hi e := g.unborn i (Nat.lt_of_lt_of_le hi h.next) (h.unborn i hi e)
 born i b s e e2 := by
  match e1 : J1 i with
  | .dead => rw [g.dead i e1] at e2; cases e2
  | .at b' s' =>
    rcases g.at_ i b' s' e1 with e3 | ⟨e3, _⟩
    ·rw [e3] at e2; cases e2; exact h.born i b s e e1
    ·rw [e3] at e2; cases e2
  | .unborn =>
    rcases g.born i b s e1 e2 with h1 | ⟨j, t, hj, hg⟩
    ·exact .inl (Nat.le_trans h.size h1)
    ·match ej : J j with
     | .dead => rw [h.dead j ej] at hj; cases hj
     | .at b' s' =>
       rcases h.at_ j b' s' ej with e3 | ⟨e3, _⟩
       ·rw [e3] at hj; cases hj
        exact .inr ⟨j, t, ej, fun hgj => hg (h.gone_ j (jdn hr ej) hgj)⟩
       ·rw [e3] at hj; cases hj
     | .unborn => exact h.born j b t ej hj
 next := Nat.le_trans h.next g.next
 gone_ i hi hg := g.gone_ i (Nat.lt_of_lt_of_le hi h.next) (h.gone_ i hi hg)
 size := Nat.le_trans h.size g.size
 frame b hb hall := by
  rw [g.frame b (Nat.lt_of_lt_of_le hb h.size) ?_, h.frame b hb hall]
  intro i s e1
  match e : J i with
  | .dead => rw [h.dead i e] at e1; cases e1
  | .at b' s' =>
    rcases h.at_ i b' s' e with e3 | ⟨e3, _⟩
    ·rw [e3] at e1; cases e1; exact h.gone_ i (jdn hr e) (hall i s e)
    ·rw [e3] at e1; cases e1
  | .unborn =>
    rcases h.born i b s e e1 with h1 | ⟨j, t, hj, hg⟩
    ·omega
    ·exact absurd (hall j t hj) hg
 os := g.os.trans h.os
 tape := g.tape.trans h.tape
 output := g.output.trans h.output
theorem RegRel.mono {J J' : Nat → Loc} (h : Ext J J') {tm : T Value} {tmps : Array Value} (hr : RegRel J tm tmps) : RegRel J' tm tmps :=
 fun t => (hr t).mono h
theorem ObRel.keep {J J' : Nat → Loc} {w w' : World} {b s : Nat} {o : Ob} (he : Ext J J') (hw : w'.heap[b]? = w.heap[b]?) (h : ObRel J w b s o) : ObRel J' w' b s o := by
 cases o with
 | cells n t zero over lo hi fx sh =>
   obtain ⟨c, fz, h1, h2, h3, h4, h5, h6⟩ := h
   exact ⟨c, fz, hw.trans h1, h2, h3, h4, fun i hi => let ⟨x, hx, hv⟩ := h5 i hi; ⟨x, hx, hv.mono he⟩, h6⟩
 | map es clock =>
   obtain ⟨es', h1, h2, h3⟩ := h
   exact ⟨es', hw.trans h1, h2, fun i k v n e => let ⟨e', a, b, c, d⟩ := h3 i k v n e; ⟨e', a, b.mono he, c.mono he, d⟩⟩
 | siter x pos => exact hw.trans h
 | loop st pe ps asg body n tm d =>
   obtain ⟨l, h1, h2, h3, h4, h5, h6, h7, h8, h9⟩ := h
   refine ⟨l, hw.trans h1, h2, h3, h4, h5, h6, h7, h8.mono he, ?_⟩
   rcases h9 with ⟨z, hz⟩ | hz
   ·exact (he.at_ _ _ _ hz).elim (fun e => .inl ⟨z, e⟩) .inr
   ·exact .inr (he.dead _ hz)
 | deferred => exact hw.trans h
 | rom l t => exact ⟨hw.trans h.1, fun v hv => (h.2 v hv).mono he⟩
 | opn t => exact hw.trans h
 | held c t fz => exact hw.trans h
 | pin l c t fz => exact ⟨hw.trans h.1, h.2.size, fun i a b ha hb => (h.2.at_ i a b ha hb).mono he⟩
 | dead => trivial
theorem Rel.heap {J : Nat → Loc} {μ : Mem} {w w' : World} (h : Rel J μ w) (e : w'.heap = w.heap) : Rel J μ w' where
 inj := h.inj
 bnd i b s hi := by rw [e]; exact h.bnd i b s hi
 fresh := h.fresh
 obj i o hi hd := let ⟨b, s, hb, ho⟩ := h.obj i o hi hd; ⟨b, s, hb, ho.keep (Ext.refl J) (by rw [e])⟩
def upd (J : Nat → Loc) (i : Nat) (l : Loc) : Nat → Loc := fun j => if j = i then l else J j
theorem upd_same (J : Nat → Loc) (i : Nat) (l : Loc) : upd J i l i = l := by simp [upd]
theorem jav {J : Nat → Loc} {i j : Nat} {l : Loc} (h : j ≠ i) : upd J i l j = J j := by simp [upd, h]
theorem jda {J : Nat → Loc} {i : Nat} (l : Loc) (h : J i = .unborn) : Ext J (upd J i l) :=
 ⟨fun j b s e => by
  by_cases hj : j = i
  ·subst hj; rw [h] at e; cases e
  ·exact .inl (by rw [jav hj]; exact e),
  fun j e => by
   by_cases hj : j = i
   ·subst hj; rw [h] at e; cases e
   ·rw [jav hj]; exact e⟩
theorem jd5 (w : World) (o : Obj) {b : Nat} (h : b < w.heap.size) : (w.alloc o).heap[b]? = w.heap[b]? := by
 simp only [World.alloc, Array.getElem?_push]
 rw [if_neg (by omega)]
theorem heap_alloc_new (w : World) (o : Obj) : (w.alloc o).heap[w.heap.size]? = some o := by
 unfold World.alloc; simp
theorem Rel.alloc {J : Nat → Loc} {μ : Mem} {w : World} (h : Rel J μ w) {i nx : Nat} (s : Nat) (o : Ob) (o' : Obj) (hu : J i = .unborn) (hi : i < nx) (hnx : μ.next ≤ nx)
  (ho : ObRel (upd J i (.at w.heap.size s)) (w.alloc o') w.heap.size s o) : Rel (upd J i (.at w.heap.size s)) ⟨μ.obs.set i o, nx⟩ (w.alloc o') where
 inj a b c s' t' ha hb := by
  by_cases h1 : a = i
  ·by_cases h2 : b = i
   ·rw [h1, h2]
   ·subst h1
    rw [upd_same] at ha; cases ha
    rw [jav h2] at hb
    exact absurd (h.bnd _ _ _ hb) (Nat.lt_irrefl _)
  ·by_cases h2 : b = i
   ·subst h2
    rw [upd_same] at hb; cases hb
    rw [jav h1] at ha
    exact absurd (h.bnd _ _ _ ha) (Nat.lt_irrefl _)
   ·rw [jav h1] at ha
    rw [jav h2] at hb
    exact h.inj _ _ _ _ _ ha hb
 bnd a b s' ha := by
  rw [World.size_alloc]
  by_cases h1 : a = i
  ·subst h1; rw [upd_same] at ha; cases ha; omega
  ·rw [jav h1] at ha; have := h.bnd _ _ _ ha; omega
 fresh a ha := by
  have ha : nx ≤ a := ha
  rw [jav (by omega)]
  exact h.fresh a (by omega)
 obj a o2 ha hd := by
  simp only [T.get_set] at ha
  by_cases h1 : a = i
  ·rw [if_pos h1] at ha; cases ha
   subst h1
   exact ⟨_, _, upd_same _ _ _, ho⟩
  ·rw [if_neg h1] at ha
   obtain ⟨b, s', hb, hob⟩ := h.obj a o2 ha hd
   exact ⟨b, s', by rw [jav h1]; exact hb, hob.keep (jda _ hu) (jd5 w o' (h.bnd _ _ _ hb))⟩
theorem Step.alloc {J : Nat → Loc} {μ : Mem} {w : World} (h : Rel J μ w) {i nx : Nat} (s : Nat) (o : Ob) (o' : Obj) (hu : μ.next ≤ i) (hi : i < nx) (hnx : μ.next ≤ nx) :
  Step J μ w (upd J i (.at w.heap.size s)) ⟨μ.obs.set i o, nx⟩ (w.alloc o') where
 at_ a b s' e := by
  by_cases h1 : a = i
  ·subst h1; rw [h.fresh _ hu] at e; cases e
  ·exact .inl (by rw [jav h1]; exact e)
 dead a e := by
  by_cases h1 : a = i
  ·subst h1; rw [h.fresh _ hu] at e; cases e
  ·rw [jav h1]; exact e
 unborn a ha e := by rw [jav (by omega)]; exact e
 born a b s' e e2 := by
  by_cases h1 : a = i
  ·subst h1; rw [upd_same] at e2; cases e2; exact .inl (Nat.le_refl _)
  ·rw [jav h1, e] at e2; cases e2
 next := hnx
 gone_ a ha hg o2 ho2 := by
  simp only [T.get_set] at ho2
  rw [if_neg (by omega)] at ho2
  exact hg o2 ho2
 size := by rw [World.size_alloc]; omega
 frame b hb _ := jd5 w o' hb
 os := rfl
 tape := rfl
 output := rfl
theorem Rel.update {J : Nat → Loc} {μ : Mem} {w w' : World} (h : Rel J μ w) {i b s : Nat} (hi : J i = .at b s) (o2 : Ob) (hsz : w'.heap.size = w.heap.size)
  (hoth : ∀ c, c ≠ b → w'.heap[c]? = w.heap[c]?) (ho : ObRel J w' b s o2) : Rel J ⟨μ.obs.set i o2, μ.next⟩ w' where
 inj := h.inj
 bnd a c t e := by rw [hsz]; exact h.bnd a c t e
 fresh := h.fresh
 obj a o e hd := by
  simp only [T.get_set] at e
  by_cases h1 : a = i
  ·rw [if_pos h1] at e; cases e; subst h1; exact ⟨b, s, hi, ho⟩
  ·rw [if_neg h1] at e
   obtain ⟨c, t, hc, hob⟩ := h.obj a o e hd
   refine ⟨c, t, hc, hob.keep (Ext.refl J) (hoth c fun e2 => h1 ?_)⟩
   subst e2
   exact h.inj _ _ _ _ _ hc hi
theorem Step.update {J : Nat → Loc} {μ : Mem} {w w' : World} {i b s : Nat} (hi : J i = .at b s) (hp : ¬ gone μ i) (o2 : Ob) (hsz : w'.heap.size = w.heap.size)
  (hoth : ∀ c, c ≠ b → w'.heap[c]? = w.heap[c]?) (h1 : w'.os = w.os) (h2 : w'.tape = w.tape) (h3 : w'.output = w.output) : Step J μ w J ⟨μ.obs.set i o2, μ.next⟩ w' where
 at_ a c t e := .inl e
 dead a e := e
 unborn a _ e := e
 born a c t e e2 := by rw [e] at e2; cases e2
 next := Nat.le_refl _
 gone_ a ha hg o ho := by
  simp only [T.get_set] at ho
  by_cases e : a = i
  ·subst e; exact absurd hg hp
  ·rw [if_neg e] at ho; exact hg o ho
 size := by rw [hsz]; exact Nat.le_refl _
 frame c hc hall := by
  refine hoth c fun e => ?_
  subst e
  exact hp (hall i s hi)
 os := h1
 tape := h2
 output := h3
end
noncomputable section
def jaw : Nat → Value → Bool
 | 0, _ => false
 | n + 1, v => match v with
   | .int _ _ => true
   | .bool _ => true
   | .string _ => true
   | .float _ _ => true
   | .complex _ _ _ => true
   | .pointer none => true
   | .slice none _ _ => true
   | .map none => true
   | .nilFunc => true
   | .nilIface => true
   | .iface _ x => jaw n x
   | .agg cs => cs.toList.all (jaw n)
   | .tuple cs => cs.toList.all (jaw n)
   | .func fn x y => match fn with
     | .func _ => x.toList.isEmpty && y.toList.isEmpty
     | _ => false
   | _ => false
theorem arr_eq {J : Nat → Loc} {n : Nat} (ih : ∀ {v v' : Value}, jaw n v = true → VRel J v v' → v' = v) {x x' : Array Value} (h : x.toList.all (jaw n) = true)
  (hx : x.size = x'.size) (hx' : ∀ (i : Nat) a b, x[i]? = some a → x'[i]? = some b → VRel J a b) : x' = x := by
 refine Array.ext hx.symm fun i h1 h2 => ?_
 refine ih ?_ (hx' i x[i] x'[i] (rzJ h2) (rzJ h1))
 rw [List.all_eq_true] at h
 exact h _ (by simp)
theorem jeW {J : Nat → Loc} : ∀ (n : Nat) {v v' : Value}, jaw n v = true → VRel J v v' → v' = v := by
 intro n
 induction n with
 | zero => intro v v' h; simp [jaw] at h
 | succ n ih =>
   intro v v' h hv
   cases hv with
   | any r v => simp [jaw] at h
   | bool b => rfl
   | int k n => rfl
   | float k n => rfl
   | complex k n m => rfl
   | string s => rfl
   | ptrNil => rfl
   | ptr e => simp [jaw] at h
   | ptrDead a' e => simp [jaw] at h
   | sliceNil l c => rfl
   | slice e hc => simp [jaw] at h
   | sliceDead a' c' e hc => simp [jaw] at h
   | mapNil => rfl
   | map e => simp [jaw] at h
   | mapDead b e => simp [jaw] at h
   | nilFunc => rfl
   | func hf hx hx' hy hy' =>
     rename_i fn fn' x x' y y'
     cases hf with
     | func f =>
       simp only [jaw, Bool.and_eq_true, List.isEmpty_iff] at h
       have h1 : x = #[] := by cases x; simp_all
       have h2 : y = #[] := by cases y; simp_all
       subst h1 h2
       have h1 : x' = #[] := Array.eq_empty_of_size_eq_zero (by rw [← hx]; simp)
       have h2 : y' = #[] := Array.eq_empty_of_size_eq_zero (by rw [← hy]; simp)
       rw [h1, h2]
     | _ => simp [jaw] at h
   | iface hx => rw [ih (by simpa [jaw] using h) hx]
   | nilIface => rfl
   | agg hx hx' => rw [arr_eq ih (by simpa only [jaw] using h) hx hx']
   | tuple hx hx' => rw [arr_eq ih (by simpa only [jaw] using h) hx hx']
theorem jjV {J : Nat → Loc} {n : Nat} (ih : ∀ {v : Value}, jaw n v = true → VRel J v v) {x : Array Value} (h : x.toList.all (jaw n) = true) :
  ∀ (i : Nat) a b, x[i]? = some a → x[i]? = some b → VRel J a b := by
 intro i a b ha hb
 rw [ha] at hb; cases hb
 refine ih ?_
 rw [List.all_eq_true] at h
 obtain ⟨hi, rfl⟩ := Array.getElem?_eq_some_iff.1 ha
 exact h _ (by simp)
theorem ja1 {J : Nat → Loc} : ∀ (n : Nat) {v : Value}, jaw n v = true → VRel J v v := by
 intro n
 induction n with
 | zero => intro v h; simp [jaw] at h
 | succ n ih =>
   intro v h
   cases v with
   | bool b => exact .bool b
   | int k n => exact .int k n
   | float k n => exact .float k n
   | complex k a b => exact .complex k a b
   | string s => exact .string s
   | pointer a => cases a with | none => exact .ptrNil | some a => simp [jaw] at h
   | slice a l c => cases a with | none => exact .sliceNil l c | some a => simp [jaw] at h
   | map r => cases r with | none => exact .mapNil | some a => simp [jaw] at h
   | chan r => simp [jaw] at h
   | func fn x y =>
     cases fn with
     | func f =>
       simp only [jaw, Bool.and_eq_true, List.isEmpty_iff] at h
       have h1 : x = #[] := by cases x; simp_all
       have h2 : y = #[] := by cases y; simp_all
       subst h1 h2
       exact .func (.func _) rfl (fun i a b ha => by simp at ha) rfl (fun i a b ha => by simp at ha)
     | _ => simp [jaw] at h
   | nilFunc => exact .nilFunc
   | iface t x => exact .iface (ih (by simpa [jaw] using h))
   | nilIface => exact .nilIface
   | agg cs => exact .agg rfl (jjV ih (by simpa only [jaw] using h))
   | tuple cs => exact .tuple rfl (jjV ih (by simpa only [jaw] using h))
end
noncomputable section
variable {P : Program} {J : Nat → Loc}
def pv (P : Program) {α : Type} : Sem α → Option α
 | .pure a => some a
 | .program k => pv P (k P)
 | .mark _ k => pv P k
 | .choose q k => match q.forced with
   | true => pv P (k 0)
   | false => none
 | _ => none
theorem pv_run {α : Type} {a : α} : ∀ {s : Sem α}, pv P s = some a → ∀ w, s.run P w = .ok a w := by
 intro s
 induction s with
 | pure x => intro h w; simp only [pv, Option.some.injEq] at h; subst h; rfl
 | program k ih => intro h w; simp only [pv] at h; simp only [Sem.run]; exact ih P h w
 | mark m k ih => intro h w; simp only [pv] at h; simp only [Sem.run]; exact ih h w
 | choose q k ih =>
   intro h w
   simp only [pv] at h
   split at h
   ·rename_i hq
    simp only [Sem.run, hq, if_true]; exact ih 0 h w
   ·cases h
 | _ => intro h; simp [pv] at h
def jbn (ρ : Operand → Value) : List Operand → Bool
 | [] => true
 | x :: r => match jaw 5 (ρ x) with
   | true => jbn ρ r
   | false => false
theorem plains_eq {ρ ρ' : Operand → Value} (hρ : ∀ x, VRel J (ρ x) (ρ' x)) : ∀ (l : List Operand), jbn ρ l = true → ∀ x ∈ l, ρ' x = ρ x := by
 intro l
 induction l with
 | nil => intro _ x hx; cases hx
 | cons y r ih =>
   intro h x hx
   simp only [jbn] at h
   split at h
   ·rename_i hy
    rcases List.mem_cons.1 hx with e | e
    ·subst e; exact jeW 5 hy (hρ x)
    ·exact ih h x e
   ·cases h
def opsOf : Op → Option (List Operand)
 | .binOp _ _ x y _ => some [x, y]
 | .unOp _ _ x => some [x]
 | .convert _ _ x => some [x]
 | .index _ x i => some [x, i]
 | .field _ x _ => some [x]
 | .typeAssert x _ _ _ => some [x]
 | .slice _ x none none none => some [x]
 | .slice _ x (some l) none none => some [x, l]
 | .slice _ x none (some h) none => some [x, h]
 | .slice _ x (some l) (some h) none => some [x, l, h]
 | _ => none
theorem jhA {op : Op} {l : List Operand} (h : opsOf op = some l) : (∀ cs b, op ≠ .select cs b) ∧ ∀ x ∈ op.operands, x ∈ l := by
 unfold opsOf at h
 split at h <;> first | (cases h; done) | skip
 all_goals
  cases h
  exact ⟨fun cs b e => (by cases e), fun x hx => by simpa [Op.operands] using hx⟩
def jaC (P : Program) (ρ : Operand → Value) (o : Oper) : Option Value :=
 match opsOf o.op with
 | none => none
 | some l => match jbn ρ l with
   | true => match pv P (execOp ρ o) with
     | some (.value v) => match jaw 5 v with
       | true => some v
       | false => none
     | _ => none
   | false => none
def Gives (P : Program) (J : Nat → Loc) (ρ' : Operand → Value) (o : Oper) (v : Value) : Prop :=
 ∃ v', VRel J v v' ∧ ∀ w, (execOp ρ' o).run P w = .ok (.value v') w
theorem jcg {ρ ρ' : Operand → Value} (hρ : ∀ x, VRel J (ρ x) (ρ' x)) {o : Oper} {v : Value} (h : jaC P ρ o = some v) : Gives P J ρ' o v := by
 unfold jaC at h
 split at h
 ·cases h
 ·rename_i l hl
  obtain ⟨hsel, hmem⟩ := jhA hl
  split at h
  ·rename_i hp
   split at h
   ·rename_i v1 hv
    split at h
    ·rename_i hpl
     cases h
     refine ⟨v, ja1 5 hpl, fun w => ?_⟩
     rw [execOp_congr (ρ := ρ') (ρ' := ρ) o hsel (fun x hx => plains_eq hρ _ hp x (hmem x hx))]
     exact pv_run hv w
    ·cases h
   ·cases h
  ·cases h
theorem ja4 {k : IntKind} {n : Int} {p : Value} (h : VRel J (.int k n) p) : p = .int k n := by cases h; rfl
theorem jed {b : Bool} {p : Value} (h : VRel J (.bool b) p) : p = .bool b := by cases h; rfl
theorem jbb {s : ByteArray} {p : Value} (h : VRel J (.string s) p) : p = .string s := by cases h; rfl
theorem agg_inv {x : Array Value} {p : Value} (h : VRel J (.agg x) p) : ∃ x', p = .agg x' ∧ ARel J x x' := by cases h; exact ⟨_, rfl, ‹_›, ‹_›⟩
theorem tuple_inv {x : Array Value} {p : Value} (h : VRel J (.tuple x) p) : ∃ x', p = .tuple x' ∧ ARel J x x' := by cases h; exact ⟨_, rfl, ‹_›, ‹_›⟩
theorem jcW {t : TypeId} {v p : Value} (h : VRel J (.iface t v) p) : ∃ v', p = .iface t v' ∧ VRel J v v' := by cases h; exact ⟨_, rfl, ‹_›⟩
theorem jdj {a : Addr} {p : Value} (h : VRel J (.pointer (some a)) p) : ∃ a', p = .pointer (some a') ∧ ∀ n, VRel J (.pointer (some (a.add n))) (.pointer (some (a'.add n))) := by
 cases h with
 | ptr e =>
   refine ⟨_, rfl, fun n => ?_⟩
   unfold Addr.add
   by_cases hn : n = 0
   ·rw [if_pos hn, if_pos hn]; exact .ptr e
   ·rw [if_neg hn, if_neg hn]; exact .ptr e
 | ptrDead a' e =>
   refine ⟨_, rfl, fun n => ?_⟩
   refine .ptrDead _ ?_
   unfold Addr.add
   by_cases hn : n = 0
   ·rw [if_pos hn]; exact e
   ·rw [if_neg hn]; exact e
theorem jbi {a : Addr} {l c : Nat} {p : Value} (h : VRel J (.slice (some a) l c) p) : ∃ a' c', p = .slice (some a') l c' ∧ (∀ n, VRel J (.pointer (some (a.add n))) (.pointer (some (a'.add n)))) ∧
  ((∃ i o b s, a = ⟨i, o, none⟩ ∧ a' = ⟨b, o, none⟩ ∧ J i = .at b s ∧ CapRel c c' l o s) ∨ (J a.block = .dead ∧ CapD c c' l)) := by
 cases h with
 | slice e hc =>
   refine ⟨_, _, rfl, fun n => ?_, .inl ⟨_, _, _, _, rfl, rfl, e, hc⟩⟩
   unfold Addr.add
   by_cases hn : n = 0
   ·rw [if_pos hn, if_pos hn]; exact .ptr e
   ·rw [if_neg hn, if_neg hn]; exact .ptr e
 | sliceDead a' c' e hc =>
   refine ⟨_, _, rfl, fun n => ?_, .inr ⟨e, hc⟩⟩
   refine .ptrDead _ ?_
   unfold Addr.add
   by_cases hn : n = 0
   ·rw [if_pos hn]; exact e
   ·rw [if_neg hn]; exact e
theorem jar {t : TypeId} {d : TypeDesc} (h : P.underlying t = some d) (w : World) : (underlying t).run P w = .ok d w := by
 simp [underlying, program, rzB, Sem.run, Result.andThen, h, pure]
theorem jc5 {t : TypeId} {d : TypeInfo} (h : P.info? t = some d) (w : World) : (typeInfo t).run P w = .ok d w := by
 simp [typeInfo, program, rzB, Sem.run, Result.andThen, h, pure]
theorem ja9 {t : TypeId} {d : TypeInfo} (h : P.info? t = some d) (w : World) : (sizeOf t).run P w = .ok d.size w := by
 simp [sizeOf, rzB, jc5 h, Result.andThen, rzC]
def aIdx (P : Program) (a : Addr) (len : Nat) (e : TypeId) (n : Int) : Option Value :=
 match P.info? e with
 | some inf => match n with
   | .ofNat m => match Nat.blt m len with
     | true => some (.pointer (some (a.add (Nat.mul m inf.size))))
     | false => none
   | _ => none
 | none => none
def jaL (P : Program) (ρ : Operand → Value) (s : TypeId) (x : Operand) (f : Nat) : Option Value :=
 match ρ x with
 | .pointer (some a) => match P.underlying s with
   | some (.struct fields) => match fields[f]? with
     | some fd => match P.info? fd.type with
       | some inf => match Nat.beq inf.size 0 with
         | true => none
         | false => some (.pointer (some (a.add fd.offset)))
       | none => none
     | none => none
   | _ => none
 | _ => none
def jal (P : Program) (ρ : Operand → Value) (t : TypeId) (x ix : Operand) : Option Value :=
 match ρ ix with
 | .int _ n => match ρ x with
   | .pointer (some a) => match P.underlying t with
     | some (.array len e) => aIdx P a len e n
     | _ => none
   | .slice (some a) len _ => match P.underlying t with
     | some (.slice e) => aIdx P a len e n
     | _ => none
   | _ => none
 | _ => none
theorem jeS {ρ ρ' : Operand → Value} (hρ : ∀ x, VRel J (ρ x) (ρ' x)) {o : Oper} {s : TypeId} {x : Operand} {f : Nat} {v : Value} (ho : o.op = .fieldAddr s x f)
  (h : jaL P ρ s x f = some v) : Gives P J ρ' o v := by
 unfold jaL at h
 split at h
 ·rename_i a hx
  have hv := hρ x
  rw [hx] at hv
  obtain ⟨a', hx', hadd⟩ := jdj hv
  split at h
  ·rename_i fields hu
   split at h
   ·rename_i fd hfd
    split at h
    ·rename_i inf hinf
     split at h
     ·cases h
     ·rename_i hz
      cases h
      refine ⟨_, hadd fd.offset, fun w => ?_⟩
      have hz' : inf.size ≠ 0 := rzF hz
      simp only [execOp, ho, Instr.fieldAt, rzB, jar hu, rzA, hfd, hx', Instr.sureAddr, fieldPlace, ja9 hinf, if_neg hz', rzC]
    ·cases h
   ·cases h
  ·cases h
 ·cases h
theorem jj0 {ρ' : Operand → Value} {a a' : Addr} {len : Nat} {e : TypeId} {n : Int} {v : Value} (hadd : ∀ n, VRel J (.pointer (some (a.add n))) (.pointer (some (a'.add n))))
  (h : aIdx P a len e n = some v) : ∃ inf m, P.info? e = some inf ∧ n = (m : Nat) ∧ m < len ∧ VRel J v (.pointer (some (a'.add (m * inf.size)))) := by
 unfold aIdx at h
 split at h
 ·rename_i inf hinf
  split at h
  ·rename_i m
   split at h
   ·rename_i hb
    cases h
    exact ⟨inf, m, hinf, rfl, by simpa using hb, hadd _⟩
   ·cases h
  ·cases h
 ·cases h
theorem jeR {ρ ρ' : Operand → Value} (hρ : ∀ x, VRel J (ρ x) (ρ' x)) {o : Oper} {t : TypeId} {x ix : Operand} {v : Value} (ho : o.op = .indexAddr t x ix)
  (h : jal P ρ t x ix = some v) : Gives P J ρ' o v := by
 unfold jal at h
 split at h
 ·rename_i k n hi
  have hvi := hρ ix
  rw [hi] at hvi
  have hi' : ρ' ix = .int k n := ja4 hvi
  have hv := hρ x
  split at h
  ·rename_i a hx
   rw [hx] at hv
   obtain ⟨a', hx', hadd⟩ := jdj hv
   split at h
   ·rename_i len e hu
    obtain ⟨inf, m, hinf, rfl, hlt, hr⟩ := jj0 (ρ' := ρ') hadd h
    refine ⟨_, hr, fun w => ?_⟩
    have h1 : (0 : Int) ≤ (m : Int) ∧ (m : Int) < (len : Int) := ⟨by omega, by omega⟩
    simp only [execOp, ho, Instr.indexAt, rzB, jar hu, rzA, hi', asIntOf, hx', Instr.sureAddr, if_pos h1, ja9 hinf, rzC, Int.toNat_natCast]
   ·cases h
  ·rename_i a len c hx
   rw [hx] at hv
   obtain ⟨a', c', hx', hadd, _⟩ := jbi hv
   split at h
   ·rename_i e hu
    obtain ⟨inf, m, hinf, rfl, hlt, hr⟩ := jj0 (ρ' := ρ') hadd h
    refine ⟨_, hr, fun w => ?_⟩
    have h1 : (0 : Int) ≤ (m : Int) ∧ (m : Int) < (len : Int) := ⟨by omega, by omega⟩
    simp only [execOp, ho, Instr.indexAt, rzB, jar hu, rzA, hi', asIntOf, hx', Instr.sureAddr, if_pos h1, ja9 hinf, rzC, Int.toNat_natCast]
   ·cases h
  ·cases h
 ·cases h
end
noncomputable section
variable {P : Program} {J : Nat → Loc}
theorem jij (bs : ByteArray) : ∀ (n i : Nat) (r : List UInt8), bs.size - i = n → ByteArray.toList.loop bs i r = r.reverse ++ bs.data.toList.drop i := by
 intro n
 induction n with
 | zero =>
   intro i r h
   rw [ByteArray.toList.loop, if_neg (by omega), List.drop_of_length_le (by rw [Array.length_toList]; show bs.size ≤ i; omega), List.append_nil]
 | succ n ih =>
   intro i r h
   have hi : i < bs.size := by omega
   rw [ByteArray.toList.loop, if_pos hi, ih (i + 1) _ (by omega)]
   have hd : i < bs.data.toList.length := by simpa using hi
   rw [List.drop_eq_getElem_cons hd, List.reverse_cons, List.append_assoc]
   congr 1
   show [bs.get! i] ++ _ = _
   rw [List.singleton_append]
   congr 1
   show bs.data[i]! = _
   rw [getElem!_pos bs.data i (by simpa using hi)]
   simp
theorem toList_data (bs : ByteArray) : bs.toList = bs.data.toList := by
 rw [ByteArray.toList, jij bs bs.size 0 [] (by omega)]
 simp
def jfQ (ρ : Operand → Value) (c a b : Operand) : Option Value :=
 match ρ c with
 | .bool true => some (ρ a)
 | .bool false => some (ρ b)
 | _ => none
theorem ji4 {ρ ρ' : Operand → Value} (hρ : ∀ x, VRel J (ρ x) (ρ' x)) {o : Oper} {c a b : Operand} {v : Value} (ho : o.op = .pick c a b)
  (h : jfQ ρ c a b = some v) : Gives P J ρ' o v := by
 unfold jfQ at h
 have hc := hρ c
 split at h
 ·rename_i e
  rw [e] at hc
  cases h
  exact ⟨_, hρ a, fun w => by simp [execOp, ho, jed hc, asBool, rzB, rzC, Result.andThen]⟩
 ·rename_i e
  rw [e] at hc
  cases h
  exact ⟨_, hρ b, fun w => by simp [execOp, ho, jed hc, asBool, rzB, rzC, Result.andThen]⟩
 ·cases h
def jb1 (ρ : Operand → Value) (t : Operand) (i : Nat) : Option Value :=
 match ρ t with
 | .tuple vs => vs.toList[i]?
 | _ => none
theorem jfS {ρ ρ' : Operand → Value} (hρ : ∀ x, VRel J (ρ x) (ρ' x)) {o : Oper} {t : Operand} {i : Nat} {v : Value} (ho : o.op = .extract t i)
  (h : jb1 ρ t i = some v) : Gives P J ρ' o v := by
 unfold jb1 at h
 have hc := hρ t
 split at h
 ·rename_i vs e
  rw [e] at hc
  obtain ⟨x', hx', ha⟩ := tuple_inv hc
  obtain ⟨b, hb, hv⟩ := ha.get (i := i) (a := v) (by simpa using h)
  exact ⟨b, hv, fun w => by simp [execOp, ho, hx', Instr.extract, hb, rzB, rzC, Result.andThen]⟩
 ·cases h
def jbj (ρ : Operand → Value) (x : Operand) : Option Value :=
 match ρ x with
 | .pointer (some a) => some (.pointer (some a))
 | .iface t v => some (.iface t v)
 | .func (.func f) y z => some (.func (.func f) y z)
 | _ => none
theorem jfI {ρ ρ' : Operand → Value} (hρ : ∀ x, VRel J (ρ x) (ρ' x)) {o : Oper} {x : Operand} {v : Value} (ho : o.op = .nilCheck x)
  (h : jbj ρ x = some v) : Gives P J ρ' o v := by
 unfold jbj at h
 have hc := hρ x
 split at h
 ·rename_i a e
  rw [e] at hc
  cases h
  obtain ⟨a', ha', _⟩ := jdj hc
  rw [ha'] at hc
  exact ⟨_, hc, fun w => by simp [execOp, ho, ha', rzB, rzC, Result.andThen]⟩
 ·rename_i t y e
  rw [e] at hc
  cases h
  obtain ⟨a', ha', _⟩ := jcW hc
  rw [ha'] at hc
  exact ⟨_, hc, fun w => by simp [execOp, ho, ha', rzB, rzC, Result.andThen]⟩
 ·rename_i f y z e
  rw [e] at hc
  cases h
  generalize hq : ρ' x = q at hc
  cases hc with
  | func hf h1 h2 h3 h4 =>
    cases hf with
    | func f => exact ⟨_, .func (.func f) h1 h2 h3 h4, fun w => by simp [execOp, ho, hq, rzB, rzC, Result.andThen]⟩
 ·cases h
def jdC (P : Program) (ρ : Operand → Value) (t : TypeId) (x : Operand) : Option Value :=
 match P.underlying t with
 | some (.interface _) => none
 | some _ => match ρ x with
   | .chan _ => none
   | v => some (.iface t v)
 | none => none
theorem jeQ {ρ ρ' : Operand → Value} (hρ : ∀ x, VRel J (ρ x) (ρ' x)) {o : Oper} {t : TypeId} {x : Operand} {v : Value} (ho : o.op = .makeInterface t x)
  (h : jdC P ρ t x = some v) : Gives P J ρ' o v := by
 unfold jdC at h
 split at h
 ·cases h
 ·rename_i d hni hd
  split at h
  ·cases h
  ·cases h
   have hc : P.concrete t = true := by
    unfold Program.concrete
    rw [hd]
    cases d <;> first | rfl | exact absurd rfl (hni _)
   exact ⟨_, .iface (hρ x), fun w => by simp [execOp, ho, run_makeInterface w t _ hc, rzB, rzC, Result.andThen]⟩
 ·cases h
theorem jjX {ρ ρ' : Operand → Value} (hρ : ∀ x, VRel J (ρ x) (ρ' x)) (l : Array Operand) : ARel J (l.toList.map ρ).toArray (l.map ρ') where
 size := by simp
 at_ i a b ha hb := by
  simp only [List.getElem?_toArray, List.getElem?_map, Array.getElem?_toList, Array.getElem?_map] at ha hb
  cases hl : l[i]? with
  | none => rw [hl] at ha; cases ha
  | some x =>
    rw [hl] at ha hb
    simp at ha hb
    subst ha hb
    exact hρ x
def jdu (ρ : Operand → Value) (fn : Fn) (x y : Array Operand) : Option Value :=
 match fn with
 | .yield _ => none
 | _ => some (.func fn (x.toList.map ρ).toArray (y.toList.map ρ).toArray)
theorem jfM {ρ ρ' : Operand → Value} (hρ : ∀ x, VRel J (ρ x) (ρ' x)) {o : Oper} {fn : Fn} {x y : Array Operand} {v : Value} (ho : o.op = .makeFunc fn x y)
  (h : jdu ρ fn x y = some v) : Gives P J ρ' o v := by
 have hx := jjX hρ x
 have hy := jjX hρ y
 unfold jdu at h
 split at h
 ·cases h
 ·rename_i hny
  cases h
  have hf : FnRel J fn fn := by
   cases fn with
   | func f => exact .func f
   | method n => exact .method n
   | methodOf t n => exact .methodOf t n
   | via t p f b => exact .via t p f b
   | yield l => exact absurd rfl (hny l)
  exact ⟨_, .func hf hx.size hx.at_ hy.size hy.at_, fun w => by simp [execOp, ho, Instr.makeFunc, rzB, rzC, Result.andThen]⟩
def cut (l : List Value) (i n : Nat) : List Value := (l.drop i).take n
def aPart (P : Program) (t : TypeId) (cs : List Value) (off : Nat) : Option Value :=
 match P.underlying t with
 | some (.struct _) => match P.info? t with
   | some inf => some (.agg (cut cs off inf.size).toArray)
   | none => none
 | some (.array _ _) => match P.info? t with
   | some inf => some (.agg (cut cs off inf.size).toArray)
   | none => none
 | some _ => cs[off]?
 | none => none
theorem jeN {x x' : Array Value} (h : ARel J x x') (i n : Nat) : ARel J (cut x.toList i n).toArray (x'.extract i (i + n)) where
 size := by simp [cut, h.size]; omega
 at_ k a b ha hb := by
  simp only [cut, List.getElem?_toArray, List.getElem?_take, List.getElem?_drop, Array.getElem?_toList] at ha
  rw [Array.getElem?_extract] at hb
  split at ha
  ·split at hb
   ·exact h.at_ _ _ _ ha hb
   ·cases hb
  ·cases ha
theorem jjo {t : TypeId} {x x' : Array Value} {off : Nat} {v : Value} (hx : ARel J x x') (h : aPart P t x.toList off = some v) :
  ∃ v', VRel J v v' ∧ ∀ w, (part t x' off).run P w = .ok v' w := by
 unfold aPart at h
 split at h
 ·rename_i f hu
  split at h
  ·rename_i inf hinf
   cases h
   have := jeN hx off inf.size
   exact ⟨_, .agg this.size this.at_, fun w => by simp [part, isAgg, rzB, jar hu, rzA, rzC, ja9 hinf]⟩
  ·cases h
 ·rename_i n e hu
  split at h
  ·rename_i inf hinf
   cases h
   have := jeN hx off inf.size
   exact ⟨_, .agg this.size this.at_, fun w => by simp [part, isAgg, rzB, jar hu, rzA, rzC, ja9 hinf]⟩
  ·cases h
 ·rename_i d h1 h2 hu
  obtain ⟨b, hb, hv⟩ := hx.get (i := off) (a := v) (by simpa using h)
  refine ⟨b, hv, fun w => ?_⟩
  have hag : (isAgg t).run P w = .ok false w := by
   simp only [isAgg, rzB, jar hu, rzA]
   cases d <;> first | rfl | exact absurd rfl (h1 _) | exact absurd rfl (h2 _ _)
  simp only [part, rzB, hag, rzA, Bool.false_eq_true, if_false, hb, rzC]
 ·cases h
def jj1 (P : Program) (ρ : Operand → Value) (t : TypeId) (x : Operand) (f : Nat) : Option Value :=
 match ρ x with
 | .agg cs => match P.underlying t with
   | some (.struct fields) => match fields[f]? with
     | some fd => aPart P fd.type cs.toList fd.offset
     | none => none
   | _ => none
 | _ => none
theorem jh7 {ρ ρ' : Operand → Value} (hρ : ∀ x, VRel J (ρ x) (ρ' x)) {o : Oper} {t : TypeId} {x : Operand} {f : Nat} {v : Value} (ho : o.op = .field t x f)
  (h : jj1 P ρ t x f = some v) : Gives P J ρ' o v := by
 unfold jj1 at h
 have hc := hρ x
 split at h
 ·rename_i cs e
  rw [e] at hc
  obtain ⟨x', hx', ha⟩ := agg_inv hc
  split at h
  ·rename_i fields hu
   split at h
   ·rename_i fd hfd
    obtain ⟨v', hv, hr⟩ := jjo ha h
    exact ⟨v', hv, fun w => by simp only [execOp, ho, hx', Instr.field, rzB, jar hu, rzA, hfd, asAgg, rzC, hr w]⟩
   ·cases h
  ·cases h
 ·cases h
def jb0 (P : Program) (ρ : Operand → Value) (t : TypeId) (x ix : Operand) : Option Value :=
 match ρ x with
 | .agg cs => match ρ ix with
   | .int _ (.ofNat m) => match P.underlying t with
     | some (.array len e) => match Nat.blt m len with
       | true => match P.info? e with
         | some inf => aPart P e cs.toList (Nat.mul m inf.size)
         | none => none
       | false => none
     | _ => none
   | _ => none
 | .string s => match ρ ix with
   | .int _ (.ofNat m) => match P.underlying t with
     | some .string => match s.data.toList[m]? with
       | some b => some (.int .u8 b.toNat)
       | none => none
     | _ => none
   | _ => none
 | _ => none
theorem jh6 {ρ ρ' : Operand → Value} (hρ : ∀ x, VRel J (ρ x) (ρ' x)) {o : Oper} {t : TypeId} {x ix : Operand} {v : Value} (ho : o.op = .index t x ix)
  (h : jb0 P ρ t x ix = some v) : Gives P J ρ' o v := by
 unfold jb0 at h
 have hc := hρ x
 have hi := hρ ix
 split at h
 ·rename_i cs e
  rw [e] at hc
  obtain ⟨x', hx', ha⟩ := agg_inv hc
  split at h
  ·rename_i k m ei
   rw [ei] at hi
   split at h
   ·rename_i len el hu
    split at h
    ·rename_i hb
     split at h
     ·rename_i inf hinf
      obtain ⟨v', hv, hr⟩ := jjo ha h
      have hlt : m < len := by simpa using hb
      have h1 : (0 : Int) ≤ (Int.ofNat m) ∧ (Int.ofNat m) < (len : Int) := ⟨Int.natCast_nonneg m, by show (m : Int) < len; omega⟩
      exact ⟨v', hv, fun w => by
       simp only [execOp, ho, hx', ja4 hi, Instr.index, asIntOf, rzB, jar hu, rzA, if_pos h1, ja9 hinf, rzC]
       rw [show Nat.mul m inf.size = (Int.ofNat m).toNat * inf.size from rfl] at hr
       simp only [hr w, rzA]⟩
     ·cases h
    ·cases h
   ·cases h
  ·cases h
 ·rename_i s e
  rw [e] at hc
  split at h
  ·rename_i k m ei
   rw [ei] at hi
   split at h
   ·rename_i hu
    split at h
    ·rename_i b hb
     cases h
     have hg : s[m]? = some b := by
      have : s.data[m]? = some b := by simpa using hb
      obtain ⟨h1, h2⟩ := Array.getElem?_eq_some_iff.1 this
      exact (getElem?_pos s m h1).trans (congrArg some h2)
     refine ⟨_, .int .u8 b.toNat, fun w => ?_⟩
     have h0 : (0 : Int) ≤ Int.ofNat m := Int.natCast_nonneg m
     have h2 : (if 0 ≤ Int.ofNat m then s[(Int.ofNat m).toNat]? else none) = some b := by rw [if_pos h0]; exact hg
     simp only [execOp, ho, jbb hc, ja4 hi, Instr.index, asIntOf, rzB, jar hu, rzA, rzC, h2]
    ·cases h
   ·cases h
  ·cases h
 ·cases h
end
noncomputable section
variable {P : Program} {J : Nat → Loc}
def jcw : List UInt8 → List UInt8 → Bool
 | [], [] => true
 | a :: x, b :: y => match Nat.beq a.toNat b.toNat with
   | true => jcw x y
   | false => false
 | _, _ => false
theorem jdA : ∀ (x y : List UInt8), jcw x y = (x == y) := by
 intro x
 induction x with
 | nil => intro y; cases y <;> rfl
 | cons a x ih =>
   intro y
   cases y with
   | nil => rfl
   | cons b y =>
     rw [jcw, List.cons_beq_cons]
     cases h : Nat.beq a.toNat b.toNat with
     | true =>
       have : a = b := UInt8.toNat_inj.1 (rzD h)
       subst this
       simp [ih]
     | false =>
       have : (a == b) = false := by
        rw [beq_eq_false_iff_ne]
        intro e; subst e
        rw [Nat.beq_refl] at h; cases h
       simp [this]
def aStr (op : BinOp) (a b : ByteArray) : Option Value :=
 match op with
 | .eql => some (.bool (jcw a.data.toList b.data.toList))
 | .neq => some (.bool (!jcw a.data.toList b.data.toList))
 | .lss => some (.bool (Op.bytesLess a.data.toList b.data.toList))
 | .geq => some (.bool (!Op.bytesLess a.data.toList b.data.toList))
 | .add => match Nat.blt (Nat.add a.data.toList.length b.data.toList.length) 4294967296 with
   | true => some (.string ⟨(a.data.toList ++ b.data.toList).toArray⟩)
   | false => none
 | _ => none
theorem aStr_run {op : BinOp} {t : TypeId} {x y : Operand} {a b : ByteArray} {v : Value} (h : aStr op a b = some v) (w : World) :
  (do eqGuard op t x y (.string a) (.string b); binOp op t (.string a) (.string b) : Sem Value).run P w = .ok v w := by
 have hg : (eqGuard op t x y (.string a) (.string b)).run P w = .ok () w := by
  unfold eqGuard
  split <;> rfl
 have e1 : (a.toList == b.toList) = jcw a.data.toList b.data.toList := by rw [jdA, toList_data, toList_data]
 have e2 : Op.bytesLess a.toList b.toList = Op.bytesLess a.data.toList b.data.toList := by rw [toList_data, toList_data]
 simp only [rzB, hg, rzA]
 unfold aStr at h
 split at h
 ·cases h; simp only [binOp, Op.stringOp, e1]; rfl
 ·cases h; simp only [binOp, Op.stringOp, e1]; rfl
 ·cases h; simp only [binOp, Op.stringOp, e2]; rfl
 ·cases h; simp only [binOp, Op.stringOp, e2]; rfl
 ·split at h
  ·rename_i hl
   cases h
   have hl' : a.size + b.size < 4294967296 := by
    have : a.data.toList.length + b.data.toList.length < 4294967296 := by simpa using hl
    simpa using this
   have hm : ¬ (((a.size + b.size : Nat) : Int) > IntKind.i64.max) := by
    have : IntKind.i64.max = 9223372036854775807 := by decide
    omega
   simp only [binOp, Op.stringOp, if_neg hm]
   have : a ++ b = ⟨(a.data.toList ++ b.data.toList).toArray⟩ := by
    show ByteArray.append a b = _
    rfl
   rw [this]; rfl
  ·cases h
 ·cases h
def aNil (P : Program) (t : TypeId) (a b : Value) : Bool :=
 match a, b with
 | .pointer (some _), .pointer none => match P.underlying t with
   | some (.pointer _) => true
   | _ => false
 | .pointer none, .pointer (some _) => match P.underlying t with
   | some (.pointer _) => true
   | _ => false
 | .slice (some _) _ _, .slice none _ _ => match P.underlying t with
   | some (.slice _) => true
   | _ => false
 | .slice none _ _, .slice (some _) _ _ => match P.underlying t with
   | some (.slice _) => true
   | _ => false
 | .func _ _ _, .nilFunc => match P.underlying t with
   | some (.func _ _ _) => true
   | _ => false
 | .iface _ _, .nilIface => match P.underlying t with
   | some (.interface _) => true
   | _ => false
 | .nilIface, .iface _ _ => match P.underlying t with
   | some (.interface _) => true
   | _ => false
 | .map (some _), .map none => match P.underlying t with
   | some (.map _ _) => true
   | _ => false
 | _, _ => false
theorem nil_in {t : TypeId} {a b a' b' : Value} (ha : VRel J a a') (hb : VRel J b b') (h : aNil P t a b = true) (w : World) (d : Nat) :
  (Op.equalIn (d + 1) t a' b').run P w = .ok false w := by
 unfold aNil at h
 split at h
 ·split at h
  ·rename_i e hu
   obtain ⟨p, rfl, _⟩ := jdj ha
   cases hb
   simp only [Op.equalIn, rzB, jar hu, rzA]; rfl
  ·cases h
 ·split at h
  ·rename_i e hu
   obtain ⟨p, rfl, _⟩ := jdj hb
   cases ha
   simp only [Op.equalIn, rzB, jar hu, rzA]; rfl
  ·cases h
 ·split at h
  ·rename_i e hu
   obtain ⟨p, c, rfl, _⟩ := jbi ha
   cases hb
   simp only [Op.equalIn, rzB, jar hu, rzA]; rfl
  ·cases h
 ·split at h
  ·rename_i e hu
   obtain ⟨p, c, rfl, _⟩ := jbi hb
   cases ha
   simp only [Op.equalIn, rzB, jar hu, rzA]; rfl
  ·cases h
 ·split at h
  ·rename_i e hu
   cases ha
   cases hb
   simp only [Op.equalIn, rzB, jar hu, rzA]; rfl
  ·cases h
 ·split at h
  ·rename_i e hu
   obtain ⟨p, rfl, _⟩ := jcW ha
   cases hb
   simp only [Op.equalIn, rzB, jar hu, rzA]; rfl
  ·cases h
 ·split at h
  ·rename_i e hu
   obtain ⟨p, rfl, _⟩ := jcW hb
   cases ha
   simp only [Op.equalIn, rzB, jar hu, rzA]; rfl
  ·cases h
 ·split at h
  ·rename_i e hu
   cases hb
   cases ha
   all_goals (simp only [Op.equalIn, rzB, jar hu, rzA]; rfl)
  ·cases h
 ·cases h
theorem nil_bin {t : TypeId} {a b a' b' : Value} (ha : VRel J a a') (hb : VRel J b b') (h : aNil P t a b = true) :
  (∀ op x y w, (eqGuard op t x y a' b').run P w = .ok () w) ∧ binOp .eql t a' b' = (do pure (.bool (← Op.equal t a' b'))) ∧
   binOp .neq t a' b' = (do pure (.bool (!(← Op.equal t a' b')))) := by
 have hg : ∀ (u v : Value), (∀ x y, u = .agg x → v = .agg y → False) → (u = .nilIface → v = .nilIface → False) → ∀ op x y w, (eqGuard op t x y u v).run P w = .ok () w := by
  intro u v h1 h2 op x y w
  unfold eqGuard
  split
  all_goals
   first
    | rfl
    | (simp only [Bool.not_true, Bool.false_eq_true, if_false]
       rfl)
 unfold aNil at h
 split at h
 ·obtain ⟨p, rfl, _⟩ := jdj ha; cases hb; exact ⟨hg _ _ (fun _ _ e => by cases e) (fun e => by cases e), rfl, rfl⟩
 ·obtain ⟨p, rfl, _⟩ := jdj hb; cases ha; exact ⟨hg _ _ (fun _ _ e => by cases e) (fun e => by cases e), rfl, rfl⟩
 ·obtain ⟨p, c, rfl, _⟩ := jbi ha; cases hb; exact ⟨hg _ _ (fun _ _ e => by cases e) (fun e => by cases e), rfl, rfl⟩
 ·obtain ⟨p, c, rfl, _⟩ := jbi hb; cases ha; exact ⟨hg _ _ (fun _ _ e => by cases e) (fun e => by cases e), rfl, rfl⟩
 ·cases ha; cases hb; exact ⟨hg _ _ (fun _ _ e => by cases e) (fun e => by cases e), rfl, rfl⟩
 ·obtain ⟨p, rfl, _⟩ := jcW ha; cases hb; exact ⟨hg _ _ (fun _ _ e => by cases e) (fun e => by cases e), rfl, rfl⟩
 ·obtain ⟨p, rfl, _⟩ := jcW hb; cases ha; exact ⟨hg _ _ (fun _ _ e => by cases e) (fun _ e => by cases e), rfl, rfl⟩
 ·cases hb
  cases ha
  ·exact ⟨hg _ _ (fun _ _ e => by cases e) (fun e => by cases e), rfl, rfl⟩
  ·exact ⟨hg _ _ (fun _ _ e => by cases e) (fun e => by cases e), rfl, rfl⟩
 ·cases h
theorem jjY {t : TypeId} {a b a' b' : Value} (ha : VRel J a a') (hb : VRel J b b') (h : aNil P t a b = true) (w : World) :
  (Op.equal t a' b').run P w = .ok false w ∧ (∀ op x y, (eqGuard op t x y a' b').run P w = .ok () w) ∧ binOp .eql t a' b' = (do pure (.bool (← Op.equal t a' b'))) ∧
   binOp .neq t a' b' = (do pure (.bool (!(← Op.equal t a' b')))) :=
 let ⟨r1, r2, r3⟩ := nil_bin ha hb h
 ⟨nil_in ha hb h w 9999, fun op x y => r1 op x y w, r2, r3⟩
def jak (k : IntKind) (n : Int) : Int :=
 match n with
 | .ofNat m => match k with
   | .i64 => match Nat.blt m 9223372036854775808 with
     | true => .ofNat m
     | false => k.wrap (.ofNat m)
   | .u64 => match Nat.blt m 18446744073709551616 with
     | true => .ofNat m
     | false => k.wrap (.ofNat m)
   | _ => k.wrap (.ofNat m)
 | .negSucc m => k.wrap (.negSucc m)
theorem jbq (k : IntKind) (n : Int) : jak k n = k.wrap n := by
 unfold jak
 split
 ·rename_i m
  split
  ·split
   ·rename_i h
    have h' : m < 9223372036854775808 := by simpa using h
    simp [IntKind.wrap, IntKind.bits, IntKind.signed]
    split <;> omega
   ·rfl
  ·split
   ·rename_i h
    have h' : m < 18446744073709551616 := by simpa using h
    simp [IntKind.wrap, IntKind.bits, IntKind.signed]
    omega
   ·rfl
  ·rfl
 ·rfl
def ieq (a b : Int) : Bool :=
 match a, b with
 | .ofNat m, .ofNat n => Nat.beq m n
 | .negSucc m, .negSucc n => Nat.beq m n
 | _, _ => false
theorem jhH (a b : Int) : ieq a b = (a == b) := by
 unfold ieq
 split
 ·rename_i m n
  apply Bool.eq_iff_iff.2
  simp
  omega
 ·rename_i m n
  apply Bool.eq_iff_iff.2
  simp
 ·rename_i h1 h2
  cases a <;> cases b <;> first
   | exact absurd rfl (h1 _ _ rfl)
   | exact absurd rfl (h2 _ _ rfl)
   | rfl
def ilt (a b : Int) : Bool :=
 match a, b with
 | .ofNat m, .ofNat n => Nat.blt m n
 | .negSucc m, .negSucc n => Nat.blt n m
 | .negSucc _, .ofNat _ => true
 | .ofNat _, .negSucc _ => false
theorem jf9 (a b : Int) : ilt a b = decide (a < b) := by
 cases a with
 | ofNat m =>
   cases b with
   | ofNat n => simp only [ilt]; apply Bool.eq_iff_iff.2; simp
   | negSucc n => simp only [ilt]; rw [eq_comm, decide_eq_false_iff_not]; simp only [Int.ofNat_eq_natCast]; omega
 | negSucc m =>
   cases b with
   | ofNat n => simp only [ilt]; rw [eq_comm, decide_eq_true_eq]; simp only [Int.ofNat_eq_natCast]; omega
   | negSucc n => simp only [ilt]; apply Bool.eq_iff_iff.2; simp; omega
def jbH (k : IntKind) : Bool :=
 match k with
 | .i64 => true
 | .u64 => true
 | _ => false
theorem jdJ {k : IntKind} (h : jbH k = true) : k.bits = 64 := by
 cases k <;> first | rfl | (cases h)
def jbm (f : Nat → Nat → Nat) (k k' : IntKind) (a b : Int) : Option Value :=
 match decide (k = k') with
 | false => none
 | true => match jbH k with
   | false => none
   | true => match a, b with
     | .ofNat m, .ofNat n => match Nat.blt m 18446744073709551616 with
       | false => none
       | true => match Nat.blt n 18446744073709551616 with
         | false => none
         | true => some (.int k (jak k (.ofNat (f m n))))
     | _, _ => none
theorem jeF {f : Nat → Nat → Nat} {k k' : IntKind} {a b : Int} {v : Value} (h : jbm f k k' a b = some v) :
  k = k' ∧ ∃ m n : Nat, a = .ofNat m ∧ b = .ofNat n ∧ (BitVec.ofInt k.bits a).toNat = m ∧ (BitVec.ofInt k.bits b).toNat = n ∧ v = .int k (k.wrap (.ofNat (f m n))) := by
 unfold jbm at h
 split at h
 ·cases h
 ·rename_i hk
  split at h
  ·cases h
  ·rename_i hw
   split at h
   ·rename_i m n
    split at h
    ·cases h
    ·rename_i h1
     split at h
     ·cases h
     ·rename_i h2
      cases h
      have h1' : m < 18446744073709551616 := by simpa using h1
      have h2' : n < 18446744073709551616 := by simpa using h2
      refine ⟨of_decide_eq_true hk, m, n, rfl, rfl, ?_, ?_, by rw [jbq]⟩
      ·rw [jdJ hw]
       show (BitVec.ofInt 64 (m : Int)).toNat = m
       rw [BitVec.ofInt_natCast, BitVec.toNat_ofNat]
       exact Nat.mod_eq_of_lt h1'
      ·rw [jdJ hw]
       show (BitVec.ofInt 64 (n : Int)).toNat = n
       rw [BitVec.ofInt_natCast, BitVec.toNat_ofNat]
       exact Nat.mod_eq_of_lt h2'
   ·cases h
def jaH (left : Bool) (k : IntKind) (a b : Int) : Option Value :=
 match jbH k with
 | false => none
 | true => match a, b with
   | .ofNat m, .ofNat y => match Nat.ble y 64 with
     | false => none
     | true => match left with
       | true => some (.int k (jak k (.ofNat (Nat.mul m (Nat.pow 2 y)))))
       | false => some (.int k (.ofNat (Nat.div m (Nat.pow 2 y))))
   | _, _ => none
theorem jfH {left : Bool} {k : IntKind} {a b : Int} {v : Value} (h : jaH left k a b = some v) : ∃ m y : Nat, a = .ofNat m ∧ b = .ofNat y ∧ y ≤ k.bits ∧
  v = (if left then .int k (k.wrap (.ofNat (m * 2 ^ y))) else .int k (.ofNat (m / 2 ^ y))) := by
 unfold jaH at h
 split at h
 ·cases h
 ·rename_i hw
  split at h
  ·rename_i m y
   split at h
   ·cases h
   ·rename_i hy
    have hy' : y ≤ 64 := rzE hy
    refine ⟨m, y, rfl, rfl, by rw [jdJ hw]; exact hy', ?_⟩
    split at h
    ·cases h; rw [jbq]; rfl
    ·cases h; rfl
  ·cases h
def aDiv (rem : Bool) (k k' : IntKind) (a b : Int) : Option Value :=
 match decide (k = k') with
 | false => none
 | true => match a, b with
   | .ofNat m, .ofNat n => match n with
     | 0 => none
     | n + 1 => match rem with
       | true => some (.int k (.ofNat (Nat.mod m (Nat.succ n))))
       | false => some (.int k (jak k (.ofNat (Nat.div m (Nat.succ n)))))
   | .negSucc m, .ofNat n => match n with
     | 0 => none
     | n + 1 => match rem with
       | true => some (.int k (Int.neg (.ofNat (Nat.mod (Nat.succ m) (Nat.succ n)))))
       | false => none
   | _, _ => none
theorem jh9 {rem : Bool} {k k' : IntKind} {a b : Int} {v : Value} (h : aDiv rem k k' a b = some v) : k = k' ∧ ∃ n : Nat, b = .ofNat (n + 1) ∧
  v = (if rem then .int k (a.tmod b) else .int k (k.wrap (a.tdiv b))) := by
 unfold aDiv at h
 split at h
 ·cases h
 ·rename_i hk
  split at h
  ·split at h
   ·cases h
   ·refine ⟨of_decide_eq_true hk, _, rfl, ?_⟩
    split at h
    ·cases h; rfl
    ·cases h; rw [jbq]; rfl
  ·split at h
   ·cases h
   ·refine ⟨of_decide_eq_true hk, _, rfl, ?_⟩
    split at h
    ·cases h; rfl
    ·cases h
  ·cases h
def aInt (op : BinOp) (k k' : IntKind) (a b : Int) : Option Value :=
 match op with
 | .shl => jaH true k a b
 | .shr => jaH false k a b
 | .quo => aDiv false k k' a b
 | .rem => aDiv true k k' a b
 | .and => jbm Nat.land k k' a b
 | .or => jbm Nat.lor k k' a b
 | .xor => jbm Nat.xor k k' a b
 | .add => match decide (k = k') with
   | true => some (.int k (jak k (Int.add a b)))
   | false => none
 | .sub => match decide (k = k') with
   | true => some (.int k (jak k (Int.sub a b)))
   | false => none
 | .mul => match decide (k = k') with
   | true => some (.int k (jak k (Int.mul a b)))
   | false => none
 | .eql => match decide (k = k') with
   | true => some (.bool (ieq a b))
   | false => none
 | .neq => match decide (k = k') with
   | true => some (.bool (!(ieq a b)))
   | false => none
 | .lss => match decide (k = k') with
   | true => some (.bool (ilt a b))
   | false => none
 | .geq => match decide (k = k') with
   | true => some (.bool (!(ilt a b)))
   | false => none
 | .gtr => match decide (k = k') with
   | true => some (.bool (ilt b a))
   | false => none
 | .leq => match decide (k = k') with
   | true => some (.bool (!(ilt b a)))
   | false => none
 | _ => none
theorem jjZ {op : BinOp} {k k' : IntKind} {a b : Int} {v : Value} (h : aInt op k k' a b = some v) (t : TypeId) (w : World) :
  (binOp op t (.int k a) (.int k' b)).run P w = .ok v w ∧ ((∃ n, v = .int k n) ∨ ∃ c, v = .bool c) := by
 unfold aInt at h
 split at h <;> first | (cases h; done) | skip
 ·obtain ⟨m, y, rfl, rfl, hy, rfl⟩ := jfH h
  refine ⟨?_, .inl ⟨_, rfl⟩⟩
  have hm : min (Int.ofNat y).toNat k.bits = y := Nat.min_eq_left hy
  have hn : ¬ (Int.ofNat y < 0) := by simp
  simp only [binOp, Op.shift, if_neg hn, hm, rzC, if_true]
  have : (Int.ofNat m) * 2 ^ y = Int.ofNat (m * 2 ^ y) := by simp
  rw [this]
 ·obtain ⟨m, y, rfl, rfl, hy, rfl⟩ := jfH h
  refine ⟨?_, .inl ⟨_, rfl⟩⟩
  have hm : min (Int.ofNat y).toNat k.bits = y := Nat.min_eq_left hy
  have hn : ¬ (Int.ofNat y < 0) := by simp
  simp only [binOp, Op.shift, if_neg hn, hm, rzC, Bool.false_eq_true, if_false]
  have : (Int.ofNat m).fdiv (2 ^ y) = Int.ofNat (m / 2 ^ y) := by
   rw [Int.fdiv_eq_ediv_of_nonneg _ (by exact Int.pow_nonneg (by decide))]
   simp
  rw [this]
 ·obtain ⟨rfl, n, rfl, rfl⟩ := jh9 h
  refine ⟨?_, .inl ⟨_, rfl⟩⟩
  have hn : ¬ (Int.ofNat (n + 1) = 0) := by simp; omega
  simp only [binOp, ne_eq, not_true_eq_false, if_false, Op.intDiv, if_neg hn, rzC, Bool.false_eq_true]
 ·obtain ⟨rfl, n, rfl, rfl⟩ := jh9 h
  refine ⟨?_, .inl ⟨_, rfl⟩⟩
  have hn : ¬ (Int.ofNat (n + 1) = 0) := by simp; omega
  simp only [binOp, ne_eq, not_true_eq_false, if_false, Op.intDiv, if_neg hn, rzC, if_true]
 ·obtain ⟨rfl, m, n, rfl, rfl, e1, e2, rfl⟩ := jeF h
  refine ⟨?_, .inl ⟨_, rfl⟩⟩
  simp only [binOp, ne_eq, not_true_eq_false, if_false, Op.intBits, rzC, BitVec.toNat_and, e1, e2]
  rfl
 ·obtain ⟨rfl, m, n, rfl, rfl, e1, e2, rfl⟩ := jeF h
  refine ⟨?_, .inl ⟨_, rfl⟩⟩
  simp only [binOp, ne_eq, not_true_eq_false, if_false, Op.intBits, rzC, BitVec.toNat_or, e1, e2]
  rfl
 ·obtain ⟨rfl, m, n, rfl, rfl, e1, e2, rfl⟩ := jeF h
  refine ⟨?_, .inl ⟨_, rfl⟩⟩
  simp only [binOp, ne_eq, not_true_eq_false, if_false, Op.intBits, rzC, BitVec.toNat_xor, e1, e2]
  rfl
 all_goals
  split at h <;> first | (cases h; done) | skip
  rename_i hk
  have hk' : k = k' := of_decide_eq_true hk
  subst hk'
  cases h
 ·exact ⟨by simp only [binOp, ne_eq, not_true_eq_false, if_false, Op.intArith, rzC, jbq]; rfl, .inl ⟨_, rfl⟩⟩
 ·exact ⟨by simp only [binOp, ne_eq, not_true_eq_false, if_false, Op.intArith, rzC, jbq]; rfl, .inl ⟨_, rfl⟩⟩
 ·exact ⟨by simp only [binOp, ne_eq, not_true_eq_false, if_false, Op.intArith, rzC, jbq]; rfl, .inl ⟨_, rfl⟩⟩
 ·exact ⟨by simp only [binOp, ne_eq, not_true_eq_false, if_false, Op.intCmp, rzC, jhH], .inr ⟨_, rfl⟩⟩
 ·exact ⟨by simp only [binOp, ne_eq, not_true_eq_false, if_false, Op.intCmp, rzC, jhH]; rfl, .inr ⟨_, rfl⟩⟩
 ·exact ⟨by simp only [binOp, ne_eq, not_true_eq_false, if_false, Op.intCmp, rzC, jf9], .inr ⟨_, rfl⟩⟩
 ·refine ⟨?_, .inr ⟨_, rfl⟩⟩
  simp only [binOp, ne_eq, not_true_eq_false, if_false, Op.intCmp, rzC, jf9, ge_iff_le]
  rw [show (!decide (a < b)) = decide (b ≤ a) by simp [← decide_not]]
 ·exact ⟨by simp only [binOp, ne_eq, not_true_eq_false, if_false, Op.intCmp, rzC, jf9, gt_iff_lt], .inr ⟨_, rfl⟩⟩
 ·refine ⟨?_, .inr ⟨_, rfl⟩⟩
  simp only [binOp, ne_eq, not_true_eq_false, if_false, Op.intCmp, rzC, jf9]
  rw [show (!decide (b < a)) = decide (a ≤ b) by simp [← decide_not]]
def aBin (P : Program) (ρ : Operand → Value) (o : Oper) (op : BinOp) (t : TypeId) (x y : Operand) : Option Value :=
 match ρ x, ρ y with
 | .string a, .string b => aStr op a b
 | .int k a, .int k' b => match aInt op k k' a b with
   | some v => some v
   | none => match pv P (binOp op t (.int k a) (.int k' b)) with
     | some (.int k n) => some (.int k n)
     | some (.bool b) => some (.bool b)
     | _ => none
 | a, b => match aNil P t a b with
   | true => match op with
     | .eql => some (.bool false)
     | .neq => some (.bool true)
     | _ => none
   | false => jaC P ρ o
theorem jk6 {ρ ρ' : Operand → Value} (hρ : ∀ x, VRel J (ρ x) (ρ' x)) {o : Oper} {op : BinOp} {t yt : TypeId} {x y : Operand} {v : Value} (ho : o.op = .binOp op t x y yt)
  (h : aBin P ρ o op t x y = some v) : Gives P J ρ' o v := by
 unfold aBin at h
 have hx := hρ x
 have hy := hρ y
 split at h
 ·rename_i a b e1 e2
  rw [e1] at hx
  rw [e2] at hy
  refine ⟨v, ?_, fun w => ?_⟩
  ·unfold aStr at h
   split at h
   ·cases h; exact .bool _
   ·cases h; exact .bool _
   ·cases h; exact .bool _
   ·cases h; exact .bool _
   ·split at h
    ·cases h; exact .string _
    ·cases h
   ·cases h
  ·have := aStr_run (P := P) (t := t) (x := x) (y := y) h w
   simp only [execOp, ho, jbb hx, jbb hy, rzB (P := P)] at this ⊢
   rw [this]; rfl
 ·rename_i k a k' b e1 e2
  rw [e1] at hx
  rw [e2] at hy
  have hg : ∀ w, (eqGuard op t x y (.int k a) (.int k' b)).run P w = .ok () w := fun w => by unfold eqGuard; split <;> rfl
  split at h
  ·rename_i v1 hi
   cases h
   have fin : ∀ w, (execOp ρ' o).run P w = .ok (.value v) w := fun w => by simp only [execOp, ho, ja4 hx, ja4 hy, rzB, hg w, rzA, (jjZ (P := P) hi t w).1, rzC]
   rcases (jjZ (P := P) hi t default).2 with ⟨m, e⟩ | ⟨c, e⟩
   ·exact ⟨v, by rw [e]; exact .int _ _, fin⟩
   ·exact ⟨v, by rw [e]; exact .bool _, fin⟩
  ·split at h
   ·rename_i k2 n hp
    cases h
    exact ⟨_, .int k2 n, fun w => by simp only [execOp, ho, ja4 hx, ja4 hy, rzB, hg w, rzA, pv_run hp w, rzC]⟩
   ·rename_i c hp
    cases h
    exact ⟨_, .bool c, fun w => by simp only [execOp, ho, ja4 hx, ja4 hy, rzB, hg w, rzA, pv_run hp w, rzC]⟩
   ·cases h
 ·rename_i _ _ e1 e2
  split at h
  ·rename_i hn
   split at h
   ·cases h
    refine ⟨_, .bool false, fun w => ?_⟩
    obtain ⟨r1, r2, r3, r4⟩ := jjY hx hy hn w
    simp only [execOp, ho, rzB, r2, rzA, r3, r1, rzC]
   ·cases h
    refine ⟨_, .bool true, fun w => ?_⟩
    obtain ⟨r1, r2, r3, r4⟩ := jjY hx hy hn w
    simp only [execOp, ho, rzB, r2, rzA, r4, r1, rzC, Bool.not_false]
   ·cases h
  ·exact jcg hρ h
end
noncomputable section
variable {P : Program} {J : Nat → Loc}
def jbl (ρ : Operand → Value) (v : Option Operand) (dflt y : Nat) : Option Nat :=
 match v with
 | none => some dflt
 | some x => match ρ x with
   | .int _ (.ofNat m) => match Nat.ble m y with
     | true => some m
     | false => none
   | _ => none
theorem jd0 {ρ ρ' : Operand → Value} (hρ : ∀ x, VRel J (ρ x) (ρ' x)) {x : Operand} {d y y' m : Nat} (h : jbl ρ (some x) d y = some m) (hy : y ≤ y') (c : BoundsCode) (w : World) :
  (Instr.sliceBound (ρ' x) y' c).run P w = .ok m w ∧ m ≤ y := by
 unfold jbl at h
 have hx := hρ x
 simp only at h
 split at h
 ·rename_i k n e
  rw [e] at hx
  split at h
  ·rename_i hb
   cases h
   have hm : m ≤ y := rzE hb
   refine ⟨?_, hm⟩
   have h1 : (0 : Int) ≤ Int.ofNat m ∧ Int.ofNat m ≤ (y' : Int) := ⟨Int.natCast_nonneg m, by show (m : Int) ≤ y'; omega⟩
   simp only [Instr.sliceBound, ja4 hx, asIntOf, rzB, rzC, rzA, if_pos h1]
   rfl
  ·cases h
 ·cases h
def ja2 (ρ : Operand → Value) (len cap : Nat) (lo hi mx : Option Operand) : Option (Nat × Nat × Nat) :=
 match jbl ρ mx cap cap with
 | none => none
 | some m => match hi with
   | none => match mx with
     | some _ => none
     | none => match jbl ρ lo 0 len with
       | some l => some (l, len, m)
       | none => none
   | some x => match jbl ρ (some x) 0 m with
     | none => none
     | some h => match jbl ρ lo 0 h with
       | some l => some (l, h, m)
       | none => none
theorem jip {ρ ρ' : Operand → Value} (hρ : ∀ x, VRel J (ρ x) (ρ' x)) {lo : Option Operand} {hh l : Nat} (hl : jbl ρ lo 0 hh = some l) (c : BoundsCode) (w : World)
  (K : Nat → Sem (Nat × Nat × Nat)) :
  (match lo.map ρ' with
   | some v => do let l ← Instr.sliceBound v hh c; K l
   | none => do let l ← pure 0; K l : Sem (Nat × Nat × Nat)).run P w = (K l).run P w ∧ l ≤ hh := by
 cases lo with
 | none => simp only [jbl] at hl; cases hl; exact ⟨rfl, Nat.zero_le _⟩
 | some x =>
   obtain ⟨r, hle⟩ := jd0 (P := P) hρ hl (Nat.le_refl _) c w
   refine ⟨?_, hle⟩
   simp only [Option.map_some, rzB, r, rzA]
theorem jb5 {ρ ρ' : Operand → Value} (hρ : ∀ x, VRel J (ρ x) (ρ' x)) {len cap cap' : Nat} {lo hi mx : Option Operand} {l h m : Nat}
  (hb : ja2 ρ len cap lo hi mx = some (l, h, m)) (hc : cap ≤ cap') (isS : Bool) (w : World) :
  ∃ m', (Instr.sliceBounds isS len cap' (lo.map ρ') (hi.map ρ') (mx.map ρ')).run P w = .ok (l, h, m') w ∧ (mx.isSome = true → m' = m) ∧ (mx = none → m' = cap') ∧ l ≤ h ∧
   (hi = none → h = len) ∧ (hi.isSome = true → h ≤ m) ∧ m ≤ cap := by
 unfold ja2 at hb
 split at hb
 ·cases hb
 ·rename_i m0 hm0
  have hm : ∃ m', (match mx.map ρ' with | some v => Instr.sliceBound v cap' (if isS then .slice3Acap else .slice3Alen) | none => pure cap' : Sem Nat).run P w = .ok m' w ∧
    (mx.isSome = true → m' = m0) ∧ (mx = none → m' = cap') ∧ m0 ≤ cap ∧ m0 ≤ m' := by
   cases mx with
   | none =>
     simp only [jbl] at hm0
     cases hm0
     exact ⟨cap', rfl, fun h => by simp at h, fun _ => rfl, Nat.le_refl _, hc⟩
   | some x =>
     obtain ⟨r, hle⟩ := jd0 (P := P) hρ hm0 hc (if isS then .slice3Acap else .slice3Alen) w
     exact ⟨m0, r, fun _ => rfl, fun h => by simp at h, hle, Nat.le_refl _⟩
  obtain ⟨m', hr, h1, h2, h3, h4⟩ := hm
  split at hb
  ·split at hb
   ·cases hb
   ·split at hb
    ·rename_i l' hl
     cases hb
     obtain ⟨r, hle⟩ := jip (P := P) hρ hl .sliceB w (fun l => pure (l, len, m'))
     refine ⟨m', ?_, h1, h2, hle, fun _ => rfl, fun h => by simp at h, h3⟩
     simp only [Option.map_none] at hr
     unfold Instr.sliceBounds
     simp only [Option.map_none, rzB, hr, rzA, rzC, Option.isSome_none, Bool.false_eq_true, if_false]
     exact r
    ·cases hb
  ·rename_i x
   split at hb
   ·cases hb
   ·rename_i hh hhh
    split at hb
    ·rename_i l' hl
     cases hb
     cases mx with
     | none =>
       obtain ⟨r, hle⟩ := jip (P := P) hρ hl .sliceB w (fun l => pure (l, h, m'))
       obtain ⟨r2, hle2⟩ := jd0 (P := P) hρ hhh (y' := m') h4 (if isS then .sliceAcap else .sliceAlen) w
       refine ⟨m', ?_, h1, h2, hle, fun h => by simp at h, fun _ => hle2, h3⟩
       simp only [Option.map_none] at hr
       unfold Instr.sliceBounds
       simp only [Option.map_none, Option.map_some, rzB, hr, rzA, rzC, Option.isSome_none, Bool.false_eq_true, if_false, r2]
       exact r
     | some mxo =>
       obtain ⟨r, hle⟩ := jip (P := P) hρ hl .slice3C w (fun l => pure (l, h, m'))
       obtain ⟨r2, hle2⟩ := jd0 (P := P) hρ hhh (y' := m') h4 .slice3B w
       refine ⟨m', ?_, h1, h2, hle, fun h => by simp at h, fun _ => hle2, h3⟩
       simp only [Option.map_some] at hr
       unfold Instr.sliceBounds
       simp only [Option.map_some, rzB, hr, rzA, rzC, Option.isSome_some, if_true, r2]
       exact r
    ·cases hb
theorem jfC {ρ : Operand → Value} {len cap : Nat} {lo hi : Option Operand} {l h m : Nat} (hb : ja2 ρ len cap lo hi none = some (l, h, m)) : m = cap := by
 simp only [ja2, jbl] at hb
 split at hb
 ·split at hb <;> simp at hb; exact hb.2.2.symm
 ·split at hb
  ·cases hb
  ·split at hb <;> simp at hb; exact hb.2.2.symm
def emptyAt (P : Program) : Value := .slice (some ⟨P.globals.size, 0, none⟩) 0 1
def isSome {α : Type} : Option α → Bool
 | some _ => true
 | none => false
def jaJ (P : Program) (ρ : Operand → Value) (t : TypeId) (x : Operand) (lo hi mx : Option Operand) : Option Value :=
 match ρ x with
 | .slice (some a) len c => match P.underlying t with
   | some (.slice e) => match P.info? e with
     | some inf => match Nat.beq (Nat.mod c 2) 0 with
       | true => match ja2 ρ len (Nat.div c 2) lo hi mx with
         | some (l, h, m) => some (.slice (some (match Nat.beq m l with | true => a | false => a.add (Nat.mul l inf.size))) (Nat.sub h l) (Nat.mul 2 (Nat.sub m l)))
         | none => none
       | false => match ja2 ρ len len lo hi mx with
         | some (l, h, m) => match isSome mx with
           | true => some (.slice (some (match Nat.beq m l with | true => a | false => a.add (Nat.mul l inf.size))) (Nat.sub h l) (Nat.mul 2 (Nat.sub m l)))
           | false => match Nat.beq l 0 with
             | true => some (.slice (some a) h c)
             | false => match Nat.blt l len with
               | true => match Nat.beq (Nat.div c 2) inf.size with
                 | true => some (.slice (some (a.add (Nat.mul l inf.size))) (Nat.sub h l) c)
                 | false => none
               | false => some (emptyAt P)
         | none => none
     | none => none
   | _ => none
 | .pointer (some a) => match P.underlying t with
   | some (.array n e) => match P.info? e with
     | some inf => match ja2 ρ n n lo hi mx with
       | some (l, h, m) => some (.slice (some (match Nat.beq m l with | true => a | false => a.add (Nat.mul l inf.size))) (Nat.sub h l) (Nat.mul 2 (Nat.sub m l)))
       | none => none
     | none => none
   | _ => none
 | .string s => match P.underlying t with
   | some .string => match mx with
     | some _ => none
     | none => match ja2 ρ s.data.toList.length s.data.toList.length lo hi none with
       | some (l, h, _) => some (.string ⟨((s.data.toList.drop l).take (Nat.sub h l)).toArray⟩)
       | none => none
   | _ => none
 | .slice none l c => match Nat.beq (Nat.add l c) 0 with
   | true => match P.underlying t with
     | some (.slice e) => match P.info? e with
       | some _ => match ja2 ρ 0 0 lo hi mx with
         | some _ => some (.slice none 0 0)
         | none => none
       | none => none
     | _ => none
   | false => none
 | _ => none
theorem jhk {l c : Nat} {v : Value} (h : VRel J (.slice none l c) v) : v = .slice none l c := by
 cases h
 rfl
theorem jfa {a a' : Addr} {i o b s : Nat} (ha : a = ⟨i, o, none⟩) (ha' : a' = ⟨b, o, none⟩) (hJ : J i = .at b s) {l h m z : Nat} :
  VRel J (.slice (some (match Nat.beq m l with | true => a | false => a.add (Nat.mul l z))) (Nat.sub h l) (Nat.mul 2 (Nat.sub m l)))
   (.slice (some (if m = l then a' else a'.add (l * z))) (h - l) (m - l)) := by
 subst ha ha'
 have hc : ∀ off, CapRel (2 * (m - l)) (m - l) (h - l) off s := fun off => .inl ⟨by omega, by omega⟩
 cases hb : Nat.beq m l with
 | true =>
   have : m = l := rzD hb
   rw [if_pos this]
   exact .slice hJ (hc _)
 | false =>
   have : m ≠ l := rzF hb
   rw [if_neg this]
   show VRel J (.slice (some (Addr.add _ (l * z))) _ _) _
   unfold Addr.add
   by_cases hz : l * z = 0
   ·rw [if_pos hz, if_pos hz]; exact .slice hJ (hc _)
   ·rw [if_neg hz, if_neg hz]; exact .slice hJ (hc _)
theorem jgp {a a' : Addr} (hJ : J a.block = .dead) {l h m z : Nat} :
  VRel J (.slice (some (match Nat.beq m l with | true => a | false => a.add (Nat.mul l z))) (Nat.sub h l) (Nat.mul 2 (Nat.sub m l)))
   (.slice (some (if m = l then a' else a'.add (l * z))) (h - l) (m - l)) := by
 refine .sliceDead _ _ ?_ (.inl ⟨by show (2 * (m - l)) % 2 = 0; omega, by show m - l = (2 * (m - l)) / 2; omega⟩)
 cases Nat.beq m l with
 | true => exact hJ
 | false => show J (Addr.add a _).block = _; unfold Addr.add; split <;> exact hJ
theorem add_dead {a : Addr} (hJ : J a.block = .dead) (n : Nat) : J (a.add n).block = .dead := by
 unfold Addr.add; split <;> exact hJ
theorem jh1 {ρ ρ' : Operand → Value} (hρ : ∀ x, VRel J (ρ x) (ρ' x)) (hD : J P.globals.size = .dead) {o : Oper} {t : TypeId} {x : Operand} {lo hi mx : Option Operand} {v : Value}
  (ho : o.op = .slice t x lo hi mx) (h : jaJ P ρ t x lo hi mx = some v) : Gives P J ρ' o v := by
 unfold jaJ at h
 have hx := hρ x
 split at h
 ·rename_i a len c e
  rw [e] at hx
  obtain ⟨a', c', hx', _, hcase⟩ := jbi hx
  split at h
  ·rename_i el hu
   have hrun : ∀ {l hh m' : Nat} {inf : TypeInfo} (hinf : P.info? el = some inf) {w : World} (hr : (Instr.sliceBounds true len c' (lo.map ρ') (hi.map ρ') (mx.map ρ')).run P w = .ok (l, hh, m') w),
     (execOp ρ' o).run P w = .ok (.value (.slice (some (if m' = l then a' else a'.add (l * inf.size))) (hh - l) (m' - l))) w := by
    intro l hh m' inf hinf w hr
    simp only [execOp, ho, Instr.sliceAt, rzB, jar hu, rzA, hx', Instr.slice, hr, ja9 hinf, rzC, Option.map_some]
    by_cases hml : m' = l
    ·rw [if_pos hml, if_pos hml]
    ·rw [if_neg hml, if_neg hml]
   split at h
   ·rename_i inf hinf
    split at h
    ·rename_i hcf
     have hcf' : c % 2 = 0 := rzD hcf
     split at h
     ·rename_i l hh m hb
      cases h
      have hcc : c' = c / 2 := by
       rcases hcase with ⟨i, o', b, s, ha, ha', hJ, hcap⟩ | ⟨_, hcap⟩
       ·rcases hcap with ⟨_, e2⟩ | ⟨e2, _⟩
        ·exact e2
        ·omega
       ·rcases hcap with ⟨_, e2⟩ | ⟨e2, _⟩
        ·exact e2
        ·omega
      subst hcc
      have hr : ∀ w, (Instr.sliceBounds true len (c / 2) (lo.map ρ') (hi.map ρ') (mx.map ρ')).run P w = .ok (l, hh, m) w := by
       intro w
       obtain ⟨m', hr, h1, h2, _⟩ := jb5 (P := P) hρ hb (Nat.le_refl (c / 2)) true w
       have hmm : m' = m := by
        cases mx with
        | none => exact (h2 rfl).trans (jfC hb).symm
        | some q => exact h1 rfl
       rw [hmm] at hr
       exact hr
      rcases hcase with ⟨i, o', b, s, ha, ha', hJ, hcap⟩ | ⟨hdead, _⟩
      ·exact ⟨_, jfa ha ha' hJ, fun w => hrun hinf (hr w)⟩
      ·exact ⟨_, jgp hdead, fun w => hrun hinf (hr w)⟩
     ·cases h
    ·rename_i hcf
     have hcf' : c % 2 = 1 := by have : c % 2 ≠ 0 := rzF hcf; omega
     have hlc : len ≤ c' := by
      rcases hcase with ⟨i, o', b, s, ha, ha', hJ, hcap⟩ | ⟨_, hcap⟩
      ·rcases hcap with ⟨e2, _⟩ | ⟨_, e2, _⟩
       ·omega
       ·exact e2
      ·rcases hcap with ⟨e2, _⟩ | ⟨_, e2⟩
       ·omega
       ·exact e2
     split at h
     ·rename_i l hh m hb
      obtain ⟨m0, _, _, _, hlh, hh1, hh2, hml⟩ := jb5 (P := P) hρ hb hlc true default
      have hhl : hh ≤ len := by
       cases hi with
       | none => rw [hh1 rfl]; exact Nat.le_refl _
       | some q => exact Nat.le_trans (hh2 rfl) hml
      split at h
      ·rename_i hs
       cases h
       have hr : ∀ w, (Instr.sliceBounds true len c' (lo.map ρ') (hi.map ρ') (mx.map ρ')).run P w = .ok (l, hh, m) w := by
        intro w
        obtain ⟨m', hr, h1, h2, _⟩ := jb5 (P := P) hρ hb hlc true w
        have hmm : m' = m := by
         cases mx with
         | none => cases hs
         | some q => exact h1 rfl
        rw [hmm] at hr
        exact hr
       rcases hcase with ⟨i, o', b, s, ha, ha', hJ, hcap⟩ | ⟨hdead, _⟩
       ·exact ⟨_, jfa ha ha' hJ, fun w => hrun hinf (hr w)⟩
       ·exact ⟨_, jgp hdead, fun w => hrun hinf (hr w)⟩
      ·rename_i hs
       have hr : ∀ w, (Instr.sliceBounds true len c' (lo.map ρ') (hi.map ρ') (mx.map ρ')).run P w = .ok (l, hh, c') w := by
        intro w
        obtain ⟨m', hr, h1, h2, _⟩ := jb5 (P := P) hρ hb hlc true w
        have hmm : m' = c' := by
         cases mx with
         | none => exact h2 rfl
         | some q => cases hs
        rw [hmm] at hr
        exact hr
       split at h
       ·rename_i hl0
        obtain rfl : l = 0 := rzD hl0
        cases h
        have ea : (if c' = 0 then a' else a'.add (0 * inf.size)) = a' := by
         split
         ·rfl
         ·rw [Nat.zero_mul]; unfold Addr.add; rw [if_pos rfl]
        refine ⟨.slice (some a') hh c', ?_, fun w => by have := hrun hinf (hr w); rw [ea] at this; exact this⟩
        rcases hcase with ⟨i, o', b, s, ha, ha', hJ, hcap⟩ | ⟨hdead, hcap⟩
        ·subst ha ha'
         rcases hcap with ⟨e2, _⟩ | ⟨e1, e2, e3⟩
         ·omega
         ·exact .slice hJ (.inr ⟨e1, by omega, e3⟩)
        ·exact .sliceDead _ _ hdead (.inr ⟨hcf', by omega⟩)
       ·split at h
        ·rename_i hll
         have hll' : l < len := by simpa using hll
         split at h
         ·rename_i hes
          have hes' : c / 2 = inf.size := rzD hes
          cases h
          have ea : (if c' = l then a' else a'.add (l * inf.size)) = a'.add (l * inf.size) := if_neg (by omega)
          refine ⟨.slice (some (a'.add (l * inf.size))) (hh - l) (c' - l), ?_, fun w => by have := hrun hinf (hr w); rw [ea] at this; exact this⟩
          rcases hcase with ⟨i, o', b, s, ha, ha', hJ, hcap⟩ | ⟨hdead, hcap⟩
          ·subst ha ha'
           rcases hcap with ⟨e2, _⟩ | ⟨e1, e2, e3⟩
           ·omega
           ·rw [hes'] at e3
            have key : ∀ x, x = o' + l * inf.size → CapRel c (c' - l) (hh - l) x s := by
             intro x hx
             refine .inr ⟨e1, by omega, ?_⟩
             rw [hes', hx, Nat.sub_mul]
             have : l * inf.size ≤ c' * inf.size := Nat.mul_le_mul_right _ (by omega)
             omega
            show VRel J (.slice (some (Addr.add _ (l * inf.size))) _ _) _
            unfold Addr.add
            by_cases hz : l * inf.size = 0
            ·rw [if_pos hz, if_pos hz]; exact .slice hJ (key _ (by omega))
            ·rw [if_neg hz, if_neg hz]; exact .slice hJ (key _ rfl)
          ·exact .sliceDead _ _ (add_dead hdead _) (.inr ⟨hcf', by show hh - l ≤ c' - l; omega⟩)
         ·cases h
        ·rename_i hll
         have hll' : ¬ l < len := fun hlt => by rw [show l.blt len = true from by simpa using hlt] at hll; cases hll
         cases h
         have e0 : hh - l = 0 := by omega
         refine ⟨.slice (some (if c' = l then a' else a'.add (l * inf.size))) 0 (c' - l), .sliceDead _ _ hD (.inr ⟨rfl, Nat.zero_le _⟩), fun w => by
          have := hrun hinf (hr w); rw [e0] at this; exact this⟩
     ·cases h
   ·cases h
  ·cases h
 ·rename_i a e
  rw [e] at hx
  split at h
  ·rename_i n el hu
   split at h
   ·rename_i inf hinf
    ·split at h
     ·rename_i l hh m hb
      cases h
      obtain ⟨a', hx', _⟩ := jdj hx
      have hr : ∀ w, (Instr.sliceBounds false n n (lo.map ρ') (hi.map ρ') (mx.map ρ')).run P w = .ok (l, hh, m) w := by
       intro w
       obtain ⟨m', hr, h1, h2, _⟩ := jb5 (P := P) hρ hb (Nat.le_refl n) false w
       have hmm : m' = m := by
        cases mx with
        | none => exact (h2 rfl).trans (jfC hb).symm
        | some q => exact h1 rfl
       rw [hmm] at hr
       exact hr
      have hrun : ∀ w, (execOp ρ' o).run P w = .ok (.value (.slice (some (if m = l then a' else a'.add (l * inf.size))) (hh - l) (m - l))) w := by
       intro w
       simp only [execOp, ho, Instr.sliceAt, rzB, jar hu, rzA, hx', Instr.sureAddr, hr w, ja9 hinf, rzC]
      rw [hx'] at hx
      cases hx with
      | ptr hJ => exact ⟨_, jfa rfl rfl hJ, hrun⟩
      | ptrDead _ hdead => exact ⟨_, jgp hdead, hrun⟩
     ·cases h
   ·cases h
  ·cases h
 ·rename_i s e
  rw [e] at hx
  split at h
  ·rename_i hu
   split at h
   ·cases h
   ·split at h
    ·rename_i l hh m hb
     cases h
     have hlen : s.data.toList.length = s.size := by rw [Array.length_toList]; rfl
     rw [hlen] at hb
     refine ⟨_, .string _, fun w => ?_⟩
     obtain ⟨m', hr, h1, h2, hlh, _⟩ := jb5 (P := P) hρ hb (Nat.le_refl _) false w
     simp only [Option.map_none] at hr
     have ex : s.extract l hh = ⟨((s.data.toList.drop l).take (Nat.sub hh l)).toArray⟩ := by
      apply ByteArray.ext
      rw [ByteArray.data_extract]
      apply Array.ext'
      rw [Array.toList_extract]
      rfl
     simp only [execOp, ho, Instr.sliceAt, rzB, jar hu, rzA, jbb hx, Instr.slice, Option.map_none, Option.isSome_none, Bool.false_eq_true, if_false, hr, rzC, ex]
    ·cases h
  ·cases h
 ·rename_i l0 c0 e
  rw [e] at hx
  have hx' : ρ' x = .slice none l0 c0 := jhk hx
  split at h
  ·rename_i hz
   have hz' : l0 + c0 = 0 := rzD hz
   obtain rfl : l0 = 0 := by omega
   obtain rfl : c0 = 0 := by omega
   split at h
   ·rename_i el hu
    split at h
    ·rename_i inf hinf
     split at h
     ·rename_i r hb
      cases h
      obtain ⟨l, hh, m⟩ := r
      refine ⟨.slice none 0 0, .sliceNil 0 0, fun w => ?_⟩
      obtain ⟨m', hr, h1, h2, hlh, hh1, hh2, hml⟩ := jb5 (P := P) hρ hb (Nat.le_refl 0) true w
      obtain rfl : m = 0 := by omega
      obtain rfl : hh = 0 := by
       rcases hi with _ | q
       ·exact hh1 rfl
       ·exact Nat.le_zero.1 (hh2 rfl)
      obtain rfl : l = 0 := by omega
      obtain rfl : m' = 0 := by
       rcases mx with _ | q
       ·exact h2 rfl
       ·exact h1 rfl
      simp only [execOp, ho, Instr.sliceAt, rzB, jar hu, rzA, hx', Instr.slice, hr, ja9 hinf, rzC, if_true]
     ·cases h
    ·cases h
   ·cases h
  ·cases h
 ·cases h
end
noncomputable section
variable {P : Program} {J : Nat → Loc}
theorem jbf {v v' : Value} (h : VRel J v v') : ARel J #[v] #[v'] where
 size := rfl
 at_ i a b ha hb := by
  cases i with
  | zero => simp at ha hb; subst ha hb; exact h
  | succ i => simp at ha
theorem jgQ {u u' v v' : Value} (h1 : VRel J u u') (h : VRel J v v') : ARel J #[u, v] #[u', v'] where
 size := rfl
 at_ i a b ha hb := by
  match i with
  | 0 => simp at ha hb; subst ha hb; exact h1
  | 1 => simp at ha hb; subst ha hb; exact h
  | i + 2 => simp at ha
def jaO (P : Program) (t : TypeId) : Option Value :=
 match P.info? t with
 | some inf => match inf.zero with
   | some z => match jaw 5 z with
     | true => some z
     | false => none
   | none => none
 | none => none
theorem ja7 {t : TypeId} {z : Value} (h : jaO P t = some z) (w : World) : (zeroValue t).run P w = .ok z w ∧ jaw 5 z = true := by
 unfold jaO at h
 split at h
 ·rename_i inf hinf
  split at h
  ·rename_i z' hz
   split at h
   ·rename_i hp
    cases h
    exact ⟨by simp only [zeroValue, rzB, jc5 hinf, rzA, hz, rzC], hp⟩
   ·cases h
  ·cases h
 ·cases h
def jg3 (P : Program) (ρ : Operand → Value) (x : Operand) (asserted : TypeId) (ok : Bool) : Option Value :=
 match ρ x with
 | .iface t v => match P.underlying asserted with
   | some (.interface want) => match want.toList with
     | [] => match P.info? t with
       | some _ => match ok with
         | true => some (.tuple #[.iface t v, .bool true])
         | false => some (.iface t v)
       | none => none
     | _ => none
   | some _ => match Nat.beq t asserted with
     | true => match ok with
       | true => some (.tuple #[v, .bool true])
       | false => some v
     | false => match ok with
       | true => match jaO P asserted with
         | some z => some (.tuple #[z, .bool false])
         | none => none
       | false => none
   | none => none
 | _ => none
theorem jg2 {ρ ρ' : Operand → Value} (hρ : ∀ x, VRel J (ρ x) (ρ' x)) {o : Oper} {x : Operand} {xt asserted : TypeId} {ok : Bool} {v : Value} (ho : o.op = .typeAssert x xt asserted ok)
  (h : jg3 P ρ x asserted ok = some v) : Gives P J ρ' o v := by
 unfold jg3 at h
 have hx := hρ x
 split at h
 ·rename_i t u e
  rw [e] at hx
  obtain ⟨u', hx', hu⟩ := jcW hx
  have hx2 := hx
  rw [hx'] at hx2
  split at h
  ·rename_i want hun
   split at h
   ·rename_i hw
    obtain rfl : want = #[] := by cases want; simp_all
    split at h
    ·rename_i inf hinf
     have hmm : Instr.missingMethod #[] inf.methods = none := by simp [Instr.missingMethod, Instr.least]
     split at h
     ·cases h
      have := jgQ hx2 (.bool (J := J) true)
      exact ⟨_, .tuple this.size this.at_, fun w => by
       simp only [execOp, ho, hx', Instr.typeAssert, rzB, jar hun, rzA, jc5 hinf, hmm, rzC, if_true]⟩
     ·cases h
      exact ⟨_, hx2, fun w => by
       simp only [execOp, ho, hx', Instr.typeAssert, rzB, jar hun, rzA, jc5 hinf, hmm, rzC, Bool.false_eq_true, if_false]⟩
    ·cases h
   ·cases h
  ·rename_i d hni hun
   have key : ∀ w, (execOp ρ' o).run P w = (if t = asserted then (pure (.value (if ok then .tuple #[u', .bool true] else u')) : Sem Next) else
     (do let r ← (if ok then do pure (Value.tuple #[← zeroValue asserted, .bool false]) else runtimePanic (.typeAssertion (some xt) (some t) asserted "") : Sem Value); pure (.value r))).run P w := by
    intro w
    simp only [execOp, ho, hx', Instr.typeAssert, rzB, jar hun, rzA]
    cases d <;> first
     | exact absurd rfl (hni _)
     | (by_cases hta : t = asserted
        ·simp only [if_pos hta, rzC, rzA]
        ·simp only [if_neg hta, rzB])
   split at h
   ·rename_i hb
    have hta : t = asserted := rzD hb
    split at h
    ·cases h
     have := jgQ hu (.bool (J := J) true)
     exact ⟨_, .tuple this.size this.at_, fun w => by rw [key, if_pos hta]; simp only [if_true, rzC]⟩
    ·cases h
     exact ⟨_, hu, fun w => by rw [key, if_pos hta]; simp only [Bool.false_eq_true, if_false, rzC]⟩
   ·rename_i hb
    have hta : t ≠ asserted := rzF hb
    split at h
    ·split at h
     ·rename_i z hz
      cases h
      have := jgQ (ja1 (J := J) 5 (ja7 hz default).2) (.bool (J := J) false)
      exact ⟨_, .tuple this.size this.at_, fun w => by
       rw [key, if_neg hta]; simp only [if_true, rzB, (ja7 hz w).1, rzA, rzC]⟩
     ·cases h
    ·cases h
  ·cases h
 ·cases h
def jaS : Value → List Value
 | .agg cs => cs.toList
 | v => [v]
def setL (cs : List Value) (off : Nat) (vs : List Value) : List Value := cs.take off ++ (vs ++ cs.drop (Nat.add off vs.length))
def jfg : Value → Bool
 | .chan _ => false
 | _ => true
def jcC (place : Nat → Option (Nat × Nat)) : List Value → List (Nat × Value) → Option (List Value)
 | cs, [] => some cs
 | cs, (i, v) :: r => match place i with
   | none => none
   | some (off, size) => match jfg v with
     | false => none
     | true => match Nat.beq (jaS v).length size with
       | false => none
       | true => match Nat.ble (Nat.add off size) cs.length with
         | false => none
         | true => jcC place (setL cs off (jaS v)) r
theorem jcb {v v' : Value} (h : VRel J v v') (hn : jfg v = true) : ARel J (jaS v).toArray v'.cells := by
 cases h with
 | any r v => cases hn
 | agg hx hx' => exact ⟨hx, hx'⟩
 | bool b => exact jbf (.bool b)
 | int k n => exact jbf (.int k n)
 | float k n => exact jbf (.float k n)
 | complex k n m => exact jbf (.complex k n m)
 | string s => exact jbf (.string s)
 | ptrNil => exact jbf .ptrNil
 | ptr e => exact jbf (.ptr e)
 | ptrDead a' e => exact jbf (.ptrDead a' e)
 | sliceNil l c => exact jbf (.sliceNil l c)
 | slice e hc => exact jbf (.slice e hc)
 | sliceDead a' c' e hc => exact jbf (.sliceDead a' c' e hc)
 | mapNil => exact jbf .mapNil
 | map e => exact jbf (.map e)
 | mapDead b e => exact jbf (.mapDead b e)
 | nilFunc => exact jbf .nilFunc
 | func hf h1 h2 h3 h4 => exact jbf (.func hf h1 h2 h3 h4)
 | iface h => exact jbf (.iface h)
 | nilIface => exact jbf .nilIface
 | tuple h1 h2 => exact jbf (.tuple h1 h2)
theorem foldl_set (off : Nat) : ∀ (l : List Value) (n : Nat) (cs : Array Value) (k : Nat),
  ((l.zipIdx n).foldl (fun cs (x : Value × Nat) => cs.setIfInBounds (off + x.2) x.1) cs)[k]? =
    if off + n ≤ k ∧ k < off + n + l.length ∧ k < cs.size then l[k - (off + n)]? else cs[k]? := by
 intro l
 induction l with
 | nil => intro n cs k; simp; intro h1 h2; omega
 | cons a l ih =>
   intro n cs k
   rw [List.zipIdx_cons, List.foldl_cons, ih]
   simp only [Array.size_setIfInBounds, Array.getElem?_setIfInBounds, List.length_cons]
   by_cases h1 : off + (n + 1) ≤ k ∧ k < off + (n + 1) + l.length ∧ k < cs.size
   ·rw [if_pos h1, if_pos (by omega), show k - (off + n) = (k - (off + (n + 1))) + 1 from by omega, List.getElem?_cons_succ]
   ·rw [if_neg h1]
    by_cases h2 : off + n = k
    ·subst h2
     by_cases h3 : off + n < cs.size
     ·rw [if_pos rfl, if_pos h3, if_pos (by omega)]; simp
     ·rw [if_pos rfl, if_neg h3, if_neg (by omega)]
      rw [Array.getElem?_eq_none (by omega)]
    ·rw [if_neg h2, if_neg (by omega)]
theorem arel_set {cs : List Value} {cs' : Array Value} (h : ARel J cs.toArray cs') {vs : List Value} {vs' : Array Value} (hv : ARel J vs.toArray vs') {off : Nat} (hle : off + vs.length ≤ cs.length) :
  ARel J (setL cs off vs).toArray (vs'.zipIdx.foldl (fun cs (x : Value × Nat) => cs.setIfInBounds (off + x.2) x.1) cs') := by
 have hs1 : vs.length = vs'.size := by simpa using hv.size
 have hs2 : cs.length = cs'.size := by simpa using h.size
 have e : ∀ k : Nat, (vs'.zipIdx.foldl (fun cs (x : Value × Nat) => cs.setIfInBounds (off + x.2) x.1) cs')[k]? = if off ≤ k ∧ k < off + vs'.size ∧ k < cs'.size then vs'[k - off]? else cs'[k]? := by
  intro k
  have := foldl_set off vs'.toList 0 cs' k
  rw [← Array.foldl_toList, Array.toList_zipIdx]
  simpa using this
 have hsz : (vs'.zipIdx.foldl (fun cs (x : Value × Nat) => cs.setIfInBounds (off + x.2) x.1) cs').size = cs'.size := by
  have : ∀ (l : List (Value × Nat)) (c : Array Value), (l.foldl (fun cs (x : Value × Nat) => cs.setIfInBounds (off + x.2) x.1) c).size = c.size := by
   intro l
   induction l with
   | nil => intro c; rfl
   | cons a l ih => intro c; rw [List.foldl_cons, ih, Array.size_setIfInBounds]
  rw [← Array.foldl_toList]
  exact this _ _
 constructor
 ·rw [hsz, ← hs2]
  simp [setL]
  omega
 ·intro i a b ha hb
  rw [e] at hb
  simp only [setL, List.getElem?_toArray] at ha
  by_cases h1 : i < off
  ·rw [if_neg (by omega)] at hb
   rw [List.getElem?_append_left (by simp; omega), List.getElem?_take, if_pos h1] at ha
   exact h.at_ i a b (by simpa using ha) hb
  ·have htl : (cs.take off).length = off := by simp; omega
   rw [List.getElem?_append_right (by omega), htl] at ha
   by_cases h2 : i < off + vs.length
   ·rw [if_pos ⟨by omega, by omega, by omega⟩] at hb
    rw [List.getElem?_append_left (by omega)] at ha
    exact hv.at_ _ a b (by simpa using ha) hb
   ·rw [if_neg (by omega)] at hb
    rw [List.getElem?_append_right (by omega), List.getElem?_drop] at ha
    refine h.at_ i a b ?_ hb
    rw [show Nat.add off vs.length + (i - off - vs.length) = i from by show off + vs.length + _ = _; omega] at ha
    simpa using ha
theorem jdR {place : Nat → Option (Nat × Nat)} : ∀ (parts : List (Nat × Value)) (parts' : List (Nat × Value)) (cs : List Value) (cs' : Array Value) (r : List Value),
  ARel J cs.toArray cs' → parts.length = parts'.length → (∀ (k : Nat) p p', parts[k]? = some p → parts'[k]? = some p' → p.1 = p'.1 ∧ VRel J p.2 p'.2) →
  jcC place cs parts = some r → ∃ r', Instr.fill place cs' parts' = some r' ∧ ARel J r.toArray r' := by
 intro parts
 induction parts with
 | nil =>
   intro parts' cs cs' r h hl _ hr
   cases parts' with
   | nil => simp only [jcC] at hr; cases hr; exact ⟨cs', rfl, h⟩
   | cons _ _ => simp at hl
 | cons p parts ih =>
   intro parts' cs cs' r h hl hp hr
   cases parts' with
   | nil => simp at hl
   | cons p' parts' =>
     obtain ⟨i, v⟩ := p
     obtain ⟨i', v'⟩ := p'
     obtain ⟨h1, h2⟩ := hp 0 _ _ rfl rfl
     simp only at h1 h2
     subst h1
     simp only [jcC] at hr
     split at hr
     ·cases hr
     ·rename_i off size hpl
      split at hr
      ·cases hr
      ·rename_i hna
       split at hr
       ·cases hr
       ·rename_i hsz
        split at hr
        ·cases hr
        ·rename_i hle
         have hc := jcb h2 hna
         have hsz' : (jaS v).length = size := rzD hsz
         have hle' : off + size ≤ cs.length := rzE hle
         have hs1 : (jaS v).length = v'.cells.size := by simpa using hc.size
         have hs2 : cs.length = cs'.size := by simpa using h.size
         obtain ⟨r', hr', hR⟩ := ih parts' _ _ r (arel_set h hc (off := off) (by omega)) (by simpa using hl) (fun k p p' a b => hp (k + 1) p p' (by simpa using a) (by simpa using b)) hr
         refine ⟨r', ?_, hR⟩
         simp only [Instr.fill, hpl]
         rw [if_neg (by simp; omega)]
         exact hr'
def jcO (P : Program) : List Field → Option (List (Nat × Nat))
 | [] => some []
 | f :: r => match P.info? f.type with
   | none => none
   | some inf => match jcO P r with
     | none => none
     | some l => some ((f.offset, inf.size) :: l)
theorem jfe : ∀ (l : List Field) (r : List (Nat × Nat)), jcO P l = some r → ∀ w,
  (l.mapM (fun f => do pure (f.offset, ← sizeOf f.type)) : Sem (List (Nat × Nat))).run P w = .ok r w := by
 intro l
 induction l with
 | nil => intro r h w; simp only [jcO] at h; cases h; rfl
 | cons f l ih =>
   intro r h w
   simp only [jcO] at h
   split at h
   ·cases h
   ·rename_i inf hinf
    split at h
    ·cases h
    ·rename_i l' hl
     cases h
     simp only [List.mapM_cons, rzB, ja9 hinf, rzA, rzC, ih _ hl w]
theorem run_places {fields : Array Field} {r : List (Nat × Nat)} (h : jcO P fields.toList = some r) (w : World) :
  (fields.mapM (fun f => do pure (f.offset, ← sizeOf f.type)) : Sem (Array (Nat × Nat))).run P w = .ok r.toArray w := by
 rw [Array.mapM_eq_mapM_toList]
 show (Functor.map List.toArray _ : Sem _).run P w = _
 rw [map_eq_pure_bind]
 simp only [rzB, jfe _ _ h w, rzA, rzC]
def jbF (P : Program) (ρ : Operand → Value) (t : TypeId) (parts : Array (Nat × Operand)) : Option Value :=
 match jaO P t with
 | none => none
 | some z => match P.underlying t with
   | some (.struct fields) => match jcO P fields.toList with
     | none => none
     | some pl => match jcC (fun i => pl[i]?) (jaS z) (parts.toList.map fun p => (p.1, ρ p.2)) with
       | some cs => some (.agg cs.toArray)
       | none => none
   | some (.array _ e) => match P.info? e with
     | none => none
     | some inf => match jcC (fun i => some (Nat.mul i inf.size, inf.size)) (jaS z) (parts.toList.map fun p => (p.1, ρ p.2)) with
       | some cs => some (.agg cs.toArray)
       | none => none
   | _ => none
theorem jcG {n : Nat} {v : Value} (h : jaw n v = true) : jfg v = true := by
 cases v <;> first | rfl | (cases n <;> simp [jaw] at h)
theorem jhR (v : Value) : jaS v = v.cells.toList := by cases v <;> rfl
theorem jhz {ρ ρ' : Operand → Value} (hρ : ∀ x, VRel J (ρ x) (ρ' x)) (parts : Array (Nat × Operand)) :
  (parts.toList.map fun p => (p.1, ρ p.2)).length = (parts.map fun (i, x) => (i, ρ' x)).toList.length ∧
  ∀ (k : Nat) p p', (parts.toList.map fun p => (p.1, ρ p.2))[k]? = some p → (parts.map fun (i, x) => (i, ρ' x)).toList[k]? = some p' → p.1 = p'.1 ∧ VRel J p.2 p'.2 := by
 constructor
 ·simp
 ·intro k p p' h1 h2
  rw [Array.toList_map] at h2
  rw [List.getElem?_map] at h1 h2
  cases hk : parts.toList[k]? with
  | none => rw [hk] at h1; cases h1
  | some q =>
    rw [hk] at h1 h2
    simp only [Option.map_some, Option.some.injEq] at h1 h2
    subst h1 h2
    exact ⟨rfl, hρ _⟩
theorem jia {ρ ρ' : Operand → Value} (hρ : ∀ x, VRel J (ρ x) (ρ' x)) {o : Oper} {t : TypeId} {parts : Array (Nat × Operand)} {v : Value} (ho : o.op = .build t parts)
  (h : jbF P ρ t parts = some v) : Gives P J ρ' o v := by
 unfold jbF at h
 obtain ⟨hl, hp⟩ := jhz hρ parts
 split at h
 ·cases h
 ·rename_i z hz
  have hzp := (ja7 hz default).2
  have hz2 : ARel J (jaS z).toArray z.cells := jcb (ja1 5 hzp) (jcG hzp)
  split at h
  ·rename_i fields hu
   split at h
   ·cases h
   ·rename_i pl hpl
    split at h
    ·rename_i cs hcs
     cases h
     obtain ⟨r', hr', hR⟩ := jdR _ _ _ _ _ hz2 hl hp hcs
     refine ⟨.agg r', .agg hR.size hR.at_, fun w => ?_⟩
     have e : (fun i : Nat => pl[i]?) = (fun i : Nat => pl.toArray[i]?) := by funext i; simp
     rw [e] at hr'
     simp only [execOp, ho, Instr.build, rzB, (ja7 hz w).1, jar hu, rzA, run_places hpl w, hr', rzC]
    ·cases h
  ·rename_i n e hu
   split at h
   ·cases h
   ·rename_i inf hinf
    split at h
    ·rename_i cs hcs
     cases h
     obtain ⟨r', hr', hR⟩ := jdR _ _ _ _ _ hz2 hl hp hcs
     refine ⟨.agg r', .agg hR.size hR.at_, fun w => ?_⟩
     have hr'' : Instr.fill (fun i => some (i * inf.size, inf.size)) z.cells (parts.map fun (i, x) => (i, ρ' x)).toList = some r' := hr'
     simp only [execOp, ho, Instr.build, rzB, (ja7 hz w).1, jar hu, rzA, ja9 hinf, hr'', rzC]
    ·cases h
  ·cases h
def aLen (P : Program) (t : TypeId) (v : Value) : Option Nat :=
 match v with
 | .slice _ n _ => match P.underlying t with
   | some (.slice _) => some n
   | _ => none
 | .string s => match P.underlying t with
   | some .string => some s.data.toList.length
   | _ => none
 | .map none => match P.underlying t with
   | some (.map _ _) => some 0
   | _ => none
 | _ => match P.underlying t with
   | some (.array n _) => some n
   | _ => none
theorem aLen_run {t : TypeId} {v v' : Value} {n : Nat} (hv : VRel J v v') (h : aLen P t v = some n) (ty : TypeId) (ts : Array TypeId) (ht : ts[0]? = some t) (w : World) :
  (Builtin.len_ ts ty #[v']).run P w = .ok (.int .i64 n) w := by
 unfold aLen at h
 split at h
 ·split at h
  ·rename_i a l c e hu
   cases h
   cases hv <;> simp [Builtin.len_, ht, rzB, jar hu, rzA, rzC, goInt]
  ·cases h
 ·split at h
  ·rename_i s _ hu
   cases h
   rw [jbb hv]
   have e : s.data.toList.length = s.size := by rw [Array.length_toList]; rfl
   rw [e]
   simp [Builtin.len_, ht, rzB, jar hu, rzA, rzC, goInt]
  ·cases h
 ·split at h
  ·rename_i k e hu
   cases h
   cases hv
   simp [Builtin.len_, ht, rzB, jar hu, rzA, rzC, goInt]
  ·cases h
 ·split at h
  ·rename_i m e hu
   cases h
   simp [Builtin.len_, ht, rzB, jar hu, rzA, rzC, goInt]
  ·cases h
def jbE (P : Program) (ρ : Operand → Value) (b : Builtin) (args : List Operand) (ts : List TypeId) (ty : TypeId) : Option Value :=
 match b with
 | .len => match args, ts with
   | [x], t :: _ => match aLen P t (ρ x) with
     | some n => some (.int .i64 n)
     | none => none
   | _, _ => none
 | .cap => match args, ts with
   | [x], t :: _ => match ρ x with
     | .slice (some _) _ c => match P.underlying t with
       | some (.slice _) => match Nat.beq (Nat.mod c 2) 0 with
         | true => some (.int .i64 (Nat.div c 2))
         | false => none
       | _ => none
     | .slice none _ c => match P.underlying t with
       | some (.slice _) => some (.int .i64 c)
       | _ => none
     | _ => none
   | _, _ => none
 | .max => match args with
   | [x, y] => match ρ x, ρ y with
     | .int k a, .int _ c => some (.int k (if c > a then c else a))
     | _, _ => none
   | [x, y, z] => match ρ x, ρ y, ρ z with
     | .int k a, .int _ c, .int _ d => some (.int k (if d > (if c > a then c else a) then d else (if c > a then c else a)))
     | _, _, _ => none
   | _ => none
 | .min => match args with
   | [x, y] => match ρ x, ρ y with
     | .int k a, .int _ c => some (.int k (if c < a then c else a))
     | _, _ => none
   | [x, y, z] => match ρ x, ρ y, ρ z with
     | .int k a, .int _ c, .int _ d => some (.int k (if d < (if c < a then c else a) then d else (if c < a then c else a)))
     | _, _, _ => none
   | _ => none
 | .unsafeSliceData => match args with
   | [x] => match ρ x with
     | .slice none _ _ => some (.pointer none)
     | .slice (some a) l c => match Nat.beq (Nat.mod c 2) 0 with
       | true => match Nat.beq (Nat.div c 2) 0 with
         | true => none
         | false => some (.pointer (some a))
       | false => match Nat.beq l 0 with
         | true => none
         | false => some (.pointer (some a))
     | _ => none
   | _ => none
 | _ => none
theorem jbO {ρ' : Operand → Value} {o : Oper} {c : Call} {b : Builtin} (ho : o.op = .call c) (hc : c.callee = .builtin b) :
  execOp ρ' o = builtin b c.argTypes o.type (c.args.map fun | .const _ => true | _ => false) (c.args.map ρ') := by
 simp only [execOp, ho, resolve, hc]
 rfl
theorem jdM {ρ' : Operand → Value} {c : Call} {x : Operand} (h : c.args.toList = [x]) : c.args.map ρ' = #[ρ' x] := by
 have : c.args = #[x] := by cases hc : c.args; rw [hc] at h; simp at h; rw [h]
 rw [this]; simp
theorem jdL {ρ' : Operand → Value} {c : Call} {x y : Operand} (h : c.args.toList = [x, y]) : c.args.map ρ' = #[ρ' x, ρ' y] := by
 have : c.args = #[x, y] := by cases hc : c.args; rw [hc] at h; simp at h; rw [h]
 rw [this]; simp
theorem jhC {ρ' : Operand → Value} {c : Call} {x y z : Operand} (h : c.args.toList = [x, y, z]) : c.args.map ρ' = #[ρ' x, ρ' y, ρ' z] := by
 have : c.args = #[x, y, z] := by cases hc : c.args; rw [hc] at h; simp at h; rw [h]
 rw [this]; simp
theorem jet {c : Call} {t : TypeId} {r : List TypeId} (h : c.argTypes.toList = t :: r) : c.argTypes[0]? = some t := by
 rw [← Array.getElem?_toList, h]; rfl
theorem jfU {ρ ρ' : Operand → Value} (hρ : ∀ x, VRel J (ρ x) (ρ' x)) {o : Oper} {c : Call} {b : Builtin} {v : Value} (ho : o.op = .call c) (hc : c.callee = .builtin b)
  (h : jbE P ρ b c.args.toList c.argTypes.toList o.type = some v) : Gives P J ρ' o v := by
 have hrun := jbO (ρ' := ρ') ho hc
 unfold jbE at h
 split at h
 ·
  split at h
  ·rename_i x t r ha ht
   split at h
   ·rename_i n hn
    cases h
    refine ⟨_, .int .i64 n, fun w => ?_⟩
    rw [hrun, jdM ha]
    simp only [builtin, rzB, aLen_run (hρ x) hn o.type _ (jet ht) w, rzA, rzC]
   ·cases h
  ·cases h
 ·
  split at h
  ·rename_i x t r ha ht
   have hx := hρ x
   split at h
   ·rename_i a l cc e
    rw [e] at hx
    obtain ⟨a', c', hx', _, hcase⟩ := jbi hx
    split at h
    ·rename_i el hu
     split at h
     ·rename_i hb
      cases h
      have hb' : cc % 2 = 0 := rzD hb
      have hcc : c' = cc / 2 := by
       rcases hcase with ⟨i, o', b, s, _, _, _, hcap⟩ | ⟨_, hcap⟩
       ·rcases hcap with ⟨_, e2⟩ | ⟨e2, _⟩
        ·exact e2
        ·omega
       ·rcases hcap with ⟨_, e2⟩ | ⟨e2, _⟩
        ·exact e2
        ·omega
      refine ⟨_, .int .i64 _, fun w => ?_⟩
      rw [hrun, jdM ha]
      simp only [builtin, Builtin.cap_, jet ht, hx', rzB, jar hu, rzA, rzC, goInt, hcc, List.getElem?_toArray, List.getElem?_cons_zero]
      rfl
     ·cases h
    ·cases h
   ·rename_i l cc e
    rw [e] at hx
    split at h
    ·rename_i el hu
     cases h
     have hx' : ρ' x = .slice none l cc := by generalize ρ' x = q at hx; cases hx; rfl
     refine ⟨_, .int .i64 _, fun w => ?_⟩
     rw [hrun, jdM ha]
     simp only [builtin, Builtin.cap_, jet ht, hx', rzB, jar hu, rzA, rzC, goInt, List.getElem?_toArray, List.getElem?_cons_zero]
    ·cases h
   ·cases h
  ·cases h
 ·
  split at h
  ·rename_i x y ha
   have hx := hρ x
   have hy := hρ y
   split at h
   ·rename_i k a k' c' e1 e2
    rw [e1] at hx
    rw [e2] at hy
    cases h
    refine ⟨_, .int k _, fun w => ?_⟩
    rw [hrun, jdL ha, ja4 hx, ja4 hy]
    rfl
   ·cases h
  ·rename_i x y z ha
   have hx := hρ x
   have hy := hρ y
   have hz := hρ z
   split at h
   ·rename_i k a k' c' k2 d2 e1 e2 e3
    rw [e1] at hx
    rw [e2] at hy
    rw [e3] at hz
    cases h
    refine ⟨_, .int k _, fun w => ?_⟩
    rw [hrun, jhC ha, ja4 hx, ja4 hy, ja4 hz]
    rfl
   ·cases h
  ·cases h
 ·
  split at h
  ·rename_i x y ha
   have hx := hρ x
   have hy := hρ y
   split at h
   ·rename_i k a k' c' e1 e2
    rw [e1] at hx
    rw [e2] at hy
    cases h
    refine ⟨_, .int k _, fun w => ?_⟩
    rw [hrun, jdL ha, ja4 hx, ja4 hy]
    rfl
   ·cases h
  ·rename_i x y z ha
   have hx := hρ x
   have hy := hρ y
   have hz := hρ z
   split at h
   ·rename_i k a k' c' k2 d2 e1 e2 e3
    rw [e1] at hx
    rw [e2] at hy
    rw [e3] at hz
    cases h
    refine ⟨_, .int k _, fun w => ?_⟩
    rw [hrun, jhC ha, ja4 hx, ja4 hy, ja4 hz]
    rfl
   ·cases h
  ·cases h
 ·
  split at h
  ·rename_i x ha
   have hx := hρ x
   split at h
   ·rename_i l cc e
    rw [e] at hx
    cases h
    have hx' : ρ' x = .slice none l cc := by generalize ρ' x = q at hx; cases hx; rfl
    refine ⟨_, .ptrNil, fun w => ?_⟩
    rw [hrun, jdM ha, hx']
    rfl
   ·rename_i a l cc e
    rw [e] at hx
    obtain ⟨a', c', hx', hadd, hcase⟩ := jbi hx
    have hz : VRel J (.pointer (some a)) (.pointer (some a')) := by
     have := hadd 0
     unfold Addr.add at this
     rw [if_pos rfl, if_pos rfl] at this
     exact this
    have hd : CapD cc c' l := by
     rcases hcase with ⟨i, o', b, s, _, _, _, hcap⟩ | ⟨_, hcap⟩
     ·exact hcap.dead
     ·exact hcap
    have hrun2 : c' ≠ 0 → ∀ w, (execOp ρ' o).run P w = .ok (.value (.pointer (some a'))) w := by
     intro hne w
     rw [hrun, jdM ha, hx']
     have e : Builtin.unsafeSliceData_ c.argTypes o.type #[.slice (some a') l c'] = (if c' ≠ 0 then pure (.pointer (some a')) else do
      if (← viewAt a'.block).isSome then pure (.pointer (some a'))
      else pure (.pointer (some ⟨← newObj (.view a' (← elemOf o.type)), 0, none⟩))) := rfl
     simp only [builtin, e, if_pos hne, rzB, rzC, rzA]
    split at h
    ·rename_i hb
     have hb' : cc % 2 = 0 := rzD hb
     split at h
     ·cases h
     ·rename_i h2
      have h2' : cc / 2 ≠ 0 := rzF h2
      cases h
      refine ⟨_, hz, hrun2 ?_⟩
      rcases hd with ⟨_, e2⟩ | ⟨e2, _⟩
      ·omega
      ·omega
    ·rename_i hb
     have hb' : cc % 2 ≠ 0 := rzF hb
     split at h
     ·cases h
     ·rename_i h2
      have h2' : l ≠ 0 := rzF h2
      cases h
      refine ⟨_, hz, hrun2 ?_⟩
      rcases hd with ⟨e2, _⟩ | ⟨_, e2⟩
      ·omega
      ·omega
   ·cases h
  ·cases h
 ·cases h
def jay (P : Program) (s d : TypeId) (v : Value) : Option Value :=
 match v with
 | .int _ n => match P.underlying d with
   | some (.int k) => match P.underlying s with
     | some _ => some (.int k (jak k n))
     | none => none
   | _ => none
 | _ => none
theorem jfT {ρ ρ' : Operand → Value} (hρ : ∀ x, VRel J (ρ x) (ρ' x)) {o : Oper} {s d : TypeId} {x : Operand} {v : Value} (ho : o.op = .convert s d x) (h : jay P s d (ρ x) = some v) : Gives P J ρ' o v := by
 have hx := hρ x
 unfold jay at h
 split at h
 ·rename_i k0 n e
  rw [e] at hx
  split at h
  ·rename_i k hd
   split at h
   ·rename_i ds hs
    cases h
    refine ⟨_, .int _ _, fun w => ?_⟩
    simp only [execOp, ho, convert, ja4 hx, rzB, jar hs, jar hd, rzA, Conv.intToInt, rzC, jbq]
   ·cases h
  ·cases h
 ·cases h
def aP (P : Program) (ρ : Operand → Value) (o : Oper) : Option Value :=
 match o.op with
 | .move x => some (ρ x)
 | .assign x => some (ρ x)
 | .binOp op t x y _ => aBin P ρ o op t x y
 | .fieldAddr s x f => jaL P ρ s x f
 | .indexAddr t x i => jal P ρ t x i
 | .pick c a b => jfQ ρ c a b
 | .extract t i => jb1 ρ t i
 | .nilCheck x => jbj ρ x
 | .makeInterface t x => jdC P ρ t x
 | .makeFunc fn x y => jdu ρ fn x y
 | .field t x f => jj1 P ρ t x f
 | .index t x i => jb0 P ρ t x i
 | .slice t x lo hi mx => match jaJ P ρ t x lo hi mx with
   | some v => some v
   | none => jaC P ρ o
 | .build t parts => jbF P ρ t parts
 | .typeAssert x _ asserted ok => match jg3 P ρ x asserted ok with
   | some v => some v
   | none => jaC P ρ o
 | .unOp .not _ x => match ρ x with
   | .bool b => some (.bool (!b))
   | _ => none
 | .unOp _ _ _ => jaC P ρ o
 | .convert s d x => match jay P s d (ρ x) with
   | some v => some v
   | none => jaC P ρ o
 | .call c => match c.callee with
   | .builtin b => jbE P ρ b c.args.toList c.argTypes.toList o.type
   | _ => none
 | _ => none
theorem aP_sound {ρ ρ' : Operand → Value} (hρ : ∀ x, VRel J (ρ x) (ρ' x)) (hD : J P.globals.size = .dead) {o : Oper} {v : Value} (h : aP P ρ o = some v) : Gives P J ρ' o v := by
 unfold aP at h
 split at h
 ·rename_i x ho; cases h; exact ⟨_, hρ x, fun w => by simp only [execOp, ho, rzC]⟩
 ·rename_i x ho; cases h; exact ⟨_, hρ x, fun w => by simp only [execOp, ho, rzC]⟩
 ·rename_i ho; exact jk6 hρ ho h
 ·rename_i ho; exact jeS hρ ho h
 ·rename_i ho; exact jeR hρ ho h
 ·rename_i ho; exact ji4 hρ ho h
 ·rename_i ho; exact jfS hρ ho h
 ·rename_i ho; exact jfI hρ ho h
 ·rename_i ho; exact jeQ hρ ho h
 ·rename_i ho; exact jfM hρ ho h
 ·rename_i ho; exact jh7 hρ ho h
 ·rename_i ho; exact jh6 hρ ho h
 ·rename_i ho
  split at h
  ·rename_i e; cases h; exact jh1 hρ hD ho e
  ·exact jcg hρ h
 ·rename_i ho; exact jia hρ ho h
 ·rename_i ho
  split at h
  ·rename_i e; cases h; exact jg2 hρ ho e
  ·exact jcg hρ h
 ·rename_i t x ho
  split at h
  ·rename_i b e
   cases h
   have hx := hρ x
   rw [e] at hx
   refine ⟨_, .bool _, fun w => ?_⟩
   simp only [execOp, ho, jed hx]
   rfl
  ·cases h
 ·exact jcg hρ h
 ·rename_i ho
  split at h
  ·rename_i e; cases h; exact jfT hρ ho e
  ·exact jcg hρ h
 ·rename_i c ho
  split at h
  ·rename_i hc; exact jfU hρ ho hc h
  ·cases h
 ·cases h
end
noncomputable section
variable {P : Program} {J : Nat → Loc}
theorem run_load {w : World} {a : Addr} {v : Value} (h : w.cell? a = some v) : (load a).run P w = .ok v w := by
 simp [load, Sem.run, h]
theorem cell_of {μ : Mem} {w : World} (h : Rel J μ w) {i n : Nat} {t : TypeId} {zero : Array Value} {over : T Value} {lo hi : Nat} {fx sh : Bool}
  (ho : μ.obs.get i = some (.cells n t zero over lo hi fx sh)) : ∃ b s, J i = .at b s ∧ ObRel J w b s (.cells n t zero over lo hi fx sh) ∧
   ∀ k, k < n → ∃ x, w.cell? ⟨b, k, none⟩ = some x ∧ VRel J (cellAt zero over k) x := by
 obtain ⟨b, s, hb, hr⟩ := h.obj i _ ho (by simp)
 refine ⟨b, s, hb, hr, fun k hk => ?_⟩
 obtain ⟨c, fz, h1, h2, h3, h4, h5, h6⟩ := hr
 obtain ⟨x, hx, hv⟩ := h5 k hk
 exact ⟨x, by simp [World.cell?, h1, hx], hv⟩
def jat (zero : Array Value) (over : T Value) (o : Nat) : Nat → List Value
 | 0 => []
 | n + 1 => cellAt zero over o :: jat zero over (Nat.add o 1) n
theorem jgi (b o k : Nat) : (Addr.add ⟨b, o, none⟩ k) = ⟨b, o + k, none⟩ := by
 unfold Addr.add
 by_cases h : k = 0
 ·subst h; simp
 ·rw [if_neg h]
theorem cell_heap {w w' : World} (h : w'.heap = w.heap) (a : Addr) : w'.cell? a = w.cell? a := by unfold World.cell?; rw [h]
theorem jbD {w : World} {zero : Array Value} {over : T Value} {b o : Nat} : ∀ (n i : Nat) (acc : Array Value),
  (∀ k, k < n → ∃ x, w.cell? ⟨b, o + i + k, none⟩ = some x ∧ VRel J (cellAt zero over (o + i + k)) x) →
  ∃ l : List Value, (∀ w' : World, w'.heap = w.heap → (loadCellsFrom ⟨b, o, none⟩ i n acc).run P w' = .ok (acc ++ l.toArray) w') ∧ ARel J (jat zero over (o + i) n).toArray l.toArray := by
 intro n
 induction n with
 | zero => intro i acc _; exact ⟨[], fun w' _ => by simp [loadCellsFrom, rzC], ⟨rfl, fun i a b ha => by simp [jat] at ha⟩⟩
 | succ n ih =>
   intro i acc h
   obtain ⟨x, hx, hv⟩ := h 0 (by omega)
   obtain ⟨l, hl, hr⟩ := ih (i + 1) (acc.push x) (fun k hk => by
    have := h (k + 1) (by omega)
    rw [show o + i + (k + 1) = o + (i + 1) + k from by omega] at this
    exact this)
   refine ⟨x :: l, fun w' hw => ?_, ?_⟩
   ·simp only [loadCellsFrom, rzB, jgi]
    rw [show o + i = o + i + 0 from rfl, run_load ((cell_heap hw _).trans hx), rzA, hl w' hw]
    simp
   ·constructor
    ·have := hr.size; simp [jat] at this ⊢; exact this
    ·intro k a b ha hb
     cases k with
     | zero => simp [jat] at ha hb; subst ha hb; exact hv
     | succ k =>
       simp [jat] at ha hb
       refine hr.at_ k a b ?_ (by simpa using hb)
       rw [show o + (i + 1) = o + i + 1 from by omega]
       simpa using ha
theorem jcE {w : World} {zero : Array Value} {over : T Value} {b o : Nat} (n i : Nat) (acc : Array Value)
  (h : ∀ k, k < n → ∃ x, w.cell? ⟨b, o + i + k, none⟩ = some x ∧ VRel J (cellAt zero over (o + i + k)) x) :
  ∃ l : List Value, (loadCellsFrom ⟨b, o, none⟩ i n acc).run P w = .ok (acc ++ l.toArray) w ∧ ARel J (jat zero over (o + i) n).toArray l.toArray :=
 let ⟨l, h1, h2⟩ := jbD (P := P) n i acc h
 ⟨l, h1 w rfl, h2⟩
def strip (v : Value) : Value := match jaw 5 v with
 | true => v
 | false => .chan none
theorem jhg (J : Nat → Loc) (v : Value) : VRel J (strip v) v := by
 unfold strip
 split
 ·rename_i h; exact ja1 5 h
 ·exact .any _ _
def jbk (o : Option Ob) : Option (Nat × Array Value × T Value) :=
 match o with
 | some (.cells n _ zero over _ _ _ _) => some (n, zero, over)
 | some (.rom l _) => some (l.length, l.toArray, .e)
 | some (.held c _ _) => some (c.size, c.map strip, .e)
 | some (.pin l _ _ _) => some (l.length, l.toArray, .e)
 | _ => none
theorem jd7 {μ : Mem} {w : World} (h : Rel J μ w) {i n : Nat} {zero : Array Value} {over : T Value} (ho : jbk (μ.obs.get i) = some (n, zero, over)) :
  ∃ b s, J i = .at b s ∧ ∀ k, k < n → ∃ x, w.cell? ⟨b, k, none⟩ = some x ∧ VRel J (cellAt zero over k) x := by
 unfold jbk at ho
 split at ho
 ·rename_i n' t' z' o' lo hi fx sh hob
  cases ho
  obtain ⟨b, s, hb, _, hc⟩ := cell_of h hob
  exact ⟨b, s, hb, hc⟩
 ·rename_i l t hob
  cases ho
  obtain ⟨b, s, hb, h1, h2⟩ := h.obj i _ hob (by simp)
  refine ⟨b, s, hb, fun k hk => ⟨l[k], by simp [World.cell?, h1, hk], ?_⟩⟩
  have hm : Nat.mod k l.toArray.size = k := by show k % _ = k; rw [Nat.mod_eq_of_lt]; simpa using hk
  have : cellAt l.toArray T.e k = l[k] := by
   simp only [cellAt, T.get_e, hm]
   simp [Array.getD, hk]
  rw [this]
  exact h2 _ (List.getElem_mem hk)
 ·rename_i c t fz hob
  cases ho
  obtain ⟨b, s, hb, h1⟩ := h.obj i _ hob (by simp)
  have h1' : w.heap[b]? = some (.cells c t fz) := h1
  refine ⟨b, s, hb, fun k hk => ⟨c[k], by simp [World.cell?, h1', hk], ?_⟩⟩
  have hm : Nat.mod k (c.map strip).size = k := by show k % _ = k; rw [Nat.mod_eq_of_lt]; simpa using hk
  have : cellAt (c.map strip) T.e k = strip c[k] := by
   simp only [cellAt, T.get_e, hm]
   simp [Array.getD, hk]
  rw [this]
  exact jhg J _
 ·rename_i l c t fz hob
  cases ho
  obtain ⟨b, s, hb, h1, h2⟩ := h.obj i _ hob (by simp)
  refine ⟨b, s, hb, fun k hk => ?_⟩
  have hk' : k < l.toArray.size := by simpa using hk
  obtain ⟨x, hx, hv⟩ := h2.get (rzJ hk')
  refine ⟨x, by simp [World.cell?, h1, hx], ?_⟩
  have hm : Nat.mod k l.toArray.size = k := by show k % _ = k; rw [Nat.mod_eq_of_lt]; simpa using hk
  have : cellAt l.toArray T.e k = l.toArray[k] := by
   simp only [cellAt, T.get_e, hm]
   simp [Array.getD, hk]
  rw [this]
  exact hv
 ·cases ho
def jbZ (P : Program) (μ : Mem) (t : TypeId) (v : Value) : Option Value :=
 match v with
 | .pointer (some ⟨i, o, none⟩) => match jbk (μ.obs.get i) with
   | some (n, zero, over) => match P.underlying t with
     | some (.struct _) => match P.info? t with
       | some inf => match Nat.ble (Nat.add o inf.size) n with
         | true => some (.agg (jat zero over o inf.size).toArray)
         | false => none
       | none => none
     | some (.array _ _) => match P.info? t with
       | some inf => match Nat.ble (Nat.add o inf.size) n with
         | true => some (.agg (jat zero over o inf.size).toArray)
         | false => none
       | none => none
     | some _ => match Nat.blt o n with
       | true => some (cellAt zero over o)
       | false => none
     | none => none
   | _ => none
 | _ => none
theorem jc8 {μ : Mem} {w : World} (h : Rel J μ w) {t : TypeId} {v v' x : Value} (hv : VRel J v v') (hl : jbZ P μ t v = some x) :
  ∃ a x', v' = .pointer (some a) ∧ VRel J x x' ∧ (loadVar t a).run P w = .ok x' w := by
 unfold jbZ at hl
 split at hl
 ·rename_i i o
  split at hl
  ·rename_i n zero over ho
   obtain ⟨b, s, hb, hc⟩ := jd7 h ho
   have ha : v' = .pointer (some ⟨b, o, none⟩) := by
    cases hv with
    | ptr e => rw [hb] at e; cases e; rfl
    | ptrDead a' e => rw [show J i = _ from hb] at e; cases e
   have agg : ∀ inf, P.info? t = some inf → (isAgg t).run P w = .ok true w → Nat.ble (Nat.add o inf.size) n = true →
     ∃ x', VRel J (.agg (jat zero over o inf.size).toArray) x' ∧ (loadVar t ⟨b, o, none⟩).run P w = .ok x' w := by
    intro inf hinf hag hle
    have hle' : o + inf.size ≤ n := rzE hle
    obtain ⟨l, h1, h2⟩ := jcE (P := P) (w := w) (zero := zero) (over := over) (b := b) (o := o) inf.size 0 #[] (fun k hk => hc _ (by omega))
    refine ⟨.agg l.toArray, .agg h2.size h2.at_, ?_⟩
    simp only [loadVar, rzB, hag, rzA, if_true, ja9 hinf, loadCells, h1, rzC]
    simp
   split at hl
   ·rename_i f hu
    split at hl
    ·rename_i inf hinf
     split at hl
     ·rename_i hle
      cases hl
      obtain ⟨x', h1, h2⟩ := agg inf hinf (by simp only [isAgg, rzB, jar hu, rzA, rzC]) hle
      exact ⟨_, x', ha, h1, h2⟩
     ·cases hl
    ·cases hl
   ·rename_i m e hu
    split at hl
    ·rename_i inf hinf
     split at hl
     ·rename_i hle
      cases hl
      obtain ⟨x', h1, h2⟩ := agg inf hinf (by simp only [isAgg, rzB, jar hu, rzA, rzC]) hle
      exact ⟨_, x', ha, h1, h2⟩
     ·cases hl
    ·cases hl
   ·rename_i d h1 h2 hu
    split at hl
    ·rename_i hlt
     cases hl
     have hlt' : o < n := by simpa using hlt
     obtain ⟨x', hx, hvx⟩ := hc o hlt'
     have hag : (isAgg t).run P w = .ok false w := by
      simp only [isAgg, rzB, jar hu, rzA]
      cases d <;> first | rfl | exact absurd rfl (h1 _) | exact absurd rfl (h2 _ _)
     refine ⟨_, x', ha, hvx, ?_⟩
     simp only [loadVar, rzB, hag, rzA, Bool.false_eq_true, if_false, run_load hx]
    ·cases hl
   ·cases hl
  ·cases hl
 ·cases hl
def bytesOf : List Value → Option (List UInt8)
 | [] => some []
 | .int .u8 n :: r => match bytesOf r with
   | some l => some (UInt8.ofNat n.toNat :: l)
   | none => none
 | _ :: _ => none
def jc3 : List Value → ByteArray → Option ByteArray
 | [], acc => some acc
 | .int .i32 n :: r, acc => jc3 r (acc ++ Utf8.encode n)
 | _ :: _, _ => none
theorem run_runes {w : World} {F : Value → ByteArray → Sem (ForInStep ByteArray)} (hF : ∀ n s, F (.int .i32 n) s = pure (.yield (s ++ Utf8.encode n))) :
  ∀ (l l' : List Value) (r acc : ByteArray), ARel J l.toArray l'.toArray → jc3 l acc = some r → (forIn l' acc F).run P w = .ok r w := by
 intro l
 induction l with
 | nil =>
   intro l' r acc h hr
   obtain rfl : l' = [] := by have := h.size; simp at this; exact List.length_eq_zero_iff.1 this.symm
   simp only [jc3] at hr; cases hr
   simp [rzC]
 | cons v l ih =>
   intro l' r acc h hr
   cases l' with
   | nil => have := h.size; simp at this
   | cons v' l' =>
     have hv : ∃ n, v = .int .i32 n ∧ jc3 l (acc ++ Utf8.encode n) = some r := by
      cases v with
      | int k n => cases k <;> first | exact ⟨n, rfl, hr⟩ | (simp [jc3] at hr)
      | _ => simp [jc3] at hr
     obtain ⟨n, rfl, hr⟩ := hv
     have h0 : VRel J (.int .i32 n) v' := h.at_ 0 _ _ rfl rfl
     have hrest : ARel J l.toArray l'.toArray := ⟨by have := h.size; simp at this ⊢; exact this, fun i a b ha hb => h.at_ (i + 1) a b (by simpa using ha) (by simpa using hb)⟩
     rw [ja4 h0]
     simp only [List.forIn_cons, rzB, hF, rzC, rzA]
     exact ih l' r _ hrest hr
def jbd (P : Program) (μ : Mem) (src dst : TypeId) (v : Value) : Option Value :=
 match v with
 | .slice (some ⟨i, o, none⟩) len _ => match P.underlying src with
   | some (.slice e) => match P.underlying dst with
     | some .string => match P.underlying e with
       | some (.int .u8) => match μ.obs.get i with
         | some (.cells n _ zero over _ _ _ _) => match Nat.ble (Nat.add o len) n with
           | true => match bytesOf (jat zero over o len) with
             | some l => some (.string ⟨l.toArray⟩)
             | none => none
           | false => none
         | some (.held ch _ _) => match Nat.ble (Nat.add o len) ch.size with
           | true => match bytesOf (jat (ch.map strip) .e o len) with
             | some l => some (.string ⟨l.toArray⟩)
             | none => none
           | false => none
         | _ => match Nat.beq len 0 with
           | true => some (.string ⟨#[]⟩)
           | false => none
       | some (.int .i32) => match μ.obs.get i with
         | some (.cells n _ zero over _ _ _ _) => match Nat.ble (Nat.add o len) n with
           | true => match jc3 (jat zero over o len) .empty with
             | some l => some (.string l)
             | none => none
           | false => none
         | _ => none
       | _ => none
     | _ => none
   | _ => none
 | .slice (some _) 0 _ => match P.underlying src with
   | some (.slice e) => match P.underlying dst with
     | some .string => match P.underlying e with
       | some (.int .u8) => some (.string ⟨#[]⟩)
       | _ => none
     | _ => none
   | _ => none
 | _ => none
theorem jho {w : World} {F : Value → ByteArray → Sem (ForInStep ByteArray)} (hF : ∀ n s, F (.int .u8 n) s = pure (.yield (s.push (UInt8.ofNat n.toNat)))) :
  ∀ (l l' : List Value) (r : List UInt8) (acc : ByteArray), ARel J l.toArray l'.toArray → bytesOf l = some r →
  (forIn l' acc F).run P w = .ok ⟨(acc.data.toList ++ r).toArray⟩ w := by
 intro l
 induction l with
 | nil =>
   intro l' r acc h hr
   obtain rfl : l' = [] := by have := h.size; simp at this; exact List.length_eq_zero_iff.1 this.symm
   simp only [bytesOf] at hr; cases hr
   simp [rzC]
 | cons v l ih =>
   intro l' r acc h hr
   cases l' with
   | nil => have := h.size; simp at this
   | cons v' l' =>
     unfold bytesOf at hr
     split at hr
     ·rename_i e; cases e
     ·rename_i n r' e
      cases e
      split at hr
      ·rename_i l2 hl2
       cases hr
       have h0 : VRel J (.int .u8 n) v' := h.at_ 0 _ _ rfl rfl
       have hrest : ARel J l.toArray l'.toArray := ⟨by have := h.size; simp at this ⊢; exact this, fun i a b ha hb => h.at_ (i + 1) a b (by simpa using ha) (by simpa using hb)⟩
       rw [ja4 h0]
       simp only [List.forIn_cons, rzB, hF, rzC, rzA]
       rw [ih l' l2 _ hrest hl2]
       simp [ByteArray.push]
      ·cases hr
     ·cases hr
theorem jdE {ρ ρ' : Operand → Value} (hρ : ∀ x, VRel J (ρ x) (ρ' x)) {μ : Mem} {w : World} (h : Rel J μ w) {o : Oper} {src dst : TypeId} {x : Operand} {v : Value}
  (ho : o.op = .convert src dst x) (hv : jbd P μ src dst (ρ x) = some v) : ∃ v', VRel J v v' ∧ (execOp ρ' o).run P w = .ok (.value v') w := by
 have hx := hρ x
 unfold jbd at hv
 have empty : ∀ e a' c', ρ' x = .slice (some a') 0 c' → P.underlying src = some (.slice e) → P.underlying dst = some .string → P.underlying e = some (.int .u8) →
   (execOp ρ' o).run P w = .ok (.value (.string ⟨#[]⟩)) w := by
  intro e a' c' hx' h1 h2 h3
  simp only [execOp, ho, convert, rzB, jar h1, jar h2, jar h3, rzA, hx', Conv.bytesToString, loadCells, loadCellsFrom, rzC]
  rfl
 split at hv
 ·rename_i i of len c e
  rw [e] at hx
  obtain ⟨a', c', hx', _, hcase⟩ := jbi hx
  split at hv
  ·rename_i el hs
   split at hv
   ·rename_i hd
    split at hv
    ·rename_i he
     split at hv
     ·rename_i n te zero over lo hi fx sh hob
      split at hv
      ·rename_i hle
       have hle' : of + len ≤ n := rzE hle
       split at hv
       ·rename_i l hl
        cases hv
        obtain ⟨b, s, hb, _, hc⟩ := cell_of h hob
        have ha' : a' = ⟨b, of, none⟩ := by
         rcases hcase with ⟨i2, o2, b2, s2, e1, e2, e3, _⟩ | ⟨e1, _⟩
         ·cases e1; rw [hb] at e3; cases e3; exact e2
         ·rw [show J i = _ from hb] at e1; cases e1
        subst ha'
        obtain ⟨l', h1, h2⟩ := jcE (P := P) (w := w) (zero := zero) (over := over) (b := b) (o := of) len 0 #[] (fun k hk => hc _ (by omega))
        refine ⟨_, .string _, ?_⟩
        have h4 : (loadCells ⟨b, of, none⟩ len).run P w = .ok l'.toArray w := by simpa [loadCells] using h1
        simp only [execOp, ho, convert, rzB, jar hs, jar hd, jar he, rzA, hx', Conv.bytesToString, h4]
        rw [List.forIn_toArray, jho (P := P) (w := w) (fun n s => rfl) (jat zero over of len) l' l .empty (by simpa using h2) hl]
        simp only [rzA, rzC]
        simp
       ·cases hv
      ·cases hv
     ·rename_i ch te fz hob
      split at hv
      ·rename_i hle
       have hle' : of + len ≤ ch.size := rzE hle
       split at hv
       ·rename_i l hl
        cases hv
        obtain ⟨b, s, hb, hc⟩ := jd7 h (i := i) (n := ch.size) (zero := ch.map strip) (over := .e) (by rw [hob]; rfl)
        have ha' : a' = ⟨b, of, none⟩ := by
         rcases hcase with ⟨i2, o2, b2, s2, e1, e2, e3, _⟩ | ⟨e1, _⟩
         ·cases e1; rw [hb] at e3; cases e3; exact e2
         ·rw [show J i = _ from hb] at e1; cases e1
        subst ha'
        obtain ⟨l', h1, h2⟩ := jcE (P := P) (w := w) (zero := ch.map strip) (over := .e) (b := b) (o := of) len 0 #[] (fun k hk => hc _ (by omega))
        refine ⟨_, .string _, ?_⟩
        have h4 : (loadCells ⟨b, of, none⟩ len).run P w = .ok l'.toArray w := by simpa [loadCells] using h1
        simp only [execOp, ho, convert, rzB, jar hs, jar hd, jar he, rzA, hx', Conv.bytesToString, h4]
        rw [List.forIn_toArray, jho (P := P) (w := w) (fun n s => rfl) (jat (ch.map strip) .e of len) l' l .empty (by simpa using h2) hl]
        simp only [rzA, rzC]
        simp
       ·cases hv
      ·cases hv
     ·split at hv
      ·rename_i hz
       obtain rfl : len = 0 := rzD hz
       cases hv
       exact ⟨_, .string _, empty _ _ _ hx' hs hd he⟩
      ·cases hv
    ·rename_i he
     split at hv
     ·rename_i n te zero over lo hi fx sh hob
      split at hv
      ·rename_i hle
       have hle' : of + len ≤ n := rzE hle
       split at hv
       ·rename_i l hl
        cases hv
        obtain ⟨b, s, hb, _, hc⟩ := cell_of h hob
        have ha' : a' = ⟨b, of, none⟩ := by
         rcases hcase with ⟨i2, o2, b2, s2, e1, e2, e3, _⟩ | ⟨e1, _⟩
         ·cases e1; rw [hb] at e3; cases e3; exact e2
         ·rw [show J i = _ from hb] at e1; cases e1
        subst ha'
        obtain ⟨l', h1, h2⟩ := jcE (P := P) (w := w) (zero := zero) (over := over) (b := b) (o := of) len 0 #[] (fun k hk => hc _ (by omega))
        refine ⟨_, .string _, ?_⟩
        have h4 : (loadCells ⟨b, of, none⟩ len).run P w = .ok l'.toArray w := by simpa [loadCells] using h1
        simp only [execOp, ho, convert, rzB, jar hs, jar hd, jar he, rzA, hx', Conv.runesToString, h4]
        rw [List.forIn_toArray, run_runes (P := P) (w := w) (fun n s => rfl) (jat zero over of len) l' l .empty (by simpa using h2) hl]
        simp only [rzA, rzC]
       ·cases hv
      ·cases hv
     ·cases hv
    ·cases hv
   ·cases hv
  ·cases hv
 ·rename_i a c hna e
  rw [e] at hx
  obtain ⟨a', c', hx', _, _⟩ := jbi hx
  split at hv
  ·rename_i el hs
   split at hv
   ·rename_i hd
    split at hv
    ·rename_i he
     cases hv
     exact ⟨_, .string _, empty _ _ _ hx' hs hd he⟩
    ·cases hv
   ·cases hv
  ·cases hv
 ·cases hv
end
noncomputable section
variable {P : Program} {J : Nat → Loc}
structure Makes (P : Program) (J : Nat → Loc) (ρ' : Operand → Value) (o : Oper) (ob : Ob) (mk : Nat → Value) (w : World) (o' : Obj) (s : Nat) (v' : Value) (w' : World) : Prop where
 run : (execOp ρ' o).run P w = .ok (.value v') w'
 heap : w'.heap = w.heap.push o'
 os : w'.os = w.os
 tape : w'.tape = w.tape
 output : w'.output = w.output
 rel : ∀ J' id, Ext J J' → J' id = .at w.heap.size s → VRel J' (mk id) v' ∧ ObRel J' w' w.heap.size s ob
theorem ARel.mono {J' : Nat → Loc} {x x' : Array Value} (h : ARel J x x') (he : Ext J J') : ARel J' x x' :=
 ⟨h.size, fun i a b ha hb => (h.at_ i a b ha hb).mono he⟩
theorem jd8 {w : World} {l : List Value} {x' : Array Value} {t : TypeId} (h : ARel J l.toArray x') :
  ObRel J (w.alloc (.cells x' t)) w.heap.size x'.size (.cells l.length t l.toArray .e 0 0 false false) := by
 have hs : l.length = x'.size := by simpa using h.size
 refine ⟨x', (0, 0), heap_alloc_new w _, rfl, by omega, fun _ => hs, fun i hi => ?_, .inl rfl⟩
 refine ⟨x'[i], rzJ (by omega), ?_⟩
 refine h.at_ i _ _ ?_ (rzJ (by omega))
 have hm : Nat.mod i l.toArray.size = i := by show i % _ = i; rw [Nat.mod_eq_of_lt]; simpa using hi
 simp only [cellAt, T.get_e, hm]
 rw [rzJ (by simpa using hi), Array.getD, dif_pos (by simpa using hi)]
 rfl
theorem jbQ {t : TypeId} {x : Array Value} (w : World) : (newRow t x).run P w = .ok ⟨w.heap.size, 0, none⟩ (w.alloc (.cells x t)) := by
 simp [newRow, newObj, rzB, Sem.run, Result.andThen, World.alloc_eq, rzC]
def jb4 (P : Program) (t : TypeId) : Option (Ob × (Nat → Value)) :=
 match jaO P t with
 | some z => some (.cells (jaS z).length t (jaS z).toArray .e 0 0 false false, fun id => .pointer (some ⟨id, 0, none⟩))
 | none => none
theorem jib {ρ' : Operand → Value} {o : Oper} {t : TypeId} {ob : Ob} {mk : Nat → Value} (ho : o.op = .alloc t) (h : jb4 P t = some (ob, mk)) (w : World) :
  ∃ o' s v' w', Makes P J ρ' o ob mk w o' s v' w' := by
 unfold jb4 at h
 split at h
 ·rename_i z hz
  cases h
  have hzp := (ja7 hz default).2
  refine ⟨.cells z.cells t, z.cells.size, .pointer (some ⟨w.heap.size, 0, none⟩), w.alloc (.cells z.cells t), ?_, rfl, rfl, rfl, rfl, fun J' id he hid => ⟨.ptr hid, ?_⟩⟩
  ·simp only [execOp, ho, Instr.alloc, rzB, (ja7 hz w).1, rzA, newVar, jbQ, rzC]
  ·exact jd8 (jcb (ja1 5 hzp) (jcG hzp))
 ·cases h
def aBox (t : TypeId) (v : Value) : Option (Ob × (Nat → Value)) :=
 match jfg v with
 | true => some (.cells (jaS v).length t (jaS v).toArray .e 0 0 false false, fun id => .pointer (some ⟨id, 0, none⟩))
 | false => none
theorem jk5 {ρ ρ' : Operand → Value} (hρ : ∀ x, VRel J (ρ x) (ρ' x)) {o : Oper} {t : TypeId} {x : Operand} {ob : Ob} {mk : Nat → Value} (ho : o.op = .box t x)
  (h : aBox t (ρ x) = some (ob, mk)) (w : World) : ∃ o' s v' w', Makes P J ρ' o ob mk w o' s v' w' := by
 unfold aBox at h
 split at h
 ·rename_i hn
  cases h
  refine ⟨.cells (ρ' x).cells t, (ρ' x).cells.size, .pointer (some ⟨w.heap.size, 0, none⟩), w.alloc (.cells (ρ' x).cells t), ?_, rfl, rfl, rfl, rfl, fun J' id he hid => ⟨.ptr hid, ?_⟩⟩
  ·simp only [execOp, ho, Instr.box, rzB, rzA, newVar, jbQ, rzC]
  ·exact jd8 ((jcb (hρ x) hn).mono he)
 ·cases h
def tile (zero : List Value) (n : Nat) : List Value := (List.range n).map fun i => zero.toArray.getD (Nat.mod i zero.length) undef
theorem jhY {z : List Value} {z' : Array Value} (h : ARel J z.toArray z') {n : Nat} (hz : 0 < z.length ∨ n = 0) :
  ARel J (tile z n).toArray ((Array.range n).map (z'[· % z'.size]!)) where
 size := by simp [tile]
 at_ i a b ha hb := by
  have hs : z.length = z'.size := by simpa using h.size
  simp only [tile, List.getElem?_toArray, List.getElem?_map, Array.getElem?_map] at ha hb
  have hi : i < n := by
   rcases Nat.lt_or_ge i n with h1 | h1
   ·exact h1
   ·rw [List.getElem?_eq_none (by simpa using h1)] at ha; cases ha
  have hz' : 0 < z.length := by omega
  rw [List.getElem?_range hi] at ha
  rw [rzJ (by simpa using hi)] at hb
  simp at ha hb
  have hm : i % z.length < z.length := Nat.mod_lt _ hz'
  have hm' : i % z'.size < z'.size := by rw [← hs]; exact hm
  rw [show Nat.mod i z.length = i % z.length from rfl] at ha
  subst ha hb
  refine h.at_ (i % z.length) _ _ ?_ ?_
  ·simp [hm]
  ·rw [hs, rzJ hm', getElem!_pos z' (i % z'.size) hm']
def jas (P : Program) (ρ : Operand → Value) (t : TypeId) (len : Nat) (parts : Array (Nat × Operand)) : Option (Ob × (Nat → Value)) :=
 match P.underlying t with
 | some (.slice e) => match P.info? e with
   | some inf => match Nat.ble (Nat.mul len inf.size) 16777216 with
     | false => none
     | true => match Nat.beq (Nat.mul len inf.size) 0 with
       | true => match parts.toList with
         | [] => some (.cells 0 e #[] .e 0 0 false false, fun id => .slice (some ⟨id, 0, none⟩) len (Nat.mul 2 len))
         | _ :: _ => none
       | false => match jaO P e with
         | none => none
         | some z => match Nat.beq (jaS z).length 0 with
           | true => none
           | false => match jcC (fun i => some (Nat.mul i inf.size, inf.size)) (tile (jaS z) (Nat.mul len inf.size)) (parts.toList.map fun p => (p.1, ρ p.2)) with
             | some cs => some (.cells cs.length e cs.toArray .e 0 0 false false, fun id => .slice (some ⟨id, 0, none⟩) len (Nat.mul 2 len))
             | none => none
   | none => none
 | _ => none
theorem jeE {ρ ρ' : Operand → Value} (hρ : ∀ x, VRel J (ρ x) (ρ' x)) {o : Oper} {t : TypeId} {len : Nat} {parts : Array (Nat × Operand)} {ob : Ob} {mk : Nat → Value} (ho : o.op = .buildSlice t len parts)
  (h : jas P ρ t len parts = some (ob, mk)) (w : World) : ∃ o' s v' w', Makes P J ρ' o ob mk w o' s v' w' := by
 unfold jas at h
 obtain ⟨hl, hp⟩ := jhz hρ parts
 split at h
 ·rename_i e hu
  split at h
  ·rename_i inf hinf
   split at h
   ·cases h
   ·rename_i hle
    have hle' : len * inf.size ≤ 16777216 := rzE hle
    split at h
    ·rename_i h0
     have h0' : len * inf.size = 0 := rzD h0
     split at h
     ·rename_i hpa
      cases h
      have hpe : parts = #[] := by rw [← Array.toList_eq_nil_iff]; exact hpa
      subst hpe
      refine ⟨.cells #[] e, 0, .slice (some ⟨w.heap.size, 0, none⟩) len len, w.alloc (.cells #[] e), ?_, rfl, rfl, rfl, rfl, fun J' id he hid => ⟨.slice hid (.inl ⟨by show 2 * len % 2 = 0; omega, by show len = 2 * len / 2; omega⟩), ?_⟩⟩
      ·have h24 : ¬ (len * inf.size > 2 ^ 24) := by omega
       have em : ∀ f : Nat → Value, Array.map f (Array.range 0) = #[] := fun f => by simp
       have h24' : ¬ (0 > 2 ^ 24) := by omega
       simp only [execOp, ho, Instr.buildSlice, rzB, jar hu, ja9 hinf, rzA, h0', if_neg h24', if_true, List.map_nil, em, rzC, jbQ, Array.map_empty, List.map_toArray, Instr.fill, Array.toList_empty]
      ·exact jd8 (l := []) (x' := #[]) ⟨rfl, fun i a b h => by simp at h⟩
     ·cases h
    ·rename_i h0
     have h0' : len * inf.size ≠ 0 := rzF h0
     split at h
     ·cases h
     ·rename_i z hz
      split at h
      ·cases h
      ·rename_i hz0
       have hz0' : (jaS z).length ≠ 0 := rzF hz0
       split at h
       ·rename_i cs hcs
        cases h
        have hzp := (ja7 hz default).2
        have hz2 : ARel J (jaS z).toArray z.cells := jcb (ja1 5 hzp) (jcG hzp)
        obtain ⟨r', hr', hR⟩ := jdR _ _ _ _ _ (jhY hz2 (n := len * inf.size) (.inl (by omega))) hl hp hcs
        have hr'' : Instr.fill (fun i => some (i * inf.size, inf.size)) ((Array.range (len * inf.size)).map (z.cells[· % z.cells.size]!)) (parts.map fun (i, x) => (i, ρ' x)).toList = some r' := hr'
        refine ⟨.cells r' e, r'.size, .slice (some ⟨w.heap.size, 0, none⟩) len len, w.alloc (.cells r' e), ?_, rfl, rfl, rfl, rfl, fun J' id he hid => ⟨.slice hid (.inl ⟨by show 2 * len % 2 = 0; omega, by show len = 2 * len / 2; omega⟩), ?_⟩⟩
        ·have h24 : ¬ (len * inf.size > 2 ^ 24) := by omega
         simp only [execOp, ho, Instr.buildSlice, rzB, jar hu, ja9 hinf, rzA, if_neg h24, if_neg h0', (ja7 hz w).1, rzC, hr'', jbQ]
        ·exact jd8 (hR.mono he)
       ·cases h
  ·cases h
 ·cases h
def jbh (P : Program) (t : TypeId) (l c : Value) : Option (Ob × (Nat → Value)) :=
 match l, c with
 | .int _ (.ofNat ln), .int _ (.ofNat cn) => match P.underlying t with
   | some (.slice e) => match P.info? e with
     | some inf => match Nat.ble ln cn with
       | false => none
       | true => match Nat.ble cn 1073741824 with
         | false => none
         | true => match Nat.ble (Nat.mul cn inf.bytes) 1099511627776 with
           | false => none
           | true => match jaO P e with
             | none => none
             | some z => match Nat.beq (jaS z).length inf.size with
               | false => none
               | true => some (.cells (Nat.mul cn inf.size) e (jaS z).toArray .e 0 0 false false, fun id => .slice (some ⟨id, 0, none⟩) ln (Nat.mul 2 cn))
     | none => none
   | _ => none
 | _, _ => none
theorem run_askRoom {n : Nat} (h : n ≤ 2 ^ 47) (w : World) : (askRoom n).run P w = .ok () w := by
 unfold askRoom roomBytes
 rw [if_neg (by omega)]; rfl
theorem wrap_small {n : Nat} (h : n ≤ 1073741824) : IntKind.i64.wrap (Int.ofNat n) = Int.ofNat n :=
 IntWalk.i64_in _ ⟨by show (-9223372036854775808 : Int) ≤ (n : Int); omega, by show (n : Int) ≤ 9223372036854775807; omega⟩
theorem jeP {ρ ρ' : Operand → Value} (hρ : ∀ x, VRel J (ρ x) (ρ' x)) {o : Oper} {t : TypeId} {l c : Operand} {ob : Ob} {mk : Nat → Value} (ho : o.op = .makeSlice t l c)
  (h : jbh P t (ρ l) (ρ c) = some (ob, mk)) (w : World) : ∃ o' s v' w', Makes P J ρ' o ob mk w o' s v' w' := by
 have hl := hρ l
 have hc := hρ c
 unfold jbh at h
 split at h
 ·rename_i k1 ln k2 cn e1 e2
  rw [e1] at hl
  rw [e2] at hc
  split at h
  ·rename_i e hu
   split at h
   ·rename_i inf hinf
    split at h
    ·cases h
    ·rename_i h1
     have h1' : ln ≤ cn := rzE h1
     split at h
     ·cases h
     ·rename_i h2
      have h2' : cn ≤ 1073741824 := rzE h2
      split at h
      ·cases h
      ·rename_i h3
       have h3' : cn * inf.bytes ≤ 1099511627776 := rzE h3
       split at h
       ·cases h
       ·rename_i z hz
        split at h
        ·cases h
        ·rename_i hzs
         have hzs' : (jaS z).length = inf.size := rzD hzs
         cases h
         have hzp := (ja7 hz default).2
         have hz2 : ∀ J' : Nat → Loc, ARel J' (jaS z).toArray z.cells := fun J' => jcb (ja1 5 hzp) (jcG hzp)
         have hzc : z.cells.size = inf.size := by have := (hz2 J).size; simp at this; omega
         have htl : ARel J (tile (jaS z) (cn * inf.size)).toArray ((Array.range (cn * inf.size)).map (z.cells[· % z.cells.size]!)) := by
          refine jhY (hz2 J) ?_
          by_cases h0 : inf.size = 0
          ·right; rw [h0]; rfl
          ·left; omega
         refine ⟨.cells ((Array.range (cn * inf.size)).map (z.cells[· % z.cells.size]!)) e, cn * inf.size, .slice (some ⟨w.heap.size, 0, none⟩) ln cn,
          w.alloc (.cells ((Array.range (cn * inf.size)).map (z.cells[· % z.cells.size]!)) e), ?_, rfl, rfl, rfl, rfl, fun J' id he hid =>
           ⟨.slice hid (.inl ⟨by show 2 * cn % 2 = 0; omega, by show cn = 2 * cn / 2; omega⟩), ?_⟩⟩
         ·have hl' : ρ' l = .int k1 (ln : Int) := ja4 hl
          have hc' : ρ' c = .int k2 (cn : Int) := ja4 hc
          have w1 : IntKind.i64.wrap (cn : Int) = cn := wrap_small h2'
          have w2 : IntKind.i64.wrap (ln : Int) = ln := wrap_small (Nat.le_trans h1' h2')
          have hb1 : ((cn : Int) < 0) = False := by simp
          have hb2 : ((inf.bytes : Int) * (cn : Int) > 2 ^ 48) = False := by
           have e0 : (inf.bytes : Int) * (cn : Int) = ((cn * inf.bytes : Nat) : Int) := by rw [Nat.mul_comm]; rfl
           rw [e0]
           have : ((2 : Int) ^ 48) = 281474976710656 := by decide
           simp only [gt_iff_lt, eq_iff_iff, iff_false, Int.not_lt]
           omega
          have hb3 : ((ln : Int) < 0) = False := by simp
          have hb4 : ((ln : Int) > (cn : Int)) = False := by simp; omega
          have hroom : cn * inf.bytes ≤ 2 ^ 47 := by
           have : (2 : Nat) ^ 47 = 140737488355328 := by decide
           omega
          simp only [execOp, ho, hl', hc', Instr.makeSlice, asInt, asIntOf, rzB, jar hu, jc5 hinf, rzA, rzC, w1, w2, hb1, hb2, hb3, hb4,
           decide_false, Bool.or_false, Bool.false_eq_true, if_false, Int.toNat_natCast, run_askRoom hroom, ja9 hinf]
          by_cases h0 : cn * inf.size = 0
          ·have em : ∀ f : Nat → Value, Array.map f (Array.range 0) = #[] := fun f => by simp
           simp only [h0, em, if_true, rzC, rzA, rzB, jbQ]
          ·simp only [if_neg h0, rzB, (ja7 hz w).1, rzC, rzA, jbQ]
         ·refine ⟨_, (0, 0), heap_alloc_new w _, by simp, Nat.le_refl _, fun _ => rfl, fun i hi => ?_, .inl rfl⟩
          have hi : i < cn * inf.size := hi
          have hm0 : 0 < inf.size := by
           rcases Nat.eq_zero_or_pos inf.size with h0 | h0
           ·rw [h0] at hi; simp at hi
           ·exact h0
          have hlt : i % (jaS z).length < (jaS z).length := Nat.mod_lt _ (by omega)
          have := (htl.mono he).at_ i ((jaS z).toArray.getD (i % (jaS z).length) undef) (z.cells[i % z.cells.size]!) (by
           simp only [tile, List.getElem?_toArray, List.getElem?_map, List.getElem?_range hi]; rfl) (by simp [hi])
          refine ⟨z.cells[i % z.cells.size]!, by simp [hi], ?_⟩
          simp only [cellAt, T.get_e]
          rw [show Nat.mod i (jaS z).toArray.size = i % (jaS z).length from rfl]
          exact this
   ·cases h
  ·cases h
 ·cases h
end
noncomputable section
variable {P : Program} {J : Nat → Loc}
theorem jd1 (need old : Nat) (e : TypeId) (w : World) :
  ∃ c, need ≤ c ∧ (choose (.appendCap need old e)).run P w = .ok c { w with drawn := w.drawn + 1 } :=
 ⟨need + w.tape w.drawn (.appendCap need old e) % (2 ^ 63 - need), by omega, by
  simp [choose, Sem.run, Question.forced, Question.cut]⟩
theorem jhM (w : World) (C : Array Value) (e : TypeId) : ((w.alloc (.cells C e)).freeze ⟨w.heap.size, C.size, none⟩ 1).heap = w.heap.push (.cells C e (C.size, C.size + 1)) := by
 have e1 : (w.alloc (.cells C e)).heap = w.heap.push (.cells C e) := rfl
 unfold World.freeze
 rw [if_neg (by omega)]
 apply Array.ext_getElem?
 intro i
 simp only [e1, Array.getElem?_modify, Array.getElem?_push]
 by_cases h : w.heap.size = i
 ·subst h; simp
 ·rw [if_neg h, if_neg (fun h2 => h h2.symm), if_neg (fun h2 => h h2.symm)]
def jbJ (P : Program) (src dst : TypeId) (v : Value) : Option (Ob × (Nat → Value)) :=
 match v with
 | .string s => match P.underlying src with
   | none => none
   | some us => match P.underlying dst with
     | some (.slice e) => match P.underlying e with
       | some (.int .u8) => some (.cells s.data.toList.length e (s.data.toList.map fun b => .int .u8 b.toNat).toArray .e 0 0 true true, fun id => .slice (some ⟨id, 0, none⟩) s.data.toList.length 3)
       | _ => none
     | _ => none
 | _ => none
theorem jdD {ρ ρ' : Operand → Value} (hρ : ∀ x, VRel J (ρ x) (ρ' x)) {o : Oper} {src dst : TypeId} {x : Operand} {ob : Ob} {mk : Nat → Value} (ho : o.op = .convert src dst x)
  (h : jbJ P src dst (ρ x) = some (ob, mk)) (w : World) : ∃ o' s v' w', Makes P J ρ' o ob mk w o' s v' w' := by
 have hx := hρ x
 unfold jbJ at h
 split at h
 ·rename_i s e
  rw [e] at hx
  split at h
  ·cases h
  ·rename_i us hus
   split at h
   ·rename_i el hd
    split at h
    ·rename_i he
     cases h
     obtain ⟨c, hc, hr⟩ := jd1 (P := P) s.size 0 el w
     have hlen : s.data.toList.length = s.size := by rw [Array.length_toList]; rfl
     obtain ⟨C, hC⟩ : ∃ C : Array Value, C = (s.data.map fun b => Value.int .u8 b.toNat) ++ Array.replicate (c - s.size) (.int .u8 0) := ⟨_, rfl⟩
     have hsz : s.data.size = s.size := rfl
     have hCs : C.size = c := by rw [hC, Array.size_append, Array.size_map, Array.size_replicate, hsz]; omega
     obtain ⟨w', hw', hwh⟩ : ∃ w', w' = (({ w with drawn := w.drawn + 1 } : World).alloc (.cells C el)).freeze ⟨w.heap.size, C.size, none⟩ 1 ∧ w'.heap = w.heap.push (.cells C el (C.size, C.size + 1)) := by
      exact ⟨_, rfl, jhM { w with drawn := w.drawn + 1 } C el⟩
     refine ⟨.cells C el (C.size, C.size + 1), C.size, .slice (some ⟨w.heap.size, 0, none⟩) s.size c, w', ?_, hwh, ?_, ?_, ?_, fun J' id hE hid => ⟨?_, ?_⟩⟩
     ·have hshape : (shape w.heap.size).run P (({ w with drawn := w.drawn + 1 } : World).alloc (.cells C el)) = .ok (some (el, C.size)) (({ w with drawn := w.drawn + 1 } : World).alloc (.cells C el)) := by
       simp only [shape, Sem.run, World.shape?]
       rw [show (({ w with drawn := w.drawn + 1 } : World).alloc (.cells C el)).heap[w.heap.size]? = some (.cells C el) from heap_alloc_new { w with drawn := w.drawn + 1 } _]
      have hstb : (Conv.stringToBytes el s).run P w = .ok (.slice (some ⟨w.heap.size, 0, none⟩) s.size c) w' := by
       simp only [Conv.stringToBytes, rzB, hr, rzA]
       rw [← hC]
       rw [jbQ]
       simp only [rzA, markStringish, rzB, hshape, freeze, Sem.run, rzC]
       rw [hw']
      simp only [execOp, ho, convert, rzB, jar hus, jar hd, rzA, jbb hx]
      cases us <;> simp only [jar he, rzA, hstb, rzC]
     ·rw [hw']; unfold World.freeze; rw [if_neg (by omega)]; rfl
     ·rw [hw']; unfold World.freeze; rw [if_neg (by omega)]; rfl
     ·rw [hw']; unfold World.freeze; rw [if_neg (by omega)]; rfl
     ·simp only [hlen]
      exact .slice hid (.inr ⟨rfl, hc, by show 0 + c * (3 / 2) ≤ C.size; omega⟩)
     ·refine ⟨C, (C.size, C.size + 1), by rw [hwh]; simp, rfl, by omega, (fun h => by cases h), fun i hi => ?_, .inr (.inl ⟨rfl, Nat.le_refl _⟩)⟩
      have hi' : i < s.data.size := by simpa using hi
      refine ⟨.int .u8 (s.data[i]).toNat, ?_, ?_⟩
      ·rw [hC, Array.getElem?_append_left (by simpa using hi'), Array.getElem?_map, rzJ hi']
       rfl
      ·have hm : Nat.mod i (s.data.toList.map fun b => Value.int .u8 b.toNat).toArray.size = i := by
        show i % _ = i; rw [Nat.mod_eq_of_lt]; simpa using hi'
       simp only [cellAt, T.get_e, hm]
       have : (s.data.toList.map fun b => Value.int .u8 b.toNat).toArray.getD i undef = .int .u8 (s.data[i]).toNat := by
        rw [Array.getD_eq_getD_getElem?, List.getElem?_toArray, List.getElem?_map, Array.getElem?_toList, rzJ hi']
        rfl
       rw [this]
       exact .int _ _
    ·cases h
   ·cases h
 ·cases h
def aRange (P : Program) (t : TypeId) (v : Value) : Option (Ob × (Nat → Value)) :=
 match v with
 | .string s => match P.underlying t with
   | some .string => some (.siter s 0, fun id => .pointer (some ⟨id, 0, none⟩))
   | _ => none
 | _ => none
theorem run_newObj (ob : Obj) (w : World) : (newObj ob).run P w = .ok w.heap.size (w.alloc ob) := by
 simp [newObj, Sem.run, World.alloc_eq]
theorem jh3 {ρ ρ' : Operand → Value} (hρ : ∀ x, VRel J (ρ x) (ρ' x)) {o : Oper} {t : TypeId} {x : Operand} {ob : Ob} {mk : Nat → Value} (ho : o.op = .range t x)
  (h : aRange P t (ρ x) = some (ob, mk)) (w : World) : ∃ o' s v' w', Makes P J ρ' o ob mk w o' s v' w' := by
 have hx := hρ x
 unfold aRange at h
 split at h
 ·rename_i s e
  rw [e] at hx
  split at h
  ·rename_i hu
   cases h
   refine ⟨.stringIter s 0, 0, .pointer (some ⟨w.heap.size, 0, none⟩), w.alloc (.stringIter s 0), ?_, rfl, rfl, rfl, rfl, fun J' id hE hid => ⟨.ptr hid, heap_alloc_new w _⟩⟩
   simp only [execOp, ho, jbb hx, Instr.range, rzB, jar hu, rzA, rzC, run_newObj]
  ·cases h
 ·cases h
theorem jfR {ρ' : Operand → Value} {o : Oper} {t : TypeId} (ho : o.op = .makeMap t none) (w : World) :
  ∃ o' s v' w', Makes P J ρ' o (.map [] 0) (fun id => .map (some id)) w o' s v' w' := by
 refine ⟨.map #[] 0, 0, .map (some w.heap.size), w.alloc (.map #[] 0), ?_, rfl, rfl, rfl, rfl, fun J' id hE hid => ⟨.map hid, #[], heap_alloc_new w _, rfl, fun i k v n e => by simp at e⟩⟩
 simp only [execOp, ho, Instr.makeMap, Option.map_none, rzB, rzA, rzC, run_newObj]
def aA (P : Program) (ρ : Operand → Value) (o : Oper) : Option (Ob × (Nat → Value)) :=
 match o.op with
 | .alloc t => jb4 P t
 | .box t x => aBox t (ρ x)
 | .buildSlice t len parts => jas P ρ t len parts
 | .makeSlice t l c => jbh P t (ρ l) (ρ c)
 | .convert s d x => jbJ P s d (ρ x)
 | .range t x => aRange P t (ρ x)
 | .makeMap _ none => some (.map [] 0, fun id => .map (some id))
 | _ => none
theorem aA_sound {ρ ρ' : Operand → Value} (hρ : ∀ x, VRel J (ρ x) (ρ' x)) {o : Oper} {ob : Ob} {mk : Nat → Value} (h : aA P ρ o = some (ob, mk)) (w : World) :
  ∃ o' s v' w', Makes P J ρ' o ob mk w o' s v' w' := by
 unfold aA at h
 split at h
 ·rename_i ho; exact jib ho h w
 ·rename_i ho; exact jk5 hρ ho h w
 ·rename_i ho; exact jeE hρ ho h w
 ·rename_i ho; exact jeP hρ ho h w
 ·rename_i ho; exact jdD hρ ho h w
 ·rename_i ho; exact jh3 hρ ho h w
 ·rename_i ho; cases h; exact jfR ho w
 ·cases h
theorem Makes.step {ρ' : Operand → Value} {o : Oper} {ob : Ob} {mk : Nat → Value} {w : World} {o' : Obj} {s : Nat} {v' : Value} {w' : World} (h : Makes P J ρ' o ob mk w o' s v' w') {μ : Mem} (hr : Rel J μ w)
  {i nx : Nat} (hu : J i = .unborn) (hi : i < nx) (hnx : μ.next ≤ nx) :
  VRel (upd J i (.at w.heap.size s)) (mk i) v' ∧ Rel (upd J i (.at w.heap.size s)) ⟨μ.obs.set i ob, nx⟩ w' := by
 obtain ⟨h1, h2⟩ := h.rel (upd J i (.at w.heap.size s)) i (jda _ hu) (upd_same _ _ _)
 refine ⟨h1, ?_⟩
 have : Rel (upd J i (.at w.heap.size s)) ⟨μ.obs.set i ob, nx⟩ (w.alloc o') :=
  hr.alloc s ob o' hu hi hnx (h2.keep (Ext.refl _) (by rw [h.heap]; rfl))
 exact this.heap (by rw [h.heap]; rfl)
end
noncomputable section
variable {P : Program} {J : Nat → Loc}
def scalar : Value → Bool
 | .agg _ => false
 | .tuple _ => false
 | .chan _ => false
 | _ => true
theorem jf1 {v v' : Value} (h : VRel J v v') (hs : scalar v = true) : (∀ x, v' ≠ .agg x) ∧ (∀ x, v' ≠ .tuple x) := by
 cases h <;> first | (cases hs; done) | exact ⟨fun x e => (by cases e), fun x e => (by cases e)⟩
theorem run_store {w : World} {a : Addr} {v u : Value} (h1 : ∀ x, v ≠ .agg x) (h2 : ∀ x, v ≠ .tuple x) (hc : w.cell? a = some u) (hf : w.frozen? a = false) :
  (store a v).run P w = .ok () (w.setCell a v) := by
 cases v <;> first
  | exact absurd rfl (h1 _)
  | exact absurd rfl (h2 _)
  | simp [store, Sem.run, hc, hf]
structure Stored (w w' : World) (b : Nat) (te : TypeId) (fz : Nat × Nat) (c c' : Array Value) : Prop where
 size : w'.heap.size = w.heap.size
 other : ∀ k, k ≠ b → w'.heap[k]? = w.heap[k]?
 block : w'.heap[b]? = some (.cells c' te fz)
 cells : c'.size = c.size
 os : w'.os = w.os
 tape : w'.tape = w.tape
 output : w'.output = w.output
theorem jdF {b te : Nat} {fz : Nat × Nat} {o : Nat} : ∀ (vs : List Value) (i : Nat) (w : World) (c : Array Value), w.heap[b]? = some (.cells c te fz) →
  o + i + vs.length ≤ c.size → (∀ k, o + i ≤ k → k < o + i + vs.length → ¬ (fz.1 ≤ k ∧ k < fz.2)) → (∀ v ∈ vs, (∀ x, v ≠ .agg x) ∧ (∀ x, v ≠ .tuple x)) →
  ∃ w' c', (storeCells ⟨b, o, none⟩ vs i).run P w = .ok () w' ∧ Stored w w' b te fz c c' ∧
   ∀ k, c'[k]? = if o + i ≤ k ∧ k < o + i + vs.length then vs[k - (o + i)]? else c[k]? := by
 intro vs
 induction vs with
 | nil =>
   intro i w c hb _ _ _
   exact ⟨w, c, rfl, ⟨rfl, fun _ _ => rfl, hb, rfl, rfl, rfl, rfl⟩, fun k => by rw [if_neg (by simp)]⟩
 | cons v vs ih =>
   intro i w c hb hle hf hs
   simp only [List.length_cons] at hle hf
   have hlt : o + i < c.size := by omega
   have hcell : w.cell? ⟨b, o + i, none⟩ = some c[o + i] := by
    simp [World.cell?, hb, hlt]
   have hfr : w.frozen? ⟨b, o + i, none⟩ = false := by
    have := hf (o + i) (Nat.le_refl _) (by omega)
    obtain ⟨f1, f2⟩ := fz
    simp only [World.frozen?, hb]
    simp only at this
    by_cases h1 : f1 ≤ o + i
    ·have h2 : ¬ (o + i < f2) := fun h => this ⟨h1, h⟩
     simp [h1, h2]
    ·simp [h1]
   have hset : (w.setCell ⟨b, o + i, none⟩ v).heap[b]? = some (.cells (c.setIfInBounds (o + i) v) te fz) := by
    obtain ⟨f1, f2⟩ := fz
    simp [World.setCell, Array.getElem?_modify, hb]
   obtain ⟨w', c', h1, h2, h3⟩ := ih (i + 1) (w.setCell ⟨b, o + i, none⟩ v) (c.setIfInBounds (o + i) v) hset (by simp; omega) (fun k h1 h2 => hf k (by omega) (by omega)) (fun u hu => hs u (List.mem_cons_of_mem _ hu))
   obtain ⟨hsa, hst⟩ := hs v (List.mem_cons_self ..)
   refine ⟨w', c', ?_, ?_, ?_⟩
   ·simp only [storeCells, rzB, jgi, run_store hsa hst hcell hfr, rzA, h1]
   ·refine ⟨?_, ?_, h2.block, ?_, ?_, ?_, ?_⟩
    ·rw [h2.size]; simp [World.setCell]
    ·intro k hk
     rw [h2.other k hk]
     simp only [World.setCell, Array.getElem?_modify]
     rw [if_neg (fun e => hk e.symm)]
    ·rw [h2.cells]; simp
    ·exact h2.os
    ·exact h2.tape
    ·exact h2.output
   ·intro k
    rw [h3 k]
    simp only [List.length_cons]
    by_cases hk : o + (i + 1) ≤ k ∧ k < o + (i + 1) + vs.length
    ·rw [if_pos hk, if_pos (by omega), show k - (o + i) = (k - (o + (i + 1))) + 1 from by omega, List.getElem?_cons_succ]
    ·rw [if_neg hk]
     rw [Array.getElem?_setIfInBounds]
     by_cases e : o + i = k
     ·subst e
      rw [if_pos rfl, if_pos hlt, if_pos (by omega)]; simp
     ·rw [if_neg e, if_neg (by omega)]
def scalars : List Value → Bool
 | [] => true
 | v :: r => match scalar v with
   | true => scalars r
   | false => false
theorem jfd : ∀ (l : List Value), scalars l = true → ∀ v ∈ l, scalar v = true := by
 intro l
 induction l with
 | nil => intro _ v hv; cases hv
 | cons a l ih =>
   intro h v hv
   simp only [scalars] at h
   split at h
   ·rcases List.mem_cons.1 hv with e | e
    ·subst e; assumption
    ·exact ih h v e
   ·cases h
def jbL (n lo hi o k : Nat) : Bool :=
 match Nat.ble (Nat.add o k) n with
 | false => false
 | true => match Nat.blt lo hi with
   | false => true
   | true => match Nat.ble (Nat.add o k) lo with
     | true => true
     | false => Nat.ble hi o
theorem jic {n lo hi o k s : Nat} {fz : Nat × Nat} {sh : Bool} (h : jbL n lo hi o k = true) (hn : n ≤ s) (hf : FzRel fz s lo hi sh) :
  o + k ≤ n ∧ ∀ j, o ≤ j → j < o + k → ¬ (fz.1 ≤ j ∧ j < fz.2) := by
 unfold jbL at h
 split at h
 ·cases h
 ·rename_i h1
  have h1' : o + k ≤ n := rzE h1
  refine ⟨h1', fun j hj1 hj2 ⟨e1, e2⟩ => ?_⟩
  rcases hf with hf | ⟨_, hf⟩ | ⟨hf1, hf2, hf3⟩
  ·omega
  ·omega
  ·split at h
   ·rename_i h2
    have : ¬ lo < hi := fun hlt => by rw [show Nat.blt lo hi = true from by simpa using hlt] at h2; cases h2
    omega
   ·split at h
    ·rename_i h3
     have h3' : o + k ≤ lo := rzE h3
     omega
    ·have h3' : hi ≤ o := rzE h
     omega
theorem jex {zero : Array Value} {over : T Value} {o : Nat} {vs : List Value} {k : Nat} :
  cellAt zero (over.lay o vs) k = if o ≤ k ∧ k < o + vs.length then (vs[k - o]?).getD undef else cellAt zero over k := by
 unfold cellAt
 rw [T.get_lay]
 by_cases h : o ≤ k ∧ k < o + vs.length
 ·rw [if_pos h, if_pos h]
  have : k - o < vs.length := by omega
  rw [rzK this]; rfl
 ·rw [if_neg h, if_neg h]
theorem jen {μ : Mem} {w : World} (h : Rel J μ w) {i n te lo hi o : Nat} {zero : Array Value} {over : T Value} {fx sh : Bool} {vs vs' : List Value}
  (hob : μ.obs.get i = some (.cells n te zero over lo hi fx sh)) (hw : jbL n lo hi o vs.length = true) (hs : scalars vs = true) (hv : ARel J vs.toArray vs'.toArray) :
  ∃ b s, J i = .at b s ∧ ∃ w', (storeCells ⟨b, o, none⟩ vs').run P w = .ok () w' ∧ Rel J ⟨μ.obs.set i (.cells n te zero (over.lay o vs) lo hi fx sh), μ.next⟩ w' ∧
   Step J μ w J ⟨μ.obs.set i (.cells n te zero (over.lay o vs) lo hi fx sh), μ.next⟩ w' := by
 obtain ⟨b, s, hb, hr, _⟩ := cell_of h hob
 obtain ⟨c, fz, h1, h2, h3, h4, h5, h6⟩ := hr
 obtain ⟨hle, hfree⟩ := jic hw h3 h6
 have hl : vs.length = vs'.length := by simpa using hv.size
 have hsc : ∀ v ∈ vs', (∀ x, v ≠ .agg x) ∧ (∀ x, v ≠ .tuple x) := by
  intro v hvm
  obtain ⟨k, hk, rfl⟩ := List.mem_iff_getElem.1 hvm
  have hk' : k < vs.length := by omega
  exact jf1 (hv.at_ k vs[k] vs'[k] (by simp [hk']) (by simp [hk])) (jfd vs hs _ (List.getElem_mem hk'))
 obtain ⟨w', c', r1, r2, r3⟩ := jdF (P := P) (o := o) vs' 0 w c h1 (by omega) (fun k a b => hfree k (by omega) (by omega)) hsc
 have hnew : ObRel J w' b s (.cells n te zero (over.lay o vs) lo hi fx sh) := by
  refine ⟨c', fz, r2.block, by rw [r2.cells]; exact h2, h3, h4, fun k hk => ?_, h6⟩
  rw [r3 k, jex]
  by_cases hk2 : o ≤ k ∧ k < o + vs.length
  ·rw [if_pos hk2, if_pos (by omega)]
   have e1 : k - o < vs.length := by omega
   have e2 : k - o < vs'.length := by omega
   refine ⟨vs'[k - o], by simp [e2], ?_⟩
   exact hv.at_ (k - o) _ _ (by simp [e1]) (by simp [e2])
  ·rw [if_neg hk2, if_neg (by omega)]
   exact h5 k hk
 have hp : ¬ gone μ i := fun hg => by have := hg _ hob; cases this
 exact ⟨b, s, hb, w', r1, h.update hb _ r2.size r2.other hnew, Step.update hb hp _ r2.size r2.other r2.os r2.tape r2.output⟩
def jfV (P : Program) (J : Nat → Loc) (ρ' : Operand → Value) (o : Oper) (μ : Mem) (w : World) (v : Value) (μ' : Mem) : Prop :=
 ∃ J' v' w', ((execOp ρ' o).run P w = .ok (.value v') w' ∨ ((execOp ρ' o).run P w = .ok .skip w' ∧ v' = undef)) ∧ VRel J' v v' ∧ Rel J' μ' w' ∧ Step J μ w J' μ' w'
theorem jcd : VRel J undef undef := .tuple rfl (fun i a b ha => by simp at ha)
def jbu (P : Program) (μ : Mem) (t : TypeId) (p v : Value) : Option (Value × Mem) :=
 match p with
 | .pointer (some ⟨i, o, none⟩) => match μ.obs.get i with
   | some (.cells n te zero over lo hi fx sh) => match jfg v with
     | false => none
     | true => match P.info? t with
       | none => none
       | some inf => match Nat.beq (jaS v).length inf.size with
         | false => none
         | true => match jbL n lo hi o (jaS v).length with
           | false => none
           | true => match scalars (jaS v) with
             | false => none
             | true => some (undef, ⟨μ.obs.set i (.cells n te zero (over.lay o (jaS v)) lo hi fx sh), μ.next⟩)
   | _ => none
 | _ => none
theorem jh0 {ρ ρ' : Operand → Value} (hρ : ∀ x, VRel J (ρ x) (ρ' x)) {μ : Mem} {w : World} (h : Rel J μ w) {o : Oper} {t : TypeId} {x y : Operand} {v : Value} {μ' : Mem} (ho : o.op = .store t x y)
  (hs : jbu P μ t (ρ x) (ρ y) = some (v, μ')) : jfV P J ρ' o μ w v μ' := by
 have hx := hρ x
 have hy := hρ y
 unfold jbu at hs
 split at hs
 ·rename_i i of e
  rw [e] at hx
  split at hs
  ·rename_i n te zero over lo hi fx sh hob
   split at hs
   ·cases hs
   ·rename_i hna
    split at hs
    ·cases hs
    ·rename_i inf hinf
     split at hs
     ·cases hs
     ·rename_i hsz
      split at hs
      ·cases hs
      ·rename_i hw
       split at hs
       ·cases hs
       ·rename_i hsc
        cases hs
        have hc := jcb hy hna
        have hsz' : (jaS (ρ y)).length = inf.size := rzD hsz
        have hsz2 : (ρ' y).cells.size = inf.size := by have := hc.size; simp at this; omega
        obtain ⟨b, s, hb, w', r1, r2, r3⟩ := jen (P := P) (vs' := (ρ' y).cells.toList) h hob hw hsc (by simpa using hc)
        have hxa : ρ' x = .pointer (some ⟨b, of, none⟩) := by
         generalize ρ' x = q at hx
         cases hx with
         | ptr e2 => rw [hb] at e2; cases e2; rfl
         | ptrDead a' e2 => rw [show J i = _ from hb] at e2; cases e2
        refine ⟨J, undef, w', .inr ⟨?_, rfl⟩, jcd, r2, r3⟩
        simp only [execOp, ho, Instr.storeAt, hxa, Instr.sureAddr, rzB, rzC, rzA, storeVar, ja9 hinf]
        rw [if_neg (by simpa using hsz2)]
        simp only [r1, rzA]
  ·cases hs
 ·cases hs
end
noncomputable section
variable {P : Program} {J : Nat → Loc}
def jaU (μ : Mem) (size n : Nat) (v : Value) : Option (List Value) :=
 match v with
 | .slice none _ _ => some []
 | .slice (some ⟨i, o, none⟩) _ _ => match Nat.mul n size with
   | 0 => some []
   | k => match μ.obs.get i with
     | some (.cells m _ zero over _ _ _ _) => match Nat.ble (Nat.add o k) m with
       | true => some (jat zero over o k)
       | false => none
     | some (.held c _ _) => match Nat.ble (Nat.add o k) c.size with
       | true => some (jat (c.map strip) .e o k)
       | false => none
     | some (.pin p _ _ _) => match Nat.ble (Nat.add o k) p.length with
       | true => some (jat p.toArray .e o k)
       | false => none
     | some (.rom p _) => match Nat.ble (Nat.add o k) p.length with
       | true => some (jat p.toArray .e o k)
       | false => none
     | _ => none
 | .slice (some _) _ _ => match Nat.mul n size with
   | 0 => some []
   | _ => none
 | .string s => some ((s.data.toList.take n).map fun b => .int .u8 b.toNat)
 | _ => none
theorem jc4 {μ : Mem} {w : World} (h : Rel J μ w) {size n : Nat} {v v' : Value} {l : List Value} (hv : VRel J v v') (hl : jaU μ size n v = some l) :
  ∃ l' : Array Value, (∀ w' : World, w'.heap = w.heap → (Builtin.firstCells size n v').run P w' = .ok l' w') ∧ ARel J l.toArray l' := by
 have nothing : ∀ (a : Addr) (w : World), n * size = 0 → (loadCells a (n * size)).run P w = .ok #[] w := fun a w e => by rw [e]; rfl
 have hnil : ARel J ([] : List Value).toArray #[] := ⟨rfl, fun i a b ha => by simp at ha⟩
 unfold jaU at hl
 split at hl
 ·cases hl
  cases hv
  exact ⟨#[], fun _ _ => rfl, hnil⟩
 ·rename_i i o ln c
  obtain ⟨a', c', hv', _, hcase⟩ := jbi hv
  rw [hv']
  split at hl
  ·rename_i h0
   cases hl
   exact ⟨#[], fun w' _ => by show (loadCells a' (n * size)).run P w' = _; exact nothing _ _ h0, hnil⟩
  ·split at hl
   ·rename_i m te zero over lo hi fx sh hob
    split at hl
    ·rename_i hle
     cases hl
     have hle' : o + n * size ≤ m := rzE hle
     obtain ⟨b, s, hb, _, hc⟩ := cell_of h hob
     have ha' : a' = ⟨b, o, none⟩ := by
      rcases hcase with ⟨i2, o2, b2, s2, e1, e2, e3, _⟩ | ⟨e1, _⟩
      ·cases e1; rw [hb] at e3; cases e3; exact e2
      ·rw [show J i = _ from hb] at e1; cases e1
     subst ha'
     obtain ⟨l', h1, h2⟩ := jbD (P := P) (w := w) (zero := zero) (over := over) (b := b) (o := o) (n * size) 0 #[] (fun k hk => hc _ (by omega))
     refine ⟨l'.toArray, fun w' hw => ?_, h2⟩
     show (loadCells ⟨b, o, none⟩ (n * size)).run P w' = _
     simpa [loadCells] using h1 w' hw
    ·cases hl
   ·rename_i ch te fz hob
    split at hl
    ·rename_i hle
     cases hl
     have hle' : o + n * size ≤ ch.size := rzE hle
     obtain ⟨b, s, hb, hc⟩ := jd7 h (i := i) (n := ch.size) (zero := ch.map strip) (over := .e) (by rw [hob]; rfl)
     have ha' : a' = ⟨b, o, none⟩ := by
      rcases hcase with ⟨i2, o2, b2, s2, e1, e2, e3, _⟩ | ⟨e1, _⟩
      ·cases e1; rw [hb] at e3; cases e3; exact e2
      ·rw [show J i = _ from hb] at e1; cases e1
     subst ha'
     obtain ⟨l', h1, h2⟩ := jbD (P := P) (w := w) (zero := ch.map strip) (over := .e) (b := b) (o := o) (n * size) 0 #[] (fun k hk => hc _ (by omega))
     refine ⟨l'.toArray, fun w' hw => ?_, h2⟩
     show (loadCells ⟨b, o, none⟩ (n * size)).run P w' = _
     simpa [loadCells] using h1 w' hw
    ·cases hl
   ·rename_i ch cc te fz hob
    split at hl
    ·rename_i hle
     cases hl
     have hle' : o + n * size ≤ ch.length := rzE hle
     obtain ⟨b, s, hb, hc⟩ := jd7 h (i := i) (n := ch.length) (zero := ch.toArray) (over := .e) (by rw [hob]; rfl)
     have ha' : a' = ⟨b, o, none⟩ := by
      rcases hcase with ⟨i2, o2, b2, s2, e1, e2, e3, _⟩ | ⟨e1, _⟩
      ·cases e1; rw [hb] at e3; cases e3; exact e2
      ·rw [show J i = _ from hb] at e1; cases e1
     subst ha'
     obtain ⟨l', h1, h2⟩ := jbD (P := P) (w := w) (zero := ch.toArray) (over := .e) (b := b) (o := o) (n * size) 0 #[] (fun k hk => hc _ (by omega))
     refine ⟨l'.toArray, fun w' hw => ?_, h2⟩
     show (loadCells ⟨b, o, none⟩ (n * size)).run P w' = _
     simpa [loadCells] using h1 w' hw
    ·cases hl
   ·rename_i ch te hob
    split at hl
    ·rename_i hle
     cases hl
     have hle' : o + n * size ≤ ch.length := rzE hle
     obtain ⟨b, s, hb, hc⟩ := jd7 h (i := i) (n := ch.length) (zero := ch.toArray) (over := .e) (by rw [hob]; rfl)
     have ha' : a' = ⟨b, o, none⟩ := by
      rcases hcase with ⟨i2, o2, b2, s2, e1, e2, e3, _⟩ | ⟨e1, _⟩
      ·cases e1; rw [hb] at e3; cases e3; exact e2
      ·rw [show J i = _ from hb] at e1; cases e1
     subst ha'
     obtain ⟨l', h1, h2⟩ := jbD (P := P) (w := w) (zero := ch.toArray) (over := .e) (b := b) (o := o) (n * size) 0 #[] (fun k hk => hc _ (by omega))
     refine ⟨l'.toArray, fun w' hw => ?_, h2⟩
     show (loadCells ⟨b, o, none⟩ (n * size)).run P w' = _
     simpa [loadCells] using h1 w' hw
    ·cases hl
   ·cases hl
 ·rename_i a ln c hna
  obtain ⟨a', c', hv', _, hcase⟩ := jbi hv
  rw [hv']
  split at hl
  ·rename_i h0
   cases hl
   exact ⟨#[], fun w' _ => by show (loadCells a' (n * size)).run P w' = _; exact nothing _ _ h0, hnil⟩
  ·cases hl
 ·rename_i s
  cases hl
  rw [jbb hv]
  refine ⟨(s.extract 0 n).data.map fun b => .int .u8 b.toNat, fun _ _ => rfl, ?_⟩
  have e : ((s.extract 0 n).data.map fun b => Value.int .u8 b.toNat) = ((s.data.toList.take n).map fun b => Value.int .u8 b.toNat).toArray := by
   apply Array.ext'
   rw [Array.toList_map, ByteArray.data_extract, Array.toList_extract]
   simp [List.extract_eq_take_drop]
  rw [e]
  refine ⟨rfl, fun i a b ha hb => ?_⟩
  rw [ha] at hb; cases hb
  simp only [List.getElem?_toArray, List.getElem?_map] at ha
  cases hk : (s.data.toList.take n)[i]? with
  | none => rw [hk] at ha; cases ha
  | some x => rw [hk] at ha; cases ha; exact .int _ _
 ·cases hl
theorem jeJ {μ : Mem} {w : World} (h : Rel J μ w) {size n : Nat} {v v' : Value} {l : List Value} (hv : VRel J v v') (hl : jaU μ size n v = some l) :
  ∃ l' : Array Value, (Builtin.firstCells size n v').run P w = .ok l' w ∧ ARel J l.toArray l' :=
 let ⟨l', h1, h2⟩ := jc4 (P := P) h hv hl
 ⟨l', h1 w rfl, h2⟩
def lenV : Value → Option Nat
 | .slice _ n _ => some n
 | .string s => some s.data.toList.length
 | _ => none
theorem jhn {v v' : Value} {n : Nat} (hv : VRel J v v') (h : lenV v = some n) (w : World) : (Builtin.lenOf v').run P w = .ok n w := by
 unfold lenV at h
 split at h
 ·cases h; cases hv <;> rfl
 ·rename_i s
  cases h
  rw [jbb hv]
  have e : s.data.toList.length = s.size := by rw [Array.length_toList]; rfl
  rw [e]; rfl
 ·cases h
def aCopy (P : Program) (μ : Mem) (dt : TypeId) (d s : Value) : Option (Value × Mem) :=
 match P.underlying dt with
 | some (.slice e) => match P.info? e with
   | none => none
   | some inf => match lenV s with
     | none => none
     | some sl => match d with
       | .slice (some ⟨i, o, none⟩) dl _ => match jaU μ inf.size (Nat.min sl dl) s with
         | none => none
         | some cs => match cs with
           | [] => some (.int .i64 (Nat.min sl dl), μ)
           | _ => match μ.obs.get i with
             | some (.cells n te zero over lo hi fx sh) => match jbL n lo hi o cs.length with
               | false => none
               | true => match scalars cs with
                 | false => none
                 | true => some (.int .i64 (Nat.min sl dl), ⟨μ.obs.set i (.cells n te zero (over.lay o cs) lo hi fx sh), μ.next⟩)
             | _ => none
       | .slice none dl _ => match jaU μ inf.size (Nat.min sl dl) s with
         | none => none
         | some _ => some (.int .i64 (Nat.min sl dl), μ)
       | _ => none
 | _ => none
theorem jjb {ρ ρ' : Operand → Value} (hρ : ∀ x, VRel J (ρ x) (ρ' x)) {μ : Mem} {w : World} (h : Rel J μ w) {o : Oper} {c : Call} {dt : TypeId} {x y : Operand} {v : Value} {μ' : Mem} (ho : o.op = .call c)
  (hc : c.callee = .builtin .copy) (ha : c.args.toList = [x, y]) (ht : c.argTypes[0]? = some dt) (hs : aCopy P μ dt (ρ x) (ρ y) = some (v, μ')) : jfV P J ρ' o μ w v μ' := by
 have hx := hρ x
 have hy := hρ y
 unfold aCopy at hs
 split at hs
 ·rename_i e hu
  split at hs
  ·cases hs
  ·rename_i inf hinf
   split at hs
   ·cases hs
   ·rename_i sl hsl
    have hlen := fun w => jhn (P := P) hy hsl w
    split at hs
    ·rename_i i of dl cp e1
     rw [e1] at hx
     obtain ⟨a', c', hx', _, hcase⟩ := jbi hx
     split at hs
     ·cases hs
     ·rename_i cs hcs
      obtain ⟨l', hl1, hl2⟩ := jeJ (P := P) h hy hcs
      have hrun : ∀ w', (storeCells a' l'.toList).run P w = .ok () w' → (execOp ρ' o).run P w = .ok (.value (.int .i64 (Nat.min sl dl : Nat))) w' := by
       intro w' hst
       rw [jbO ho hc, jdL ha]
       simp only [builtin, Builtin.copy_, ht, hx', rzB, jar hu, rzA, hlen w, ja9 hinf, hl1, hst, rzC, goInt, List.getElem?_toArray, List.getElem?_cons_zero, List.getElem?_cons_succ]
      split at hs
      ·cases hs
       have : l' = #[] := Array.eq_empty_of_size_eq_zero (by have := hl2.size; simp at this; exact this.symm)
       subst this
       exact ⟨J, _, w, .inl (hrun w rfl), .int _ _, h, Step.refl _ _ _⟩
      ·split at hs
       ·rename_i n te zero over lo hi fx sh hob
        split at hs
        ·cases hs
        ·rename_i hw
         split at hs
         ·cases hs
         ·rename_i hsc
          cases hs
          obtain ⟨b, s, hb, w', r1, r2, r3⟩ := jen (P := P) (vs' := l'.toList) h hob hw hsc (by simpa using hl2)
          have ha' : a' = ⟨b, of, none⟩ := by
           rcases hcase with ⟨i2, o2, b2, s2, e1, e2, e3, _⟩ | ⟨e1, _⟩
           ·cases e1; rw [hb] at e3; cases e3; exact e2
           ·rw [show J i = _ from hb] at e1; cases e1
          subst ha'
          exact ⟨J, _, w', .inl (hrun w' r1), .int _ _, r2, r3⟩
       ·cases hs
    ·rename_i dl cp e1
     rw [e1] at hx
     have hx' : ρ' x = .slice none dl cp := by generalize ρ' x = q at hx; cases hx; rfl
     split at hs
     ·cases hs
     ·rename_i cs hcs
      cases hs
      obtain ⟨l', hl1, hl2⟩ := jeJ (P := P) h hy hcs
      refine ⟨J, _, w, .inl ?_, .int _ _, h, Step.refl _ _ _⟩
      rw [jbO ho hc, jdL ha]
      simp only [builtin, Builtin.copy_, ht, hx', rzB, jar hu, rzA, hlen w, ja9 hinf, hl1, rzC, goInt, List.getElem?_toArray, List.getElem?_cons_zero, List.getElem?_cons_succ]
    ·cases hs
 ·cases hs
end
noncomputable section
variable {P : Program} {J : Nat → Loc}
theorem growBy_le (n : Nat) : ∀ (r c : Nat), Builtin.growBy n r c ≤ max c (n + (n + 768) / 4) := by
 intro r
 induction r with
 | zero => intro c; simp only [Builtin.growBy]; omega
 | succ r ih =>
   intro c
   simp only [Builtin.growBy]
   split
   ·omega
   ·have := ih (c + (c + 768) / 4)
    omega
theorem jky {n c : Nat} (h : c < n) : Builtin.nextslicecap n c ≤ 3 * n + 1000 := by
 unfold Builtin.nextslicecap
 split
 ·omega
 ·split
  ·omega
  ·have := growBy_le n 4 c
   omega
theorem jhp (n : Nat) (w : World) : (askRoom n).run P w = .ok () w := by
 unfold askRoom
 split <;> rfl
theorem jfO (z : Array Value) (n : Nat) : (Builtin.zeroCells z n).size = n * z.size := by simp [Builtin.zeroCells]
structure AppArgs (P : Program) (c : Call) (st xt e : TypeId) (inf : TypeInfo) (z : Value) : Prop where
 t0 : c.argTypes[0]? = some st
 t1 : c.argTypes[1]? = some xt
 us : P.underlying st = some (.slice e)
 info : P.info? e = some inf
 ux : (∃ e2, P.underlying xt = some (.slice e2)) ∨ P.underlying xt = some .string
 zero : jaO P e = some z
 zsize : z.cells.size = inf.size
 bytes : inf.bytes ≤ 4096
theorem jdZ {c : Call} {st xt e : TypeId} {inf : TypeInfo} {z : Value} (A : AppArgs P c st xt e inf z) {ty : TypeId} {base : Option Addr} {l cp n : Nat} {x' : Value} {w w' : World} {new : Array Value}
  (hn : (Builtin.lenOf x').run P w = .ok n w) (hle : l + n ≤ cp) (hnew : (Builtin.firstCells inf.size n x').run P w = .ok new w)
  (hst : ∀ a, base = some a → (storeCells (a.add (l * inf.size)) new.toList).run P w = .ok () w') (hw : base = none → w' = w) :
  (Builtin.append_ c.argTypes ty #[.slice base l cp, x']).run P w = .ok (.slice base (l + n) cp) w' := by
 cases base with
 | none =>
   rw [hw rfl]
   rcases A.ux with ⟨e2, hd⟩ | hd
   all_goals
    simp only [Builtin.append_, A.t0, A.t1, List.getElem?_toArray, List.getElem?_cons_zero, List.getElem?_cons_succ, rzB, jar A.us, jar hd, rzA, ja9 A.info, Bool.false_eq_true, if_false, hn, Bool.not_false,
     if_true, if_pos hle, hnew, rzC]
 | some a =>
   rcases A.ux with ⟨e2, hd⟩ | hd
   all_goals
    simp only [Builtin.append_, A.t0, A.t1, List.getElem?_toArray, List.getElem?_cons_zero, List.getElem?_cons_succ, rzB, jar A.us, jar hd, rzA, ja9 A.info, Bool.false_eq_true, if_false, hn, Bool.not_false,
     if_true, if_pos hle, hnew, hst a rfl, rzC]
theorem run_grows {c : Call} {st xt e : TypeId} {inf : TypeInfo} {z : Value} (A : AppArgs P c st xt e inf z) {ty : TypeId} {base : Option Addr} {l cp n : Nat} {x' : Value} {w : World} {old new : Array Value}
  (hn : ∀ w, (Builtin.lenOf x').run P w = .ok n w) (hgt : cp < l + n) (hs : l + n ≤ 67108864)
  (hnew : ∀ w', w'.heap = w.heap → (Builtin.firstCells inf.size n x').run P w' = .ok new w') (hold : ∀ w', w'.heap = w.heap → (Builtin.firstCells inf.size l (.slice base l cp)).run P w' = .ok old w') :
  ∃ (nc : Nat) (w1 : World), l + n ≤ nc ∧ w1.heap = w.heap ∧ w1.os = w.os ∧ w1.tape = w.tape ∧ w1.output = w.output ∧
   (Builtin.append_ c.argTypes ty #[.slice base l cp, x']).run P w =
    .ok (.slice (some ⟨w.heap.size, 0, none⟩) (l + n) nc) (w1.alloc (.cells (old ++ new ++ Builtin.zeroCells z.cells (nc - (l + n))) e)) := by
 obtain ⟨nc, hnc, hr⟩ := jd1 (P := P) (l + n) cp e w
 refine ⟨nc, { w with drawn := w.drawn + 1 }, hnc, rfl, rfl, rfl, rfl, ?_⟩
 have h1 : ¬ (((l + n : Nat) : Int) > IntKind.i64.max ∧ (false = true ∨ inf.bytes = 0)) := by
  have : IntKind.i64.max = 9223372036854775807 := by decide
  rintro ⟨h, _⟩
  omega
 have h2 : ¬ (Builtin.nextslicecap (l + n) cp * inf.bytes > 2 ^ 48) := by
  have := jky hgt
  have h3 : Builtin.nextslicecap (l + n) cp * inf.bytes ≤ 201327592 * 4096 := Nat.mul_le_mul (by omega) A.bytes
  have h4 : (2 : Nat) ^ 48 = 281474976710656 := by decide
  omega
 have h1' : ¬ (((l + n : Nat) : Int) > IntKind.i64.max ∧ (False ∨ inf.bytes = 0)) := fun h => h1 ⟨h.1, h.2.imp (fun x => x.elim) id⟩
 rcases A.ux with ⟨e2, hd⟩ | hd
 all_goals
  simp only [Builtin.append_, A.t0, A.t1, List.getElem?_toArray, List.getElem?_cons_zero, List.getElem?_cons_succ, rzB, jar A.us, jar hd, rzA, ja9 A.info, Bool.false_eq_true, if_false, hn, Bool.not_false,
   if_true, if_neg (Nat.not_le.2 hgt), jc5 A.info, if_neg h1', if_neg h2, hr, jhp, hold { w with drawn := w.drawn + 1 } rfl, hnew { w with drawn := w.drawn + 1 } rfl, (ja7 A.zero _).1, jbQ, rzC]
theorem jdz {J : Nat → Loc} (i : Nat) : Ext J (upd J i .dead) :=
 ⟨fun j b s e => by
  by_cases hj : j = i
  ·subst hj; exact .inr (upd_same _ _ _)
  ·exact .inl (by rw [jav hj]; exact e),
  fun j e => by
   by_cases hj : j = i
   ·subst hj; exact upd_same _ _ _
   ·rw [jav hj]; exact e⟩
theorem Rel.kill {μ : Mem} {w : World} (h : Rel J μ w) {i b s : Nat} (hi : J i = .at b s) : Rel (upd J i .dead) ⟨μ.obs.set i .dead, μ.next⟩ w where
 inj a c x t t' ha hc := by
  by_cases h1 : a = i
  ·subst h1; rw [upd_same] at ha; cases ha
  ·by_cases h2 : c = i
   ·subst h2; rw [upd_same] at hc; cases hc
   ·rw [jav h1] at ha; rw [jav h2] at hc; exact h.inj _ _ _ _ _ ha hc
 bnd a c t ha := by
  by_cases h1 : a = i
  ·subst h1; rw [upd_same] at ha; cases ha
  ·rw [jav h1] at ha; exact h.bnd _ _ _ ha
 fresh a ha := by
  have : i < μ.next := jdn h hi
  rw [jav (by have ha : μ.next ≤ a := ha; omega)]
  exact h.fresh a ha
 obj a o ha hd := by
  simp only [T.get_set] at ha
  by_cases h1 : a = i
  ·rw [if_pos h1] at ha; cases ha; exact absurd rfl hd
  ·rw [if_neg h1] at ha
   obtain ⟨c, t, hc, hob⟩ := h.obj a o ha hd
   exact ⟨c, t, by rw [jav h1]; exact hc, hob.keep (jdz i) rfl⟩
theorem Step.kill {μ : Mem} {w : World} (h : Rel J μ w) {i b s : Nat} (hi : J i = .at b s) (hp : ¬ gone μ i) : Step J μ w (upd J i .dead) ⟨μ.obs.set i .dead, μ.next⟩ w where
 at_ a c t e := by
  by_cases h1 : a = i
  ·subst h1; exact .inr ⟨upd_same _ _ _, hp⟩
  ·exact .inl (by rw [jav h1]; exact e)
 dead a e := (jdz i).dead a e
 unborn a _ e := by
  by_cases h1 : a = i
  ·subst h1; rw [hi] at e; cases e
  ·rw [jav h1]; exact e
 born a c t e e2 := by
  by_cases h1 : a = i
  ·subst h1; rw [hi] at e; cases e
  ·rw [jav h1, e] at e2; cases e2
 next := Nat.le_refl _
 gone_ a ha hg o ho := by
  simp only [T.get_set] at ho
  by_cases e : a = i
  ·subst e; rw [if_pos rfl] at ho; cases ho; rfl
  ·rw [if_neg e] at ho; exact hg o ho
 size := Nat.le_refl _
 frame c hc _ := rfl
 os := rfl
 tape := rfl
 output := rfl
theorem Rel.move {μ : Mem} {w w' : World} (h : Rel J μ w) {i b s : Nat} (hi : J i = .at b s) (o2 : Ob) (hsz : w'.heap.size = w.heap.size) (hoth : ∀ c, c ≠ b → w'.heap[c]? = w.heap[c]?)
  (ho : ∀ J', Ext J J' → ObRel J' w' b s o2) : Rel (upd (upd J i .dead) μ.next (.at b s)) ⟨(μ.obs.set i .dead).set μ.next o2, μ.next + 1⟩ w' := by
 have hlt : i < μ.next := jdn h hi
 have hu : (upd J i .dead) μ.next = .unborn := by rw [jav (by omega)]; exact h.fresh _ (Nat.le_refl _)
 have hE : Ext J (upd (upd J i .dead) μ.next (.at b s)) := (jdz i).trans (jda _ hu)
 have hno : ∀ a t, J a = .at b t → a = i := fun a t e => h.inj _ _ _ _ _ e hi
 constructor
 ·intro a c x t t' ha hc
  by_cases h1 : a = μ.next
  ·by_cases h2 : c = μ.next
   ·rw [h1, h2]
   ·subst h1
    rw [upd_same] at ha; cases ha
    rw [jav h2] at hc
    by_cases h3 : c = i
    ·subst h3; rw [upd_same] at hc; cases hc
    ·rw [jav h3] at hc; exact absurd (hno _ _ hc) h3
  ·rw [jav h1] at ha
   by_cases h4 : a = i
   ·subst h4; rw [upd_same] at ha; cases ha
   ·rw [jav h4] at ha
    by_cases h2 : c = μ.next
    ·subst h2
     rw [upd_same] at hc; cases hc
     exact absurd (hno _ _ ha) h4
    ·rw [jav h2] at hc
     by_cases h3 : c = i
     ·subst h3; rw [upd_same] at hc; cases hc
     ·rw [jav h3] at hc; exact h.inj _ _ _ _ _ ha hc
 ·intro a c t ha
  rw [hsz]
  by_cases h1 : a = μ.next
  ·subst h1; rw [upd_same] at ha; cases ha; exact h.bnd _ _ _ hi
  ·rw [jav h1] at ha
   by_cases h4 : a = i
   ·subst h4; rw [upd_same] at ha; cases ha
   ·rw [jav h4] at ha; exact h.bnd _ _ _ ha
 ·intro a ha
  have ha : μ.next + 1 ≤ a := ha
  rw [jav (by omega), jav (by omega)]
  exact h.fresh a (by omega)
 ·intro a o ha hd
  simp only [T.get_set] at ha
  by_cases h1 : a = μ.next
  ·rw [if_pos h1] at ha; cases ha; subst h1
   exact ⟨b, s, upd_same _ _ _, ho _ hE⟩
  ·rw [if_neg h1] at ha
   by_cases h4 : a = i
   ·rw [if_pos h4] at ha; cases ha; exact absurd rfl hd
   ·rw [if_neg h4] at ha
    obtain ⟨c, t, hc, hob⟩ := h.obj a o ha hd
    refine ⟨c, t, by rw [jav h1, jav h4]; exact hc, hob.keep hE (hoth c fun e2 => h4 ?_)⟩
    subst e2
    exact hno _ _ hc
theorem Step.move {μ : Mem} {w w' : World} (h : Rel J μ w) {i b s : Nat} (hi : J i = .at b s) (hp : ¬ gone μ i) (o2 : Ob) (hsz : w'.heap.size = w.heap.size) (hoth : ∀ c, c ≠ b → w'.heap[c]? = w.heap[c]?)
  (h1 : w'.os = w.os) (h2 : w'.tape = w.tape) (h3 : w'.output = w.output) :
  Step J μ w (upd (upd J i .dead) μ.next (.at b s)) ⟨(μ.obs.set i .dead).set μ.next o2, μ.next + 1⟩ w' := by
 have hlt : i < μ.next := jdn h hi
 have hu : (upd J i .dead) μ.next = .unborn := by rw [jav (by omega)]; exact h.fresh _ (Nat.le_refl _)
 have hE : Ext J (upd (upd J i .dead) μ.next (.at b s)) := (jdz i).trans (jda _ hu)
 constructor
 ·intro a c t e
  have ha := jdn h e
  by_cases h4 : a = i
  ·subst h4; exact .inr ⟨by rw [jav (by omega), upd_same], hp⟩
  ·exact .inl (by rw [jav (by omega), jav h4]; exact e)
 ·exact hE.dead
 ·intro a ha e
  by_cases h4 : a = i
  ·subst h4; rw [hi] at e; cases e
  ·rw [jav (by omega), jav h4]; exact e
 ·intro a c t e e2
  by_cases h5 : a = μ.next
  ·subst h5; rw [upd_same] at e2; cases e2; exact .inr ⟨i, s, hi, hp⟩
  ·rw [jav h5] at e2
   by_cases h4 : a = i
   ·subst h4; rw [upd_same] at e2; cases e2
   ·rw [jav h4, e] at e2; cases e2
 ·show μ.next ≤ μ.next + 1; omega
 ·intro a ha hg o ho
  simp only [T.get_set] at ho
  rw [if_neg (by omega)] at ho
  by_cases e : a = i
  ·subst e; rw [if_pos rfl] at ho; cases ho; rfl
  ·rw [if_neg e] at ho; exact hg o ho
 ·rw [hsz]; exact Nat.le_refl _
 ·intro c hc hall
  refine hoth c fun e => ?_
  subst e
  exact hp (hall i s hi)
 ·exact h1
 ·exact h2
 ·exact h3
end
noncomputable section
variable {P : Program} {J : Nat → Loc}
def jcl (μ : Mem) (e : TypeId) (size need : Nat) (cs : List Value) (lo hi : Nat) (sh : Bool) : Value × Mem :=
 (.slice (some ⟨μ.next, 0, none⟩) need (Nat.add (Nat.mul 2 size) 1), ⟨μ.obs.set μ.next (.cells cs.length e cs.toArray .e lo hi true sh), Nat.add μ.next 1⟩)
def jdU (lo hi o k : Nat) : Bool :=
 match Nat.blt lo hi with
 | false => true
 | true => match Nat.ble k lo with
   | true => true
   | false => Nat.ble hi o
def ja8 (P : Program) (μ : Mem) (e : TypeId) (size n : Nat) (new : List Value) (s : Value) : Option (Value × Mem) :=
 match s with
 | .slice none 0 0 => match n with
   | 0 => some (.slice none 0 0, μ)
   | _ => some (jcl μ e size n new 0 0 false)
 | .slice (some ⟨i, o, none⟩) l c => match Nat.ble (Nat.add l n) 67108864 with
   | false => none
   | true => match Nat.beq (Nat.mod c 2) 0 with
     | true => match Nat.ble (Nat.add l n) (Nat.div c 2) with
       | true => match new with
         | [] => some (.slice (some ⟨i, o, none⟩) (Nat.add l n) c, μ)
         | _ => match μ.obs.get i with
           | some (.cells m te zero over lo hi fx sh) => match jbL m lo hi (Nat.add o (Nat.mul l size)) new.length with
             | false => none
             | true => match scalars new with
               | false => none
               | true => some (.slice (some ⟨i, o, none⟩) (Nat.add l n) c, ⟨μ.obs.set i (.cells m te zero (over.lay (Nat.add o (Nat.mul l size)) new) lo hi fx sh), μ.next⟩)
           | _ => none
       | false => match jaU μ size l (.slice (some ⟨i, o, none⟩) l c) with
         | some old => some (jcl μ e size (Nat.add l n) (old ++ new) 0 0 false)
         | none => none
     | false => match n with
       | 0 => some (.slice (some ⟨i, o, none⟩) l c, μ)
       | _ => match o with
         | 0 => match μ.obs.get i with
           | some (.cells m te zero over lo hi fx sh) => match Nat.beq (Nat.div c 2) size with
             | false => none
             | true => match Nat.beq te e with
               | false => none
               | true => match Nat.ble (Nat.mul l size) m with
                 | false => none
                 | true => match jdU lo hi (Nat.mul l size) (Nat.mul (Nat.add l n) size) with
                   | false => none
                   | true => match scalars new with
                     | false => none
                     | true => some (.slice (some ⟨μ.next, 0, none⟩) (Nat.add l n) c,
                       ⟨(μ.obs.set i .dead).set μ.next (.cells (jat zero over 0 (Nat.mul l size) ++ new).length e (jat zero over 0 (Nat.mul l size) ++ new).toArray .e lo hi true sh), Nat.add μ.next 1⟩)
           | _ => none
         | _ => none
 | _ => none
def jaM (P : Program) (μ : Mem) (st xt : TypeId) (s x : Value) : Option (Value × Mem) :=
 match P.underlying st with
 | some (.slice e) => match P.info? e with
   | none => none
   | some inf => match Nat.ble inf.bytes 4096 with
     | false => none
     | true => match jaO P e with
       | none => none
       | some z => match Nat.beq (jaS z).length inf.size with
         | false => none
         | true => match (match P.underlying xt with | some (.slice _) => true | some .string => true | _ => false) with
           | false => none
           | true => match lenV x with
             | none => none
             | some n => match Nat.ble n 67108864 with
               | false => none
               | true => match jaU μ inf.size n x with
                 | none => none
                 | some new => match Nat.beq new.length (Nat.mul n inf.size) with
                   | false => none
                   | true => ja8 P μ e inf.size n new s
 | _ => none
theorem jbp {zero : Array Value} {over : T Value} : ∀ (n o : Nat), (jat zero over o n).length = n := by
 intro n
 induction n with
 | zero => intro o; rfl
 | succ n ih => intro o; simp [jat, ih]
theorem jea {zero : Array Value} {over : T Value} : ∀ (n o k : Nat), k < n → (jat zero over o n)[k]? = some (cellAt zero over (o + k)) := by
 intro n
 induction n with
 | zero => intro o k h; omega
 | succ n ih =>
   intro o k h
   cases k with
   | zero => rfl
   | succ k =>
     rw [jat, List.getElem?_cons_succ, ih _ _ (by omega)]
     rw [show Nat.add o 1 + k = o + (k + 1) from by show o + 1 + k = _; omega]
theorem app_cells {J : Nat → Loc} {a b c : List Value} {a' b' c' : Array Value} (h1 : ARel J a.toArray a') (h2 : ARel J b.toArray b') : ARel J (a ++ b).toArray (a' ++ b') where
 size := by have e1 := h1.size; have e2 := h2.size; simp at e1 e2 ⊢; omega
 at_ i x y hx hy := by
  have e1 : a.length = a'.size := by simpa using h1.size
  simp only [List.getElem?_toArray] at hx
  by_cases h : i < a.length
  ·rw [List.getElem?_append_left h] at hx
   rw [Array.getElem?_append_left (by omega)] at hy
   exact h1.at_ i x y (by simpa using hx) hy
  ·rw [List.getElem?_append_right (by omega)] at hx
   rw [Array.getElem?_append_right (by omega)] at hy
   rw [e1] at hx
   exact h2.at_ _ x y (by simpa using hx) hy
theorem jkT {w : World} {l : List Value} {x' r : Array Value} {t : TypeId} {lo hi : Nat} {sh : Bool} (h : ARel J l.toArray x') :
  ObRel J (w.alloc (.cells (x' ++ r) t)) w.heap.size (x' ++ r).size (.cells l.length t l.toArray .e lo hi true sh) := by
 have hs : l.length = x'.size := by simpa using h.size
 refine ⟨x' ++ r, (0, 0), heap_alloc_new w _, rfl, by simp; omega, (fun h => by cases h), fun i hi => ?_, .inl rfl⟩
 refine ⟨x'[i], by rw [Array.getElem?_append_left (by omega)]; exact rzJ (by omega), ?_⟩
 refine h.at_ i _ _ ?_ (rzJ (by omega))
 have hm : Nat.mod i l.toArray.size = i := by show i % _ = i; rw [Nat.mod_eq_of_lt]; simpa using hi
 simp only [cellAt, T.get_e, hm]
 rw [rzJ (by simpa using hi), Array.getD, dif_pos (by simpa using hi)]
 rfl
theorem jeu {μ : Mem} {w : World} (h : Rel J μ w) {c : Call} {st xt e : TypeId} {inf : TypeInfo} {z : Value} (A : AppArgs P c st xt e inf z) {ty : TypeId} {base : Option Addr} {l cp n : Nat} {x' : Value}
  {olds news : List Value} {old new : Array Value} {lo hi : Nat} {sh : Bool}
  (hn : ∀ w, (Builtin.lenOf x').run P w = .ok n w) (hgt : cp < l + n) (hs : l + n ≤ 67108864)
  (hnew : ∀ w', w'.heap = w.heap → (Builtin.firstCells inf.size n x').run P w' = .ok new w') (hold : ∀ w', w'.heap = w.heap → (Builtin.firstCells inf.size l (.slice base l cp)).run P w' = .ok old w')
  (ho : ARel J olds.toArray old) (hne : ARel J news.toArray new) (hlen : (olds ++ news).length = (l + n) * inf.size) :
  ∃ J' v' w', (Builtin.append_ c.argTypes ty #[.slice base l cp, x']).run P w = .ok v' w' ∧ VRel J' (jcl μ e inf.size (l + n) (olds ++ news) lo hi sh).1 v' ∧
   Rel J' (jcl μ e inf.size (l + n) (olds ++ news) lo hi sh).2 w' ∧ Step J μ w J' (jcl μ e inf.size (l + n) (olds ++ news) lo hi sh).2 w' := by
 obtain ⟨nc, w1, hnc, hw1, o1, o2, o3, hrun⟩ := run_grows A (ty := ty) hn hgt hs hnew hold
 have hcs := app_cells (c := []) (c' := #[]) ho hne
 have h1 : Rel J μ w1 := h.heap hw1
 have hsz : (old ++ new).size = (l + n) * inf.size := by have := hcs.size; simp only [List.size_toArray] at this; omega
 have hfull : (old ++ new ++ Builtin.zeroCells z.cells (nc - (l + n))).size = nc * inf.size := by
  rw [Array.size_append, hsz, jfO, A.zsize, Nat.sub_mul]
  have : (l + n) * inf.size ≤ nc * inf.size := Nat.mul_le_mul_right _ hnc
  omega
 have hu : J μ.next = .unborn := h.fresh _ (Nat.le_refl _)
 refine ⟨upd J μ.next (.at w1.heap.size (old ++ new ++ Builtin.zeroCells z.cells (nc - (l + n))).size), _, _, hrun, ?_, ?_, ?_⟩
 ·rw [show w.heap.size = w1.heap.size from by rw [hw1]]
  refine .slice (upd_same _ _ _) (.inr ⟨by show (2 * inf.size + 1) % 2 = 1; omega, hnc, ?_⟩)
  rw [hfull, show (Nat.add (Nat.mul 2 inf.size) 1) / 2 = inf.size from by show (2 * inf.size + 1) / 2 = _; omega]
  omega
 ·exact h1.alloc _ _ _ hu (Nat.lt_succ_self _) (Nat.le_succ _) ((jkT hcs).keep (jda _ hu) rfl)
 ·have s1 : Step J μ w J μ w1 := { Step.refl J μ w with size := by rw [hw1]; exact Nat.le_refl _, frame := fun b _ _ => by rw [hw1], os := o1, tape := o2, output := o3, born := (Step.refl J μ w).born }
  exact s1.trans h (Step.alloc h1 _ _ _ (Nat.le_refl _) (Nat.lt_succ_self _) (Nat.le_succ _))
def AppTurns (P : Program) (J : Nat → Loc) (c : Call) (ty : TypeId) (s' x' : Value) (μ : Mem) (w : World) (v : Value) (μ' : Mem) : Prop :=
 ∃ J' v' w', (Builtin.append_ c.argTypes ty #[s', x']).run P w = .ok v' w' ∧ VRel J' v v' ∧ Rel J' μ' w' ∧ Step J μ w J' μ' w'
theorem jig {lo hi o k s : Nat} {fz : Nat × Nat} {sh : Bool} (h : jdU lo hi o k = true) (hs : k ≤ s) (hf : FzRel fz s lo hi sh) : ∀ j, o ≤ j → j < k → ¬ (fz.1 ≤ j ∧ j < fz.2) := by
 unfold jdU at h
 intro j hj1 hj2 ⟨e1, e2⟩
 rcases hf with hf | ⟨_, hf⟩ | ⟨hf1, hf2, hf3⟩
 ·omega
 ·omega
 ·split at h
  ·rename_i h2
   have : ¬ lo < hi := fun hlt => by rw [show Nat.blt lo hi = true from by simpa using hlt] at h2; cases h2
   omega
  ·split at h
   ·rename_i h3
    have h3' : k ≤ lo := rzE h3
    omega
   ·have h3' : hi ≤ o := rzE h
    omega
theorem jfN {μ : Mem} {w : World} (h : Rel J μ w) {c : Call} {st xt e : TypeId} {inf : TypeInfo} {z : Value} (A : AppArgs P c st xt e inf z) {ty : TypeId} {s s' x x' : Value} {n : Nat} {news : List Value} {v : Value} {μ' : Mem}
  (hx : VRel J s s') (hy : VRel J x x') (hn : lenV x = some n) (hn2 : n ≤ 67108864) (hnew : jaU μ inf.size n x = some news) (hnl : news.length = n * inf.size)
  (hs : ja8 P μ e inf.size n news s = some (v, μ')) : AppTurns P J c ty s' x' μ w v μ' := by
 have hlen : ∀ w, (Builtin.lenOf x').run P w = .ok n w := jhn hy hn
 obtain ⟨new, hnew1, hnew2⟩ := jc4 (P := P) h hy hnew
 have hns : news.length = new.size := by simpa using hnew2.size
 unfold ja8 at hs
 split at hs
 ·
  cases hx
  split at hs
  ·cases hs
   refine ⟨J, .slice none 0 0, w, ?_, .sliceNil 0 0, h, Step.refl _ _ _⟩
   exact jdZ A (base := none) (l := 0) (cp := 0) (hlen w) (Nat.le_refl _) (hnew1 w rfl) (fun a e => by cases e) (fun _ => rfl)
  ·rename_i hn0
   cases hs
   have hn0' : 0 < n := Nat.pos_of_ne_zero fun e => hn0 (by omega)
   have := jeu h A (ty := ty) (base := none) (l := 0) (cp := 0) (olds := []) (old := #[]) (lo := 0) (hi := 0) (sh := false) hlen (by omega) (by omega) hnew1 (fun w' _ => rfl) ⟨rfl, fun i a b ha => by simp at ha⟩ hnew2 (by simpa using hnl)
   rw [Nat.zero_add] at this
   exact this
 ·rename_i i of l cp
  obtain ⟨a', c', hx', hadd, hcase⟩ := jbi hx
  have hx2 := hx
  rw [hx'] at hx2 ⊢
  split at hs
  ·cases hs
  ·rename_i hsum
   have hsum' : l + n ≤ 67108864 := rzE hsum
   split at hs
   ·rename_i heven
    have heven' : cp % 2 = 0 := rzD heven
    have hcc : c' = cp / 2 := by
     rcases hcase with ⟨_, _, _, _, _, _, _, hcap⟩ | ⟨_, hcap⟩
     ·rcases hcap with ⟨_, e2⟩ | ⟨e2, _⟩
      ·exact e2
      ·omega
     ·rcases hcap with ⟨_, e2⟩ | ⟨e2, _⟩
      ·exact e2
      ·omega
    split at hs
    ·rename_i hfit
     have hfit' : l + n ≤ c' := by rw [hcc]; exact rzE hfit
     have hval : ∀ J', Ext J J' → VRel J' (.slice (some ⟨i, of, none⟩) (Nat.add l n) cp) (.slice (some a') (l + n) c') := by
      intro J' hE
      rcases hcase with ⟨i2, o2, b2, s2, e1, e2, e3, hcap⟩ | ⟨e1, hcap⟩
      ·cases e1
       subst e2
       refine VRel.mono hE (.slice e3 ?_)
       rcases hcap with hcap | ⟨e4, _⟩
       ·exact .inl hcap
       ·omega
      ·refine VRel.mono hE (.sliceDead _ _ e1 ?_)
       rcases hcap with hcap | ⟨e4, _⟩
       ·exact .inl hcap
       ·omega
     split at hs
     ·cases hs
      have hnil : new = #[] := Array.eq_empty_of_size_eq_zero (by rw [← hns]; rfl)
      refine ⟨J, _, w, jdZ A (base := some a') (w' := w) (hlen w) hfit' (hnew1 w rfl) (fun a e => by cases e; rw [hnil]; rfl) (fun e => by cases e), hval J (Ext.refl J), h, Step.refl _ _ _⟩
     ·split at hs
      ·rename_i m te zero over lo hi fx sh hob
       split at hs
       ·cases hs
       ·rename_i hw
        split at hs
        ·cases hs
        ·rename_i hsc
         cases hs
         obtain ⟨b, sz, hb, w', r1, r2, r3⟩ := jen (P := P) (vs' := new.toList) h hob hw hsc (by simpa using hnew2)
         have ha' : a' = ⟨b, of, none⟩ := by
          rcases hcase with ⟨i2, o2, b2, s2, e1, e2, e3, _⟩ | ⟨e1, _⟩
          ·cases e1; rw [hb] at e3; cases e3; exact e2
          ·rw [show J i = _ from hb] at e1; cases e1
         refine ⟨J, _, w', jdZ A (base := some a') (w' := w') (hlen w) hfit' (hnew1 w rfl) (fun a e => ?_) (fun e => by cases e), hval J (Ext.refl J), r2, r3⟩
         cases e
         rw [ha', jgi]
         exact r1
      ·cases hs
    ·rename_i hfit
     have hfit' : c' < l + n := by
      have : ¬ (l + n ≤ cp / 2) := fun hle => by rw [show Nat.ble (Nat.add l n) (Nat.div cp 2) = true from Nat.ble_eq_true_of_le hle] at hfit; cases hfit
      omega
     split at hs
     ·rename_i olds hold
      cases hs
      obtain ⟨old, ho1, ho2⟩ := jc4 (P := P) h hx hold
      rw [hx'] at ho1
      have hol : olds.length = l * inf.size := by
       unfold jaU at hold
       simp only at hold
       split at hold
       ·rename_i h0; cases hold; exact h0.symm
       ·split at hold
        ·split at hold
         ·cases hold; rw [jbp]; rfl
         ·cases hold
        ·split at hold
         ·cases hold; rw [jbp]; rfl
         ·cases hold
        ·split at hold
         ·cases hold; rw [jbp]; rfl
         ·cases hold
        ·split at hold
         ·cases hold; rw [jbp]; rfl
         ·cases hold
        ·cases hold
      exact jeu h A hlen hfit' hsum' hnew1 ho1 ho2 hnew2 (by rw [List.length_append, hol, hnl, Nat.add_mul])
     ·cases hs
   ·rename_i hodd
    have hodd' : cp % 2 = 1 := by have : cp % 2 ≠ 0 := rzF hodd; omega
    have hlc : l ≤ c' := by
     rcases hcase with ⟨_, _, _, _, _, _, _, hcap⟩ | ⟨_, hcap⟩
     ·rcases hcap with ⟨e2, _⟩ | ⟨_, e2, _⟩
      ·omega
      ·exact e2
     ·rcases hcap with ⟨e2, _⟩ | ⟨_, e2⟩
      ·omega
      ·exact e2
    split at hs
    ·cases hs
     have hnil : new = #[] := Array.eq_empty_of_size_eq_zero (by rw [← hns, hnl, Nat.zero_mul])
     refine ⟨J, _, w, jdZ A (base := some a') (w' := w) (hlen w) (by omega) (hnew1 w rfl) (fun a e => by cases e; rw [hnil]; rfl) (fun e => by cases e), hx2, h, Step.refl _ _ _⟩
    ·rename_i hn0
     split at hs
     ·split at hs
      ·rename_i m te zero over lo hi fx sh hob
       split at hs
       ·cases hs
       ·rename_i hes
        have hes' : cp / 2 = inf.size := rzD hes
        split at hs
        ·cases hs
        ·rename_i hte
         obtain rfl : te = e := rzD hte
         split at hs
         ·cases hs
         ·rename_i hle
          have hle' : l * inf.size ≤ m := rzE hle
          split at hs
          ·cases hs
          ·rename_i huf
           split at hs
           ·cases hs
           ·rename_i hsc
            cases hs
            obtain ⟨b, sz, hb, hr, hcells⟩ := cell_of h hob
            have hcap : a' = ⟨b, 0, none⟩ ∧ c' * inf.size ≤ sz := by
             rcases hcase with ⟨i2, o2, b2, s2, e1, e2, e3, hcap⟩ | ⟨e1, _⟩
             ·cases e1; rw [hb] at e3; cases e3
              rcases hcap with ⟨e4, _⟩ | ⟨_, _, e4⟩
              ·omega
              ·rw [hes'] at e4; exact ⟨e2, by omega⟩
             ·rw [show J i = _ from hb] at e1; cases e1
            obtain ⟨ha', hcap⟩ := hcap
            subst ha'
            obtain ⟨ol, ho1, ho2⟩ := jbD (P := P) (w := w) (zero := zero) (over := over) (b := b) (o := 0) (l * inf.size) 0 #[] (fun k hk => hcells _ (by omega))
            have hol : (jat zero over 0 (l * inf.size)).length = l * inf.size := jbp _ _
            have hwhole : (jat zero over 0 (Nat.mul l inf.size) ++ news).length = (l + n) * inf.size := by
             rw [List.length_append, show Nat.mul l inf.size = l * inf.size from rfl, hol, hnl, Nat.add_mul]
            by_cases hfit : l + n ≤ c'
            ·
             obtain ⟨cc, fz, h1, h2, h3, h4, h5, h6⟩ := hr
             have hnc : (l + n) * inf.size ≤ sz := Nat.le_trans (Nat.mul_le_mul_right _ hfit) hcap
             have hfree := jig huf hnc h6
             have hscm : ∀ v ∈ new.toList, (∀ x, v ≠ .agg x) ∧ (∀ x, v ≠ .tuple x) := by
              intro u hum
              obtain ⟨k, hk, rfl⟩ := List.mem_iff_getElem.1 hum
              have hk' : k < new.size := by simpa using hk
              have hk2 : k < news.length := by omega
              exact jf1 (hnew2.at_ k news[k] new.toList[k] (by simp [hk2]) (by simp [hk'])) (jfd news hsc _ (List.getElem_mem hk2))
             obtain ⟨w', cc', r1, r2, r3⟩ := jdF (P := P) (o := l * inf.size) new.toList 0 w cc h1 (by simp only [Array.length_toList]; rw [← hns, hnl, h2]; rw [Nat.add_mul] at hnc; omega)
              (fun k a b => hfree k (by show l * inf.size ≤ k; omega) (by simp only [Array.length_toList] at b; rw [← hns, hnl] at b; show k < (l + n) * inf.size; rw [Nat.add_mul]; omega)) hscm
             have hob2 : ∀ J', Ext J J' → ObRel J' w' b sz (.cells (jat zero over 0 (Nat.mul l inf.size) ++ news).length te (jat zero over 0 (Nat.mul l inf.size) ++ news).toArray .e lo hi true sh) := by
              intro J' hE
              refine ⟨cc', fz, r2.block, by rw [r2.cells]; exact h2, by rw [hwhole]; exact hnc, (fun h => by cases h), fun k hk => ?_, h6⟩
              have hm : Nat.mod k (jat zero over 0 (Nat.mul l inf.size) ++ news).toArray.size = k := by show k % _ = k; rw [Nat.mod_eq_of_lt]; simpa using hk
              have hval : cellAt (jat zero over 0 (Nat.mul l inf.size) ++ news).toArray .e k = (jat zero over 0 (Nat.mul l inf.size) ++ news)[k] := by
               simp only [cellAt, T.get_e, hm]
               rw [Array.getD, dif_pos (by simpa using hk)]; rfl
              rw [hval, r3 k]
              by_cases hk2 : k < l * inf.size
              ·rw [if_neg (by omega)]
               obtain ⟨y, hy1, hy2⟩ := hcells k (by omega)
               have hcell : cc[k]? = some y := by
                simp only [World.cell?, h1] at hy1
                simpa using hy1
               refine ⟨y, hcell, VRel.mono hE ?_⟩
               rw [List.getElem_append_left (by rw [show Nat.mul l inf.size = l * inf.size from rfl, hol]; exact hk2)]
               have hcf : (jat zero over 0 (l * inf.size))[k]? = some (cellAt zero over (0 + k)) := jea _ _ _ hk2
               rw [rzK (by omega), Option.some.injEq, Nat.zero_add] at hcf
               exact hcf ▸ hy2
              ·have hk4 : k < (l + n) * inf.size := by rw [← hwhole]; exact hk
               rw [Nat.add_mul] at hk4
               rw [if_pos ⟨by omega, by simp only [Array.length_toList]; omega⟩]
               have hk5 : k - (l * inf.size + 0) < new.size := by omega
               refine ⟨new[k - (l * inf.size + 0)], by simp [hk5], VRel.mono hE ?_⟩
               rw [List.getElem_append_right (by rw [show Nat.mul l inf.size = l * inf.size from rfl, hol]; omega)]
               refine hnew2.at_ (k - (l * inf.size + 0)) _ _ ?_ (by simp [hk5])
               simp only [List.getElem?_toArray]
               rw [rzK (by omega)]
               congr 2
               rw [show Nat.mul l inf.size = l * inf.size from rfl, hol]
               omega
             have hp : ¬ gone μ i := fun hg => by have := hg _ hob; cases this
             have hne : μ.next ≠ i := by have := jdn h hb; omega
             refine ⟨_, _, w', jdZ A (base := some ⟨b, 0, none⟩) (w' := w') (hlen w) hfit (hnew1 w rfl) (fun a e => ?_) (fun e => by cases e), ?_,
              h.move hb _ r2.size r2.other hob2, Step.move h hb hp _ r2.size r2.other r2.os r2.tape r2.output⟩
             ·cases e
              rw [jgi, Nat.zero_add]
              exact r1
             ·exact .slice (upd_same _ _ _) (.inr ⟨hodd', hfit, by rw [hes']; omega⟩)
            ·
             have hp : ¬ gone μ i := fun hg => by have := hg _ hob; cases this
             have hold : ∀ w', w'.heap = w.heap → (Builtin.firstCells inf.size l (.slice (some ⟨b, 0, none⟩) l c')).run P w' = .ok ol.toArray w' := fun w' hw' => by
              have := ho1 w' hw'
              simpa [Builtin.firstCells, loadCells] using this
             obtain ⟨J', v', w', g1, g2, g3, g4⟩ := jeu (h.kill hb) A (ty := ty) (base := some ⟨b, 0, none⟩) (l := l) (cp := c') (lo := lo) (hi := hi) (sh := sh) hlen (by omega) hsum' hnew1 hold
              ((show ARel J (jat zero over 0 (l * inf.size)).toArray ol.toArray from ho2).mono (jdz i)) (hnew2.mono (jdz i)) hwhole
             have hcpe : cp = 2 * inf.size + 1 := by omega
             refine ⟨J', v', w', g1, ?_, g3, (Step.kill h hb hp).trans h g4⟩
             rw [hcpe]
             exact g2
      ·cases hs
     ·cases hs
 ·cases hs
end
noncomputable section
variable {P : Program} {J : Nat → Loc}
theorem jg4 {ρ ρ' : Operand → Value} (hρ : ∀ x, VRel J (ρ x) (ρ' x)) {μ : Mem} {w : World} (h : Rel J μ w) {o : Oper} {c : Call} {st xt : TypeId} {r : List TypeId} {x y : Operand} {v : Value} {μ' : Mem} (ho : o.op = .call c)
  (hc : c.callee = .builtin .append) (ha : c.args.toList = [x, y]) (ht : c.argTypes.toList = st :: xt :: r) (hs : jaM P μ st xt (ρ x) (ρ y) = some (v, μ')) : jfV P J ρ' o μ w v μ' := by
 have h0 : c.argTypes[0]? = some st := by rw [← Array.getElem?_toList, ht]; rfl
 have h1 : c.argTypes[1]? = some xt := by rw [← Array.getElem?_toList, ht]; rfl
 unfold jaM at hs
 split at hs
 ·rename_i e hu
  split at hs
  ·cases hs
  ·rename_i inf hinf
   split at hs
   ·cases hs
   ·rename_i hb
    split at hs
    ·cases hs
    ·rename_i z hz
     split at hs
     ·cases hs
     ·rename_i hzs
      split at hs
      ·cases hs
      ·rename_i hux
       split at hs
       ·cases hs
       ·rename_i n hn
        split at hs
        ·cases hs
        ·rename_i hn2
         split at hs
         ·cases hs
         ·rename_i news hnew
          split at hs
          ·cases hs
          ·rename_i hnl
           have hzc : z.cells.size = inf.size := by
            have : (jaS z).length = inf.size := rzD hzs
            rw [jhR] at this; simpa using this
           have hux' : (∃ e2, P.underlying xt = some (.slice e2)) ∨ P.underlying xt = some .string := by
            split at hux
            ·rename_i e2 he2; exact .inl ⟨e2, he2⟩
            ·rename_i he2; exact .inr he2
            ·cases hux
           have A : AppArgs P c st xt e inf z := ⟨h0, h1, hu, hinf, hux', hz, hzc, rzE hb⟩
           obtain ⟨J', v', w', r1, r2, r3, r4⟩ := jfN h A (ty := o.type) (hρ x) (hρ y) hn (rzE hn2) hnew (rzD hnl) hs
           refine ⟨J', v', w', .inl ?_, r2, r3, r4⟩
           rw [jbO ho hc, jdL ha]
           simp only [builtin, rzB, r1, rzA, rzC]
 ·cases hs
def aNext (μ : Mem) (v : Value) : Option (Value × Mem) :=
 match v with
 | .pointer (some ⟨i, 0, none⟩) => match μ.obs.get i with
   | some (.siter s pos) => match Nat.blt pos s.data.toList.length with
     | true => some (.tuple #[.bool true, .int .i64 pos, .int .i32 (Utf8.decode s pos).1], ⟨μ.obs.set i (.siter s (Nat.add pos (Utf8.decode s pos).2)), μ.next⟩)
     | false => some (.tuple #[.bool false], μ)
   | _ => none
 | _ => none
theorem jhr {i b s o : Nat} {p : Value} (hb : J i = .at b s) (h : VRel J (.pointer (some ⟨i, o, none⟩)) p) : p = .pointer (some ⟨b, o, none⟩) := by
 cases h with
 | ptr e => rw [hb] at e; cases e; rfl
 | ptrDead a' e => rw [show J i = _ from hb] at e; cases e
theorem heap_set {w : World} {b : Nat} {o : Obj} (h : b < w.heap.size) : ({ w with heap := w.heap.setIfInBounds b o } : World).heap[b]? = some o ∧
  (∀ c, c ≠ b → ({ w with heap := w.heap.setIfInBounds b o } : World).heap[c]? = w.heap[c]?) ∧ ({ w with heap := w.heap.setIfInBounds b o } : World).heap.size = w.heap.size := by
 refine ⟨by simp [h], fun c hc => ?_, by simp⟩
 simp only [Array.getElem?_setIfInBounds]
 rw [if_neg (fun e => hc e.symm)]
theorem ji7 {ρ ρ' : Operand → Value} (hρ : ∀ x, VRel J (ρ x) (ρ' x)) {μ : Mem} {w : World} (h : Rel J μ w) {o : Oper} {x : Operand} {v : Value} {μ' : Mem} (ho : o.op = .next x true)
  (hs : aNext μ (ρ x) = some (v, μ')) : jfV P J ρ' o μ w v μ' := by
 have hx := hρ x
 unfold aNext at hs
 split at hs
 ·rename_i i e
  rw [e] at hx
  split at hs
  ·rename_i s pos hob
   obtain ⟨b, sz, hb, hr⟩ := h.obj i _ hob (by simp)
   have hx' := jhr hb hx
   have hlen : s.data.toList.length = s.size := by rw [Array.length_toList]; rfl
   rw [hlen] at hs
   have hget : (getObj b).run P w = .ok (.stringIter s pos) w := by
    have hr' : w.heap[b]? = some (.stringIter s pos) := hr
    simp [getObj, Sem.run, hr']
   split at hs
   ·rename_i hlt
    have hlt' : pos < s.size := by simpa using hlt
    cases hs
    have hbl : b < w.heap.size := h.bnd _ _ _ hb
    obtain ⟨g1, g2, g3⟩ := heap_set (w := w) (o := .stringIter s (pos + (Utf8.decode s pos).2)) hbl
    have hset : (setObj b (.stringIter s (pos + (Utf8.decode s pos).2))).run P w = .ok () { w with heap := w.heap.setIfInBounds b (.stringIter s (pos + (Utf8.decode s pos).2)) } := by
     have hr' : w.heap[b]? = some (.stringIter s pos) := hr
     simp [setObj, Sem.run, hr']
    have hp : ¬ gone μ i := fun hg => by have := hg _ hob; cases this
    refine ⟨J, .tuple #[.bool true, .int .i64 pos, .int .i32 (Utf8.decode s pos).1], _, .inl ?_, ja1 5 rfl, h.update hb (.siter s (Nat.add pos (Utf8.decode s pos).2)) g3 g2 g1, Step.update hb hp _ g3 g2 rfl rfl rfl⟩
    simp only [execOp, ho, Instr.next, hx', rzB, hget, rzA, if_pos hlt', hset, rzC, goInt]
   ·rename_i hlt
    have hlt' : ¬ pos < s.size := fun hh => by rw [show Nat.blt pos s.size = true from by simpa using hh] at hlt; cases hlt
    cases hs
    refine ⟨J, .tuple #[.bool false], w, .inl ?_, ja1 5 rfl, h, Step.refl _ _ _⟩
    simp only [execOp, ho, Instr.next, hx', rzB, hget, rzA, if_neg hlt', rzC]
  ·cases hs
 ·cases hs
def jdd : List Value → Option (List UInt8)
 | [] => some []
 | .int .u8 (.ofNat k) :: r => match Nat.blt k 256 with
   | true => match jdd r with
     | some l => some (UInt8.ofNat k :: l)
     | none => none
   | false => none
 | _ :: _ => none
theorem jiV : ∀ (vs : List Value) (l : List UInt8), jdd vs = some l → vs.length = l.length ∧ ∀ (j : Nat) x, l[j]? = some x → vs[j]? = some (.int .u8 x.toNat) := by
 intro vs
 induction vs with
 | nil => intro l h; simp only [jdd] at h; cases h; exact ⟨rfl, fun j x hx => by simp at hx⟩
 | cons v vs ih =>
   intro l h
   unfold jdd at h
   split at h
   ·rename_i e; cases e
   ·rename_i k r e
    cases e
    split at h
    ·rename_i hk
     have hk' : k < 256 := by simpa using hk
     split at h
     ·rename_i l' hl
      cases h
      obtain ⟨h1, h2⟩ := ih _ hl
      refine ⟨by simp [h1], fun j x hx => ?_⟩
      cases j with
      | zero =>
        simp at hx
        subst hx
        have : (UInt8.ofNat k).toNat = k := by simp; omega
        simp [this]
      | succ j => simp at hx ⊢; exact h2 j x hx
     ·cases h
    ·cases h
   ·cases h
def jbY (P : Program) (μ : Mem) (pt : TypeId) (p n : Value) : Option (Value × Mem) :=
 match n with
 | .int .i64 (.ofNat m) => match m with
   | 0 => match p with
     | .pointer _ => some (.string .empty, μ)
     | _ => none
   | _ => match p with
     | .pointer (some ⟨i, 0, none⟩) => match μ.obs.get i with
       | some (.cells k te zero over lo hi fx false) => match P.underlying pt with
         | some (.pointer e) => match Nat.beq te e with
           | false => none
           | true => match Nat.beq (P.cellsOf e) 1 with
             | false => none
             | true => match Nat.ble m k with
               | false => none
               | true => match Nat.ble m 1073741824 with
                 | false => none
                 | true => match jdd (jat zero over 0 m) with
                   | none => none
                   | some l => some (.string ⟨l.toArray⟩, ⟨μ.obs.set i (.cells k te zero over 0 (match Nat.blt lo hi with | true => Nat.max hi m | false => m) fx false), μ.next⟩)
         | _ => none
       | _ => none
     | _ => none
 | _ => none
theorem jdQ {ρ ρ' : Operand → Value} (hρ : ∀ x, VRel J (ρ x) (ρ' x)) {μ : Mem} {w : World} (h : Rel J μ w) {o : Oper} {c : Call} {pt it : TypeId} {x y : Operand} {v : Value} {μ' : Mem} (ho : o.op = .call c)
  (hc : c.callee = .builtin .unsafeString) (ha : c.args.toList = [x, y]) (ht : c.argTypes.toList = [pt, it]) (hs : jbY P μ pt (ρ x) (ρ y) = some (v, μ')) : jfV P J ρ' o μ w v μ' := by
 have hx := hρ x
 have hy := hρ y
 have hts : c.argTypes = #[pt, it] := by cases hq : c.argTypes; rw [hq] at ht; simp at ht; rw [ht]
 unfold jbY at hs
 split at hs
 ·rename_i m e
  rw [e] at hy
  have hy' : ρ' y = .int .i64 (m : Int) := ja4 hy
  split at hs
  ·split at hs
   ·rename_i a e2
    cases hs
    rw [e2] at hx
    refine ⟨J, _, w, .inl ?_, .string _, h, Step.refl _ _ _⟩
    rw [jbO ho hc, jdL ha, hts, hy']
    have hp : ∃ p, ρ' x = .pointer p := by
     generalize ρ' x = q at hx
     cases hx with
     | ptrNil => exact ⟨_, rfl⟩
     | ptr _ => exact ⟨_, rfl⟩
     | ptrDead a' _ => exact ⟨_, rfl⟩
    obtain ⟨p, hp⟩ := hp
    rw [hp]
    simp only [builtin, rzB]
    rw [show ((0 : Nat) : Int) = 0 from rfl, Lib.run_unsafeString_none]
    rfl
   ·cases hs
  ·rename_i hm0
   have hm0' : m ≠ 0 := fun e => hm0 (by omega)
   split at hs
   ·rename_i i e2
    rw [e2] at hx
    split at hs
    ·rename_i k te zero over lo hi fx hob
     split at hs
     ·rename_i el hpt
      split at hs
      ·cases hs
      ·rename_i hte
       obtain rfl : te = el := rzD hte
       split at hs
       ·cases hs
       ·rename_i hc1
        have hc1' : P.cellsOf te = 1 := rzD hc1
        split at hs
        ·cases hs
        ·rename_i hmk
         have hmk' : m ≤ k := rzE hmk
         split at hs
         ·cases hs
         ·rename_i hmb
          have hmb' : m ≤ 1073741824 := rzE hmb
          split at hs
          ·cases hs
          ·rename_i l hl
           cases hs
           obtain ⟨b, sz, hb, hr, hcells⟩ := cell_of h hob
           have hx' := jhr hb hx
           obtain ⟨hl1, hl2⟩ := jiV _ _ hl
           have hlm : l.length = m := by rw [← hl1, jbp]
           obtain ⟨cc, fz, h1, h2, h3, h4, h5, h6⟩ := hr
           have hsh : w.shape? b = some (te, cc.size) := by simp [World.shape?, h1]
           have hcell : ∀ (j : Nat) x, l[j]? = some x → w.cell? ((⟨b, 0, none⟩ : Addr).add j) = some (.int .u8 x.toNat) := by
            intro j x hjx
            have hj : j < m := by rw [← hlm]; exact (List.getElem?_eq_some_iff.1 hjx).1
            have hv := hl2 j x hjx
            rw [jea _ _ _ hj, Option.some.injEq, Nat.zero_add] at hv
            obtain ⟨y, hy1, hy2⟩ := hcells j (by omega)
            rw [hv] at hy2
            rw [jgi, Nat.zero_add, hy1, ja4 hy2]
           have hrun := Lib.run_unsafeString_row (P := P) (w := w) pt it o.type te hpt hc1' b cc.size hsh l (fun e => by rw [e] at hlm; simp at hlm; omega) (by omega) (by omega) hcell
           have hw' : (w.freeze ⟨b, 0, none⟩ l.length).heap[b]? = some (.cells cc te (if fz.1 == fz.2 then (0, m) else (min fz.1 0, max fz.2 m))) := by
            unfold World.freeze
            rw [if_neg (by omega), hlm]
            obtain ⟨f1, f2⟩ := fz
            simp [Array.getElem?_modify, h1]
           have hoth : ∀ q, q ≠ b → (w.freeze ⟨b, 0, none⟩ l.length).heap[q]? = w.heap[q]? := by
            intro q hq
            unfold World.freeze
            rw [if_neg (by omega)]
            simp only [Array.getElem?_modify]
            rw [if_neg (fun e => hq e.symm)]
           have hsz : (w.freeze ⟨b, 0, none⟩ l.length).heap.size = w.heap.size := by
            unfold World.freeze
            rw [if_neg (by omega)]
            simp
           have hp : ¬ gone μ i := fun hg => by have := hg _ hob; cases this
           have hnew : ObRel J (w.freeze ⟨b, 0, none⟩ l.length) b sz (.cells k te zero over 0 (match Nat.blt lo hi with | true => Nat.max hi m | false => m) fx false) := by
            refine ⟨cc, _, hw', h2, h3, h4, h5, ?_⟩
            rcases h6 with h6 | ⟨h6, _⟩ | ⟨g1, g2, g3⟩
            ·rw [if_pos (by simpa using h6)]
             refine .inr (.inr ⟨Nat.zero_le _, ?_, ?_⟩)
             ·split
              ·exact Nat.le_max_right _ _
              ·exact Nat.le_refl _
             ·split
              ·exact Nat.lt_of_lt_of_le (by omega) (Nat.le_max_right hi m)
              ·omega
            ·cases h6
            ·have hb2 : Nat.blt lo hi = true := by simpa using g3
             rw [hb2]
             split
             ·exact .inr (.inr ⟨Nat.zero_le _, Nat.le_max_right _ _, Nat.lt_of_lt_of_le (by omega) (Nat.le_max_right hi m)⟩)
             ·refine .inr (.inr ⟨Nat.zero_le _, ?_, Nat.lt_of_lt_of_le (by omega) (Nat.le_max_right hi m)⟩)
              show max fz.2 m ≤ max hi m
              omega
           refine ⟨J, _, _, .inl ?_, .string _, h.update hb _ hsz hoth hnew, Step.update hb hp _ hsz hoth ?_ ?_ ?_⟩
           ·rw [jbO ho hc, jdL ha, hts, hx', hy']
            rw [hlm] at hrun
            simp only [builtin, rzB, hrun, rzA, rzC, hlm]
           ·unfold World.freeze; rw [if_neg (by omega)]
           ·unfold World.freeze; rw [if_neg (by omega)]
           ·unfold World.freeze; rw [if_neg (by omega)]
     ·cases hs
    ·cases hs
   ·cases hs
 ·cases hs
end
noncomputable section
variable {P : Program} {J : Nat → Loc}
def skey (a b : Value) : Option Bool :=
 match a, b with
 | .int j x, .int k y => match decide (j = k) with
   | true => some (decide (x = y))
   | false => none
 | .string x, .string y => some (jcw x.data.toList y.data.toList)
 | _, _ => none
def jkB (k : Value) : List (Value × Value × Nat) → Nat → Option (Option (Nat × Value))
 | [], _ => some none
 | (k', v, _) :: es, i => match skey k k' with
   | some true => some (some (i, v))
   | some false => jkB k es (Nat.add i 1)
   | none => none
def jer (d : TypeDesc) (k : Value) : Bool :=
 match d, k with
 | .int _, .int _ _ => true
 | .string, .string _ => true
 | _, _ => false
theorem jf0 {d : TypeDesc} {k a a' : Value} {r : Bool} (hk : jer d k = true) (ha : VRel J a a') (h : skey k a = some r) :
  Instr.sameNow d k a' = some r ∧ (r = true → a' = k) := by
 unfold skey at h
 split at h
 ·rename_i j x kk y
  split at h
  ·rename_i e
   have e' : j = kk := of_decide_eq_true e
   subst e'
   cases h
   rw [ja4 ha]
   unfold jer at hk
   split at hk
   ·rename_i e1; cases e1
    refine ⟨by simp [Instr.sameNow]; by_cases hxy : x = y <;> simp [hxy], fun hd => ?_⟩
    rw [of_decide_eq_true hd]
   ·rename_i e1; cases e1
   ·cases hk
  ·cases h
 ·rename_i x y
  cases h
  rw [jbb ha]
  unfold jer at hk
  split at hk
  ·rename_i e1; cases e1
  ·rename_i e1; cases e1
   have e2 : jcw x.data.toList y.data.toList = (x == y) := by
    rw [jdA, show (x == y) = (x.data == y.data) from rfl]
    apply Bool.eq_iff_iff.2
    simp only [beq_iff_eq]
    exact ⟨fun e3 => Array.ext' e3, fun e3 => by rw [e3]⟩
   rw [e2]
   refine ⟨rfl, fun hd => ?_⟩
   rw [show (x == y) = (x.data == y.data) from rfl] at hd
   have hd' := eq_of_beq hd
   cases x; cases y; cases hd'; rfl
  ·cases hk
 ·cases h
theorem jb6 {d : TypeDesc} {k : Value} (hk : jer d k = true) : ∀ (es : List (Value × Value × Nat)) (es' : List MapEntry) (i : Nat) (r : Option (Nat × Value)), es.length = es'.length →
  (∀ (j : Nat) a v n, es[j]? = some (a, v, n) → ∃ e, es'[j]? = some e ∧ VRel J a e.key ∧ VRel J v e.val ∧ e.born = n) → jkB k es i = some r →
  match r with
  | none => Instr.findNow d k es' i = some none
  | some (q, v) => ∃ v', Instr.findNow d k es' i = some (some (q, v')) ∧ VRel J v v' ∧ i ≤ q ∧ ∃ e a n, es'[q - i]? = some e ∧ e.key = k ∧ es[q - i]? = some (a, v, n) ∧ e.val = v' := by
 intro es
 induction es with
 | nil =>
   intro es' i r hl _ h
   cases h
   cases es' with
   | nil => rfl
   | cons a l => simp at hl
 | cons x es ih =>
   intro es' i r hl hall h
   obtain ⟨a, v, n⟩ := x
   cases es' with
   | nil => simp at hl
   | cons e es' =>
     obtain ⟨e1, h1, h2, h3, h4⟩ := hall 0 a v n rfl
     simp at h1; subst h1
     unfold jkB at h
     split at h
     ·rename_i hs
      cases h
      obtain ⟨s1, s2⟩ := jf0 hk h2 hs
      refine ⟨e.val, by simp only [Instr.findNow, s1], h3, Nat.le_refl _, e, a, n, by simp, s2 rfl, by simp, rfl⟩
     ·rename_i hs
      obtain ⟨s1, s2⟩ := jf0 hk h2 hs
      have := ih es' (i + 1) r (by simpa using hl) (fun j a v n hj => by simpa using hall (j + 1) a v n (by simpa using hj)) h
      cases r with
      | none => simp only [Instr.findNow, s1]; exact this
      | some q =>
        obtain ⟨q, vv⟩ := q
        obtain ⟨v', g1, g2, g3, e', a', n', g4, g5, g6, g7⟩ := this
        refine ⟨v', by simp only [Instr.findNow, s1]; exact g1, g2, by omega, e', a', n', ?_, g5, ?_, g7⟩
        ·rw [show q - i = (q - (i + 1)) + 1 from by omega, List.getElem?_cons_succ]; exact g4
        ·rw [show q - i = (q - (i + 1)) + 1 from by omega, List.getElem?_cons_succ]; exact g6
     ·cases h
theorem jfl {d : TypeDesc} {k k' : Value} (hk : jer d k = true) (h : VRel J k k') : k' = k := by
 unfold jer at hk
 split at hk
 ·exact ja4 h
 ·exact jbb h
 ·cases hk
theorem run_checkKey {t : TypeId} {d : TypeDesc} {k : Value} (hu : P.underlying t = some d) (hk : jer d k = true) (b : Bool) (n : Nat) (w : World) :
  (Instr.checkKey b (n + 1) t k).run P w = .ok () w := by
 simp only [Instr.checkKey, rzB, jar hu, rzA]
 unfold jer at hk
 split at hk
 ·rfl
 ·rfl
 ·cases hk
theorem run_findKey {t : TypeId} {d : TypeDesc} {k : Value} {es : List MapEntry} {r : Option (Nat × Value)} (hu : P.underlying t = some d) (h : Instr.findNow d k es 0 = some r) (w : World) :
  (Instr.findKey t k es).run P w = .ok r w := by
 simp only [Instr.findKey, rzB, jar hu, rzA, h, rzC]
theorem jeK {d : TypeDesc} {k : Value} (hk : jer d k = true) (w : World) : (Instr.keyThatStays k k).run P w = .ok k w := by
 have : Instr.sameBits 10000 k k = true := by
  unfold jer at hk
  split at hk
  ·simp [Instr.sameBits]
  ·rename_i s
   simp only [Instr.sameBits]
   rw [show (s == s) = (s.data == s.data) from rfl]; simp
  ·cases hk
 simp only [Instr.keyThatStays, this, if_true, rzC]
theorem jcT {w : World} {b : Nat} {es : Array MapEntry} {clock : Nat} (h : w.heap[b]? = some (.map es clock)) : (getObj b).run P w = .ok (.map es clock) w := by
 simp [getObj, Sem.run, h]
theorem jcS {w : World} {b : Nat} {es es' : Array MapEntry} {clock clock' : Nat} (h : w.heap[b]? = some (.map es clock)) :
  (setObj b (.map es' clock')).run P w = .ok () { w with heap := w.heap.setIfInBounds b (.map es' clock') } := by
 simp [setObj, Sem.run, h]
theorem jdH {i b s : Nat} {p : Value} (hb : J i = .at b s) (h : VRel J (.map (some i)) p) : p = .map (some b) := by
 cases h with
 | map e => rw [hb] at e; cases e; rfl
 | mapDead b' e => rw [show J i = _ from hb] at e; cases e
def ji9 (P : Program) (μ : Mem) (t : TypeId) (x k : Value) (commaOk : Bool) : Option Value :=
 match P.underlying t with
 | some (.map kt et) => match P.underlying kt with
   | none => none
   | some d => match jer d k with
     | false => none
     | true => match x with
       | .map none => match jaO P et with
         | none => none
         | some z => match commaOk with
           | true => some (.tuple #[z, .bool false])
           | false => some z
       | .map (some i) => match μ.obs.get i with
         | some (.map es _) => match jkB k es 0 with
           | none => none
           | some (some (_, v)) => match commaOk with
             | true => some (.tuple #[v, .bool true])
             | false => some v
           | some none => match jaO P et with
             | none => none
             | some z => match commaOk with
               | true => some (.tuple #[z, .bool false])
               | false => some z
         | _ => none
       | _ => none
 | _ => none
theorem tuple2 {a a' : Value} (b : Bool) (h : VRel J a a') : VRel J (.tuple #[a, .bool b]) (.tuple #[a', .bool b]) := by
 refine .tuple rfl fun i x y hx hy => ?_
 match i with
 | 0 => simp at hx hy; subst hx hy; exact h
 | 1 => simp at hx hy; subst hx hy; exact .bool b
 | i + 2 => simp at hx
theorem jgt {ρ' : Operand → Value} {w : World} {o : Oper} {t : TypeId} {x y : Operand} {c : Bool} {v' : Value} (ho : o.op = .lookup t x y c)
  (h : (Instr.lookup t (ρ' x) (ρ' y) c).run P w = .ok v' w) : (execOp ρ' o).run P w = .ok (.value v') w := by
 simp only [execOp, ho, rzB, h, rzA, rzC]
theorem jgY {ρ ρ' : Operand → Value} (hρ : ∀ x, VRel J (ρ x) (ρ' x)) {μ : Mem} {w : World} (h : Rel J μ w) {o : Oper} {t : TypeId} {x y : Operand} {c : Bool} {v : Value}
  (ho : o.op = .lookup t x y c) (hs : ji9 P μ t (ρ x) (ρ y) c = some v) : ∃ v', VRel J v v' ∧ (execOp ρ' o).run P w = .ok (.value v') w := by
 have hx := hρ x
 have hy := hρ y
 unfold ji9 at hs
 split at hs
 ·rename_i kt et hu
  split at hs
  ·cases hs
  ·rename_i d hd
   split at hs
   ·cases hs
   ·rename_i hk
    have hy' := jfl hk hy
    split at hs
    ·rename_i e
     rw [e] at hx
     have hx' : ρ' x = .map none := by generalize ρ' x = q at hx; cases hx; rfl
     split at hs
     ·cases hs
     ·rename_i z hz
      obtain ⟨z1, z2⟩ := ja7 (P := P) hz w
      have key : (Instr.lookup t (ρ' x) (ρ' y) c).run P w = .ok (if c then .tuple #[z, .bool false] else z) w := by
       simp only [Instr.lookup, rzB, jar hu, rzA, hx', hy', rzC, run_checkKey hd hk, run_findKey (r := none) hd (show Instr.findNow d (ρ y) [] 0 = some none from rfl), z1]
      have fin := jgt (ρ' := ρ') ho key
      cases c with
      | true => cases hs; exact ⟨_, tuple2 false (ja1 5 z2), fin⟩
      | false => cases hs; exact ⟨_, ja1 5 z2, fin⟩
    ·rename_i i e
     rw [e] at hx
     split at hs
     ·rename_i es clock hob
      obtain ⟨b, s, hb, es', r1, r2, r3⟩ := h.obj i _ hob (by simp)
      have hx' := jdH hb hx
      have hg := jcT (P := P) r1
      split at hs
      ·cases hs
      ·rename_i q vv hf
       obtain ⟨v', g1, g2, _⟩ := jb6 hk es es'.toList 0 _ (by simpa using r2) (fun j a v n hj => by simpa using r3 j a v n hj) hf
       have key : (Instr.lookup t (ρ' x) (ρ' y) c).run P w = .ok (if c then .tuple #[v', .bool true] else v') w := by
        simp only [Instr.lookup, rzB, jar hu, rzA, hx', hy', hg, rzC, run_checkKey hd hk, run_findKey hd g1]
       have fin := jgt (ρ' := ρ') ho key
       cases c with
       | true => cases hs; exact ⟨_, tuple2 true g2, fin⟩
       | false => cases hs; exact ⟨_, g2, fin⟩
      ·rename_i hf
       have g1 := jb6 hk es es'.toList 0 _ (by simpa using r2) (fun j a v n hj => by simpa using r3 j a v n hj) hf
       split at hs
       ·cases hs
       ·rename_i z hz
        obtain ⟨z1, z2⟩ := ja7 (P := P) hz w
        have key : (Instr.lookup t (ρ' x) (ρ' y) c).run P w = .ok (if c then .tuple #[z, .bool false] else z) w := by
         simp only [Instr.lookup, rzB, jar hu, rzA, hx', hy', hg, rzC, run_checkKey hd hk, run_findKey hd g1, z1]
        have fin := jgt (ρ' := ρ') ho key
        cases c with
        | true => cases hs; exact ⟨_, tuple2 false (ja1 5 z2), fin⟩
        | false => cases hs; exact ⟨_, ja1 5 z2, fin⟩
     ·cases hs
    ·cases hs
 ·cases hs
def ji8 (μ : Mem) (v : Value) : Option Value :=
 match v with
 | .map none => some (.int .i64 0)
 | .map (some i) => match μ.obs.get i with
   | some (.map es _) => some (.int .i64 (Int.ofNat es.length))
   | _ => none
 | _ => none
def mset (v : Value) : List (Value × Value × Nat) → Nat → List (Value × Value × Nat)
 | [], _ => []
 | (k, _, n) :: es, 0 => (k, v, n) :: es
 | e :: es, i + 1 => e :: mset v es i
theorem jfh (v : Value) : ∀ (es : List (Value × Value × Nat)) (i : Nat), (mset v es i).length = es.length := by
 intro es
 induction es with
 | nil => intro i; rfl
 | cons x es ih => intro i; obtain ⟨k, u, n⟩ := x; cases i with
   | zero => rfl
   | succ i => simp [mset, ih]
theorem jjA (v : Value) : ∀ (es : List (Value × Value × Nat)) (i j : Nat), (mset v es i)[j]? = if j = i then (es[j]?).map (fun e => (e.1, v, e.2.2)) else es[j]? := by
 intro es
 induction es with
 | nil => intro i j; simp [mset]
 | cons x es ih =>
   intro i j
   obtain ⟨k, u, n⟩ := x
   cases i with
   | zero => cases j <;> simp [mset]
   | succ i => cases j with
     | zero => simp [mset]
     | succ j => simp [mset, ih]
def jgW (P : Program) (μ : Mem) (t : TypeId) (x k v : Value) : Option (Value × Mem) :=
 match P.underlying t with
 | some (.map kt _) => match P.underlying kt with
   | none => none
   | some d => match jer d k with
     | false => none
     | true => match x with
       | .map (some i) => match μ.obs.get i with
         | some (.map es clock) => match jkB k es 0 with
           | none => none
           | some (some (q, _)) => some (undef, ⟨μ.obs.set i (.map (mset v es q) clock), μ.next⟩)
           | some none => some (undef, ⟨μ.obs.set i (.map (es ++ [(k, v, clock)]) (Nat.add clock 1)), μ.next⟩)
         | _ => none
       | _ => none
 | _ => none
theorem jeg {ρ ρ' : Operand → Value} (hρ : ∀ x, VRel J (ρ x) (ρ' x)) {μ : Mem} {w : World} (h : Rel J μ w) {o : Oper} {t : TypeId} {x y z : Operand} {v : Value} {μ' : Mem}
  (ho : o.op = .mapUpdate t x y z ∨ o.op = .insert t x y z) (hs : jgW P μ t (ρ x) (ρ y) (ρ z) = some (v, μ')) : jfV P J ρ' o μ w v μ' := by
 have hx := hρ x
 have hy := hρ y
 have hz := hρ z
 have run : ∀ w', (Instr.mapUpdate t (ρ' x) (ρ' y) (ρ' z)).run P w = .ok () w' → (execOp ρ' o).run P w = .ok .skip w' := by
  intro w' e
  rcases ho with ho | ho <;> simp only [execOp, ho, rzB, e, rzA, rzC]
 unfold jgW at hs
 split at hs
 ·rename_i kt et hu
  split at hs
  ·cases hs
  ·rename_i d hd
   split at hs
   ·cases hs
   ·rename_i hk
    have hy' := jfl hk hy
    split at hs
    ·rename_i i e
     rw [e] at hx
     split at hs
     ·rename_i es clock hob
      obtain ⟨b, s, hb, es', r1, r2, r3⟩ := h.obj i _ hob (by simp)
      have hx' := jdH hb hx
      have hg := jcT (P := P) r1
      have hbl : b < w.heap.size := h.bnd _ _ _ hb
      have hp : ¬ gone μ i := fun hg => by have := hg _ hob; cases this
      split at hs
      ·cases hs
      ·rename_i q vv hf
       cases hs
       obtain ⟨v', g1, g2, _, e', a', n', g4, g5, g6, g7⟩ := jb6 hk es es'.toList 0 _ (by simpa using r2) (fun j a v n hj => by simpa using r3 j a v n hj) hf
       have hq : es'[q]? = some e' := by simpa using g4
       have hset := jcS (P := P) (es' := es'.modify q fun e => { e with key := ρ y, val := ρ' z }) (clock' := clock) r1
       obtain ⟨q1, q2, q3⟩ := heap_set (w := w) (o := .map (es'.modify q fun e => { e with key := ρ y, val := ρ' z }) clock) hbl
       refine ⟨J, undef, _, .inr ⟨run _ ?_, rfl⟩, jcd, h.update hb (.map (mset (ρ z) es q) clock) q3 q2 ?_, Step.update hb hp _ q3 q2 rfl rfl rfl⟩
       ·simp only [Instr.mapUpdate, rzB, jar hu, rzA, hx', hy', hg, run_checkKey hd hk, run_findKey hd g1, hq, Option.map_some, Option.getD_some, g5, jeK hk, hset]
       ·refine ⟨_, q1, by rw [jfh, r2]; simp, fun j a v n hj => ?_⟩
        rw [jjA] at hj
        rw [Array.getElem?_modify]
        by_cases hjq : j = q
        ·subst hjq
         rw [if_pos rfl] at hj
         cases hes : es[j]? with
         | none => rw [hes] at hj; cases hj
         | some x3 =>
           rw [hes] at hj
           obtain ⟨a3, v3, n3⟩ := x3
           cases hj
           obtain ⟨e4, f1, f2, f3, f4⟩ := r3 j _ _ _ hes
           rw [hq] at f1; cases f1
           refine ⟨{ e' with key := ρ y, val := ρ' z }, by simp [hq], ?_, hz, f4⟩
           rw [← g5]; exact f2
        ·rw [if_neg hjq] at hj
         rw [if_neg (fun e => hjq e.symm)]
         exact r3 j a v n hj
      ·rename_i hf
       cases hs
       have g1 := jb6 hk es es'.toList 0 _ (by simpa using r2) (fun j a v n hj => by simpa using r3 j a v n hj) hf
       have hset := jcS (P := P) (es' := es'.push { key := ρ y, val := ρ' z, born := clock }) (clock' := clock + 1) r1
       obtain ⟨q1, q2, q3⟩ := heap_set (w := w) (o := .map (es'.push { key := ρ y, val := ρ' z, born := clock }) (clock + 1)) hbl
       refine ⟨J, undef, _, .inr ⟨run _ ?_, rfl⟩, jcd, h.update hb (.map (es ++ [(ρ y, ρ z, clock)]) (clock + 1)) q3 q2 ?_, Step.update hb hp _ q3 q2 rfl rfl rfl⟩
       ·simp only [Instr.mapUpdate, rzB, jar hu, rzA, hx', hy', hg, run_checkKey hd hk, run_findKey hd g1, hset]
       ·refine ⟨_, q1, by simp [r2], fun j a v n hj => ?_⟩
        by_cases hjl : j < es.length
        ·rw [List.getElem?_append_left hjl] at hj
         obtain ⟨e4, f1, f2, f3, f4⟩ := r3 j _ _ _ hj
         refine ⟨e4, ?_, f2, f3, f4⟩
         rw [Array.getElem?_push_lt (by omega)]
         have := (Array.getElem?_eq_some_iff.1 f1).2
         rw [this]
        ·rw [List.getElem?_append_right (by omega)] at hj
         have hj0 : j - es.length = 0 := by
          cases h5 : j - es.length with
          | zero => rfl
          | succ m => rw [h5] at hj; simp at hj
         rw [hj0] at hj
         cases hj
         have : j = es'.size := by omega
         subst this
         refine ⟨{ key := ρ y, val := ρ' z, born := clock }, by simp, ?_, hz, rfl⟩
         have hyy := hρ y
         rw [hy'] at hyy
         exact hyy
     ·cases hs
    ·cases hs
 ·cases hs
def jfL (P : Program) (μ : Mem) (t : TypeId) (x k : Value) : Option (Value × Mem) :=
 match P.underlying t with
 | some (.map kt et) => match P.underlying kt with
   | none => none
   | some d => match jer d k with
     | false => none
     | true => match x with
       | .map (some i) => match μ.obs.get i with
         | some (.map es clock) => match jkB k es 0 with
           | none => none
           | some (some (q, _)) => match es[q]? with
             | some (_, v, n) => some (.tuple #[v, .int .i64 (Int.ofNat n)], ⟨μ.obs.set i (.map es clock), μ.next⟩)
             | none => none
           | some none => match jaO P et with
             | none => none
             | some z => some (.tuple #[z, .int .i64 (Int.ofNat clock)], ⟨μ.obs.set i (.map (es ++ [(k, z, clock)]) (Nat.add clock 1)), μ.next⟩)
         | _ => none
       | _ => none
 | _ => none
theorem tuple2i {a a' : Value} (n : Int) (h : VRel J a a') : VRel J (.tuple #[a, .int .i64 n]) (.tuple #[a', .int .i64 n]) := by
 refine .tuple rfl fun i x y hx hy => ?_
 match i with
 | 0 => simp at hx hy; subst hx hy; exact h
 | 1 => simp at hx hy; subst hx hy; exact .int _ n
 | i + 2 => simp at hx
theorem jko {μ : Mem} {w : World} {b s clock : Nat} {es : List (Value × Value × Nat)} {es' : Array MapEntry} {k v v' : Value} (r2 : es.length = es'.size)
  (r3 : ∀ (i : Nat) k v n, es[i]? = some (k, v, n) → ∃ e, es'[i]? = some e ∧ VRel J k e.key ∧ VRel J v e.val ∧ e.born = n) (hk : VRel J k k) (hv : VRel J v v')
  (q1 : w.heap[b]? = some (.map (es'.push { key := k, val := v', born := clock }) (clock + 1))) : ObRel J w b s (.map (es ++ [(k, v, clock)]) (clock + 1)) := by
 refine ⟨_, q1, by simp [r2], fun j a v n hj => ?_⟩
 by_cases hjl : j < es.length
 ·rw [List.getElem?_append_left hjl] at hj
  obtain ⟨e4, f1, f2, f3, f4⟩ := r3 j _ _ _ hj
  refine ⟨e4, ?_, f2, f3, f4⟩
  rw [Array.getElem?_push_lt (by omega)]
  have := (Array.getElem?_eq_some_iff.1 f1).2
  rw [this]
 ·rw [List.getElem?_append_right (by omega)] at hj
  have hj0 : j - es.length = 0 := by
   cases h5 : j - es.length with
   | zero => rfl
   | succ m => rw [h5] at hj; simp at hj
  rw [hj0] at hj
  cases hj
  have : j = es'.size := by omega
  subst this
  exact ⟨{ key := k, val := v', born := clock }, by simp, hk, hv, rfl⟩
theorem jfK {ρ ρ' : Operand → Value} (hρ : ∀ x, VRel J (ρ x) (ρ' x)) {μ : Mem} {w : World} (h : Rel J μ w) {o : Oper} {t : TypeId} {x y : Operand} {v : Value} {μ' : Mem}
  (ho : o.op = .mapEntry t x y) (hs : jfL P μ t (ρ x) (ρ y) = some (v, μ')) : jfV P J ρ' o μ w v μ' := by
 have hx := hρ x
 have hy := hρ y
 have run : ∀ r w', (Instr.mapEntry t (ρ' x) (ρ' y)).run P w = .ok r w' → (execOp ρ' o).run P w = .ok (.value r) w' := by
  intro r w' e
  simp only [execOp, ho, rzB, e, rzA, rzC]
 unfold jfL at hs
 split at hs
 ·rename_i kt et hu
  split at hs
  ·cases hs
  ·rename_i d hd
   split at hs
   ·cases hs
   ·rename_i hk
    have hy' := jfl hk hy
    split at hs
    ·rename_i i e
     rw [e] at hx
     split at hs
     ·rename_i es clock hob
      obtain ⟨b, s, hb, es', r1, r2, r3⟩ := h.obj i _ hob (by simp)
      have hx' := jdH hb hx
      have hg := jcT (P := P) r1
      have hbl : b < w.heap.size := h.bnd _ _ _ hb
      have hp : ¬ gone μ i := fun hg => by have := hg _ hob; cases this
      split at hs
      ·cases hs
      ·rename_i q vv hf
       split at hs
       ·rename_i a2 v2 n2 hes
        cases hs
        obtain ⟨v', g1, g2, _, e', a', n', g4, g5, g6, g7⟩ := jb6 hk es es'.toList 0 _ (by simpa using r2) (fun j a v n hj => by simpa using r3 j a v n hj) hf
        have hq : es'[q]? = some e' := by simpa using g4
        obtain ⟨e3, f1, f2, f3, f4⟩ := r3 q _ _ _ hes
        rw [hq] at f1; cases f1
        rw [Nat.sub_zero, hes] at g6; cases g6
        have hset := jcS (P := P) (es' := es'.modify q fun e => { e with key := ρ y }) (clock' := clock) r1
        obtain ⟨q1, q2, q3⟩ := heap_set (w := w) (o := .map (es'.modify q fun e => { e with key := ρ y }) clock) hbl
        refine ⟨J, .tuple #[v', .int .i64 (Int.ofNat n2)], _, .inl (run _ _ ?_), tuple2i _ g2, h.update hb (.map es clock) q3 q2 ?_, Step.update hb hp _ q3 q2 rfl rfl rfl⟩
        ·simp only [Instr.mapEntry, rzB, jar hu, rzA, hx', hy', hg, run_checkKey hd hk, run_findKey hd g1, hq, Option.map_some, Option.getD_some, g5, jeK hk, hset, rzC, goInt, f4]
         rfl
        ·refine ⟨_, q1, by rw [r2]; simp, fun j a v n hj => ?_⟩
         rw [Array.getElem?_modify]
         obtain ⟨e4, k1, k2, k3, k4⟩ := r3 j a v n hj
         by_cases hjq : q = j
         ·subst hjq
          rw [if_pos rfl, k1]
          rw [hq] at k1; cases k1
          refine ⟨_, rfl, ?_, k3, k4⟩
          show VRel J a (ρ y)
          rw [← g5]; exact k2
         ·rw [if_neg hjq]
          exact ⟨e4, k1, k2, k3, k4⟩
       ·cases hs
      ·rename_i hf
       split at hs
       ·cases hs
       ·rename_i z hz
        obtain ⟨z1, z2⟩ := ja7 (P := P) hz w
        cases hs
        have g1 := jb6 hk es es'.toList 0 _ (by simpa using r2) (fun j a v n hj => by simpa using r3 j a v n hj) hf
        have hset := jcS (P := P) (es' := es'.push { key := ρ y, val := z, born := clock }) (clock' := clock + 1) r1
        obtain ⟨q1, q2, q3⟩ := heap_set (w := w) (o := .map (es'.push { key := ρ y, val := z, born := clock }) (clock + 1)) hbl
        have hyy := hρ y
        rw [hy'] at hyy
        refine ⟨J, .tuple #[z, .int .i64 (Int.ofNat clock)], _, .inl (run _ _ ?_), tuple2i _ (ja1 5 z2), h.update hb (.map (es ++ [(ρ y, z, clock)]) (clock + 1)) q3 q2 (jko (μ := μ) r2 r3 hyy (ja1 5 z2) q1), Step.update hb hp _ q3 q2 rfl rfl rfl⟩
        simp only [Instr.mapEntry, rzB, jar hu, rzA, hx', hy', hg, run_checkKey hd hk, run_findKey hd g1, z1, hset, rzC, goInt]
        rfl
     ·cases hs
    ·cases hs
 ·cases hs
def mborn (n : Nat) : List (Value × Value × Nat) → Nat → Option Nat
 | [], _ => none
 | (_, _, m) :: es, i => match Nat.beq m n with
   | true => some i
   | false => mborn n es (Nat.add i 1)
theorem jiw {n : Nat} : ∀ (es : List (Value × Value × Nat)) (es' : List MapEntry) (i q : Nat), es.length = es'.length →
  (∀ (j : Nat) a v m, es[j]? = some (a, v, m) → ∃ e, es'[j]? = some e ∧ e.born = m) → mborn n es i = some q → i ≤ q ∧ es'.findIdx? (fun e => (e.born : Int) == Int.ofNat n) = some (q - i) := by
 intro es
 induction es with
 | nil => intro es' i q _ _ h; cases h
 | cons x es ih =>
   intro es' i q hl hall h
   obtain ⟨a, v, m⟩ := x
   cases es' with
   | nil => simp at hl
   | cons e es' =>
     obtain ⟨e1, h1, h2⟩ := hall 0 a v m rfl
     simp at h1; subst h1
     unfold mborn at h
     split at h
     ·rename_i hm
      cases h
      have : m = n := rzD hm
      refine ⟨Nat.le_refl _, ?_⟩
      rw [List.findIdx?_cons, h2, this]; simp
     ·rename_i hm
      have hmn : ¬ m = n := fun e => by subst e; simp at hm
      obtain ⟨g1, g2⟩ := ih es' (i + 1) q (by simpa using hl) (fun j a v n hj => by simpa using hall (j + 1) a v n (by simpa using hj)) h
      refine ⟨by omega, ?_⟩
      rw [List.findIdx?_cons, h2, g2]
      have : ((m : Int) == Int.ofNat n) = false := by simp; omega
      rw [this]
      simp
      omega
def jdS (μ : Mem) (x st v : Value) : Option (Value × Mem) :=
 match x with
 | .map (some i) => match st with
   | .int _ (.ofNat n) => match μ.obs.get i with
     | some (.map es clock) => match mborn n es 0 with
       | some q => some (undef, ⟨μ.obs.set i (.map (mset v es q) clock), μ.next⟩)
       | none => none
     | _ => none
   | _ => none
 | _ => none
theorem jeD {ρ ρ' : Operand → Value} (hρ : ∀ x, VRel J (ρ x) (ρ' x)) {μ : Mem} {w : World} (h : Rel J μ w) {o : Oper} {t : TypeId} {x y z : Operand} {v : Value} {μ' : Mem}
  (ho : o.op = .entryStore t x y z) (hs : jdS μ (ρ x) (ρ y) (ρ z) = some (v, μ')) : jfV P J ρ' o μ w v μ' := by
 have hx := hρ x
 have hy := hρ y
 have hz := hρ z
 have run : ∀ w', (Instr.entryStore t (ρ' x) (ρ' y) (ρ' z)).run P w = .ok () w' → (execOp ρ' o).run P w = .ok .skip w' := by
  intro w' e
  simp only [execOp, ho, rzB, e, rzA, rzC]
 unfold jdS at hs
 split at hs
 ·rename_i i e
  rw [e] at hx
  split at hs
  ·rename_i kd n e2
   rw [e2] at hy
   have hy' := ja4 hy
   split at hs
   ·rename_i es clock hob
    obtain ⟨b, s, hb, es', r1, r2, r3⟩ := h.obj i _ hob (by simp)
    have hx' := jdH hb hx
    have hg := jcT (P := P) r1
    have hbl : b < w.heap.size := h.bnd _ _ _ hb
    have hp : ¬ gone μ i := fun hg => by have := hg _ hob; cases this
    split at hs
    ·rename_i q hf
     cases hs
     obtain ⟨_, g1⟩ := jiw es es'.toList 0 q (by simpa using r2) (fun j a v n hj => by
      obtain ⟨e, k1, _, _, k4⟩ := r3 j a v n hj
      exact ⟨e, by simpa using k1, k4⟩) hf
     have g2 : es'.findIdx? (fun e => (e.born : Int) == Int.ofNat n) = some q := by
      obtain ⟨l⟩ := es'
      simpa using g1
     have hset := jcS (P := P) (es' := es'.modify q fun e => { e with val := ρ' z }) (clock' := clock) r1
     obtain ⟨q1, q2, q3⟩ := heap_set (w := w) (o := .map (es'.modify q fun e => { e with val := ρ' z }) clock) hbl
     refine ⟨J, undef, _, .inr ⟨run _ ?_, rfl⟩, jcd, h.update hb (.map (mset (ρ z) es q) clock) q3 q2 ?_, Step.update hb hp _ q3 q2 rfl rfl rfl⟩
     ·simp only [Instr.entryStore, rzB, hx', hy', hg, asInt, asIntOf, rzA, rzC, g2, hset]
     ·refine ⟨_, q1, by rw [jfh, r2]; simp, fun j a v n hj => ?_⟩
      rw [jjA] at hj
      rw [Array.getElem?_modify]
      by_cases hjq : j = q
      ·subst hjq
       rw [if_pos rfl] at hj
       cases hes : es[j]? with
       | none => rw [hes] at hj; cases hj
       | some x3 =>
         rw [hes] at hj
         obtain ⟨a3, v3, n3⟩ := x3
         cases hj
         obtain ⟨e4, f1, f2, f3, f4⟩ := r3 j _ _ _ hes
         exact ⟨{ e4 with val := ρ' z }, by simp [f1], f2, hz, f4⟩
      ·rw [if_neg hjq] at hj
       rw [if_neg (fun e => hjq e.symm)]
       exact r3 j a v n hj
    ·cases hs
   ·cases hs
  ·cases hs
 ·cases hs
theorem jgX {ρ ρ' : Operand → Value} (hρ : ∀ x, VRel J (ρ x) (ρ' x)) {μ : Mem} {w : World} (h : Rel J μ w) {o : Oper} {c : Call} {x : Operand} {t kt et : TypeId} {r : List TypeId} {v : Value}
  (ho : o.op = .call c) (hc : c.callee = .builtin .len) (ha : c.args.toList = [x]) (ht : c.argTypes.toList = t :: r) (hu : P.underlying t = some (.map kt et)) (hs : ji8 μ (ρ x) = some v) :
  ∃ v', VRel J v v' ∧ (execOp ρ' o).run P w = .ok (.value v') w := by
 have hx := hρ x
 have hrun := jbO (ρ' := ρ') ho hc
 unfold ji8 at hs
 split at hs
 ·rename_i e
  rw [e] at hx
  have hx' : ρ' x = .map none := by generalize ρ' x = q at hx; cases hx; rfl
  cases hs
  refine ⟨_, .int .i64 0, ?_⟩
  rw [hrun, jdM ha]
  simp only [builtin, Builtin.len_, rzB, jet ht, hx', jar hu, rzA, rzC]
  simp [rzC, goInt, hx', jar hu]
 ·rename_i i e
  rw [e] at hx
  split at hs
  ·rename_i es clock hob
   cases hs
   obtain ⟨b, s, hb, es', r1, r2, r3⟩ := h.obj i _ hob (by simp)
   have hx' := jdH hb hx
   have hg := jcT (P := P) r1
   refine ⟨_, .int .i64 (Int.ofNat es.length), ?_⟩
   rw [hrun, jdM ha, hx']
   simp only [builtin, Builtin.len_, rzB, jet ht, List.getElem?_toArray, List.getElem?_cons_zero, jar hu, rzA, hg, rzC, goInt, r2]
   rfl
  ·cases hs
 ·cases hs
def ji2 (P : Program) (μ : Mem) (src dst : TypeId) (v : Value) : Option (Value × Mem) :=
 match v with
 | .slice (some ⟨i, o, none⟩) l c => match Nat.beq src dst with
   | false => none
   | true => match P.underlying src with
     | some (.slice e) => match P.underlying e with
       | some (.int .u8) => match μ.obs.get i with
         | some (.cells n t zero over lo hi fx _) => match Nat.blt lo hi with
           | true => none
           | false => some (.slice (some ⟨i, o, none⟩) l c, ⟨μ.obs.set i (.cells n t zero over lo hi fx true), μ.next⟩)
         | _ => none
       | _ => none
     | _ => none
 | _ => none
theorem jgT {ρ ρ' : Operand → Value} (hρ : ∀ x, VRel J (ρ x) (ρ' x)) {μ : Mem} {w : World} (h : Rel J μ w) {o : Oper} {src dst : TypeId} {x : Operand} {v : Value} {μ' : Mem}
  (ho : o.op = .convert src dst x) (hs : ji2 P μ src dst (ρ x) = some (v, μ')) : jfV P J ρ' o μ w v μ' := by
 have hx := hρ x
 unfold ji2 at hs
 split at hs
 ·rename_i i of l c e
  rw [e] at hx
  split at hs
  ·cases hs
  ·rename_i hsd
   have hsd' : src = dst := rzD hsd
   subst hsd'
   split at hs
   ·rename_i el hu
    split at hs
    ·rename_i he
     split at hs
     ·rename_i n te zero over lo hi fx sh hob
      split at hs
      ·cases hs
      ·rename_i hlt
       cases hs
       obtain ⟨b, s, hb, hr, _⟩ := cell_of h hob
       obtain ⟨a', c', hx', _, hcase⟩ := jbi hx
       have ha' : a' = ⟨b, of, none⟩ := by
        rcases hcase with ⟨i2, o2, b2, s2, e1, e2, e3, _⟩ | ⟨e1, _⟩
        ·cases e1; rw [hb] at e3; cases e3; exact e2
        ·rw [show J i = _ from hb] at e1; cases e1
       subst ha'
       obtain ⟨C, fz, r1, r2, r3, r4, r5, r6⟩ := hr
       have hbl : b < w.heap.size := h.bnd _ _ _ hb
       have hlh : ¬ lo < hi := fun hh => by rw [show Nat.blt lo hi = true from by simpa using hh] at hlt; cases hlt
       have hp : ¬ gone μ i := fun hg => by have := hg _ hob; cases this
       obtain ⟨f1, f2⟩ := fz
       have hself : (w.freeze ⟨b, C.size, none⟩ 1).heap[b]? = some (.cells C te (if f1 == f2 then (C.size, C.size + 1) else (min f1 C.size, max f2 (C.size + 1)))) := by
        unfold World.freeze
        rw [if_neg (by omega)]
        simp [Array.getElem?_modify, r1]
       have hoth : ∀ k, k ≠ b → (w.freeze ⟨b, C.size, none⟩ 1).heap[k]? = w.heap[k]? := fun k hk => by
        unfold World.freeze
        rw [if_neg (by omega)]
        simp only [Array.getElem?_modify]
        rw [if_neg (fun e => hk e.symm)]
       have hsz : (w.freeze ⟨b, C.size, none⟩ 1).heap.size = w.heap.size := by
        unfold World.freeze
        rw [if_neg (by omega)]
        simp
       have hrun : (markStringish ⟨b, of, none⟩).run P w = .ok () (w.freeze ⟨b, C.size, none⟩ 1) := by
        have hshape : (shape b).run P w = .ok (some (te, C.size)) w := by
         simp only [shape, Sem.run, World.shape?, r1]
        simp only [markStringish, rzB, hshape, rzA, freeze, Sem.run]
       have hv : VRel J (.slice (some ⟨i, of, none⟩) l c) (.slice (some ⟨b, of, none⟩) l c') := by rw [← hx']; exact hx
       refine ⟨J, .slice (some ⟨b, of, none⟩) l c', _, .inl ?_, hv, h.update hb (.cells n te zero over lo hi fx true) hsz hoth ?_, Step.update hb hp _ hsz hoth ?_ ?_ ?_⟩
       ·simp only [execOp, ho, convert, rzB, jar hu, jar he, rzA, hx', beq_self_eq_true, hrun, rzC]
       ·refine ⟨C, _, hself, r2, r3, r4, r5, ?_⟩
        by_cases hf : f1 = f2
        ·rw [if_pos (by simpa using hf)]
         exact .inr (.inl ⟨rfl, by simp; omega⟩)
        ·rw [if_neg (by simpa using hf)]
         rcases r6 with r6 | ⟨_, r6⟩ | ⟨_, _, r6⟩
         ·exact absurd r6 hf
         ·exact .inr (.inl ⟨rfl, by simp only at r6 ⊢; omega⟩)
         ·exact absurd r6 hlh
       ·unfold World.freeze; rw [if_neg (by omega)]
       ·unfold World.freeze; rw [if_neg (by omega)]
       ·unfold World.freeze; rw [if_neg (by omega)]
     ·cases hs
    ·cases hs
   ·cases hs
 ·cases hs
end
noncomputable section
variable {P : Program} {J : Nat → Loc}
def jgk (P : Program) (μ : Mem) (t : TypeId) (a b : Value) : Option Bool :=
 match a, b with
 | .pointer (some ⟨i, o, none⟩), .pointer (some ⟨j, q, none⟩) => match Nat.beq i j with
   | false => none
   | true => match μ.obs.get i with
     | some (.cells _ _ _ _ _ _ _ _) => match P.underlying t with
       | some (.pointer e) => match P.info? e with
         | some inf => match Nat.beq inf.size 0 with
           | true => none
           | false => some (Nat.beq o q)
         | none => none
       | _ => none
     | _ => none
 | _, _ => none
theorem jgj {μ : Mem} {w : World} (h : Rel J μ w) {t : TypeId} {a b a' b' : Value} {r : Bool} (ha : VRel J a a') (hb : VRel J b b') (hs : jgk P μ t a b = some r) :
  (Op.equal t a' b').run P w = .ok r w ∧ (∀ op x y, (eqGuard op t x y a' b').run P w = .ok () w) ∧ binOp .eql t a' b' = (do pure (.bool (← Op.equal t a' b'))) ∧
   binOp .neq t a' b' = (do pure (.bool (!(← Op.equal t a' b')))) := by
 unfold jgk at hs
 split at hs
 ·rename_i i o j q
  split at hs
  ·cases hs
  ·rename_i hij
   obtain rfl : i = j := rzD hij
   split at hs
   ·rename_i n te zero over lo hi fx sh hob
    obtain ⟨bb, s, hbb, _⟩ := cell_of h hob
    rw [jhr hbb ha, jhr hbb hb]
    split at hs
    ·rename_i e hu
     split at hs
     ·rename_i inf hinf
      split at hs
      ·cases hs
      ·rename_i hz
       have hz' : inf.size ≠ 0 := rzF hz
       cases hs
       refine ⟨?_, fun op x y => by unfold eqGuard; split <;> rfl, rfl, rfl⟩
       have key : ∀ d, (Op.equalIn (d + 1) t (.pointer (some ⟨bb, o, none⟩)) (.pointer (some ⟨bb, q, none⟩))).run P w = .ok (Nat.beq o q) w := by
        intro d
        simp only [Op.equalIn, rzB, jar hu, rzA, ja9 hinf, if_pos hz', sameAddr, beq_self_eq_true, if_true, rzC]
        congr 1
        rw [Bool.eq_iff_iff]
        simp
       exact key 9999
     ·cases hs
    ·cases hs
   ·cases hs
 ·cases hs
def jcN (P : Program) (μ : Mem) (src dst : TypeId) (v : Value) : Option Value :=
 match v with
 | .pointer (some ⟨i, o, none⟩) => match μ.obs.get i with
   | some (.cells n te _ _ _ _ false _) => match Nat.blt o n with
     | false => none
     | true => match P.underlying src with
       | some (.pointer t) => match P.underlying dst with
         | some .unsafePointer => match P.info? t with
           | some inf => match Nat.beq inf.size 0 with
             | true => none
             | false => some v
           | none => none
         | _ => none
       | some .unsafePointer => match P.underlying dst with
         | some (.pointer u) => match liesAt P P.depth te (Nat.div n (P.cellsOf te)) o u 1 with
           | true => match P.info? u with
             | some inf => match Nat.beq inf.size 0 with
               | true => none
               | false => some v
             | none => none
           | false => none
         | _ => none
       | _ => none
   | _ => none
 | _ => none
theorem jgS {ρ ρ' : Operand → Value} (hρ : ∀ x, VRel J (ρ x) (ρ' x)) {μ : Mem} {w : World} (h : Rel J μ w) {o : Oper} {src dst : TypeId} {x : Operand} {v : Value} (ho : o.op = .convert src dst x)
  (hs : jcN P μ src dst (ρ x) = some v) : ∃ v', VRel J v v' ∧ (execOp ρ' o).run P w = .ok (.value v') w := by
 have hx := hρ x
 unfold jcN at hs
 split at hs
 ·rename_i i of e
  rw [e] at hx
  split at hs
  ·rename_i n te zero over lo hi sh hob
   obtain ⟨b, s, hb, hr, _⟩ := cell_of h hob
   have hx' := jhr hb hx
   have hx2 := hx
   rw [hx'] at hx2
   obtain ⟨cc, fz, h1, h2, h3, h4, h5, h6⟩ := hr
   have hns : n = cc.size := by rw [h2]; exact h4 rfl
   have hshape : (shape b).run P w = .ok (some (te, cc.size)) w := by simp [shape, Sem.run, World.shape?, h1]
   have hview : (viewAt b).run P w = .ok none w := by
    simp only [viewAt, rzB, hshape, rzA, Option.isSome_some, if_true, rzC]
   have hseen : (Conv.seenAt ⟨b, of, none⟩).run P w = .ok ⟨b, of, none⟩ w := by
    simp only [Conv.seenAt, rzB, hview, rzA, rzC]
   have hcin : (cellsIn b).run P w = .ok (some cc.size) w := by
    simp only [cellsIn, rzB, hshape, rzA, rzC]
   split at hs
   ·cases hs
   ·rename_i hlt
    have hlt' : of < n := by simpa using hlt
    split at hs
    ·rename_i t hu
     split at hs
     ·rename_i hd
      split at hs
      ·rename_i inf hinf
       split at hs
       ·cases hs
       ·rename_i hz
        have hz' : inf.size ≠ 0 := rzF hz
        cases hs
        rw [e]
        refine ⟨_, hx2, ?_⟩
        have hzd : decide (inf.size = 0) = false := by simpa using hz'
        have hno : decide (of ≥ cc.size) = false := by simp; omega
        simp only [execOp, ho, convert, rzB, jar hu, jar hd, rzA, hx', Conv.unsafePointer, hseen, hcin, ja9 hinf, hno, Bool.false_and, hzd, Bool.or_false, Bool.false_eq_true, if_false, rzC]
      ·cases hs
     ·cases hs
    ·rename_i hu
     split at hs
     ·rename_i u hd
      split at hs
      ·rename_i hl
       split at hs
       ·rename_i inf hinf
        split at hs
        ·cases hs
        ·rename_i hz
         have hz' : inf.size ≠ 0 := rzF hz
         cases hs
         rw [e]
         refine ⟨_, hx2, ?_⟩
         have hva : (variablesAt ⟨b, of, none⟩ u 1).run P w = .ok true w := by
          have hl' : liesAt P P.depth te (cc.size / P.cellsOf te) of u 1 = true := by rw [← hns]; exact hl
          simp only [variablesAt, rzB, program, Sem.run, rzA, hshape, rzC, hl', pure]
         simp only [execOp, ho, convert, rzB, jar hu, jar hd, rzA, hx', Conv.unsafePointer, hseen, ja9 hinf, hva, Bool.or_true, if_true, rzC]
       ·cases hs
      ·cases hs
     ·cases hs
    ·cases hs
  ·cases hs
 ·cases hs
def aR (P : Program) (μ : Mem) (ρ : Operand → Value) (o : Oper) : Option Value :=
 match o.op with
 | .load t a => jbZ P μ t (ρ a)
 | .convert s d x => match jcN P μ s d (ρ x) with
   | some v => some v
   | none => jbd P μ s d (ρ x)
 | .binOp .eql t x y _ => match jgk P μ t (ρ x) (ρ y) with
   | some r => some (.bool r)
   | none => none
 | .binOp .neq t x y _ => match jgk P μ t (ρ x) (ρ y) with
   | some r => some (.bool (!r))
   | none => none
 | .lookup t x y c => ji9 P μ t (ρ x) (ρ y) c
 | .call c => match c.callee with
   | .builtin .len => match c.args.toList, c.argTypes.toList with
     | [x], t :: _ => match P.underlying t with
       | some (.map _ _) => ji8 μ (ρ x)
       | _ => none
     | _, _ => none
   | _ => none
 | _ => none
theorem aR_sound {ρ ρ' : Operand → Value} (hρ : ∀ x, VRel J (ρ x) (ρ' x)) {μ : Mem} {w : World} (h : Rel J μ w) {o : Oper} {v : Value} (hs : aR P μ ρ o = some v) :
  ∃ v', VRel J v v' ∧ (execOp ρ' o).run P w = .ok (.value v') w := by
 unfold aR at hs
 split at hs
 ·rename_i t a ho
  obtain ⟨ad, x', h1, h2, h3⟩ := jc8 (P := P) h (hρ a) hs
  exact ⟨x', h2, by simp only [execOp, ho, Instr.loadAt, h1, Instr.sureAddr, rzB, rzC, rzA, h3]⟩
 ·rename_i s d x ho
  split at hs
  ·rename_i v1 e; cases hs; exact jgS hρ h ho e
  ·exact jdE hρ h ho hs
 ·rename_i t x y yt ho
  split at hs
  ·rename_i r e
   cases hs
   obtain ⟨r1, r2, r3, r4⟩ := jgj (P := P) h (hρ x) (hρ y) e
   exact ⟨_, .bool r, by simp only [execOp, ho, rzB, r2, rzA, r3, r1, rzC]⟩
  ·cases hs
 ·rename_i t x y yt ho
  split at hs
  ·rename_i r e
   cases hs
   obtain ⟨r1, r2, r3, r4⟩ := jgj (P := P) h (hρ x) (hρ y) e
   exact ⟨_, .bool (!r), by simp only [execOp, ho, rzB, r2, rzA, r4, r1, rzC]⟩
  ·cases hs
 ·rename_i t x y c ho; exact jgY hρ h ho hs
 ·rename_i c ho
  split at hs
  ·rename_i hc
   split at hs
   ·rename_i x t r ha ht
    split at hs
    ·rename_i kt et hu; exact jgX hρ h ho hc ha ht hu hs
    ·cases hs
   ·cases hs
  ·cases hs
 ·cases hs
def aT (P : Program) (μ : Mem) (ρ : Operand → Value) (o : Oper) : Option (Value × Mem) :=
 match o.op with
 | .store t a x => jbu P μ t (ρ a) (ρ x)
 | .next it true => aNext μ (ρ it)
 | .convert s d x => ji2 P μ s d (ρ x)
 | .mapUpdate t x y z => jgW P μ t (ρ x) (ρ y) (ρ z)
 | .insert t x y z => jgW P μ t (ρ x) (ρ y) (ρ z)
 | .mapEntry t x y => jfL P μ t (ρ x) (ρ y)
 | .entryStore _ x y z => jdS μ (ρ x) (ρ y) (ρ z)
 | .call c => match c.callee with
   | .builtin .append => match c.args.toList, c.argTypes.toList with
     | [x, y], st :: xt :: _ => jaM P μ st xt (ρ x) (ρ y)
     | _, _ => none
   | .builtin .copy => match c.args.toList, c.argTypes.toList with
     | [x, y], dt :: _ => aCopy P μ dt (ρ x) (ρ y)
     | _, _ => none
   | .builtin .unsafeString => match c.args.toList, c.argTypes.toList with
     | [x, y], [pt, _] => jbY P μ pt (ρ x) (ρ y)
     | _, _ => none
   | _ => none
 | _ => none
theorem aT_sound {ρ ρ' : Operand → Value} (hρ : ∀ x, VRel J (ρ x) (ρ' x)) {μ : Mem} {w : World} (h : Rel J μ w) {o : Oper} {v : Value} {μ' : Mem} (hs : aT P μ ρ o = some (v, μ')) : jfV P J ρ' o μ w v μ' := by
 unfold aT at hs
 split at hs
 ·rename_i ho; exact jh0 hρ h ho hs
 ·rename_i ho; exact ji7 hρ h ho hs
 ·rename_i ho; exact jgT hρ h ho hs
 ·rename_i ho; exact jeg hρ h (.inl ho) hs
 ·rename_i ho; exact jeg hρ h (.inr ho) hs
 ·rename_i ho; exact jfK hρ h ho hs
 ·rename_i ho; exact jeD hρ h ho hs
 ·rename_i c ho
  split at hs
  ·rename_i hc
   split at hs
   ·rename_i ha ht; exact jg4 hρ h ho hc ha ht hs
   ·cases hs
  ·rename_i hc
   split at hs
   ·rename_i ha ht; exact jjb hρ h ho hc ha (jet ht) hs
   ·cases hs
  ·rename_i hc
   split at hs
   ·rename_i ha ht; exact jdQ hρ h ho hc ha ht hs
   ·cases hs
  ·cases hs
 ·cases hs
end
end Go.Proofs.YtdmfakpngnlokaaGreatDoor.Ev
