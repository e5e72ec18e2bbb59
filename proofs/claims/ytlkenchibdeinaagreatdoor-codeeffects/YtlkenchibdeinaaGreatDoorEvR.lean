/-
  An evaluator, and what is proved of it. No conditions.
-/
import Derived.RangeFuncLeaves
import Derived.OrdersIn
import Derived.WalkKit
import Derived.Lib.UnsafeStr
set_option linter.unusedSimpArgs false
set_option linter.unusedVariables false
set_option linter.defProp false
namespace Go.Proofs.YtlkenchibdeinaaGreatDoor.Ev
noncomputable section
def rzA := @Result.andThen_ok
def rzB := @Sem.run_bind
def rzC := @Sem.run_pure
def rzD := @Nat.eq_of_beq_eq_true
def rzE := @Nat.le_of_ble_eq_true
def rzF := @Nat.ne_of_beq_eq_false
def rzJ := @Array.getElem?_eq_getElem
def rzK := @List.getElem?_eq_getElem
inductive T (α : Type) where
 | e : T α
 | n (v : Option α) (l r : T α) : T α
namespace T
variable {α : Type}
def get0 : T α → Nat → Option α
 | .e, _ => none
 | .n v l r, k => match k with
   | 0 => v
   | k + 1 => match Nat.beq (Nat.mod k 2) 0 with
     | true => l.get0 (Nat.div k 2)
     | false => r.get0 (Nat.div k 2)
def single (v : α) : Nat → Nat → T α
 | 0, _ => .n (some v) .e .e
 | _ + 1, 0 => .n (some v) .e .e
 | f + 1, k + 1 => match Nat.beq (Nat.mod k 2) 0 with
   | true => .n none (single v f (Nat.div k 2)) .e
   | false => .n none .e (single v f (Nat.div k 2))
def set0 : T α → Nat → α → T α
 | .e, k, v => single v k k
 | .n o l r, k, v => match k with
   | 0 => .n (some v) l r
   | k + 1 => match Nat.beq (Nat.mod k 2) 0 with
     | true => .n o (l.set0 (Nat.div k 2) v) r
     | false => .n o l (r.set0 (Nat.div k 2) v)
theorem jiz (v : α) : ∀ (f k j : Nat), k ≤ f → (single v f k).get0 j = if j = k then some v else none := by
 intro f
 induction f with
 | zero =>
   intro k j hk
   obtain rfl : k = 0 := by omega
   cases j with
   | zero => rfl
   | succ j => simp only [single, get0]; cases Nat.beq (Nat.mod j 2) 0 <;> simp [get0]
 | succ f ih =>
   intro k j hk
   cases k with
   | zero =>
     cases j with
     | zero => rfl
     | succ j => simp only [single, get0]; cases Nat.beq (Nat.mod j 2) 0 <;> simp [get0]
   | succ k =>
     have hd : Nat.div k 2 ≤ f := by show k / 2 ≤ f; omega
     cases j with
     | zero =>
       simp only [single]
       cases Nat.beq (Nat.mod k 2) 0 <;> simp [get0]
     | succ j =>
       simp only [single]
       cases h1 : Nat.beq (Nat.mod k 2) 0 with
       | true =>
         simp only [get0]
         cases h2 : Nat.beq (Nat.mod j 2) 0 with
         | true =>
           rw [ih _ _ hd]
           have e1 : k % 2 = 0 := rzD h1
           have e2 : j % 2 = 0 := rzD h2
           have : (Nat.div j 2 = Nat.div k 2) ↔ (j + 1 = k + 1) := by show (j / 2 = k / 2) ↔ _; omega
           simp only [this]
         | false =>
           have e1 : k % 2 = 0 := rzD h1
           have e2 : j % 2 ≠ 0 := rzF h2
           rw [if_neg (by omega)]
       | false =>
         simp only [get0]
         cases h2 : Nat.beq (Nat.mod j 2) 0 with
         | true =>
           have e1 : k % 2 ≠ 0 := rzF h1
           have e2 : j % 2 = 0 := rzD h2
           rw [if_neg (by omega)]
         | false =>
           rw [ih _ _ hd]
           have e1 : k % 2 ≠ 0 := rzF h1
           have e2 : j % 2 ≠ 0 := rzF h2
           have : (Nat.div j 2 = Nat.div k 2) ↔ (j + 1 = k + 1) := by show (j / 2 = k / 2) ↔ _; omega
           simp only [this]
theorem get0_set0 : ∀ (t : T α) (k j : Nat) (v : α), (t.set0 k v).get0 j = if j = k then some v else t.get0 j := by
 intro t
 induction t with
 | e => intro k j v; rw [set0, jiz v k k j (Nat.le_refl _)]; rfl
 | n o l r ihl ihr =>
   intro k j v
   cases k with
   | zero =>
     cases j with
     | zero => rfl
     | succ j => simp [set0, get0]
   | succ k =>
     simp only [set0]
     cases h1 : Nat.beq (Nat.mod k 2) 0 with
     | true =>
       cases j with
       | zero => simp [get0]
       | succ j =>
         simp only [get0]
         cases h2 : Nat.beq (Nat.mod j 2) 0 with
         | true =>
           simp only [ihl]
           have e1 : k % 2 = 0 := rzD h1
           have e2 : j % 2 = 0 := rzD h2
           have : (Nat.div j 2 = Nat.div k 2) ↔ (j + 1 = k + 1) := by show (j / 2 = k / 2) ↔ _; omega
           simp only [this]
         | false =>
           have e1 : k % 2 = 0 := rzD h1
           have e2 : j % 2 ≠ 0 := rzF h2
           rw [if_neg (by omega)]
     | false =>
       cases j with
       | zero => simp [get0]
       | succ j =>
         simp only [get0]
         cases h2 : Nat.beq (Nat.mod j 2) 0 with
         | true =>
           have e1 : k % 2 ≠ 0 := rzF h1
           have e2 : j % 2 = 0 := rzD h2
           rw [if_neg (by omega)]
         | false =>
           simp only [ihr]
           have e1 : k % 2 ≠ 0 := rzF h1
           have e2 : j % 2 ≠ 0 := rzF h2
           have : (Nat.div j 2 = Nat.div k 2) ↔ (j + 1 = k + 1) := by show (j / 2 = k / 2) ↔ _; omega
           simp only [this]
def get (t : T α) : Nat → Option α :=
 T.rec (motive := fun _ => Nat → Option α) (fun _ => none)
  (fun v _ _ ihl ihr k => Nat.rec (motive := fun _ => Option α) v (fun k _ => Bool.rec (motive := fun _ => Option α) (ihr (Nat.div k 2)) (ihl (Nat.div k 2)) (Nat.beq (Nat.mod k 2) 0)) k) t
def set (t : T α) : Nat → α → T α :=
 T.rec (motive := fun _ => Nat → α → T α) (fun k v => T.single v k k)
  (fun o l r ihl ihr k v => Nat.rec (motive := fun _ => T α) (T.n (some v) l r) (fun k _ => Bool.rec (motive := fun _ => T α) (T.n o l (ihr (Nat.div k 2) v)) (T.n o (ihl (Nat.div k 2) v) r) (Nat.beq (Nat.mod k 2) 0)) k) t
theorem jgz : ∀ (t : T α) (k : Nat), t.get k = t.get0 k
 | .e, _ => rfl
 | .n v l r, 0 => rfl
 | .n v l r, k + 1 => by
   show Bool.rec (motive := fun _ => Option α) (r.get (Nat.div k 2)) (l.get (Nat.div k 2)) (Nat.beq (Nat.mod k 2) 0) = _
   simp only [get0]
   cases Nat.beq (Nat.mod k 2) 0
   ·exact jgz r _
   ·exact jgz l _
theorem jib : ∀ (t : T α) (k : Nat) (v : α), t.set k v = t.set0 k v
 | .e, _, _ => rfl
 | .n o l r, 0, _ => rfl
 | .n o l r, k + 1, v => by
   show Bool.rec (motive := fun _ => T α) (T.n o l (r.set (Nat.div k 2) v)) (T.n o (l.set (Nat.div k 2) v) r) (Nat.beq (Nat.mod k 2) 0) = _
   simp only [set0]
   cases Nat.beq (Nat.mod k 2) 0
   ·show T.n o l (r.set (Nat.div k 2) v) = T.n o l (r.set0 (Nat.div k 2) v)
    rw [jib r]
   ·show T.n o (l.set (Nat.div k 2) v) r = T.n o (l.set0 (Nat.div k 2) v) r
    rw [jib l]
theorem get_set (t : T α) (k j : Nat) (v : α) : (t.set k v).get j = if j = k then some v else t.get j := by
 rw [jgz, jgz, jib]; exact get0_set0 t k j v
theorem get_e (k : Nat) : (T.e : T α).get k = none := rfl
end T
def T.lay {α : Type} (t : T α) (i : Nat) : List α → T α
 | [] => t
 | v :: r => (t.set i v).lay (i + 1) r
theorem T.get_lay {α : Type} : ∀ (l : List α) (t : T α) (i j : Nat), (t.lay i l).get j = if i ≤ j ∧ j < i + l.length then l[j - i]? else t.get j := by
 intro l
 induction l with
 | nil => intro t i j; rw [T.lay, if_neg (by simp)]
 | cons v r ih =>
   intro t i j
   rw [T.lay, ih, T.get_set]
   by_cases h1 : i + 1 ≤ j ∧ j < i + 1 + r.length
   ·rw [if_pos h1, if_pos (by simp; omega)]
    rw [show j - i = (j - (i + 1)) + 1 from by omega, List.getElem?_cons_succ]
   ·rw [if_neg h1]
    by_cases h2 : j = i
    ·subst h2; rw [if_pos rfl, if_pos (by simp)]; simp
    ·rw [if_neg h2, if_neg (by simp; omega)]
inductive Loc where
 | unborn
 | dead
 | at (b s : Nat)
def CapRel (c c' l off sz : Nat) : Prop := (c % 2 = 0 ∧ c' = c / 2) ∨ (c % 2 = 1 ∧ l ≤ c' ∧ off + c' * (c / 2) ≤ sz)
def CapD (c c' l : Nat) : Prop := (c % 2 = 0 ∧ c' = c / 2) ∨ (c % 2 = 1 ∧ l ≤ c')
theorem CapRel.dead {c c' l off sz : Nat} (h : CapRel c c' l off sz) : CapD c c' l := h.imp id (fun h => ⟨h.1, h.2.1⟩)
inductive FnRel (J : Nat → Loc) : Fn → Fn → Prop where
 | func (f : FuncId) : FnRel J (.func f) (.func f)
 | method (name : String) : FnRel J (.method name) (.method name)
 | methodOf (t : TypeId) (name : String) : FnRel J (.methodOf t name) (.methodOf t name)
 | via (t : TypeId) (path : Array FieldStep) (f : FuncId) (p : Bool) : FnRel J (.via t path f p) (.via t path f p)
 | yield {l b s : Nat} (h : J l = .at b s) : FnRel J (.yield l) (.yield b)
 | yieldDead {l : Nat} (l' : Nat) (h : J l = .dead) : FnRel J (.yield l) (.yield l')
inductive VRel (J : Nat → Loc) : Value → Value → Prop where
 | any (r : Option Nat) (v : Value) : VRel J (.chan r) v
 | bool (b : Bool) : VRel J (.bool b) (.bool b)
 | int (k : IntKind) (n : Int) : VRel J (.int k n) (.int k n)
 | float (k : FloatKind) (n : Nat) : VRel J (.float k n) (.float k n)
 | complex (k : FloatKind) (n m : Nat) : VRel J (.complex k n m) (.complex k n m)
 | string (s : ByteArray) : VRel J (.string s) (.string s)
 | ptrNil : VRel J (.pointer none) (.pointer none)
 | ptr {i o b s : Nat} (h : J i = .at b s) : VRel J (.pointer (some ⟨i, o, none⟩)) (.pointer (some ⟨b, o, none⟩))
 | ptrDead {a : Addr} (a' : Addr) (h : J a.block = .dead) : VRel J (.pointer (some a)) (.pointer (some a'))
 | sliceNil (l c : Nat) : VRel J (.slice none l c) (.slice none l c)
 | slice {i o b s l c c' : Nat} (h : J i = .at b s) (hc : CapRel c c' l o s) : VRel J (.slice (some ⟨i, o, none⟩) l c) (.slice (some ⟨b, o, none⟩) l c')
 | sliceDead {a : Addr} {l c : Nat} (a' : Addr) (c' : Nat) (h : J a.block = .dead) (hc : CapD c c' l) : VRel J (.slice (some a) l c) (.slice (some a') l c')
 | mapNil : VRel J (.map none) (.map none)
 | map {i b s : Nat} (h : J i = .at b s) : VRel J (.map (some i)) (.map (some b))
 | mapDead {i : Nat} (b : Nat) (h : J i = .dead) : VRel J (.map (some i)) (.map (some b))
 | nilFunc : VRel J .nilFunc .nilFunc
 | func {fn fn' : Fn} {x x' y y' : Array Value} (h : FnRel J fn fn') (hx : x.size = x'.size) (hx' : ∀ (i : Nat) a b, x[i]? = some a → x'[i]? = some b → VRel J a b)
   (hy : y.size = y'.size) (hy' : ∀ (i : Nat) a b, y[i]? = some a → y'[i]? = some b → VRel J a b) : VRel J (.func fn x y) (.func fn' x' y')
 | iface {t : TypeId} {v v' : Value} (h : VRel J v v') : VRel J (.iface t v) (.iface t v')
 | nilIface : VRel J .nilIface .nilIface
 | agg {x x' : Array Value} (hx : x.size = x'.size) (hx' : ∀ (i : Nat) a b, x[i]? = some a → x'[i]? = some b → VRel J a b) : VRel J (.agg x) (.agg x')
 | tuple {x x' : Array Value} (hx : x.size = x'.size) (hx' : ∀ (i : Nat) a b, x[i]? = some a → x'[i]? = some b → VRel J a b) : VRel J (.tuple x) (.tuple x')
structure ARel (J : Nat → Loc) (x x' : Array Value) : Prop where
 size : x.size = x'.size
 at_ : ∀ (i : Nat) a b, x[i]? = some a → x'[i]? = some b → VRel J a b
theorem ARel.get {J : Nat → Loc} {x x' : Array Value} (h : ARel J x x') {i : Nat} {a : Value} (ha : x[i]? = some a) : ∃ b, x'[i]? = some b ∧ VRel J a b := by
 have hi : i < x'.size := by rw [← h.size]; exact (Array.getElem?_eq_some_iff.1 ha).1
 exact ⟨x'[i], rzJ hi, h.at_ i a _ ha (rzJ hi)⟩
structure Ext (J J' : Nat → Loc) : Prop where
 at_ : ∀ i b s, J i = .at b s → J' i = .at b s ∨ J' i = .dead
 dead : ∀ i, J i = .dead → J' i = .dead
theorem Ext.refl (J : Nat → Loc) : Ext J J := ⟨fun _ _ _ h => .inl h, fun _ h => h⟩
theorem Ext.trans {J K L : Nat → Loc} (h : Ext J K) (g : Ext K L) : Ext J L :=
 ⟨fun i b s e => by
  rcases h.at_ i b s e with e1 | e1
  ·exact g.at_ i b s e1
  ·exact .inr (g.dead i e1), fun i e => g.dead i (h.dead i e)⟩
theorem FnRel.mono {J J' : Nat → Loc} (h : Ext J J') {f f' : Fn} (hf : FnRel J f f') : FnRel J' f f' := by
 cases hf with
 | func f => exact .func f
 | method n => exact .method n
 | methodOf t n => exact .methodOf t n
 | via t p f b => exact .via t p f b
 | yield e => exact (h.at_ _ _ _ e).elim (fun e1 => .yield e1) (fun e1 => .yieldDead _ e1)
 | yieldDead l' e => exact .yieldDead l' (h.dead _ e)
theorem VRel.mono {J J' : Nat → Loc} (h : Ext J J') {v v' : Value} (hv : VRel J v v') : VRel J' v v' := by
 induction hv with
 | any r v => exact .any r v
 | bool b => exact .bool b
 | int k n => exact .int k n
 | float k n => exact .float k n
 | complex k n m => exact .complex k n m
 | string s => exact .string s
 | ptrNil => exact .ptrNil
 | ptr e => exact (h.at_ _ _ _ e).elim (fun e1 => .ptr e1) (fun e1 => .ptrDead _ e1)
 | ptrDead a' e => exact .ptrDead a' (h.dead _ e)
 | sliceNil l c => exact .sliceNil l c
 | slice e hc => exact (h.at_ _ _ _ e).elim (fun e1 => .slice e1 hc) (fun e1 => .sliceDead _ _ e1 hc.dead)
 | sliceDead a' c' e hc => exact .sliceDead a' c' (h.dead _ e) hc
 | mapNil => exact .mapNil
 | map e => exact (h.at_ _ _ _ e).elim (fun e1 => .map e1) (fun e1 => .mapDead _ e1)
 | mapDead b e => exact .mapDead b (h.dead _ e)
 | nilFunc => exact .nilFunc
 | func hf hx _ hy _ ihx ihy => exact .func (hf.mono h) hx (fun i a b ha hb => ihx i a b ha hb) hy (fun i a b ha hb => ihy i a b ha hb)
 | iface _ ih => exact .iface ih
 | nilIface => exact .nilIface
 | agg hx _ ih => exact .agg hx (fun i a b ha hb => ih i a b ha hb)
 | tuple hx _ ih => exact .tuple hx (fun i a b ha hb => ih i a b ha hb)
end
noncomputable section
inductive Ob where
 | cells (n : Nat) (t : TypeId) (zero : Array Value) (over : T Value) (lo hi : Nat) (fx sh : Bool)
 | map (es : List (Value × Value × Nat)) (clock : Nat)
 | siter (s : ByteArray) (pos : Nat)
 | loop (st : LoopState) (pe : Option Code) (ps : Array Tmp) (asg body : Code) (n : Nat) (tm : T Value) (d : Nat)
 | deferred
 | rom (l : List Value) (t : TypeId)
 | opn (t : TypeId)
 | held (c : Array Value) (t : TypeId) (fz : Nat × Nat)
 | pin (l : List Value) (c : Array Value) (t : TypeId) (fz : Nat × Nat)
 | dead
def deZ (s : Nat) : Int := if s % 2 = 0 then ((s / 2 : Nat) : Int) else -(((s + 1) / 2 : Nat) : Int)
structure Mem where
 obs : T Ob
 next : Nat
abbrev XT : Type := FuncId → List Value → Mem → Option (Value × Mem)
abbrev NT : Type := Nat → List Value → Mem → Option (Value × Mem)
def cellAt (zero : Array Value) (over : T Value) (i : Nat) : Value :=
 match over.get i with
 | some v => v
 | none => zero.getD (Nat.mod i zero.size) undef
def jac (tm : T Value) (t : Nat) : Value :=
 match tm.get t with
 | some v => v
 | none => undef
def RegRel (J : Nat → Loc) (tm : T Value) (tmps : Array Value) : Prop := ∀ (t : Nat), VRel J (jac tm t) (tmps.getD t undef)
def FzRel (fz : Nat × Nat) (s lo hi : Nat) (sh : Bool) : Prop := fz.1 = fz.2 ∨ (sh = true ∧ s ≤ fz.1) ∨ (lo ≤ fz.1 ∧ fz.2 ≤ hi ∧ lo < hi)
def ObRel (J : Nat → Loc) (w : World) (b s : Nat) : Ob → Prop
 | .cells n t zero over lo hi fx sh => ∃ c fz, w.heap[b]? = some (.cells c t fz) ∧ c.size = s ∧ n ≤ s ∧ (fx = false → n = s) ∧
   (∀ i, i < n → ∃ x, c[i]? = some x ∧ VRel J (cellAt zero over i) x) ∧ FzRel fz s lo hi sh
 | .map es clock => ∃ es', w.heap[b]? = some (.map es' clock) ∧ es.length = es'.size ∧
   ∀ (i : Nat) k v n, es[i]? = some (k, v, n) → ∃ e, es'[i]? = some e ∧ VRel J k e.key ∧ VRel J v e.val ∧ e.born = n
 | .siter x pos => w.heap[b]? = some (.stringIter x pos)
 | .loop st pe ps asg body n tm d => ∃ l : Loop, w.heap[b]? = some (.loop l) ∧ l.state = st ∧ l.pending = pe ∧ l.params = ps ∧ l.assign = asg ∧ l.body = body ∧ l.tmps.size = n ∧
   RegRel J tm l.tmps ∧ ((∃ z, J d = .at l.defers z) ∨ J d = .dead)
 | .deferred => w.heap[b]? = some (.deferred (some []))
 | .rom l t => w.heap[b]? = some (.cells l.toArray t (0, 0)) ∧ ∀ v ∈ l, VRel J v v
 | .opn t => w.heap[b]? = some (.cells #[.int .i64 (deZ s)] t (0, 0))
 | .held c t fz => w.heap[b]? = some (.cells c t fz)
 | .pin l c t fz => w.heap[b]? = some (.cells c t fz) ∧ ARel J l.toArray c
 | .dead => True
structure Rel (J : Nat → Loc) (μ : Mem) (w : World) : Prop where
 inj : ∀ i j b s t, J i = .at b s → J j = .at b t → i = j
 bnd : ∀ i b s, J i = .at b s → b < w.heap.size
 fresh : ∀ i, μ.next ≤ i → J i = .unborn
 obj : ∀ i o, μ.obs.get i = some o → o ≠ .dead → ∃ b s, J i = .at b s ∧ ObRel J w b s o
def gone (μ : Mem) (i : Nat) : Prop := ∀ o, μ.obs.get i = some o → o = .dead
structure Step (J : Nat → Loc) (μ : Mem) (w : World) (J' : Nat → Loc) (μ' : Mem) (w' : World) : Prop where
 at_ : ∀ i b s, J i = .at b s → J' i = .at b s ∨ (J' i = .dead ∧ ¬ gone μ i)
 dead : ∀ i, J i = .dead → J' i = .dead
 unborn : ∀ i, i < μ.next → J i = .unborn → J' i = .unborn
 born : ∀ i b s, J i = .unborn → J' i = .at b s → w.heap.size ≤ b ∨ ∃ j t, J j = .at b t ∧ ¬ gone μ j
 next : μ.next ≤ μ'.next
 gone_ : ∀ i, i < μ.next → gone μ i → gone μ' i
 size : w.heap.size ≤ w'.heap.size
 frame : ∀ b, b < w.heap.size → (∀ i s, J i = .at b s → gone μ i) → w'.heap[b]? = w.heap[b]?
 os : w'.os = w.os
 tape : w'.tape = w.tape
 output : w'.output = w.output
theorem Step.ext {J : Nat → Loc} {μ : Mem} {w : World} {J' : Nat → Loc} {μ' : Mem} {w' : World} (h : Step J μ w J' μ' w') : Ext J J' :=
 ⟨fun i b s e => (h.at_ i b s e).imp id (·.1), h.dead⟩
theorem Step.refl (J : Nat → Loc) (μ : Mem) (w : World) : Step J μ w J μ w where
 at_ i b s h := .inl h
 dead i h := h
 unborn i _ h := h
 born i b s h g := by rw [h] at g; cases g
 next := Nat.le_refl _
 gone_ i _ h := h
 size := Nat.le_refl _
 frame b _ _ := rfl
 os := rfl
 tape := rfl
 output := rfl
theorem jdf {J : Nat → Loc} {μ : Mem} {w : World} (h : Rel J μ w) {i b s : Nat} (e : J i = .at b s) : i < μ.next := by
 rcases Nat.lt_or_ge i μ.next with h1 | h1
 ·exact h1
 ·rw [h.fresh i h1] at e; cases e
theorem Step.trans {J : Nat → Loc} {μ : Mem} {w : World} {J1 : Nat → Loc} {μ1 : Mem} {w1 : World} {J2 : Nat → Loc} {μ2 : Mem} {w2 : World}
  (hr : Rel J μ w) (h : Step J μ w J1 μ1 w1) (g : Step J1 μ1 w1 J2 μ2 w2) : Step J μ w J2 μ2 w2 where
 at_ i b s e := by
  rcases h.at_ i b s e with e1 | ⟨e1, e2⟩
  ·rcases g.at_ i b s e1 with e3 | ⟨e3, e4⟩
   ·exact .inl e3
   ·exact .inr ⟨e3, fun hg => e4 (h.gone_ i (jdf hr e) hg)⟩
  ·exact .inr ⟨g.dead i e1, e2⟩
 dead i e := g.dead i (h.dead i e)
 unborn i hi e := g.unborn i (Nat.lt_of_lt_of_le hi h.next) (h.unborn i hi e)
 born i b s e e2 := by
  match e1 : J1 i with
  | .dead => rw [g.dead i e1] at e2; cases e2
  | .at b' s' =>
    rcases g.at_ i b' s' e1 with e3 | ⟨e3, _⟩
    ·rw [e3] at e2; cases e2; exact h.born i b s e e1
    ·rw [e3] at e2; cases e2
  | .unborn =>
    rcases g.born i b s e1 e2 with h1 | ⟨j, t, hj, hg⟩
    ·exact .inl (Nat.le_trans h.size h1)
    ·match ej : J j with
     | .dead => rw [h.dead j ej] at hj; cases hj
     | .at b' s' =>
       rcases h.at_ j b' s' ej with e3 | ⟨e3, _⟩
       ·rw [e3] at hj; cases hj
        exact .inr ⟨j, t, ej, fun hgj => hg (h.gone_ j (jdf hr ej) hgj)⟩
       ·rw [e3] at hj; cases hj
     | .unborn => exact h.born j b t ej hj
 next := Nat.le_trans h.next g.next
 gone_ i hi hg := g.gone_ i (Nat.lt_of_lt_of_le hi h.next) (h.gone_ i hi hg)
 size := Nat.le_trans h.size g.size
 frame b hb hall := by
  rw [g.frame b (Nat.lt_of_lt_of_le hb h.size) ?_, h.frame b hb hall]
  intro i s e1
  match e : J i with
  | .dead => rw [h.dead i e] at e1; cases e1
  | .at b' s' =>
    rcases h.at_ i b' s' e with e3 | ⟨e3, _⟩
    ·rw [e3] at e1; cases e1; exact h.gone_ i (jdf hr e) (hall i s e)
    ·rw [e3] at e1; cases e1
  | .unborn =>
    rcases h.born i b s e e1 with h1 | ⟨j, t, hj, hg⟩
    ·omega
    ·exact absurd (hall j t hj) hg
 os := g.os.trans h.os
 tape := g.tape.trans h.tape
 output := g.output.trans h.output
theorem RegRel.mono {J J' : Nat → Loc} (h : Ext J J') {tm : T Value} {tmps : Array Value} (hr : RegRel J tm tmps) : RegRel J' tm tmps :=
 fun t => (hr t).mono h
theorem ObRel.keep {J J' : Nat → Loc} {w w' : World} {b s : Nat} {o : Ob} (he : Ext J J') (hw : w'.heap[b]? = w.heap[b]?) (h : ObRel J w b s o) : ObRel J' w' b s o := by
 cases o with
 | cells n t zero over lo hi fx sh =>
   obtain ⟨c, fz, h1, h2, h3, h4, h5, h6⟩ := h
   exact ⟨c, fz, hw.trans h1, h2, h3, h4, fun i hi => let ⟨x, hx, hv⟩ := h5 i hi; ⟨x, hx, hv.mono he⟩, h6⟩
 | map es clock =>
   obtain ⟨es', h1, h2, h3⟩ := h
   exact ⟨es', hw.trans h1, h2, fun i k v n e => let ⟨e', a, b, c, d⟩ := h3 i k v n e; ⟨e', a, b.mono he, c.mono he, d⟩⟩
 | siter x pos => exact hw.trans h
 | loop st pe ps asg body n tm d =>
   obtain ⟨l, h1, h2, h3, h4, h5, h6, h7, h8, h9⟩ := h
   refine ⟨l, hw.trans h1, h2, h3, h4, h5, h6, h7, h8.mono he, ?_⟩
   rcases h9 with ⟨z, hz⟩ | hz
   ·exact (he.at_ _ _ _ hz).elim (fun e => .inl ⟨z, e⟩) .inr
   ·exact .inr (he.dead _ hz)
 | deferred => exact hw.trans h
 | rom l t => exact ⟨hw.trans h.1, fun v hv => (h.2 v hv).mono he⟩
 | opn t => exact hw.trans h
 | held c t fz => exact hw.trans h
 | pin l c t fz => exact ⟨hw.trans h.1, h.2.size, fun i a b ha hb => (h.2.at_ i a b ha hb).mono he⟩
 | dead => trivial
theorem Rel.heap {J : Nat → Loc} {μ : Mem} {w w' : World} (h : Rel J μ w) (e : w'.heap = w.heap) : Rel J μ w' where
 inj := h.inj
 bnd i b s hi := by rw [e]; exact h.bnd i b s hi
 fresh := h.fresh
 obj i o hi hd := let ⟨b, s, hb, ho⟩ := h.obj i o hi hd; ⟨b, s, hb, ho.keep (Ext.refl J) (by rw [e])⟩
def upd (J : Nat → Loc) (i : Nat) (l : Loc) : Nat → Loc := fun j => if j = i then l else J j
theorem upd_same (J : Nat → Loc) (i : Nat) (l : Loc) : upd J i l i = l := by simp [upd]
theorem jav {J : Nat → Loc} {i j : Nat} {l : Loc} (h : j ≠ i) : upd J i l j = J j := by simp [upd, h]
theorem jdG {J : Nat → Loc} {i : Nat} (l : Loc) (h : J i = .unborn) : Ext J (upd J i l) :=
 ⟨fun j b s e => by
  by_cases hj : j = i
  ·subst hj; rw [h] at e; cases e
  ·exact .inl (by rw [jav hj]; exact e),
  fun j e => by
   by_cases hj : j = i
   ·subst hj; rw [h] at e; cases e
   ·rw [jav hj]; exact e⟩
theorem jd6 (w : World) (o : Obj) {b : Nat} (h : b < w.heap.size) : (w.alloc o).heap[b]? = w.heap[b]? := by
 simp only [World.alloc, Array.getElem?_push]
 rw [if_neg (by omega)]
theorem heap_alloc_new (w : World) (o : Obj) : (w.alloc o).heap[w.heap.size]? = some o := by
 unfold World.alloc; simp
theorem Rel.alloc {J : Nat → Loc} {μ : Mem} {w : World} (h : Rel J μ w) {i nx : Nat} (s : Nat) (o : Ob) (o' : Obj) (hu : J i = .unborn) (hi : i < nx) (hnx : μ.next ≤ nx)
  (ho : ObRel (upd J i (.at w.heap.size s)) (w.alloc o') w.heap.size s o) : Rel (upd J i (.at w.heap.size s)) ⟨μ.obs.set i o, nx⟩ (w.alloc o') where
 inj a b c s' t' ha hb := by
  by_cases h1 : a = i
  ·by_cases h2 : b = i
   ·rw [h1, h2]
   ·subst h1
    rw [upd_same] at ha; cases ha
    rw [jav h2] at hb
    exact absurd (h.bnd _ _ _ hb) (Nat.lt_irrefl _)
  ·by_cases h2 : b = i
   ·subst h2
    rw [upd_same] at hb; cases hb
    rw [jav h1] at ha
    exact absurd (h.bnd _ _ _ ha) (Nat.lt_irrefl _)
   ·rw [jav h1] at ha
    rw [jav h2] at hb
    exact h.inj _ _ _ _ _ ha hb
 bnd a b s' ha := by
  rw [World.size_alloc]
  by_cases h1 : a = i
  ·subst h1; rw [upd_same] at ha; cases ha; omega
  ·rw [jav h1] at ha; have := h.bnd _ _ _ ha; omega
 fresh a ha := by
  have ha : nx ≤ a := ha
  rw [jav (by omega)]
  exact h.fresh a (by omega)
 obj a o2 ha hd := by
  simp only [T.get_set] at ha
  by_cases h1 : a = i
  ·rw [if_pos h1] at ha; cases ha
   subst h1
   exact ⟨_, _, upd_same _ _ _, ho⟩
  ·rw [if_neg h1] at ha
   obtain ⟨b, s', hb, hob⟩ := h.obj a o2 ha hd
   exact ⟨b, s', by rw [jav h1]; exact hb, hob.keep (jdG _ hu) (jd6 w o' (h.bnd _ _ _ hb))⟩
theorem Step.alloc {J : Nat → Loc} {μ : Mem} {w : World} (h : Rel J μ w) {i nx : Nat} (s : Nat) (o : Ob) (o' : Obj) (hu : μ.next ≤ i) (hi : i < nx) (hnx : μ.next ≤ nx) :
  Step J μ w (upd J i (.at w.heap.size s)) ⟨μ.obs.set i o, nx⟩ (w.alloc o') where
 at_ a b s' e := by
  by_cases h1 : a = i
  ·subst h1; rw [h.fresh _ hu] at e; cases e
  ·exact .inl (by rw [jav h1]; exact e)
 dead a e := by
  by_cases h1 : a = i
  ·subst h1; rw [h.fresh _ hu] at e; cases e
  ·rw [jav h1]; exact e
 unborn a ha e := by rw [jav (by omega)]; exact e
 born a b s' e e2 := by
  by_cases h1 : a = i
  ·subst h1; rw [upd_same] at e2; cases e2; exact .inl (Nat.le_refl _)
  ·rw [jav h1, e] at e2; cases e2
 next := hnx
 gone_ a ha hg o2 ho2 := by
  simp only [T.get_set] at ho2
  rw [if_neg (by omega)] at ho2
  exact hg o2 ho2
 size := by rw [World.size_alloc]; omega
 frame b hb _ := jd6 w o' hb
 os := rfl
 tape := rfl
 output := rfl
theorem Rel.update {J : Nat → Loc} {μ : Mem} {w w' : World} (h : Rel J μ w) {i b s : Nat} (hi : J i = .at b s) (o2 : Ob) (hsz : w'.heap.size = w.heap.size)
  (hoth : ∀ c, c ≠ b → w'.heap[c]? = w.heap[c]?) (ho : ObRel J w' b s o2) : Rel J ⟨μ.obs.set i o2, μ.next⟩ w' where
 inj := h.inj
 bnd a c t e := by rw [hsz]; exact h.bnd a c t e
 fresh := h.fresh
 obj a o e hd := by
  simp only [T.get_set] at e
  by_cases h1 : a = i
  ·rw [if_pos h1] at e; cases e; subst h1; exact ⟨b, s, hi, ho⟩
  ·rw [if_neg h1] at e
   obtain ⟨c, t, hc, hob⟩ := h.obj a o e hd
   refine ⟨c, t, hc, hob.keep (Ext.refl J) (hoth c fun e2 => h1 ?_)⟩
   subst e2
   exact h.inj _ _ _ _ _ hc hi
theorem Step.update {J : Nat → Loc} {μ : Mem} {w w' : World} {i b s : Nat} (hi : J i = .at b s) (hp : ¬ gone μ i) (o2 : Ob) (hsz : w'.heap.size = w.heap.size)
  (hoth : ∀ c, c ≠ b → w'.heap[c]? = w.heap[c]?) (h1 : w'.os = w.os) (h2 : w'.tape = w.tape) (h3 : w'.output = w.output) : Step J μ w J ⟨μ.obs.set i o2, μ.next⟩ w' where
 at_ a c t e := .inl e
 dead a e := e
 unborn a _ e := e
 born a c t e e2 := by rw [e] at e2; cases e2
 next := Nat.le_refl _
 gone_ a ha hg o ho := by
  simp only [T.get_set] at ho
  by_cases e : a = i
  ·subst e; exact absurd hg hp
  ·rw [if_neg e] at ho; exact hg o ho
 size := by rw [hsz]; exact Nat.le_refl _
 frame c hc hall := by
  refine hoth c fun e => ?_
  subst e
  exact hp (hall i s hi)
 os := h1
 tape := h2
 output := h3
end
noncomputable section
def jaK : Nat → Value → Bool
 | 0, _ => false
 | n + 1, v => match v with
   | .int _ _ => true
   | .bool _ => true
   | .string _ => true
   | .float _ _ => true
   | .complex _ _ _ => true
   | .pointer none => true
   | .slice none _ _ => true
   | .map none => true
   | .nilFunc => true
   | .nilIface => true
   | .iface _ x => jaK n x
   | .agg cs => cs.toList.all (jaK n)
   | .tuple cs => cs.toList.all (jaK n)
   | .func fn x y => match fn with
     | .func _ => x.toList.isEmpty && y.toList.isEmpty
     | _ => false
   | _ => false
theorem arr_eq {J : Nat → Loc} {n : Nat} (ih : ∀ {v v' : Value}, jaK n v = true → VRel J v v' → v' = v) {x x' : Array Value} (h : x.toList.all (jaK n) = true)
  (hx : x.size = x'.size) (hx' : ∀ (i : Nat) a b, x[i]? = some a → x'[i]? = some b → VRel J a b) : x' = x := by
 refine Array.ext hx.symm fun i h1 h2 => ?_
 refine ih ?_ (hx' i x[i] x'[i] (rzJ h2) (rzJ h1))
 rw [List.all_eq_true] at h
 exact h _ (by simp)
theorem jd2 {J : Nat → Loc} : ∀ (n : Nat) {v v' : Value}, jaK n v = true → VRel J v v' → v' = v := by
 intro n
 induction n with
 | zero => intro v v' h; simp [jaK] at h
 | succ n ih =>
   intro v v' h hv
   cases hv with
   | any r v => simp [jaK] at h
   | bool b => rfl
   | int k n => rfl
   | float k n => rfl
   | complex k n m => rfl
   | string s => rfl
   | ptrNil => rfl
   | ptr e => simp [jaK] at h
   | ptrDead a' e => simp [jaK] at h
   | sliceNil l c => rfl
   | slice e hc => simp [jaK] at h
   | sliceDead a' c' e hc => simp [jaK] at h
   | mapNil => rfl
   | map e => simp [jaK] at h
   | mapDead b e => simp [jaK] at h
   | nilFunc => rfl
   | func hf hx hx' hy hy' =>
     rename_i fn fn' x x' y y'
     cases hf with
     | func f =>
       simp only [jaK, Bool.and_eq_true, List.isEmpty_iff] at h
       have h1 : x = #[] := by cases x; simp_all
       have h2 : y = #[] := by cases y; simp_all
       subst h1 h2
       have h1 : x' = #[] := Array.eq_empty_of_size_eq_zero (by rw [← hx]; simp)
       have h2 : y' = #[] := Array.eq_empty_of_size_eq_zero (by rw [← hy]; simp)
       rw [h1, h2]
     | _ => simp [jaK] at h
   | iface hx => rw [ih (by simpa [jaK] using h) hx]
   | nilIface => rfl
   | agg hx hx' => rw [arr_eq ih (by simpa only [jaK] using h) hx hx']
   | tuple hx hx' => rw [arr_eq ih (by simpa only [jaK] using h) hx hx']
theorem jjx {J : Nat → Loc} {n : Nat} (ih : ∀ {v : Value}, jaK n v = true → VRel J v v) {x : Array Value} (h : x.toList.all (jaK n) = true) :
  ∀ (i : Nat) a b, x[i]? = some a → x[i]? = some b → VRel J a b := by
 intro i a b ha hb
 rw [ha] at hb; cases hb
 refine ih ?_
 rw [List.all_eq_true] at h
 obtain ⟨hi, rfl⟩ := Array.getElem?_eq_some_iff.1 ha
 exact h _ (by simp)
theorem jbp {J : Nat → Loc} : ∀ (n : Nat) {v : Value}, jaK n v = true → VRel J v v := by
 intro n
 induction n with
 | zero => intro v h; simp [jaK] at h
 | succ n ih =>
   intro v h
   cases v with
   | bool b => exact .bool b
   | int k n => exact .int k n
   | float k n => exact .float k n
   | complex k a b => exact .complex k a b
   | string s => exact .string s
   | pointer a => cases a with | none => exact .ptrNil | some a => simp [jaK] at h
   | slice a l c => cases a with | none => exact .sliceNil l c | some a => simp [jaK] at h
   | map r => cases r with | none => exact .mapNil | some a => simp [jaK] at h
   | chan r => simp [jaK] at h
   | func fn x y =>
     cases fn with
     | func f =>
       simp only [jaK, Bool.and_eq_true, List.isEmpty_iff] at h
       have h1 : x = #[] := by cases x; simp_all
       have h2 : y = #[] := by cases y; simp_all
       subst h1 h2
       exact .func (.func _) rfl (fun i a b ha => by simp at ha) rfl (fun i a b ha => by simp at ha)
     | _ => simp [jaK] at h
   | nilFunc => exact .nilFunc
   | iface t x => exact .iface (ih (by simpa [jaK] using h))
   | nilIface => exact .nilIface
   | agg cs => exact .agg rfl (jjx ih (by simpa only [jaK] using h))
   | tuple cs => exact .tuple rfl (jjx ih (by simpa only [jaK] using h))
end
noncomputable section
variable {P : Program} {J : Nat → Loc}
def pv (P : Program) {α : Type} : Sem α → Option α
 | .pure a => some a
 | .program k => pv P (k P)
 | .mark _ k => pv P k
 | .choose q k => match q.forced with
   | true => pv P (k 0)
   | false => none
 | _ => none
theorem pv_run {α : Type} {a : α} : ∀ {s : Sem α}, pv P s = some a → ∀ w, s.run P w = .ok a w := by
 intro s
 induction s with
 | pure x => intro h w; simp only [pv, Option.some.injEq] at h; subst h; rfl
 | program k ih => intro h w; simp only [pv] at h; simp only [Sem.run]; exact ih P h w
 | mark m k ih => intro h w; simp only [pv] at h; simp only [Sem.run]; exact ih h w
 | choose q k ih =>
   intro h w
   simp only [pv] at h
   split at h
   ·rename_i hq
    simp only [Sem.run, hq, if_true]; exact ih 0 h w
   ·cases h
 | _ => intro h; simp [pv] at h
def jbJ (ρ : Operand → Value) : List Operand → Bool
 | [] => true
 | x :: r => match jaK 5 (ρ x) with
   | true => jbJ ρ r
   | false => false
theorem plains_eq {ρ ρ' : Operand → Value} (hρ : ∀ x, VRel J (ρ x) (ρ' x)) : ∀ (l : List Operand), jbJ ρ l = true → ∀ x ∈ l, ρ' x = ρ x := by
 intro l
 induction l with
 | nil => intro _ x hx; cases hx
 | cons y r ih =>
   intro h x hx
   simp only [jbJ] at h
   split at h
   ·rename_i hy
    rcases List.mem_cons.1 hx with e | e
    ·subst e; exact jd2 5 hy (hρ x)
    ·exact ih h x e
   ·cases h
def opsOf : Op → Option (List Operand)
 | .binOp _ _ x y _ => some [x, y]
 | .unOp _ _ x => some [x]
 | .convert _ _ x => some [x]
 | .index _ x i => some [x, i]
 | .field _ x _ => some [x]
 | .typeAssert x _ _ _ => some [x]
 | .slice _ x none none none => some [x]
 | .slice _ x (some l) none none => some [x, l]
 | .slice _ x none (some h) none => some [x, h]
 | .slice _ x (some l) (some h) none => some [x, l, h]
 | _ => none
theorem jhp {op : Op} {l : List Operand} (h : opsOf op = some l) : (∀ cs b, op ≠ .select cs b) ∧ ∀ x ∈ op.operands, x ∈ l := by
 unfold opsOf at h
 split at h <;> first | (cases h; done) | skip
 all_goals
  cases h
  exact ⟨fun cs b e => (by cases e), fun x hx => by simpa [Op.operands] using hx⟩
def jaH (P : Program) (ρ : Operand → Value) (o : Oper) : Option Value :=
 match opsOf o.op with
 | none => none
 | some l => match jbJ ρ l with
   | true => match pv P (execOp ρ o) with
     | some (.value v) => match jaK 5 v with
       | true => some v
       | false => none
     | _ => none
   | false => none
def Gives (P : Program) (J : Nat → Loc) (ρ' : Operand → Value) (o : Oper) (v : Value) : Prop :=
 ∃ v', VRel J v v' ∧ ∀ w, (execOp ρ' o).run P w = .ok (.value v') w
theorem jce {ρ ρ' : Operand → Value} (hρ : ∀ x, VRel J (ρ x) (ρ' x)) {o : Oper} {v : Value} (h : jaH P ρ o = some v) : Gives P J ρ' o v := by
 unfold jaH at h
 split at h
 ·cases h
 ·rename_i l hl
  obtain ⟨hsel, hmem⟩ := jhp hl
  split at h
  ·rename_i hp
   split at h
   ·rename_i v1 hv
    split at h
    ·rename_i hpl
     cases h
     refine ⟨v, jbp 5 hpl, fun w => ?_⟩
     rw [execOp_congr (ρ := ρ') (ρ' := ρ) o hsel (fun x hx => plains_eq hρ _ hp x (hmem x hx))]
     exact pv_run hv w
    ·cases h
   ·cases h
  ·cases h
theorem ja4 {k : IntKind} {n : Int} {p : Value} (h : VRel J (.int k n) p) : p = .int k n := by cases h; rfl
theorem jee {b : Bool} {p : Value} (h : VRel J (.bool b) p) : p = .bool b := by cases h; rfl
theorem jbE {s : ByteArray} {p : Value} (h : VRel J (.string s) p) : p = .string s := by cases h; rfl
theorem agg_inv {x : Array Value} {p : Value} (h : VRel J (.agg x) p) : ∃ x', p = .agg x' ∧ ARel J x x' := by cases h; exact ⟨_, rfl, ‹_›, ‹_›⟩
theorem tuple_inv {x : Array Value} {p : Value} (h : VRel J (.tuple x) p) : ∃ x', p = .tuple x' ∧ ARel J x x' := by cases h; exact ⟨_, rfl, ‹_›, ‹_›⟩
theorem jdj {t : TypeId} {v p : Value} (h : VRel J (.iface t v) p) : ∃ v', p = .iface t v' ∧ VRel J v v' := by cases h; exact ⟨_, rfl, ‹_›⟩
theorem jdb {a : Addr} {p : Value} (h : VRel J (.pointer (some a)) p) : ∃ a', p = .pointer (some a') ∧ ∀ n, VRel J (.pointer (some (a.add n))) (.pointer (some (a'.add n))) := by
 cases h with
 | ptr e =>
   refine ⟨_, rfl, fun n => ?_⟩
   unfold Addr.add
   by_cases hn : n = 0
   ·rw [if_pos hn, if_pos hn]; exact .ptr e
   ·rw [if_neg hn, if_neg hn]; exact .ptr e
 | ptrDead a' e =>
   refine ⟨_, rfl, fun n => ?_⟩
   refine .ptrDead _ ?_
   unfold Addr.add
   by_cases hn : n = 0
   ·rw [if_pos hn]; exact e
   ·rw [if_neg hn]; exact e
theorem jbh {a : Addr} {l c : Nat} {p : Value} (h : VRel J (.slice (some a) l c) p) : ∃ a' c', p = .slice (some a') l c' ∧ (∀ n, VRel J (.pointer (some (a.add n))) (.pointer (some (a'.add n)))) ∧
  ((∃ i o b s, a = ⟨i, o, none⟩ ∧ a' = ⟨b, o, none⟩ ∧ J i = .at b s ∧ CapRel c c' l o s) ∨ (J a.block = .dead ∧ CapD c c' l)) := by
 cases h with
 | slice e hc =>
   refine ⟨_, _, rfl, fun n => ?_, .inl ⟨_, _, _, _, rfl, rfl, e, hc⟩⟩
   unfold Addr.add
   by_cases hn : n = 0
   ·rw [if_pos hn, if_pos hn]; exact .ptr e
   ·rw [if_neg hn, if_neg hn]; exact .ptr e
 | sliceDead a' c' e hc =>
   refine ⟨_, _, rfl, fun n => ?_, .inr ⟨e, hc⟩⟩
   refine .ptrDead _ ?_
   unfold Addr.add
   by_cases hn : n = 0
   ·rw [if_pos hn]; exact e
   ·rw [if_neg hn]; exact e
theorem jaw {t : TypeId} {d : TypeDesc} (h : P.underlying t = some d) (w : World) : (underlying t).run P w = .ok d w := by
 simp [underlying, program, rzB, Sem.run, Result.andThen, h, pure]
theorem jdU {t : TypeId} {d : TypeInfo} (h : P.info? t = some d) (w : World) : (typeInfo t).run P w = .ok d w := by
 simp [typeInfo, program, rzB, Sem.run, Result.andThen, h, pure]
theorem ja2 {t : TypeId} {d : TypeInfo} (h : P.info? t = some d) (w : World) : (sizeOf t).run P w = .ok d.size w := by
 simp [sizeOf, rzB, jdU h, Result.andThen, rzC]
def aIdx (P : Program) (a : Addr) (len : Nat) (e : TypeId) (n : Int) : Option Value :=
 match P.info? e with
 | some inf => match n with
   | .ofNat m => match Nat.blt m len with
     | true => some (.pointer (some (a.add (Nat.mul m inf.size))))
     | false => none
   | _ => none
 | none => none
def jcs (P : Program) (ρ : Operand → Value) (s : TypeId) (x : Operand) (f : Nat) : Option Value :=
 match ρ x with
 | .pointer (some a) => match P.underlying s with
   | some (.struct fields) => match fields[f]? with
     | some fd => match P.info? fd.type with
       | some inf => match Nat.beq inf.size 0 with
         | true => none
         | false => some (.pointer (some (a.add fd.offset)))
       | none => none
     | none => none
   | _ => none
 | _ => none
def jan (P : Program) (ρ : Operand → Value) (t : TypeId) (x ix : Operand) : Option Value :=
 match ρ ix with
 | .int _ n => match ρ x with
   | .pointer (some a) => match P.underlying t with
     | some (.array len e) => aIdx P a len e n
     | _ => none
   | .slice (some a) len _ => match P.underlying t with
     | some (.slice e) => aIdx P a len e n
     | _ => none
   | _ => none
 | _ => none
theorem jeU {ρ ρ' : Operand → Value} (hρ : ∀ x, VRel J (ρ x) (ρ' x)) {o : Oper} {s : TypeId} {x : Operand} {f : Nat} {v : Value} (ho : o.op = .fieldAddr s x f)
  (h : jcs P ρ s x f = some v) : Gives P J ρ' o v := by
 unfold jcs at h
 split at h
 ·rename_i a hx
  have hv := hρ x
  rw [hx] at hv
  obtain ⟨a', hx', hadd⟩ := jdb hv
  split at h
  ·rename_i fields hu
   split at h
   ·rename_i fd hfd
    split at h
    ·rename_i inf hinf
     split at h
     ·cases h
     ·rename_i hz
      cases h
      refine ⟨_, hadd fd.offset, fun w => ?_⟩
      have hz' : inf.size ≠ 0 := rzF hz
      simp only [execOp, ho, Instr.fieldAt, rzB, jaw hu, rzA, hfd, hx', Instr.sureAddr, fieldPlace, ja2 hinf, if_neg hz', rzC]
    ·cases h
   ·cases h
  ·cases h
 ·cases h
theorem jjE {ρ' : Operand → Value} {a a' : Addr} {len : Nat} {e : TypeId} {n : Int} {v : Value} (hadd : ∀ n, VRel J (.pointer (some (a.add n))) (.pointer (some (a'.add n))))
  (h : aIdx P a len e n = some v) : ∃ inf m, P.info? e = some inf ∧ n = (m : Nat) ∧ m < len ∧ VRel J v (.pointer (some (a'.add (m * inf.size)))) := by
 unfold aIdx at h
 split at h
 ·rename_i inf hinf
  split at h
  ·rename_i m
   split at h
   ·rename_i hb
    cases h
    exact ⟨inf, m, hinf, rfl, by simpa using hb, hadd _⟩
   ·cases h
  ·cases h
 ·cases h
theorem jeT {ρ ρ' : Operand → Value} (hρ : ∀ x, VRel J (ρ x) (ρ' x)) {o : Oper} {t : TypeId} {x ix : Operand} {v : Value} (ho : o.op = .indexAddr t x ix)
  (h : jan P ρ t x ix = some v) : Gives P J ρ' o v := by
 unfold jan at h
 split at h
 ·rename_i k n hi
  have hvi := hρ ix
  rw [hi] at hvi
  have hi' : ρ' ix = .int k n := ja4 hvi
  have hv := hρ x
  split at h
  ·rename_i a hx
   rw [hx] at hv
   obtain ⟨a', hx', hadd⟩ := jdb hv
   split at h
   ·rename_i len e hu
    obtain ⟨inf, m, hinf, rfl, hlt, hr⟩ := jjE (ρ' := ρ') hadd h
    refine ⟨_, hr, fun w => ?_⟩
    have h1 : (0 : Int) ≤ (m : Int) ∧ (m : Int) < (len : Int) := ⟨by omega, by omega⟩
    simp only [execOp, ho, Instr.indexAt, rzB, jaw hu, rzA, hi', asIntOf, hx', Instr.sureAddr, if_pos h1, ja2 hinf, rzC, Int.toNat_natCast]
   ·cases h
  ·rename_i a len c hx
   rw [hx] at hv
   obtain ⟨a', c', hx', hadd, _⟩ := jbh hv
   split at h
   ·rename_i e hu
    obtain ⟨inf, m, hinf, rfl, hlt, hr⟩ := jjE (ρ' := ρ') hadd h
    refine ⟨_, hr, fun w => ?_⟩
    have h1 : (0 : Int) ≤ (m : Int) ∧ (m : Int) < (len : Int) := ⟨by omega, by omega⟩
    simp only [execOp, ho, Instr.indexAt, rzB, jaw hu, rzA, hi', asIntOf, hx', Instr.sureAddr, if_pos h1, ja2 hinf, rzC, Int.toNat_natCast]
   ·cases h
  ·cases h
 ·cases h
end
noncomputable section
variable {P : Program} {J : Nat → Loc}
theorem jh8 (bs : ByteArray) : ∀ (n i : Nat) (r : List UInt8), bs.size - i = n → ByteArray.toList.loop bs i r = r.reverse ++ bs.data.toList.drop i := by
 intro n
 induction n with
 | zero =>
   intro i r h
   rw [ByteArray.toList.loop, if_neg (by omega), List.drop_of_length_le (by rw [Array.length_toList]; show bs.size ≤ i; omega), List.append_nil]
 | succ n ih =>
   intro i r h
   have hi : i < bs.size := by omega
   rw [ByteArray.toList.loop, if_pos hi, ih (i + 1) _ (by omega)]
   have hd : i < bs.data.toList.length := by simpa using hi
   rw [List.drop_eq_getElem_cons hd, List.reverse_cons, List.append_assoc]
   congr 1
   show [bs.get! i] ++ _ = _
   rw [List.singleton_append]
   congr 1
   show bs.data[i]! = _
   rw [getElem!_pos bs.data i (by simpa using hi)]
   simp
theorem toList_data (bs : ByteArray) : bs.toList = bs.data.toList := by
 rw [ByteArray.toList, jh8 bs bs.size 0 [] (by omega)]
 simp
def aPick (ρ : Operand → Value) (c a b : Operand) : Option Value :=
 match ρ c with
 | .bool true => some (ρ a)
 | .bool false => some (ρ b)
 | _ => none
theorem jiQ {ρ ρ' : Operand → Value} (hρ : ∀ x, VRel J (ρ x) (ρ' x)) {o : Oper} {c a b : Operand} {v : Value} (ho : o.op = .pick c a b)
  (h : aPick ρ c a b = some v) : Gives P J ρ' o v := by
 unfold aPick at h
 have hc := hρ c
 split at h
 ·rename_i e
  rw [e] at hc
  cases h
  exact ⟨_, hρ a, fun w => by simp [execOp, ho, jee hc, asBool, rzB, rzC, Result.andThen]⟩
 ·rename_i e
  rw [e] at hc
  cases h
  exact ⟨_, hρ b, fun w => by simp [execOp, ho, jee hc, asBool, rzB, rzC, Result.andThen]⟩
 ·cases h
def jek (ρ : Operand → Value) (t : Operand) (i : Nat) : Option Value :=
 match ρ t with
 | .tuple vs => vs.toList[i]?
 | _ => none
theorem jfN {ρ ρ' : Operand → Value} (hρ : ∀ x, VRel J (ρ x) (ρ' x)) {o : Oper} {t : Operand} {i : Nat} {v : Value} (ho : o.op = .extract t i)
  (h : jek ρ t i = some v) : Gives P J ρ' o v := by
 unfold jek at h
 have hc := hρ t
 split at h
 ·rename_i vs e
  rw [e] at hc
  obtain ⟨x', hx', ha⟩ := tuple_inv hc
  obtain ⟨b, hb, hv⟩ := ha.get (i := i) (a := v) (by simpa using h)
  exact ⟨b, hv, fun w => by simp [execOp, ho, hx', Instr.extract, hb, rzB, rzC, Result.andThen]⟩
 ·cases h
def jdp (ρ : Operand → Value) (x : Operand) : Option Value :=
 match ρ x with
 | .pointer (some a) => some (.pointer (some a))
 | .iface t v => some (.iface t v)
 | .func (.func f) y z => some (.func (.func f) y z)
 | _ => none
theorem jfA {ρ ρ' : Operand → Value} (hρ : ∀ x, VRel J (ρ x) (ρ' x)) {o : Oper} {x : Operand} {v : Value} (ho : o.op = .nilCheck x)
  (h : jdp ρ x = some v) : Gives P J ρ' o v := by
 unfold jdp at h
 have hc := hρ x
 split at h
 ·rename_i a e
  rw [e] at hc
  cases h
  obtain ⟨a', ha', _⟩ := jdb hc
  rw [ha'] at hc
  exact ⟨_, hc, fun w => by simp [execOp, ho, ha', rzB, rzC, Result.andThen]⟩
 ·rename_i t y e
  rw [e] at hc
  cases h
  obtain ⟨a', ha', _⟩ := jdj hc
  rw [ha'] at hc
  exact ⟨_, hc, fun w => by simp [execOp, ho, ha', rzB, rzC, Result.andThen]⟩
 ·rename_i f y z e
  rw [e] at hc
  cases h
  generalize hq : ρ' x = q at hc
  cases hc with
  | func hf h1 h2 h3 h4 =>
    cases hf with
    | func f => exact ⟨_, .func (.func f) h1 h2 h3 h4, fun w => by simp [execOp, ho, hq, rzB, rzC, Result.andThen]⟩
 ·cases h
def jbq (P : Program) (ρ : Operand → Value) (t : TypeId) (x : Operand) : Option Value :=
 match P.underlying t with
 | some (.interface _) => none
 | some _ => match ρ x with
   | .chan _ => none
   | v => some (.iface t v)
 | none => none
theorem jeS {ρ ρ' : Operand → Value} (hρ : ∀ x, VRel J (ρ x) (ρ' x)) {o : Oper} {t : TypeId} {x : Operand} {v : Value} (ho : o.op = .makeInterface t x)
  (h : jbq P ρ t x = some v) : Gives P J ρ' o v := by
 unfold jbq at h
 split at h
 ·cases h
 ·rename_i d hni hd
  split at h
  ·cases h
  ·cases h
   have hc : P.concrete t = true := by
    unfold Program.concrete
    rw [hd]
    cases d <;> first | rfl | exact absurd rfl (hni _)
   exact ⟨_, .iface (hρ x), fun w => by simp [execOp, ho, run_makeInterface w t _ hc, rzB, rzC, Result.andThen]⟩
 ·cases h
theorem jjy {ρ ρ' : Operand → Value} (hρ : ∀ x, VRel J (ρ x) (ρ' x)) (l : Array Operand) : ARel J (l.toList.map ρ).toArray (l.map ρ') where
 size := by simp
 at_ i a b ha hb := by
  simp only [List.getElem?_toArray, List.getElem?_map, Array.getElem?_toList, Array.getElem?_map] at ha hb
  cases hl : l[i]? with
  | none => rw [hl] at ha; cases ha
  | some x =>
    rw [hl] at ha hb
    simp at ha hb
    subst ha hb
    exact hρ x
def jei (ρ : Operand → Value) (fn : Fn) (x y : Array Operand) : Option Value :=
 match fn with
 | .yield _ => none
 | _ => some (.func fn (x.toList.map ρ).toArray (y.toList.map ρ).toArray)
theorem jfE {ρ ρ' : Operand → Value} (hρ : ∀ x, VRel J (ρ x) (ρ' x)) {o : Oper} {fn : Fn} {x y : Array Operand} {v : Value} (ho : o.op = .makeFunc fn x y)
  (h : jei ρ fn x y = some v) : Gives P J ρ' o v := by
 have hx := jjy hρ x
 have hy := jjy hρ y
 unfold jei at h
 split at h
 ·cases h
 ·rename_i hny
  cases h
  have hf : FnRel J fn fn := by
   cases fn with
   | func f => exact .func f
   | method n => exact .method n
   | methodOf t n => exact .methodOf t n
   | via t p f b => exact .via t p f b
   | yield l => exact absurd rfl (hny l)
  exact ⟨_, .func hf hx.size hx.at_ hy.size hy.at_, fun w => by simp [execOp, ho, Instr.makeFunc, rzB, rzC, Result.andThen]⟩
def cut (l : List Value) (i n : Nat) : List Value := (l.drop i).take n
def aPart (P : Program) (t : TypeId) (cs : List Value) (off : Nat) : Option Value :=
 match P.underlying t with
 | some (.struct _) => match P.info? t with
   | some inf => some (.agg (cut cs off inf.size).toArray)
   | none => none
 | some (.array _ _) => match P.info? t with
   | some inf => some (.agg (cut cs off inf.size).toArray)
   | none => none
 | some _ => cs[off]?
 | none => none
theorem jeQ {x x' : Array Value} (h : ARel J x x') (i n : Nat) : ARel J (cut x.toList i n).toArray (x'.extract i (i + n)) where
 size := by simp [cut, h.size]; omega
 at_ k a b ha hb := by
  simp only [cut, List.getElem?_toArray, List.getElem?_take, List.getElem?_drop, Array.getElem?_toList] at ha
  rw [Array.getElem?_extract] at hb
  split at ha
  ·split at hb
   ·exact h.at_ _ _ _ ha hb
   ·cases hb
  ·cases ha
theorem ji9 {t : TypeId} {x x' : Array Value} {off : Nat} {v : Value} (hx : ARel J x x') (h : aPart P t x.toList off = some v) :
  ∃ v', VRel J v v' ∧ ∀ w, (part t x' off).run P w = .ok v' w := by
 unfold aPart at h
 split at h
 ·rename_i f hu
  split at h
  ·rename_i inf hinf
   cases h
   have := jeQ hx off inf.size
   exact ⟨_, .agg this.size this.at_, fun w => by simp [part, isAgg, rzB, jaw hu, rzA, rzC, ja2 hinf]⟩
  ·cases h
 ·rename_i n e hu
  split at h
  ·rename_i inf hinf
   cases h
   have := jeQ hx off inf.size
   exact ⟨_, .agg this.size this.at_, fun w => by simp [part, isAgg, rzB, jaw hu, rzA, rzC, ja2 hinf]⟩
  ·cases h
 ·rename_i d h1 h2 hu
  obtain ⟨b, hb, hv⟩ := hx.get (i := off) (a := v) (by simpa using h)
  refine ⟨b, hv, fun w => ?_⟩
  have hag : (isAgg t).run P w = .ok false w := by
   simp only [isAgg, rzB, jaw hu, rzA]
   cases d <;> first | rfl | exact absurd rfl (h1 _) | exact absurd rfl (h2 _ _)
  simp only [part, rzB, hag, rzA, Bool.false_eq_true, if_false, hb, rzC]
 ·cases h
def jjF (P : Program) (ρ : Operand → Value) (t : TypeId) (x : Operand) (f : Nat) : Option Value :=
 match ρ x with
 | .agg cs => match P.underlying t with
   | some (.struct fields) => match fields[f]? with
     | some fd => aPart P fd.type cs.toList fd.offset
     | none => none
   | _ => none
 | _ => none
theorem jhW {ρ ρ' : Operand → Value} (hρ : ∀ x, VRel J (ρ x) (ρ' x)) {o : Oper} {t : TypeId} {x : Operand} {f : Nat} {v : Value} (ho : o.op = .field t x f)
  (h : jjF P ρ t x f = some v) : Gives P J ρ' o v := by
 unfold jjF at h
 have hc := hρ x
 split at h
 ·rename_i cs e
  rw [e] at hc
  obtain ⟨x', hx', ha⟩ := agg_inv hc
  split at h
  ·rename_i fields hu
   split at h
   ·rename_i fd hfd
    obtain ⟨v', hv, hr⟩ := ji9 ha h
    exact ⟨v', hv, fun w => by simp only [execOp, ho, hx', Instr.field, rzB, jaw hu, rzA, hfd, asAgg, rzC, hr w]⟩
   ·cases h
  ·cases h
 ·cases h
def jaX (P : Program) (ρ : Operand → Value) (t : TypeId) (x ix : Operand) : Option Value :=
 match ρ x with
 | .agg cs => match ρ ix with
   | .int _ (.ofNat m) => match P.underlying t with
     | some (.array len e) => match Nat.blt m len with
       | true => match P.info? e with
         | some inf => aPart P e cs.toList (Nat.mul m inf.size)
         | none => none
       | false => none
     | _ => none
   | _ => none
 | .string s => match ρ ix with
   | .int _ (.ofNat m) => match P.underlying t with
     | some .string => match s.data.toList[m]? with
       | some b => some (.int .u8 b.toNat)
       | none => none
     | _ => none
   | _ => none
 | _ => none
theorem jhV {ρ ρ' : Operand → Value} (hρ : ∀ x, VRel J (ρ x) (ρ' x)) {o : Oper} {t : TypeId} {x ix : Operand} {v : Value} (ho : o.op = .index t x ix)
  (h : jaX P ρ t x ix = some v) : Gives P J ρ' o v := by
 unfold jaX at h
 have hc := hρ x
 have hi := hρ ix
 split at h
 ·rename_i cs e
  rw [e] at hc
  obtain ⟨x', hx', ha⟩ := agg_inv hc
  split at h
  ·rename_i k m ei
   rw [ei] at hi
   split at h
   ·rename_i len el hu
    split at h
    ·rename_i hb
     split at h
     ·rename_i inf hinf
      obtain ⟨v', hv, hr⟩ := ji9 ha h
      have hlt : m < len := by simpa using hb
      have h1 : (0 : Int) ≤ (Int.ofNat m) ∧ (Int.ofNat m) < (len : Int) := ⟨Int.natCast_nonneg m, by show (m : Int) < len; omega⟩
      exact ⟨v', hv, fun w => by
       simp only [execOp, ho, hx', ja4 hi, Instr.index, asIntOf, rzB, jaw hu, rzA, if_pos h1, ja2 hinf, rzC]
       rw [show Nat.mul m inf.size = (Int.ofNat m).toNat * inf.size from rfl] at hr
       simp only [hr w, rzA]⟩
     ·cases h
    ·cases h
   ·cases h
  ·cases h
 ·rename_i s e
  rw [e] at hc
  split at h
  ·rename_i k m ei
   rw [ei] at hi
   split at h
   ·rename_i hu
    split at h
    ·rename_i b hb
     cases h
     have hg : s[m]? = some b := by
      have : s.data[m]? = some b := by simpa using hb
      obtain ⟨h1, h2⟩ := Array.getElem?_eq_some_iff.1 this
      exact (getElem?_pos s m h1).trans (congrArg some h2)
     refine ⟨_, .int .u8 b.toNat, fun w => ?_⟩
     have h0 : (0 : Int) ≤ Int.ofNat m := Int.natCast_nonneg m
     have h2 : (if 0 ≤ Int.ofNat m then s[(Int.ofNat m).toNat]? else none) = some b := by rw [if_pos h0]; exact hg
     simp only [execOp, ho, jbE hc, ja4 hi, Instr.index, asIntOf, rzB, jaw hu, rzA, rzC, h2]
    ·cases h
   ·cases h
  ·cases h
 ·cases h
end
noncomputable section
variable {P : Program} {J : Nat → Loc}
def jc0 : List UInt8 → List UInt8 → Bool
 | [], [] => true
 | a :: x, b :: y => match Nat.beq a.toNat b.toNat with
   | true => jc0 x y
   | false => false
 | _, _ => false
theorem jeF : ∀ (x y : List UInt8), jc0 x y = (x == y) := by
 intro x
 induction x with
 | nil => intro y; cases y <;> rfl
 | cons a x ih =>
   intro y
   cases y with
   | nil => rfl
   | cons b y =>
     rw [jc0, List.cons_beq_cons]
     cases h : Nat.beq a.toNat b.toNat with
     | true =>
       have : a = b := UInt8.toNat_inj.1 (rzD h)
       subst this
       simp [ih]
     | false =>
       have : (a == b) = false := by
        rw [beq_eq_false_iff_ne]
        intro e; subst e
        rw [Nat.beq_refl] at h; cases h
       simp [this]
def aStr (op : BinOp) (a b : ByteArray) : Option Value :=
 match op with
 | .eql => some (.bool (jc0 a.data.toList b.data.toList))
 | .neq => some (.bool (!jc0 a.data.toList b.data.toList))
 | .lss => some (.bool (Op.bytesLess a.data.toList b.data.toList))
 | .geq => some (.bool (!Op.bytesLess a.data.toList b.data.toList))
 | .add => match Nat.blt (Nat.add a.data.toList.length b.data.toList.length) 4294967296 with
   | true => some (.string ⟨(a.data.toList ++ b.data.toList).toArray⟩)
   | false => none
 | _ => none
theorem aStr_run {op : BinOp} {t : TypeId} {x y : Operand} {a b : ByteArray} {v : Value} (h : aStr op a b = some v) (w : World) :
  (do eqGuard op t x y (.string a) (.string b); binOp op t (.string a) (.string b) : Sem Value).run P w = .ok v w := by
 have hg : (eqGuard op t x y (.string a) (.string b)).run P w = .ok () w := by
  unfold eqGuard
  split <;> rfl
 have e1 : (a.toList == b.toList) = jc0 a.data.toList b.data.toList := by rw [jeF, toList_data, toList_data]
 have e2 : Op.bytesLess a.toList b.toList = Op.bytesLess a.data.toList b.data.toList := by rw [toList_data, toList_data]
 simp only [rzB, hg, rzA]
 unfold aStr at h
 split at h
 ·cases h; simp only [binOp, Op.stringOp, e1]; rfl
 ·cases h; simp only [binOp, Op.stringOp, e1]; rfl
 ·cases h; simp only [binOp, Op.stringOp, e2]; rfl
 ·cases h; simp only [binOp, Op.stringOp, e2]; rfl
 ·split at h
  ·rename_i hl
   cases h
   have hl' : a.size + b.size < 4294967296 := by
    have : a.data.toList.length + b.data.toList.length < 4294967296 := by simpa using hl
    simpa using this
   have hm : ¬ (((a.size + b.size : Nat) : Int) > IntKind.i64.max) := by
    have : IntKind.i64.max = 9223372036854775807 := by decide
    omega
   simp only [binOp, Op.stringOp, if_neg hm]
   have : a ++ b = ⟨(a.data.toList ++ b.data.toList).toArray⟩ := by
    show ByteArray.append a b = _
    rfl
   rw [this]; rfl
  ·cases h
 ·cases h
def aNil (P : Program) (t : TypeId) (a b : Value) : Bool :=
 match a, b with
 | .pointer (some _), .pointer none => match P.underlying t with
   | some (.pointer _) => true
   | _ => false
 | .pointer none, .pointer (some _) => match P.underlying t with
   | some (.pointer _) => true
   | _ => false
 | .slice (some _) _ _, .slice none _ _ => match P.underlying t with
   | some (.slice _) => true
   | _ => false
 | .slice none _ _, .slice (some _) _ _ => match P.underlying t with
   | some (.slice _) => true
   | _ => false
 | .func _ _ _, .nilFunc => match P.underlying t with
   | some (.func _ _ _) => true
   | _ => false
 | .iface _ _, .nilIface => match P.underlying t with
   | some (.interface _) => true
   | _ => false
 | .nilIface, .iface _ _ => match P.underlying t with
   | some (.interface _) => true
   | _ => false
 | .map (some _), .map none => match P.underlying t with
   | some (.map _ _) => true
   | _ => false
 | _, _ => false
theorem nil_in {t : TypeId} {a b a' b' : Value} (ha : VRel J a a') (hb : VRel J b b') (h : aNil P t a b = true) (w : World) (d : Nat) :
  (Op.equalIn (d + 1) t a' b').run P w = .ok false w := by
 unfold aNil at h
 split at h
 ·split at h
  ·rename_i e hu
   obtain ⟨p, rfl, _⟩ := jdb ha
   cases hb
   simp only [Op.equalIn, rzB, jaw hu, rzA]; rfl
  ·cases h
 ·split at h
  ·rename_i e hu
   obtain ⟨p, rfl, _⟩ := jdb hb
   cases ha
   simp only [Op.equalIn, rzB, jaw hu, rzA]; rfl
  ·cases h
 ·split at h
  ·rename_i e hu
   obtain ⟨p, c, rfl, _⟩ := jbh ha
   cases hb
   simp only [Op.equalIn, rzB, jaw hu, rzA]; rfl
  ·cases h
 ·split at h
  ·rename_i e hu
   obtain ⟨p, c, rfl, _⟩ := jbh hb
   cases ha
   simp only [Op.equalIn, rzB, jaw hu, rzA]; rfl
  ·cases h
 ·split at h
  ·rename_i e hu
   cases ha
   cases hb
   simp only [Op.equalIn, rzB, jaw hu, rzA]; rfl
  ·cases h
 ·split at h
  ·rename_i e hu
   obtain ⟨p, rfl, _⟩ := jdj ha
   cases hb
   simp only [Op.equalIn, rzB, jaw hu, rzA]; rfl
  ·cases h
 ·split at h
  ·rename_i e hu
   obtain ⟨p, rfl, _⟩ := jdj hb
   cases ha
   simp only [Op.equalIn, rzB, jaw hu, rzA]; rfl
  ·cases h
 ·split at h
  ·rename_i e hu
   cases hb
   cases ha
   all_goals (simp only [Op.equalIn, rzB, jaw hu, rzA]; rfl)
  ·cases h
 ·cases h
theorem nil_bin {t : TypeId} {a b a' b' : Value} (ha : VRel J a a') (hb : VRel J b b') (h : aNil P t a b = true) :
  (∀ op x y w, (eqGuard op t x y a' b').run P w = .ok () w) ∧ binOp .eql t a' b' = (do pure (.bool (← Op.equal t a' b'))) ∧
   binOp .neq t a' b' = (do pure (.bool (!(← Op.equal t a' b')))) := by
 have hg : ∀ (u v : Value), (∀ x y, u = .agg x → v = .agg y → False) → (u = .nilIface → v = .nilIface → False) → ∀ op x y w, (eqGuard op t x y u v).run P w = .ok () w := by
  intro u v h1 h2 op x y w
  unfold eqGuard
  split
  all_goals
   first
    | rfl
    | (simp only [Bool.not_true, Bool.false_eq_true, if_false]
       rfl)
 unfold aNil at h
 split at h
 ·obtain ⟨p, rfl, _⟩ := jdb ha; cases hb; exact ⟨hg _ _ (fun _ _ e => by cases e) (fun e => by cases e), rfl, rfl⟩
 ·obtain ⟨p, rfl, _⟩ := jdb hb; cases ha; exact ⟨hg _ _ (fun _ _ e => by cases e) (fun e => by cases e), rfl, rfl⟩
 ·obtain ⟨p, c, rfl, _⟩ := jbh ha; cases hb; exact ⟨hg _ _ (fun _ _ e => by cases e) (fun e => by cases e), rfl, rfl⟩
 ·obtain ⟨p, c, rfl, _⟩ := jbh hb; cases ha; exact ⟨hg _ _ (fun _ _ e => by cases e) (fun e => by cases e), rfl, rfl⟩
 ·cases ha; cases hb; exact ⟨hg _ _ (fun _ _ e => by cases e) (fun e => by cases e), rfl, rfl⟩
 ·obtain ⟨p, rfl, _⟩ := jdj ha; cases hb; exact ⟨hg _ _ (fun _ _ e => by cases e) (fun e => by cases e), rfl, rfl⟩
 ·obtain ⟨p, rfl, _⟩ := jdj hb; cases ha; exact ⟨hg _ _ (fun _ _ e => by cases e) (fun _ e => by cases e), rfl, rfl⟩
 ·cases hb
  cases ha
  ·exact ⟨hg _ _ (fun _ _ e => by cases e) (fun e => by cases e), rfl, rfl⟩
  ·exact ⟨hg _ _ (fun _ _ e => by cases e) (fun e => by cases e), rfl, rfl⟩
 ·cases h
theorem jjC {t : TypeId} {a b a' b' : Value} (ha : VRel J a a') (hb : VRel J b b') (h : aNil P t a b = true) (w : World) :
  (Op.equal t a' b').run P w = .ok false w ∧ (∀ op x y, (eqGuard op t x y a' b').run P w = .ok () w) ∧ binOp .eql t a' b' = (do pure (.bool (← Op.equal t a' b'))) ∧
   binOp .neq t a' b' = (do pure (.bool (!(← Op.equal t a' b')))) :=
 let ⟨r1, r2, r3⟩ := nil_bin ha hb h
 ⟨nil_in ha hb h w 9999, fun op x y => r1 op x y w, r2, r3⟩
def jak (k : IntKind) (n : Int) : Int :=
 match n with
 | .ofNat m => match k with
   | .i64 => match Nat.blt m 9223372036854775808 with
     | true => .ofNat m
     | false => k.wrap (.ofNat m)
   | .u64 => match Nat.blt m 18446744073709551616 with
     | true => .ofNat m
     | false => k.wrap (.ofNat m)
   | _ => k.wrap (.ofNat m)
 | .negSucc m => k.wrap (.negSucc m)
theorem jbu (k : IntKind) (n : Int) : jak k n = k.wrap n := by
 unfold jak
 split
 ·rename_i m
  split
  ·split
   ·rename_i h
    have h' : m < 9223372036854775808 := by simpa using h
    simp [IntKind.wrap, IntKind.bits, IntKind.signed]
    split <;> omega
   ·rfl
  ·split
   ·rename_i h
    have h' : m < 18446744073709551616 := by simpa using h
    simp [IntKind.wrap, IntKind.bits, IntKind.signed]
    omega
   ·rfl
  ·rfl
 ·rfl
def ieq (a b : Int) : Bool :=
 match a, b with
 | .ofNat m, .ofNat n => Nat.beq m n
 | .negSucc m, .negSucc n => Nat.beq m n
 | _, _ => false
theorem jc5 (a b : Int) : ieq a b = (a == b) := by
 unfold ieq
 split
 ·rename_i m n
  apply Bool.eq_iff_iff.2
  simp
  omega
 ·rename_i m n
  apply Bool.eq_iff_iff.2
  simp
 ·rename_i h1 h2
  cases a <;> cases b <;> first
   | exact absurd rfl (h1 _ _ rfl)
   | exact absurd rfl (h2 _ _ rfl)
   | rfl
def ilt (a b : Int) : Bool :=
 match a, b with
 | .ofNat m, .ofNat n => Nat.blt m n
 | .negSucc m, .negSucc n => Nat.blt n m
 | .negSucc _, .ofNat _ => true
 | .ofNat _, .negSucc _ => false
theorem jfZ (a b : Int) : ilt a b = decide (a < b) := by
 cases a with
 | ofNat m =>
   cases b with
   | ofNat n => simp only [ilt]; apply Bool.eq_iff_iff.2; simp
   | negSucc n => simp only [ilt]; rw [eq_comm, decide_eq_false_iff_not]; simp only [Int.ofNat_eq_natCast]; omega
 | negSucc m =>
   cases b with
   | ofNat n => simp only [ilt]; rw [eq_comm, decide_eq_true_eq]; simp only [Int.ofNat_eq_natCast]; omega
   | negSucc n => simp only [ilt]; apply Bool.eq_iff_iff.2; simp; omega
def jcB (k : IntKind) : Bool :=
 match k with
 | .i64 => true
 | .u64 => true
 | _ => false
theorem jdD {k : IntKind} (h : jcB k = true) : k.bits = 64 := by
 cases k <;> first | rfl | (cases h)
def jbA (f : Nat → Nat → Nat) (k k' : IntKind) (a b : Int) : Option Value :=
 match decide (k = k') with
 | false => none
 | true => match jcB k with
   | false => none
   | true => match a, b with
     | .ofNat m, .ofNat n => match Nat.blt m 18446744073709551616 with
       | false => none
       | true => match Nat.blt n 18446744073709551616 with
         | false => none
         | true => some (.int k (jak k (.ofNat (f m n))))
     | _, _ => none
theorem jeK {f : Nat → Nat → Nat} {k k' : IntKind} {a b : Int} {v : Value} (h : jbA f k k' a b = some v) :
  k = k' ∧ ∃ m n : Nat, a = .ofNat m ∧ b = .ofNat n ∧ (BitVec.ofInt k.bits a).toNat = m ∧ (BitVec.ofInt k.bits b).toNat = n ∧ v = .int k (k.wrap (.ofNat (f m n))) := by
 unfold jbA at h
 split at h
 ·cases h
 ·rename_i hk
  split at h
  ·cases h
  ·rename_i hw
   split at h
   ·rename_i m n
    split at h
    ·cases h
    ·rename_i h1
     split at h
     ·cases h
     ·rename_i h2
      cases h
      have h1' : m < 18446744073709551616 := by simpa using h1
      have h2' : n < 18446744073709551616 := by simpa using h2
      refine ⟨of_decide_eq_true hk, m, n, rfl, rfl, ?_, ?_, by rw [jbu]⟩
      ·rw [jdD hw]
       show (BitVec.ofInt 64 (m : Int)).toNat = m
       rw [BitVec.ofInt_natCast, BitVec.toNat_ofNat]
       exact Nat.mod_eq_of_lt h1'
      ·rw [jdD hw]
       show (BitVec.ofInt 64 (n : Int)).toNat = n
       rw [BitVec.ofInt_natCast, BitVec.toNat_ofNat]
       exact Nat.mod_eq_of_lt h2'
   ·cases h
def jaQ (left : Bool) (k : IntKind) (a b : Int) : Option Value :=
 match jcB k with
 | false => none
 | true => match a, b with
   | .ofNat m, .ofNat y => match Nat.ble y 64 with
     | false => none
     | true => match left with
       | true => some (.int k (jak k (.ofNat (Nat.mul m (Nat.pow 2 y)))))
       | false => some (.int k (.ofNat (Nat.div m (Nat.pow 2 y))))
   | _, _ => none
theorem jfz {left : Bool} {k : IntKind} {a b : Int} {v : Value} (h : jaQ left k a b = some v) : ∃ m y : Nat, a = .ofNat m ∧ b = .ofNat y ∧ y ≤ k.bits ∧
  v = (if left then .int k (k.wrap (.ofNat (m * 2 ^ y))) else .int k (.ofNat (m / 2 ^ y))) := by
 unfold jaQ at h
 split at h
 ·cases h
 ·rename_i hw
  split at h
  ·rename_i m y
   split at h
   ·cases h
   ·rename_i hy
    have hy' : y ≤ 64 := rzE hy
    refine ⟨m, y, rfl, rfl, by rw [jdD hw]; exact hy', ?_⟩
    split at h
    ·cases h; rw [jbu]; rfl
    ·cases h; rfl
  ·cases h
def aDiv (rem : Bool) (k k' : IntKind) (a b : Int) : Option Value :=
 match decide (k = k') with
 | false => none
 | true => match a, b with
   | .ofNat m, .ofNat n => match n with
     | 0 => none
     | n + 1 => match rem with
       | true => some (.int k (.ofNat (Nat.mod m (Nat.succ n))))
       | false => some (.int k (jak k (.ofNat (Nat.div m (Nat.succ n)))))
   | .negSucc m, .ofNat n => match n with
     | 0 => none
     | n + 1 => match rem with
       | true => some (.int k (Int.neg (.ofNat (Nat.mod (Nat.succ m) (Nat.succ n)))))
       | false => none
   | _, _ => none
theorem jhY {rem : Bool} {k k' : IntKind} {a b : Int} {v : Value} (h : aDiv rem k k' a b = some v) : k = k' ∧ ∃ n : Nat, b = .ofNat (n + 1) ∧
  v = (if rem then .int k (a.tmod b) else .int k (k.wrap (a.tdiv b))) := by
 unfold aDiv at h
 split at h
 ·cases h
 ·rename_i hk
  split at h
  ·split at h
   ·cases h
   ·refine ⟨of_decide_eq_true hk, _, rfl, ?_⟩
    split at h
    ·cases h; rfl
    ·cases h; rw [jbu]; rfl
  ·split at h
   ·cases h
   ·refine ⟨of_decide_eq_true hk, _, rfl, ?_⟩
    split at h
    ·cases h; rfl
    ·cases h
  ·cases h
def aInt (op : BinOp) (k k' : IntKind) (a b : Int) : Option Value :=
 match op with
 | .shl => jaQ true k a b
 | .shr => jaQ false k a b
 | .quo => aDiv false k k' a b
 | .rem => aDiv true k k' a b
 | .and => jbA Nat.land k k' a b
 | .or => jbA Nat.lor k k' a b
 | .xor => jbA Nat.xor k k' a b
 | .add => match decide (k = k') with
   | true => some (.int k (jak k (Int.add a b)))
   | false => none
 | .sub => match decide (k = k') with
   | true => some (.int k (jak k (Int.sub a b)))
   | false => none
 | .mul => match decide (k = k') with
   | true => some (.int k (jak k (Int.mul a b)))
   | false => none
 | .eql => match decide (k = k') with
   | true => some (.bool (ieq a b))
   | false => none
 | .neq => match decide (k = k') with
   | true => some (.bool (!(ieq a b)))
   | false => none
 | .lss => match decide (k = k') with
   | true => some (.bool (ilt a b))
   | false => none
 | .geq => match decide (k = k') with
   | true => some (.bool (!(ilt a b)))
   | false => none
 | .gtr => match decide (k = k') with
   | true => some (.bool (ilt b a))
   | false => none
 | .leq => match decide (k = k') with
   | true => some (.bool (!(ilt b a)))
   | false => none
 | _ => none
theorem jjD {op : BinOp} {k k' : IntKind} {a b : Int} {v : Value} (h : aInt op k k' a b = some v) (t : TypeId) (w : World) :
  (binOp op t (.int k a) (.int k' b)).run P w = .ok v w ∧ ((∃ n, v = .int k n) ∨ ∃ c, v = .bool c) := by
 unfold aInt at h
 split at h <;> first | (cases h; done) | skip
 ·obtain ⟨m, y, rfl, rfl, hy, rfl⟩ := jfz h
  refine ⟨?_, .inl ⟨_, rfl⟩⟩
  have hm : min (Int.ofNat y).toNat k.bits = y := Nat.min_eq_left hy
  have hn : ¬ (Int.ofNat y < 0) := by simp
  simp only [binOp, Op.shift, if_neg hn, hm, rzC, if_true]
  have : (Int.ofNat m) * 2 ^ y = Int.ofNat (m * 2 ^ y) := by simp
  rw [this]
 ·obtain ⟨m, y, rfl, rfl, hy, rfl⟩ := jfz h
  refine ⟨?_, .inl ⟨_, rfl⟩⟩
  have hm : min (Int.ofNat y).toNat k.bits = y := Nat.min_eq_left hy
  have hn : ¬ (Int.ofNat y < 0) := by simp
  simp only [binOp, Op.shift, if_neg hn, hm, rzC, Bool.false_eq_true, if_false]
  have : (Int.ofNat m).fdiv (2 ^ y) = Int.ofNat (m / 2 ^ y) := by
   rw [Int.fdiv_eq_ediv_of_nonneg _ (by exact Int.pow_nonneg (by decide))]
   simp
  rw [this]
 ·obtain ⟨rfl, n, rfl, rfl⟩ := jhY h
  refine ⟨?_, .inl ⟨_, rfl⟩⟩
  have hn : ¬ (Int.ofNat (n + 1) = 0) := by simp; omega
  simp only [binOp, ne_eq, not_true_eq_false, if_false, Op.intDiv, if_neg hn, rzC, Bool.false_eq_true]
 ·obtain ⟨rfl, n, rfl, rfl⟩ := jhY h
  refine ⟨?_, .inl ⟨_, rfl⟩⟩
  have hn : ¬ (Int.ofNat (n + 1) = 0) := by simp; omega
  simp only [binOp, ne_eq, not_true_eq_false, if_false, Op.intDiv, if_neg hn, rzC, if_true]
 ·obtain ⟨rfl, m, n, rfl, rfl, e1, e2, rfl⟩ := jeK h
  refine ⟨?_, .inl ⟨_, rfl⟩⟩
  simp only [binOp, ne_eq, not_true_eq_false, if_false, Op.intBits, rzC, BitVec.toNat_and, e1, e2]
  rfl
 ·obtain ⟨rfl, m, n, rfl, rfl, e1, e2, rfl⟩ := jeK h
  refine ⟨?_, .inl ⟨_, rfl⟩⟩
  simp only [binOp, ne_eq, not_true_eq_false, if_false, Op.intBits, rzC, BitVec.toNat_or, e1, e2]
  rfl
 ·obtain ⟨rfl, m, n, rfl, rfl, e1, e2, rfl⟩ := jeK h
  refine ⟨?_, .inl ⟨_, rfl⟩⟩
  simp only [binOp, ne_eq, not_true_eq_false, if_false, Op.intBits, rzC, BitVec.toNat_xor, e1, e2]
  rfl
 all_goals
  split at h <;> first | (cases h; done) | skip
  rename_i hk
  have hk' : k = k' := of_decide_eq_true hk
  subst hk'
  cases h
 ·exact ⟨by simp only [binOp, ne_eq, not_true_eq_false, if_false, Op.intArith, rzC, jbu]; rfl, .inl ⟨_, rfl⟩⟩
 ·exact ⟨by simp only [binOp, ne_eq, not_true_eq_false, if_false, Op.intArith, rzC, jbu]; rfl, .inl ⟨_, rfl⟩⟩
 ·exact ⟨by simp only [binOp, ne_eq, not_true_eq_false, if_false, Op.intArith, rzC, jbu]; rfl, .inl ⟨_, rfl⟩⟩
 ·exact ⟨by simp only [binOp, ne_eq, not_true_eq_false, if_false, Op.intCmp, rzC, jc5], .inr ⟨_, rfl⟩⟩
 ·exact ⟨by simp only [binOp, ne_eq, not_true_eq_false, if_false, Op.intCmp, rzC, jc5]; rfl, .inr ⟨_, rfl⟩⟩
 ·exact ⟨by simp only [binOp, ne_eq, not_true_eq_false, if_false, Op.intCmp, rzC, jfZ], .inr ⟨_, rfl⟩⟩
 ·refine ⟨?_, .inr ⟨_, rfl⟩⟩
  simp only [binOp, ne_eq, not_true_eq_false, if_false, Op.intCmp, rzC, jfZ, ge_iff_le]
  rw [show (!decide (a < b)) = decide (b ≤ a) by simp [← decide_not]]
 ·exact ⟨by simp only [binOp, ne_eq, not_true_eq_false, if_false, Op.intCmp, rzC, jfZ, gt_iff_lt], .inr ⟨_, rfl⟩⟩
 ·refine ⟨?_, .inr ⟨_, rfl⟩⟩
  simp only [binOp, ne_eq, not_true_eq_false, if_false, Op.intCmp, rzC, jfZ]
  rw [show (!decide (b < a)) = decide (a ≤ b) by simp [← decide_not]]
def aBin (P : Program) (ρ : Operand → Value) (o : Oper) (op : BinOp) (t : TypeId) (x y : Operand) : Option Value :=
 match ρ x, ρ y with
 | .string a, .string b => aStr op a b
 | .int k a, .int k' b => match aInt op k k' a b with
   | some v => some v
   | none => match pv P (binOp op t (.int k a) (.int k' b)) with
     | some (.int k n) => some (.int k n)
     | some (.bool b) => some (.bool b)
     | _ => none
 | a, b => match aNil P t a b with
   | true => match op with
     | .eql => some (.bool false)
     | .neq => some (.bool true)
     | _ => none
   | false => jaH P ρ o
theorem jku {ρ ρ' : Operand → Value} (hρ : ∀ x, VRel J (ρ x) (ρ' x)) {o : Oper} {op : BinOp} {t yt : TypeId} {x y : Operand} {v : Value} (ho : o.op = .binOp op t x y yt)
  (h : aBin P ρ o op t x y = some v) : Gives P J ρ' o v := by
 unfold aBin at h
 have hx := hρ x
 have hy := hρ y
 split at h
 ·rename_i a b e1 e2
  rw [e1] at hx
  rw [e2] at hy
  refine ⟨v, ?_, fun w => ?_⟩
  ·unfold aStr at h
   split at h
   ·cases h; exact .bool _
   ·cases h; exact .bool _
   ·cases h; exact .bool _
   ·cases h; exact .bool _
   ·split at h
    ·cases h; exact .string _
    ·cases h
   ·cases h
  ·have := aStr_run (P := P) (t := t) (x := x) (y := y) h w
   simp only [execOp, ho, jbE hx, jbE hy, rzB (P := P)] at this ⊢
   rw [this]; rfl
 ·rename_i k a k' b e1 e2
  rw [e1] at hx
  rw [e2] at hy
  have hg : ∀ w, (eqGuard op t x y (.int k a) (.int k' b)).run P w = .ok () w := fun w => by unfold eqGuard; split <;> rfl
  split at h
  ·rename_i v1 hi
   cases h
   have fin : ∀ w, (execOp ρ' o).run P w = .ok (.value v) w := fun w => by simp only [execOp, ho, ja4 hx, ja4 hy, rzB, hg w, rzA, (jjD (P := P) hi t w).1, rzC]
   rcases (jjD (P := P) hi t default).2 with ⟨m, e⟩ | ⟨c, e⟩
   ·exact ⟨v, by rw [e]; exact .int _ _, fin⟩
   ·exact ⟨v, by rw [e]; exact .bool _, fin⟩
  ·split at h
   ·rename_i k2 n hp
    cases h
    exact ⟨_, .int k2 n, fun w => by simp only [execOp, ho, ja4 hx, ja4 hy, rzB, hg w, rzA, pv_run hp w, rzC]⟩
   ·rename_i c hp
    cases h
    exact ⟨_, .bool c, fun w => by simp only [execOp, ho, ja4 hx, ja4 hy, rzB, hg w, rzA, pv_run hp w, rzC]⟩
   ·cases h
 ·rename_i _ _ e1 e2
  split at h
  ·rename_i hn
   split at h
   ·cases h
    refine ⟨_, .bool false, fun w => ?_⟩
    obtain ⟨r1, r2, r3, r4⟩ := jjC hx hy hn w
    simp only [execOp, ho, rzB, r2, rzA, r3, r1, rzC]
   ·cases h
    refine ⟨_, .bool true, fun w => ?_⟩
    obtain ⟨r1, r2, r3, r4⟩ := jjC hx hy hn w
    simp only [execOp, ho, rzB, r2, rzA, r4, r1, rzC, Bool.not_false]
   ·cases h
  ·exact jce hρ h
end
noncomputable section
variable {P : Program} {J : Nat → Loc}
def jbD (ρ : Operand → Value) (v : Option Operand) (dflt y : Nat) : Option Nat :=
 match v with
 | none => some dflt
 | some x => match ρ x with
   | .int _ (.ofNat m) => match Nat.ble m y with
     | true => some m
     | false => none
   | _ => none
theorem jdW {ρ ρ' : Operand → Value} (hρ : ∀ x, VRel J (ρ x) (ρ' x)) {x : Operand} {d y y' m : Nat} (h : jbD ρ (some x) d y = some m) (hy : y ≤ y') (c : BoundsCode) (w : World) :
  (Instr.sliceBound (ρ' x) y' c).run P w = .ok m w ∧ m ≤ y := by
 unfold jbD at h
 have hx := hρ x
 simp only at h
 split at h
 ·rename_i k n e
  rw [e] at hx
  split at h
  ·rename_i hb
   cases h
   have hm : m ≤ y := rzE hb
   refine ⟨?_, hm⟩
   have h1 : (0 : Int) ≤ Int.ofNat m ∧ Int.ofNat m ≤ (y' : Int) := ⟨Int.natCast_nonneg m, by show (m : Int) ≤ y'; omega⟩
   simp only [Instr.sliceBound, ja4 hx, asIntOf, rzB, rzC, rzA, if_pos h1]
   rfl
  ·cases h
 ·cases h
def jbb (ρ : Operand → Value) (len cap : Nat) (lo hi mx : Option Operand) : Option (Nat × Nat × Nat) :=
 match jbD ρ mx cap cap with
 | none => none
 | some m => match hi with
   | none => match mx with
     | some _ => none
     | none => match jbD ρ lo 0 len with
       | some l => some (l, len, m)
       | none => none
   | some x => match jbD ρ (some x) 0 m with
     | none => none
     | some h => match jbD ρ lo 0 h with
       | some l => some (l, h, m)
       | none => none
theorem jid {ρ ρ' : Operand → Value} (hρ : ∀ x, VRel J (ρ x) (ρ' x)) {lo : Option Operand} {hh l : Nat} (hl : jbD ρ lo 0 hh = some l) (c : BoundsCode) (w : World)
  (K : Nat → Sem (Nat × Nat × Nat)) :
  (match lo.map ρ' with
   | some v => do let l ← Instr.sliceBound v hh c; K l
   | none => do let l ← pure 0; K l : Sem (Nat × Nat × Nat)).run P w = (K l).run P w ∧ l ≤ hh := by
 cases lo with
 | none => simp only [jbD] at hl; cases hl; exact ⟨rfl, Nat.zero_le _⟩
 | some x =>
   obtain ⟨r, hle⟩ := jdW (P := P) hρ hl (Nat.le_refl _) c w
   refine ⟨?_, hle⟩
   simp only [Option.map_some, rzB, r, rzA]
theorem jca {ρ ρ' : Operand → Value} (hρ : ∀ x, VRel J (ρ x) (ρ' x)) {len cap cap' : Nat} {lo hi mx : Option Operand} {l h m : Nat}
  (hb : jbb ρ len cap lo hi mx = some (l, h, m)) (hc : cap ≤ cap') (isS : Bool) (w : World) :
  ∃ m', (Instr.sliceBounds isS len cap' (lo.map ρ') (hi.map ρ') (mx.map ρ')).run P w = .ok (l, h, m') w ∧ (mx.isSome = true → m' = m) ∧ (mx = none → m' = cap') ∧ l ≤ h ∧
   (hi = none → h = len) ∧ (hi.isSome = true → h ≤ m) ∧ m ≤ cap := by
 unfold jbb at hb
 split at hb
 ·cases hb
 ·rename_i m0 hm0
  have hm : ∃ m', (match mx.map ρ' with | some v => Instr.sliceBound v cap' (if isS then .slice3Acap else .slice3Alen) | none => pure cap' : Sem Nat).run P w = .ok m' w ∧
    (mx.isSome = true → m' = m0) ∧ (mx = none → m' = cap') ∧ m0 ≤ cap ∧ m0 ≤ m' := by
   cases mx with
   | none =>
     simp only [jbD] at hm0
     cases hm0
     exact ⟨cap', rfl, fun h => by simp at h, fun _ => rfl, Nat.le_refl _, hc⟩
   | some x =>
     obtain ⟨r, hle⟩ := jdW (P := P) hρ hm0 hc (if isS then .slice3Acap else .slice3Alen) w
     exact ⟨m0, r, fun _ => rfl, fun h => by simp at h, hle, Nat.le_refl _⟩
  obtain ⟨m', hr, h1, h2, h3, h4⟩ := hm
  split at hb
  ·split at hb
   ·cases hb
   ·split at hb
    ·rename_i l' hl
     cases hb
     obtain ⟨r, hle⟩ := jid (P := P) hρ hl .sliceB w (fun l => pure (l, len, m'))
     refine ⟨m', ?_, h1, h2, hle, fun _ => rfl, fun h => by simp at h, h3⟩
     simp only [Option.map_none] at hr
     unfold Instr.sliceBounds
     simp only [Option.map_none, rzB, hr, rzA, rzC, Option.isSome_none, Bool.false_eq_true, if_false]
     exact r
    ·cases hb
  ·rename_i x
   split at hb
   ·cases hb
   ·rename_i hh hhh
    split at hb
    ·rename_i l' hl
     cases hb
     cases mx with
     | none =>
       obtain ⟨r, hle⟩ := jid (P := P) hρ hl .sliceB w (fun l => pure (l, h, m'))
       obtain ⟨r2, hle2⟩ := jdW (P := P) hρ hhh (y' := m') h4 (if isS then .sliceAcap else .sliceAlen) w
       refine ⟨m', ?_, h1, h2, hle, fun h => by simp at h, fun _ => hle2, h3⟩
       simp only [Option.map_none] at hr
       unfold Instr.sliceBounds
       simp only [Option.map_none, Option.map_some, rzB, hr, rzA, rzC, Option.isSome_none, Bool.false_eq_true, if_false, r2]
       exact r
     | some mxo =>
       obtain ⟨r, hle⟩ := jid (P := P) hρ hl .slice3C w (fun l => pure (l, h, m'))
       obtain ⟨r2, hle2⟩ := jdW (P := P) hρ hhh (y' := m') h4 .slice3B w
       refine ⟨m', ?_, h1, h2, hle, fun h => by simp at h, fun _ => hle2, h3⟩
       simp only [Option.map_some] at hr
       unfold Instr.sliceBounds
       simp only [Option.map_some, rzB, hr, rzA, rzC, Option.isSome_some, if_true, r2]
       exact r
    ·cases hb
theorem jfw {ρ : Operand → Value} {len cap : Nat} {lo hi : Option Operand} {l h m : Nat} (hb : jbb ρ len cap lo hi none = some (l, h, m)) : m = cap := by
 simp only [jbb, jbD] at hb
 split at hb
 ·split at hb <;> simp at hb; exact hb.2.2.symm
 ·split at hb
  ·cases hb
  ·split at hb <;> simp at hb; exact hb.2.2.symm
def emptyAt (P : Program) : Value := .slice (some ⟨P.globals.size, 0, none⟩) 0 1
def isSome {α : Type} : Option α → Bool
 | some _ => true
 | none => false
def ja0 (P : Program) (ρ : Operand → Value) (t : TypeId) (x : Operand) (lo hi mx : Option Operand) : Option Value :=
 match ρ x with
 | .slice (some a) len c => match P.underlying t with
   | some (.slice e) => match P.info? e with
     | some inf => match Nat.beq (Nat.mod c 2) 0 with
       | true => match jbb ρ len (Nat.div c 2) lo hi mx with
         | some (l, h, m) => some (.slice (some (match Nat.beq m l with | true => a | false => a.add (Nat.mul l inf.size))) (Nat.sub h l) (Nat.mul 2 (Nat.sub m l)))
         | none => none
       | false => match jbb ρ len len lo hi mx with
         | some (l, h, m) => match isSome mx with
           | true => some (.slice (some (match Nat.beq m l with | true => a | false => a.add (Nat.mul l inf.size))) (Nat.sub h l) (Nat.mul 2 (Nat.sub m l)))
           | false => match Nat.beq l 0 with
             | true => some (.slice (some a) h c)
             | false => match Nat.blt l len with
               | true => match Nat.beq (Nat.div c 2) inf.size with
                 | true => some (.slice (some (a.add (Nat.mul l inf.size))) (Nat.sub h l) c)
                 | false => none
               | false => some (emptyAt P)
         | none => none
     | none => none
   | _ => none
 | .pointer (some a) => match P.underlying t with
   | some (.array n e) => match P.info? e with
     | some inf => match jbb ρ n n lo hi mx with
       | some (l, h, m) => some (.slice (some (match Nat.beq m l with | true => a | false => a.add (Nat.mul l inf.size))) (Nat.sub h l) (Nat.mul 2 (Nat.sub m l)))
       | none => none
     | none => none
   | _ => none
 | .string s => match P.underlying t with
   | some .string => match mx with
     | some _ => none
     | none => match jbb ρ s.data.toList.length s.data.toList.length lo hi none with
       | some (l, h, _) => some (.string ⟨((s.data.toList.drop l).take (Nat.sub h l)).toArray⟩)
       | none => none
   | _ => none
 | .slice none l c => match Nat.beq (Nat.add l c) 0 with
   | true => match P.underlying t with
     | some (.slice e) => match P.info? e with
       | some _ => match jbb ρ 0 0 lo hi mx with
         | some _ => some (.slice none 0 0)
         | none => none
       | none => none
     | _ => none
   | false => none
 | _ => none
theorem jg7 {l c : Nat} {v : Value} (h : VRel J (.slice none l c) v) : v = .slice none l c := by
 cases h
 rfl
theorem je9 {a a' : Addr} {i o b s : Nat} (ha : a = ⟨i, o, none⟩) (ha' : a' = ⟨b, o, none⟩) (hJ : J i = .at b s) {l h m z : Nat} :
  VRel J (.slice (some (match Nat.beq m l with | true => a | false => a.add (Nat.mul l z))) (Nat.sub h l) (Nat.mul 2 (Nat.sub m l)))
   (.slice (some (if m = l then a' else a'.add (l * z))) (h - l) (m - l)) := by
 subst ha ha'
 have hc : ∀ off, CapRel (2 * (m - l)) (m - l) (h - l) off s := fun off => .inl ⟨by omega, by omega⟩
 cases hb : Nat.beq m l with
 | true =>
   have : m = l := rzD hb
   rw [if_pos this]
   exact .slice hJ (hc _)
 | false =>
   have : m ≠ l := rzF hb
   rw [if_neg this]
   show VRel J (.slice (some (Addr.add _ (l * z))) _ _) _
   unfold Addr.add
   by_cases hz : l * z = 0
   ·rw [if_pos hz, if_pos hz]; exact .slice hJ (hc _)
   ·rw [if_neg hz, if_neg hz]; exact .slice hJ (hc _)
theorem jgj {a a' : Addr} (hJ : J a.block = .dead) {l h m z : Nat} :
  VRel J (.slice (some (match Nat.beq m l with | true => a | false => a.add (Nat.mul l z))) (Nat.sub h l) (Nat.mul 2 (Nat.sub m l)))
   (.slice (some (if m = l then a' else a'.add (l * z))) (h - l) (m - l)) := by
 refine .sliceDead _ _ ?_ (.inl ⟨by show (2 * (m - l)) % 2 = 0; omega, by show m - l = (2 * (m - l)) / 2; omega⟩)
 cases Nat.beq m l with
 | true => exact hJ
 | false => show J (Addr.add a _).block = _; unfold Addr.add; split <;> exact hJ
theorem add_dead {a : Addr} (hJ : J a.block = .dead) (n : Nat) : J (a.add n).block = .dead := by
 unfold Addr.add; split <;> exact hJ
theorem jhO {ρ ρ' : Operand → Value} (hρ : ∀ x, VRel J (ρ x) (ρ' x)) (hD : J P.globals.size = .dead) {o : Oper} {t : TypeId} {x : Operand} {lo hi mx : Option Operand} {v : Value}
  (ho : o.op = .slice t x lo hi mx) (h : ja0 P ρ t x lo hi mx = some v) : Gives P J ρ' o v := by
 unfold ja0 at h
 have hx := hρ x
 split at h
 ·rename_i a len c e
  rw [e] at hx
  obtain ⟨a', c', hx', _, hcase⟩ := jbh hx
  split at h
  ·rename_i el hu
   have hrun : ∀ {l hh m' : Nat} {inf : TypeInfo} (hinf : P.info? el = some inf) {w : World} (hr : (Instr.sliceBounds true len c' (lo.map ρ') (hi.map ρ') (mx.map ρ')).run P w = .ok (l, hh, m') w),
     (execOp ρ' o).run P w = .ok (.value (.slice (some (if m' = l then a' else a'.add (l * inf.size))) (hh - l) (m' - l))) w := by
    intro l hh m' inf hinf w hr
    simp only [execOp, ho, Instr.sliceAt, rzB, jaw hu, rzA, hx', Instr.slice, hr, ja2 hinf, rzC, Option.map_some]
    by_cases hml : m' = l
    ·rw [if_pos hml, if_pos hml]
    ·rw [if_neg hml, if_neg hml]
   split at h
   ·rename_i inf hinf
    split at h
    ·rename_i hcf
     have hcf' : c % 2 = 0 := rzD hcf
     split at h
     ·rename_i l hh m hb
      cases h
      have hcc : c' = c / 2 := by
       rcases hcase with ⟨i, o', b, s, ha, ha', hJ, hcap⟩ | ⟨_, hcap⟩
       ·rcases hcap with ⟨_, e2⟩ | ⟨e2, _⟩
        ·exact e2
        ·omega
       ·rcases hcap with ⟨_, e2⟩ | ⟨e2, _⟩
        ·exact e2
        ·omega
      subst hcc
      have hr : ∀ w, (Instr.sliceBounds true len (c / 2) (lo.map ρ') (hi.map ρ') (mx.map ρ')).run P w = .ok (l, hh, m) w := by
       intro w
       obtain ⟨m', hr, h1, h2, _⟩ := jca (P := P) hρ hb (Nat.le_refl (c / 2)) true w
       have hmm : m' = m := by
        cases mx with
        | none => exact (h2 rfl).trans (jfw hb).symm
        | some q => exact h1 rfl
       rw [hmm] at hr
       exact hr
      rcases hcase with ⟨i, o', b, s, ha, ha', hJ, hcap⟩ | ⟨hdead, _⟩
      ·exact ⟨_, je9 ha ha' hJ, fun w => hrun hinf (hr w)⟩
      ·exact ⟨_, jgj hdead, fun w => hrun hinf (hr w)⟩
     ·cases h
    ·rename_i hcf
     have hcf' : c % 2 = 1 := by have : c % 2 ≠ 0 := rzF hcf; omega
     have hlc : len ≤ c' := by
      rcases hcase with ⟨i, o', b, s, ha, ha', hJ, hcap⟩ | ⟨_, hcap⟩
      ·rcases hcap with ⟨e2, _⟩ | ⟨_, e2, _⟩
       ·omega
       ·exact e2
      ·rcases hcap with ⟨e2, _⟩ | ⟨_, e2⟩
       ·omega
       ·exact e2
     split at h
     ·rename_i l hh m hb
      obtain ⟨m0, _, _, _, hlh, hh1, hh2, hml⟩ := jca (P := P) hρ hb hlc true default
      have hhl : hh ≤ len := by
       cases hi with
       | none => rw [hh1 rfl]; exact Nat.le_refl _
       | some q => exact Nat.le_trans (hh2 rfl) hml
      split at h
      ·rename_i hs
       cases h
       have hr : ∀ w, (Instr.sliceBounds true len c' (lo.map ρ') (hi.map ρ') (mx.map ρ')).run P w = .ok (l, hh, m) w := by
        intro w
        obtain ⟨m', hr, h1, h2, _⟩ := jca (P := P) hρ hb hlc true w
        have hmm : m' = m := by
         cases mx with
         | none => cases hs
         | some q => exact h1 rfl
        rw [hmm] at hr
        exact hr
       rcases hcase with ⟨i, o', b, s, ha, ha', hJ, hcap⟩ | ⟨hdead, _⟩
       ·exact ⟨_, je9 ha ha' hJ, fun w => hrun hinf (hr w)⟩
       ·exact ⟨_, jgj hdead, fun w => hrun hinf (hr w)⟩
      ·rename_i hs
       have hr : ∀ w, (Instr.sliceBounds true len c' (lo.map ρ') (hi.map ρ') (mx.map ρ')).run P w = .ok (l, hh, c') w := by
        intro w
        obtain ⟨m', hr, h1, h2, _⟩ := jca (P := P) hρ hb hlc true w
        have hmm : m' = c' := by
         cases mx with
         | none => exact h2 rfl
         | some q => cases hs
        rw [hmm] at hr
        exact hr
       split at h
       ·rename_i hl0
        obtain rfl : l = 0 := rzD hl0
        cases h
        have ea : (if c' = 0 then a' else a'.add (0 * inf.size)) = a' := by
         split
         ·rfl
         ·rw [Nat.zero_mul]; unfold Addr.add; rw [if_pos rfl]
        refine ⟨.slice (some a') hh c', ?_, fun w => by have := hrun hinf (hr w); rw [ea] at this; exact this⟩
        rcases hcase with ⟨i, o', b, s, ha, ha', hJ, hcap⟩ | ⟨hdead, hcap⟩
        ·subst ha ha'
         rcases hcap with ⟨e2, _⟩ | ⟨e1, e2, e3⟩
         ·omega
         ·exact .slice hJ (.inr ⟨e1, by omega, e3⟩)
        ·exact .sliceDead _ _ hdead (.inr ⟨hcf', by omega⟩)
       ·split at h
        ·rename_i hll
         have hll' : l < len := by simpa using hll
         split at h
         ·rename_i hes
          have hes' : c / 2 = inf.size := rzD hes
          cases h
          have ea : (if c' = l then a' else a'.add (l * inf.size)) = a'.add (l * inf.size) := if_neg (by omega)
          refine ⟨.slice (some (a'.add (l * inf.size))) (hh - l) (c' - l), ?_, fun w => by have := hrun hinf (hr w); rw [ea] at this; exact this⟩
          rcases hcase with ⟨i, o', b, s, ha, ha', hJ, hcap⟩ | ⟨hdead, hcap⟩
          ·subst ha ha'
           rcases hcap with ⟨e2, _⟩ | ⟨e1, e2, e3⟩
           ·omega
           ·rw [hes'] at e3
            have key : ∀ x, x = o' + l * inf.size → CapRel c (c' - l) (hh - l) x s := by
             intro x hx
             refine .inr ⟨e1, by omega, ?_⟩
             rw [hes', hx, Nat.sub_mul]
             have : l * inf.size ≤ c' * inf.size := Nat.mul_le_mul_right _ (by omega)
             omega
            show VRel J (.slice (some (Addr.add _ (l * inf.size))) _ _) _
            unfold Addr.add
            by_cases hz : l * inf.size = 0
            ·rw [if_pos hz, if_pos hz]; exact .slice hJ (key _ (by omega))
            ·rw [if_neg hz, if_neg hz]; exact .slice hJ (key _ rfl)
          ·exact .sliceDead _ _ (add_dead hdead _) (.inr ⟨hcf', by show hh - l ≤ c' - l; omega⟩)
         ·cases h
        ·rename_i hll
         have hll' : ¬ l < len := fun hlt => by rw [show l.blt len = true from by simpa using hlt] at hll; cases hll
         cases h
         have e0 : hh - l = 0 := by omega
         refine ⟨.slice (some (if c' = l then a' else a'.add (l * inf.size))) 0 (c' - l), .sliceDead _ _ hD (.inr ⟨rfl, Nat.zero_le _⟩), fun w => by
          have := hrun hinf (hr w); rw [e0] at this; exact this⟩
     ·cases h
   ·cases h
  ·cases h
 ·rename_i a e
  rw [e] at hx
  split at h
  ·rename_i n el hu
   split at h
   ·rename_i inf hinf
    ·split at h
     ·rename_i l hh m hb
      cases h
      obtain ⟨a', hx', _⟩ := jdb hx
      have hr : ∀ w, (Instr.sliceBounds false n n (lo.map ρ') (hi.map ρ') (mx.map ρ')).run P w = .ok (l, hh, m) w := by
       intro w
       obtain ⟨m', hr, h1, h2, _⟩ := jca (P := P) hρ hb (Nat.le_refl n) false w
       have hmm : m' = m := by
        cases mx with
        | none => exact (h2 rfl).trans (jfw hb).symm
        | some q => exact h1 rfl
       rw [hmm] at hr
       exact hr
      have hrun : ∀ w, (execOp ρ' o).run P w = .ok (.value (.slice (some (if m = l then a' else a'.add (l * inf.size))) (hh - l) (m - l))) w := by
       intro w
       simp only [execOp, ho, Instr.sliceAt, rzB, jaw hu, rzA, hx', Instr.sureAddr, hr w, ja2 hinf, rzC]
      rw [hx'] at hx
      cases hx with
      | ptr hJ => exact ⟨_, je9 rfl rfl hJ, hrun⟩
      | ptrDead _ hdead => exact ⟨_, jgj hdead, hrun⟩
     ·cases h
   ·cases h
  ·cases h
 ·rename_i s e
  rw [e] at hx
  split at h
  ·rename_i hu
   split at h
   ·cases h
   ·split at h
    ·rename_i l hh m hb
     cases h
     have hlen : s.data.toList.length = s.size := by rw [Array.length_toList]; rfl
     rw [hlen] at hb
     refine ⟨_, .string _, fun w => ?_⟩
     obtain ⟨m', hr, h1, h2, hlh, _⟩ := jca (P := P) hρ hb (Nat.le_refl _) false w
     simp only [Option.map_none] at hr
     have ex : s.extract l hh = ⟨((s.data.toList.drop l).take (Nat.sub hh l)).toArray⟩ := by
      apply ByteArray.ext
      rw [ByteArray.data_extract]
      apply Array.ext'
      rw [Array.toList_extract]
      rfl
     simp only [execOp, ho, Instr.sliceAt, rzB, jaw hu, rzA, jbE hx, Instr.slice, Option.map_none, Option.isSome_none, Bool.false_eq_true, if_false, hr, rzC, ex]
    ·cases h
  ·cases h
 ·rename_i l0 c0 e
  rw [e] at hx
  have hx' : ρ' x = .slice none l0 c0 := jg7 hx
  split at h
  ·rename_i hz
   have hz' : l0 + c0 = 0 := rzD hz
   obtain rfl : l0 = 0 := by omega
   obtain rfl : c0 = 0 := by omega
   split at h
   ·rename_i el hu
    split at h
    ·rename_i inf hinf
     split at h
     ·rename_i r hb
      cases h
      obtain ⟨l, hh, m⟩ := r
      refine ⟨.slice none 0 0, .sliceNil 0 0, fun w => ?_⟩
      obtain ⟨m', hr, h1, h2, hlh, hh1, hh2, hml⟩ := jca (P := P) hρ hb (Nat.le_refl 0) true w
      obtain rfl : m = 0 := by omega
      obtain rfl : hh = 0 := by
       rcases hi with _ | q
       ·exact hh1 rfl
       ·exact Nat.le_zero.1 (hh2 rfl)
      obtain rfl : l = 0 := by omega
      obtain rfl : m' = 0 := by
       rcases mx with _ | q
       ·exact h2 rfl
       ·exact h1 rfl
      simp only [execOp, ho, Instr.sliceAt, rzB, jaw hu, rzA, hx', Instr.slice, hr, ja2 hinf, rzC, if_true]
     ·cases h
    ·cases h
   ·cases h
  ·cases h
 ·cases h
end
noncomputable section
variable {P : Program} {J : Nat → Loc}
theorem jbf {v v' : Value} (h : VRel J v v') : ARel J #[v] #[v'] where
 size := rfl
 at_ i a b ha hb := by
  cases i with
  | zero => simp at ha hb; subst ha hb; exact h
  | succ i => simp at ha
def ja6 (P : Program) (t : TypeId) : Option Value :=
 match P.info? t with
 | some inf => match inf.zero with
   | some z => match jaK 5 z with
     | true => some z
     | false => none
   | none => none
 | none => none
theorem jbs {t : TypeId} {z : Value} (h : ja6 P t = some z) (w : World) : (zeroValue t).run P w = .ok z w ∧ jaK 5 z = true := by
 unfold ja6 at h
 split at h
 ·rename_i inf hinf
  split at h
  ·rename_i z' hz
   split at h
   ·rename_i hp
    cases h
    exact ⟨by simp only [zeroValue, rzB, jdU hinf, rzA, hz, rzC], hp⟩
   ·cases h
  ·cases h
 ·cases h
def jiZ (_ : Program) (_ : Operand → Value) (_ : Operand) (_ : TypeId) (_ : Bool) : Option Value := none
theorem jgV {ρ ρ' : Operand → Value} (hρ : ∀ x, VRel J (ρ x) (ρ' x)) {o : Oper} {x : Operand} {xt asserted : TypeId} {ok : Bool} {v : Value} (ho : o.op = .typeAssert x xt asserted ok)
  (h : jiZ P ρ x asserted ok = some v) : Gives P J ρ' o v := by
 cases h
def jaR : Value → List Value
 | .agg cs => cs.toList
 | v => [v]
def setL (cs : List Value) (off : Nat) (vs : List Value) : List Value := cs.take off ++ (vs ++ cs.drop (Nat.add off vs.length))
def jde : Value → Bool
 | .chan _ => false
 | _ => true
def jcR (place : Nat → Option (Nat × Nat)) : List Value → List (Nat × Value) → Option (List Value)
 | cs, [] => some cs
 | cs, (i, v) :: r => match place i with
   | none => none
   | some (off, size) => match jde v with
     | false => none
     | true => match Nat.beq (jaR v).length size with
       | false => none
       | true => match Nat.ble (Nat.add off size) cs.length with
         | false => none
         | true => jcR place (setL cs off (jaR v)) r
theorem jcc {v v' : Value} (h : VRel J v v') (hn : jde v = true) : ARel J (jaR v).toArray v'.cells := by
 cases h with
 | any r v => cases hn
 | agg hx hx' => exact ⟨hx, hx'⟩
 | bool b => exact jbf (.bool b)
 | int k n => exact jbf (.int k n)
 | float k n => exact jbf (.float k n)
 | complex k n m => exact jbf (.complex k n m)
 | string s => exact jbf (.string s)
 | ptrNil => exact jbf .ptrNil
 | ptr e => exact jbf (.ptr e)
 | ptrDead a' e => exact jbf (.ptrDead a' e)
 | sliceNil l c => exact jbf (.sliceNil l c)
 | slice e hc => exact jbf (.slice e hc)
 | sliceDead a' c' e hc => exact jbf (.sliceDead a' c' e hc)
 | mapNil => exact jbf .mapNil
 | map e => exact jbf (.map e)
 | mapDead b e => exact jbf (.mapDead b e)
 | nilFunc => exact jbf .nilFunc
 | func hf h1 h2 h3 h4 => exact jbf (.func hf h1 h2 h3 h4)
 | iface h => exact jbf (.iface h)
 | nilIface => exact jbf .nilIface
 | tuple h1 h2 => exact jbf (.tuple h1 h2)
theorem foldl_set (off : Nat) : ∀ (l : List Value) (n : Nat) (cs : Array Value) (k : Nat),
  ((l.zipIdx n).foldl (fun cs (x : Value × Nat) => cs.setIfInBounds (off + x.2) x.1) cs)[k]? =
    if off + n ≤ k ∧ k < off + n + l.length ∧ k < cs.size then l[k - (off + n)]? else cs[k]? := by
 intro l
 induction l with
 | nil => intro n cs k; simp; intro h1 h2; omega
 | cons a l ih =>
   intro n cs k
   rw [List.zipIdx_cons, List.foldl_cons, ih]
   simp only [Array.size_setIfInBounds, Array.getElem?_setIfInBounds, List.length_cons]
   by_cases h1 : off + (n + 1) ≤ k ∧ k < off + (n + 1) + l.length ∧ k < cs.size
   ·rw [if_pos h1, if_pos (by omega), show k - (off + n) = (k - (off + (n + 1))) + 1 from by omega, List.getElem?_cons_succ]
   ·rw [if_neg h1]
    by_cases h2 : off + n = k
    ·subst h2
     by_cases h3 : off + n < cs.size
     ·rw [if_pos rfl, if_pos h3, if_pos (by omega)]; simp
     ·rw [if_pos rfl, if_neg h3, if_neg (by omega)]
      rw [Array.getElem?_eq_none (by omega)]
    ·rw [if_neg h2, if_neg (by omega)]
theorem arel_set {cs : List Value} {cs' : Array Value} (h : ARel J cs.toArray cs') {vs : List Value} {vs' : Array Value} (hv : ARel J vs.toArray vs') {off : Nat} (hle : off + vs.length ≤ cs.length) :
  ARel J (setL cs off vs).toArray (vs'.zipIdx.foldl (fun cs (x : Value × Nat) => cs.setIfInBounds (off + x.2) x.1) cs') := by
 have hs1 : vs.length = vs'.size := by simpa using hv.size
 have hs2 : cs.length = cs'.size := by simpa using h.size
 have e : ∀ k : Nat, (vs'.zipIdx.foldl (fun cs (x : Value × Nat) => cs.setIfInBounds (off + x.2) x.1) cs')[k]? = if off ≤ k ∧ k < off + vs'.size ∧ k < cs'.size then vs'[k - off]? else cs'[k]? := by
  intro k
  have := foldl_set off vs'.toList 0 cs' k
  rw [← Array.foldl_toList, Array.toList_zipIdx]
  simpa using this
 have hsz : (vs'.zipIdx.foldl (fun cs (x : Value × Nat) => cs.setIfInBounds (off + x.2) x.1) cs').size = cs'.size := by
  have : ∀ (l : List (Value × Nat)) (c : Array Value), (l.foldl (fun cs (x : Value × Nat) => cs.setIfInBounds (off + x.2) x.1) c).size = c.size := by
   intro l
   induction l with
   | nil => intro c; rfl
   | cons a l ih => intro c; rw [List.foldl_cons, ih, Array.size_setIfInBounds]
  rw [← Array.foldl_toList]
  exact this _ _
 constructor
 ·rw [hsz, ← hs2]
  simp [setL]
  omega
 ·intro i a b ha hb
  rw [e] at hb
  simp only [setL, List.getElem?_toArray] at ha
  by_cases h1 : i < off
  ·rw [if_neg (by omega)] at hb
   rw [List.getElem?_append_left (by simp; omega), List.getElem?_take, if_pos h1] at ha
   exact h.at_ i a b (by simpa using ha) hb
  ·have htl : (cs.take off).length = off := by simp; omega
   rw [List.getElem?_append_right (by omega), htl] at ha
   by_cases h2 : i < off + vs.length
   ·rw [if_pos ⟨by omega, by omega, by omega⟩] at hb
    rw [List.getElem?_append_left (by omega)] at ha
    exact hv.at_ _ a b (by simpa using ha) hb
   ·rw [if_neg (by omega)] at hb
    rw [List.getElem?_append_right (by omega), List.getElem?_drop] at ha
    refine h.at_ i a b ?_ hb
    rw [show Nat.add off vs.length + (i - off - vs.length) = i from by show off + vs.length + _ = _; omega] at ha
    simpa using ha
theorem jdJ {place : Nat → Option (Nat × Nat)} : ∀ (parts : List (Nat × Value)) (parts' : List (Nat × Value)) (cs : List Value) (cs' : Array Value) (r : List Value),
  ARel J cs.toArray cs' → parts.length = parts'.length → (∀ (k : Nat) p p', parts[k]? = some p → parts'[k]? = some p' → p.1 = p'.1 ∧ VRel J p.2 p'.2) →
  jcR place cs parts = some r → ∃ r', Instr.fill place cs' parts' = some r' ∧ ARel J r.toArray r' := by
 intro parts
 induction parts with
 | nil =>
   intro parts' cs cs' r h hl _ hr
   cases parts' with
   | nil => simp only [jcR] at hr; cases hr; exact ⟨cs', rfl, h⟩
   | cons _ _ => simp at hl
 | cons p parts ih =>
   intro parts' cs cs' r h hl hp hr
   cases parts' with
   | nil => simp at hl
   | cons p' parts' =>
     obtain ⟨i, v⟩ := p
     obtain ⟨i', v'⟩ := p'
     obtain ⟨h1, h2⟩ := hp 0 _ _ rfl rfl
     simp only at h1 h2
     subst h1
     simp only [jcR] at hr
     split at hr
     ·cases hr
     ·rename_i off size hpl
      split at hr
      ·cases hr
      ·rename_i hna
       split at hr
       ·cases hr
       ·rename_i hsz
        split at hr
        ·cases hr
        ·rename_i hle
         have hc := jcc h2 hna
         have hsz' : (jaR v).length = size := rzD hsz
         have hle' : off + size ≤ cs.length := rzE hle
         have hs1 : (jaR v).length = v'.cells.size := by simpa using hc.size
         have hs2 : cs.length = cs'.size := by simpa using h.size
         obtain ⟨r', hr', hR⟩ := ih parts' _ _ r (arel_set h hc (off := off) (by omega)) (by simpa using hl) (fun k p p' a b => hp (k + 1) p p' (by simpa using a) (by simpa using b)) hr
         refine ⟨r', ?_, hR⟩
         simp only [Instr.fill, hpl]
         rw [if_neg (by simp; omega)]
         exact hr'
def jcA (P : Program) : List Field → Option (List (Nat × Nat))
 | [] => some []
 | f :: r => match P.info? f.type with
   | none => none
   | some inf => match jcA P r with
     | none => none
     | some l => some ((f.offset, inf.size) :: l)
theorem jfc : ∀ (l : List Field) (r : List (Nat × Nat)), jcA P l = some r → ∀ w,
  (l.mapM (fun f => do pure (f.offset, ← sizeOf f.type)) : Sem (List (Nat × Nat))).run P w = .ok r w := by
 intro l
 induction l with
 | nil => intro r h w; simp only [jcA] at h; cases h; rfl
 | cons f l ih =>
   intro r h w
   simp only [jcA] at h
   split at h
   ·cases h
   ·rename_i inf hinf
    split at h
    ·cases h
    ·rename_i l' hl
     cases h
     simp only [List.mapM_cons, rzB, ja2 hinf, rzA, rzC, ih _ hl w]
theorem run_places {fields : Array Field} {r : List (Nat × Nat)} (h : jcA P fields.toList = some r) (w : World) :
  (fields.mapM (fun f => do pure (f.offset, ← sizeOf f.type)) : Sem (Array (Nat × Nat))).run P w = .ok r.toArray w := by
 rw [Array.mapM_eq_mapM_toList]
 show (Functor.map List.toArray _ : Sem _).run P w = _
 rw [map_eq_pure_bind]
 simp only [rzB, jfc _ _ h w, rzA, rzC]
def jb0 (P : Program) (ρ : Operand → Value) (t : TypeId) (parts : Array (Nat × Operand)) : Option Value :=
 match ja6 P t with
 | none => none
 | some z => match P.underlying t with
   | some (.struct fields) => match jcA P fields.toList with
     | none => none
     | some pl => match jcR (fun i => pl[i]?) (jaR z) (parts.toList.map fun p => (p.1, ρ p.2)) with
       | some cs => some (.agg cs.toArray)
       | none => none
   | some (.array _ e) => match P.info? e with
     | none => none
     | some inf => match jcR (fun i => some (Nat.mul i inf.size, inf.size)) (jaR z) (parts.toList.map fun p => (p.1, ρ p.2)) with
       | some cs => some (.agg cs.toArray)
       | none => none
   | _ => none
theorem jcG {n : Nat} {v : Value} (h : jaK n v = true) : jde v = true := by
 cases v <;> first | rfl | (cases n <;> simp [jaK] at h)
theorem jhE (v : Value) : jaR v = v.cells.toList := by cases v <;> rfl
theorem jhn {ρ ρ' : Operand → Value} (hρ : ∀ x, VRel J (ρ x) (ρ' x)) (parts : Array (Nat × Operand)) :
  (parts.toList.map fun p => (p.1, ρ p.2)).length = (parts.map fun (i, x) => (i, ρ' x)).toList.length ∧
  ∀ (k : Nat) p p', (parts.toList.map fun p => (p.1, ρ p.2))[k]? = some p → (parts.map fun (i, x) => (i, ρ' x)).toList[k]? = some p' → p.1 = p'.1 ∧ VRel J p.2 p'.2 := by
 constructor
 ·simp
 ·intro k p p' h1 h2
  rw [Array.toList_map] at h2
  rw [List.getElem?_map] at h1 h2
  cases hk : parts.toList[k]? with
  | none => rw [hk] at h1; cases h1
  | some q =>
    rw [hk] at h1 h2
    simp only [Option.map_some, Option.some.injEq] at h1 h2
    subst h1 h2
    exact ⟨rfl, hρ _⟩
theorem jhZ {ρ ρ' : Operand → Value} (hρ : ∀ x, VRel J (ρ x) (ρ' x)) {o : Oper} {t : TypeId} {parts : Array (Nat × Operand)} {v : Value} (ho : o.op = .build t parts)
  (h : jb0 P ρ t parts = some v) : Gives P J ρ' o v := by
 unfold jb0 at h
 obtain ⟨hl, hp⟩ := jhn hρ parts
 split at h
 ·cases h
 ·rename_i z hz
  have hzp := (jbs hz default).2
  have hz2 : ARel J (jaR z).toArray z.cells := jcc (jbp 5 hzp) (jcG hzp)
  split at h
  ·rename_i fields hu
   split at h
   ·cases h
   ·rename_i pl hpl
    split at h
    ·rename_i cs hcs
     cases h
     obtain ⟨r', hr', hR⟩ := jdJ _ _ _ _ _ hz2 hl hp hcs
     refine ⟨.agg r', .agg hR.size hR.at_, fun w => ?_⟩
     have e : (fun i : Nat => pl[i]?) = (fun i : Nat => pl.toArray[i]?) := by funext i; simp
     rw [e] at hr'
     simp only [execOp, ho, Instr.build, rzB, (jbs hz w).1, jaw hu, rzA, run_places hpl w, hr', rzC]
    ·cases h
  ·rename_i n e hu
   split at h
   ·cases h
   ·rename_i inf hinf
    split at h
    ·rename_i cs hcs
     cases h
     obtain ⟨r', hr', hR⟩ := jdJ _ _ _ _ _ hz2 hl hp hcs
     refine ⟨.agg r', .agg hR.size hR.at_, fun w => ?_⟩
     have hr'' : Instr.fill (fun i => some (i * inf.size, inf.size)) z.cells (parts.map fun (i, x) => (i, ρ' x)).toList = some r' := hr'
     simp only [execOp, ho, Instr.build, rzB, (jbs hz w).1, jaw hu, rzA, ja2 hinf, hr'', rzC]
    ·cases h
  ·cases h
def aLen (P : Program) (t : TypeId) (v : Value) : Option Nat :=
 match v with
 | .slice _ n _ => match P.underlying t with
   | some (.slice _) => some n
   | _ => none
 | .string s => match P.underlying t with
   | some .string => some s.data.toList.length
   | _ => none
 | .map none => match P.underlying t with
   | some (.map _ _) => some 0
   | _ => none
 | _ => match P.underlying t with
   | some (.array n _) => some n
   | _ => none
theorem aLen_run {t : TypeId} {v v' : Value} {n : Nat} (hv : VRel J v v') (h : aLen P t v = some n) (ty : TypeId) (ts : Array TypeId) (ht : ts[0]? = some t) (w : World) :
  (Builtin.len_ ts ty #[v']).run P w = .ok (.int .i64 n) w := by
 unfold aLen at h
 split at h
 ·split at h
  ·rename_i a l c e hu
   cases h
   cases hv <;> simp [Builtin.len_, ht, rzB, jaw hu, rzA, rzC, goInt]
  ·cases h
 ·split at h
  ·rename_i s _ hu
   cases h
   rw [jbE hv]
   have e : s.data.toList.length = s.size := by rw [Array.length_toList]; rfl
   rw [e]
   simp [Builtin.len_, ht, rzB, jaw hu, rzA, rzC, goInt]
  ·cases h
 ·split at h
  ·rename_i k e hu
   cases h
   cases hv
   simp [Builtin.len_, ht, rzB, jaw hu, rzA, rzC, goInt]
  ·cases h
 ·split at h
  ·rename_i m e hu
   cases h
   simp [Builtin.len_, ht, rzB, jaw hu, rzA, rzC, goInt]
  ·cases h
def jbd (P : Program) (ρ : Operand → Value) (b : Builtin) (args : List Operand) (ts : List TypeId) (ty : TypeId) : Option Value :=
 match b with
 | .len => match args, ts with
   | [x], t :: _ => match aLen P t (ρ x) with
     | some n => some (.int .i64 n)
     | none => none
   | _, _ => none
 | .cap => match args, ts with
   | [x], t :: _ => match ρ x with
     | .slice (some _) _ c => match P.underlying t with
       | some (.slice _) => match Nat.beq (Nat.mod c 2) 0 with
         | true => some (.int .i64 (Nat.div c 2))
         | false => none
       | _ => none
     | .slice none _ c => match P.underlying t with
       | some (.slice _) => some (.int .i64 c)
       | _ => none
     | _ => none
   | _, _ => none
 | .max => match args with
   | [x, y] => match ρ x, ρ y with
     | .int k a, .int _ c => some (.int k (if c > a then c else a))
     | _, _ => none
   | [x, y, z] => match ρ x, ρ y, ρ z with
     | .int k a, .int _ c, .int _ d => some (.int k (if d > (if c > a then c else a) then d else (if c > a then c else a)))
     | _, _, _ => none
   | _ => none
 | .min => match args with
   | [x, y] => match ρ x, ρ y with
     | .int k a, .int _ c => some (.int k (if c < a then c else a))
     | _, _ => none
   | [x, y, z] => match ρ x, ρ y, ρ z with
     | .int k a, .int _ c, .int _ d => some (.int k (if d < (if c < a then c else a) then d else (if c < a then c else a)))
     | _, _, _ => none
   | _ => none
 | .unsafeSliceData => match args with
   | [x] => match ρ x with
     | .slice none _ _ => some (.pointer none)
     | .slice (some a) l c => match Nat.beq (Nat.mod c 2) 0 with
       | true => match Nat.beq (Nat.div c 2) 0 with
         | true => none
         | false => some (.pointer (some a))
       | false => match Nat.beq l 0 with
         | true => none
         | false => some (.pointer (some a))
     | _ => none
   | _ => none
 | _ => none
theorem jb9 {ρ' : Operand → Value} {o : Oper} {c : Call} {b : Builtin} (ho : o.op = .call c) (hc : c.callee = .builtin b) :
  execOp ρ' o = builtin b c.argTypes o.type (c.args.map fun | .const _ => true | _ => false) (c.args.map ρ') := by
 simp only [execOp, ho, resolve, hc]
 rfl
theorem jfi {ρ' : Operand → Value} {c : Call} {x : Operand} (h : c.args.toList = [x]) : c.args.map ρ' = #[ρ' x] := by
 have : c.args = #[x] := by cases hc : c.args; rw [hc] at h; simp at h; rw [h]
 rw [this]; simp
theorem jdF {ρ' : Operand → Value} {c : Call} {x y : Operand} (h : c.args.toList = [x, y]) : c.args.map ρ' = #[ρ' x, ρ' y] := by
 have : c.args = #[x, y] := by cases hc : c.args; rw [hc] at h; simp at h; rw [h]
 rw [this]; simp
theorem jhs {ρ' : Operand → Value} {c : Call} {x y z : Operand} (h : c.args.toList = [x, y, z]) : c.args.map ρ' = #[ρ' x, ρ' y, ρ' z] := by
 have : c.args = #[x, y, z] := by cases hc : c.args; rw [hc] at h; simp at h; rw [h]
 rw [this]; simp
theorem jgy {c : Call} {t : TypeId} {r : List TypeId} (h : c.argTypes.toList = t :: r) : c.argTypes[0]? = some t := by
 rw [← Array.getElem?_toList, h]; rfl
theorem jfP {ρ ρ' : Operand → Value} (hρ : ∀ x, VRel J (ρ x) (ρ' x)) {o : Oper} {c : Call} {b : Builtin} {v : Value} (ho : o.op = .call c) (hc : c.callee = .builtin b)
  (h : jbd P ρ b c.args.toList c.argTypes.toList o.type = some v) : Gives P J ρ' o v := by
 have hrun := jb9 (ρ' := ρ') ho hc
 unfold jbd at h
 split at h
 ·
  split at h
  ·rename_i x t r ha ht
   split at h
   ·rename_i n hn
    cases h
    refine ⟨_, .int .i64 n, fun w => ?_⟩
    rw [hrun, jfi ha]
    simp only [builtin, rzB, aLen_run (hρ x) hn o.type _ (jgy ht) w, rzA, rzC]
   ·cases h
  ·cases h
 ·
  split at h
  ·rename_i x t r ha ht
   have hx := hρ x
   split at h
   ·rename_i a l cc e
    rw [e] at hx
    obtain ⟨a', c', hx', _, hcase⟩ := jbh hx
    split at h
    ·rename_i el hu
     split at h
     ·rename_i hb
      cases h
      have hb' : cc % 2 = 0 := rzD hb
      have hcc : c' = cc / 2 := by
       rcases hcase with ⟨i, o', b, s, _, _, _, hcap⟩ | ⟨_, hcap⟩
       ·rcases hcap with ⟨_, e2⟩ | ⟨e2, _⟩
        ·exact e2
        ·omega
       ·rcases hcap with ⟨_, e2⟩ | ⟨e2, _⟩
        ·exact e2
        ·omega
      refine ⟨_, .int .i64 _, fun w => ?_⟩
      rw [hrun, jfi ha]
      simp only [builtin, Builtin.cap_, jgy ht, hx', rzB, jaw hu, rzA, rzC, goInt, hcc, List.getElem?_toArray, List.getElem?_cons_zero]
      rfl
     ·cases h
    ·cases h
   ·rename_i l cc e
    rw [e] at hx
    split at h
    ·rename_i el hu
     cases h
     have hx' : ρ' x = .slice none l cc := by generalize ρ' x = q at hx; cases hx; rfl
     refine ⟨_, .int .i64 _, fun w => ?_⟩
     rw [hrun, jfi ha]
     simp only [builtin, Builtin.cap_, jgy ht, hx', rzB, jaw hu, rzA, rzC, goInt, List.getElem?_toArray, List.getElem?_cons_zero]
    ·cases h
   ·cases h
  ·cases h
 ·
  split at h
  ·rename_i x y ha
   have hx := hρ x
   have hy := hρ y
   split at h
   ·rename_i k a k' c' e1 e2
    rw [e1] at hx
    rw [e2] at hy
    cases h
    refine ⟨_, .int k _, fun w => ?_⟩
    rw [hrun, jdF ha, ja4 hx, ja4 hy]
    rfl
   ·cases h
  ·rename_i x y z ha
   have hx := hρ x
   have hy := hρ y
   have hz := hρ z
   split at h
   ·rename_i k a k' c' k2 d2 e1 e2 e3
    rw [e1] at hx
    rw [e2] at hy
    rw [e3] at hz
    cases h
    refine ⟨_, .int k _, fun w => ?_⟩
    rw [hrun, jhs ha, ja4 hx, ja4 hy, ja4 hz]
    rfl
   ·cases h
  ·cases h
 ·
  split at h
  ·rename_i x y ha
   have hx := hρ x
   have hy := hρ y
   split at h
   ·rename_i k a k' c' e1 e2
    rw [e1] at hx
    rw [e2] at hy
    cases h
    refine ⟨_, .int k _, fun w => ?_⟩
    rw [hrun, jdF ha, ja4 hx, ja4 hy]
    rfl
   ·cases h
  ·rename_i x y z ha
   have hx := hρ x
   have hy := hρ y
   have hz := hρ z
   split at h
   ·rename_i k a k' c' k2 d2 e1 e2 e3
    rw [e1] at hx
    rw [e2] at hy
    rw [e3] at hz
    cases h
    refine ⟨_, .int k _, fun w => ?_⟩
    rw [hrun, jhs ha, ja4 hx, ja4 hy, ja4 hz]
    rfl
   ·cases h
  ·cases h
 ·
  split at h
  ·rename_i x ha
   have hx := hρ x
   split at h
   ·rename_i l cc e
    rw [e] at hx
    cases h
    have hx' : ρ' x = .slice none l cc := by generalize ρ' x = q at hx; cases hx; rfl
    refine ⟨_, .ptrNil, fun w => ?_⟩
    rw [hrun, jfi ha, hx']
    rfl
   ·rename_i a l cc e
    rw [e] at hx
    obtain ⟨a', c', hx', hadd, hcase⟩ := jbh hx
    have hz : VRel J (.pointer (some a)) (.pointer (some a')) := by
     have := hadd 0
     unfold Addr.add at this
     rw [if_pos rfl, if_pos rfl] at this
     exact this
    have hd : CapD cc c' l := by
     rcases hcase with ⟨i, o', b, s, _, _, _, hcap⟩ | ⟨_, hcap⟩
     ·exact hcap.dead
     ·exact hcap
    have hrun2 : c' ≠ 0 → ∀ w, (execOp ρ' o).run P w = .ok (.value (.pointer (some a'))) w := by
     intro hne w
     rw [hrun, jfi ha, hx']
     have e : Builtin.unsafeSliceData_ c.argTypes o.type #[.slice (some a') l c'] = (if c' ≠ 0 then pure (.pointer (some a')) else do
      if (← viewAt a'.block).isSome then pure (.pointer (some a'))
      else pure (.pointer (some ⟨← newObj (.view a' (← elemOf o.type)), 0, none⟩))) := rfl
     simp only [builtin, e, if_pos hne, rzB, rzC, rzA]
    split at h
    ·rename_i hb
     have hb' : cc % 2 = 0 := rzD hb
     split at h
     ·cases h
     ·rename_i h2
      have h2' : cc / 2 ≠ 0 := rzF h2
      cases h
      refine ⟨_, hz, hrun2 ?_⟩
      rcases hd with ⟨_, e2⟩ | ⟨e2, _⟩
      ·omega
      ·omega
    ·rename_i hb
     have hb' : cc % 2 ≠ 0 := rzF hb
     split at h
     ·cases h
     ·rename_i h2
      have h2' : l ≠ 0 := rzF h2
      cases h
      refine ⟨_, hz, hrun2 ?_⟩
      rcases hd with ⟨e2, _⟩ | ⟨_, e2⟩
      ·omega
      ·omega
   ·cases h
  ·cases h
 ·cases h
def jaG (P : Program) (s d : TypeId) (v : Value) : Option Value :=
 match v with
 | .int _ n => match P.underlying d with
   | some (.int k) => match P.underlying s with
     | some _ => some (.int k (jak k n))
     | none => none
   | _ => none
 | _ => none
theorem jfO {ρ ρ' : Operand → Value} (hρ : ∀ x, VRel J (ρ x) (ρ' x)) {o : Oper} {s d : TypeId} {x : Operand} {v : Value} (ho : o.op = .convert s d x) (h : jaG P s d (ρ x) = some v) : Gives P J ρ' o v := by
 have hx := hρ x
 unfold jaG at h
 split at h
 ·rename_i k0 n e
  rw [e] at hx
  split at h
  ·rename_i k hd
   split at h
   ·rename_i ds hs
    cases h
    refine ⟨_, .int _ _, fun w => ?_⟩
    simp only [execOp, ho, convert, ja4 hx, rzB, jaw hs, jaw hd, rzA, Conv.intToInt, rzC, jbu]
   ·cases h
  ·cases h
 ·cases h
def aP (P : Program) (ρ : Operand → Value) (o : Oper) : Option Value :=
 match o.op with
 | .move x => some (ρ x)
 | .assign x => some (ρ x)
 | .binOp op t x y _ => aBin P ρ o op t x y
 | .fieldAddr s x f => jcs P ρ s x f
 | .indexAddr t x i => jan P ρ t x i
 | .pick c a b => aPick ρ c a b
 | .extract t i => jek ρ t i
 | .nilCheck x => jdp ρ x
 | .makeInterface t x => jbq P ρ t x
 | .makeFunc fn x y => jei ρ fn x y
 | .field t x f => jjF P ρ t x f
 | .index t x i => jaX P ρ t x i
 | .slice t x lo hi mx => match ja0 P ρ t x lo hi mx with
   | some v => some v
   | none => jaH P ρ o
 | .build t parts => jb0 P ρ t parts
 | .typeAssert x _ asserted ok => match jiZ P ρ x asserted ok with
   | some v => some v
   | none => jaH P ρ o
 | .unOp .not _ x => match ρ x with
   | .bool b => some (.bool (!b))
   | _ => none
 | .unOp _ _ _ => jaH P ρ o
 | .convert s d x => match jaG P s d (ρ x) with
   | some v => some v
   | none => jaH P ρ o
 | .call c => match c.callee with
   | .builtin b => jbd P ρ b c.args.toList c.argTypes.toList o.type
   | _ => none
 | _ => none
theorem aP_sound {ρ ρ' : Operand → Value} (hρ : ∀ x, VRel J (ρ x) (ρ' x)) (hD : J P.globals.size = .dead) {o : Oper} {v : Value} (h : aP P ρ o = some v) : Gives P J ρ' o v := by
 unfold aP at h
 split at h
 ·rename_i x ho; cases h; exact ⟨_, hρ x, fun w => by simp only [execOp, ho, rzC]⟩
 ·rename_i x ho; cases h; exact ⟨_, hρ x, fun w => by simp only [execOp, ho, rzC]⟩
 ·rename_i ho; exact jku hρ ho h
 ·rename_i ho; exact jeU hρ ho h
 ·rename_i ho; exact jeT hρ ho h
 ·rename_i ho; exact jiQ hρ ho h
 ·rename_i ho; exact jfN hρ ho h
 ·rename_i ho; exact jfA hρ ho h
 ·rename_i ho; exact jeS hρ ho h
 ·rename_i ho; exact jfE hρ ho h
 ·rename_i ho; exact jhW hρ ho h
 ·rename_i ho; exact jhV hρ ho h
 ·rename_i ho
  split at h
  ·rename_i e; cases h; exact jhO hρ hD ho e
  ·exact jce hρ h
 ·rename_i ho; exact jhZ hρ ho h
 ·rename_i ho
  split at h
  ·rename_i e; cases h; exact jgV hρ ho e
  ·exact jce hρ h
 ·rename_i t x ho
  split at h
  ·rename_i b e
   cases h
   have hx := hρ x
   rw [e] at hx
   refine ⟨_, .bool _, fun w => ?_⟩
   simp only [execOp, ho, jee hx]
   rfl
  ·cases h
 ·exact jce hρ h
 ·rename_i ho
  split at h
  ·rename_i e; cases h; exact jfO hρ ho e
  ·exact jce hρ h
 ·rename_i c ho
  split at h
  ·rename_i hc; exact jfP hρ ho hc h
  ·cases h
 ·cases h
end
noncomputable section
variable {P : Program} {J : Nat → Loc}
theorem run_load {w : World} {a : Addr} {v : Value} (h : w.cell? a = some v) : (load a).run P w = .ok v w := by
 simp [load, Sem.run, h]
theorem cell_of {μ : Mem} {w : World} (h : Rel J μ w) {i n : Nat} {t : TypeId} {zero : Array Value} {over : T Value} {lo hi : Nat} {fx sh : Bool}
  (ho : μ.obs.get i = some (.cells n t zero over lo hi fx sh)) : ∃ b s, J i = .at b s ∧ ObRel J w b s (.cells n t zero over lo hi fx sh) ∧
   ∀ k, k < n → ∃ x, w.cell? ⟨b, k, none⟩ = some x ∧ VRel J (cellAt zero over k) x := by
 obtain ⟨b, s, hb, hr⟩ := h.obj i _ ho (by simp)
 refine ⟨b, s, hb, hr, fun k hk => ?_⟩
 obtain ⟨c, fz, h1, h2, h3, h4, h5, h6⟩ := hr
 obtain ⟨x, hx, hv⟩ := h5 k hk
 exact ⟨x, by simp [World.cell?, h1, hx], hv⟩
def jas (zero : Array Value) (over : T Value) (o : Nat) : Nat → List Value
 | 0 => []
 | n + 1 => cellAt zero over o :: jas zero over (Nat.add o 1) n
theorem jga (b o k : Nat) : (Addr.add ⟨b, o, none⟩ k) = ⟨b, o + k, none⟩ := by
 unfold Addr.add
 by_cases h : k = 0
 ·subst h; simp
 ·rw [if_neg h]
theorem cell_heap {w w' : World} (h : w'.heap = w.heap) (a : Addr) : w'.cell? a = w.cell? a := by unfold World.cell?; rw [h]
theorem jbL {w : World} {zero : Array Value} {over : T Value} {b o : Nat} : ∀ (n i : Nat) (acc : Array Value),
  (∀ k, k < n → ∃ x, w.cell? ⟨b, o + i + k, none⟩ = some x ∧ VRel J (cellAt zero over (o + i + k)) x) →
  ∃ l : List Value, (∀ w' : World, w'.heap = w.heap → (loadCellsFrom ⟨b, o, none⟩ i n acc).run P w' = .ok (acc ++ l.toArray) w') ∧ ARel J (jas zero over (o + i) n).toArray l.toArray := by
 intro n
 induction n with
 | zero => intro i acc _; exact ⟨[], fun w' _ => by simp [loadCellsFrom, rzC], ⟨rfl, fun i a b ha => by simp [jas] at ha⟩⟩
 | succ n ih =>
   intro i acc h
   obtain ⟨x, hx, hv⟩ := h 0 (by omega)
   obtain ⟨l, hl, hr⟩ := ih (i + 1) (acc.push x) (fun k hk => by
    have := h (k + 1) (by omega)
    rw [show o + i + (k + 1) = o + (i + 1) + k from by omega] at this
    exact this)
   refine ⟨x :: l, fun w' hw => ?_, ?_⟩
   ·simp only [loadCellsFrom, rzB, jga]
    rw [show o + i = o + i + 0 from rfl, run_load ((cell_heap hw _).trans hx), rzA, hl w' hw]
    simp
   ·constructor
    ·have := hr.size; simp [jas] at this ⊢; exact this
    ·intro k a b ha hb
     cases k with
     | zero => simp [jas] at ha hb; subst ha hb; exact hv
     | succ k =>
       simp [jas] at ha hb
       refine hr.at_ k a b ?_ (by simpa using hb)
       rw [show o + (i + 1) = o + i + 1 from by omega]
       simpa using ha
theorem jcE {w : World} {zero : Array Value} {over : T Value} {b o : Nat} (n i : Nat) (acc : Array Value)
  (h : ∀ k, k < n → ∃ x, w.cell? ⟨b, o + i + k, none⟩ = some x ∧ VRel J (cellAt zero over (o + i + k)) x) :
  ∃ l : List Value, (loadCellsFrom ⟨b, o, none⟩ i n acc).run P w = .ok (acc ++ l.toArray) w ∧ ARel J (jas zero over (o + i) n).toArray l.toArray :=
 let ⟨l, h1, h2⟩ := jbL (P := P) n i acc h
 ⟨l, h1 w rfl, h2⟩
def strip (v : Value) : Value := match jaK 5 v with
 | true => v
 | false => .chan none
theorem jg5 (J : Nat → Loc) (v : Value) : VRel J (strip v) v := by
 unfold strip
 split
 ·rename_i h; exact jbp 5 h
 ·exact .any _ _
def jb3 (o : Option Ob) : Option (Nat × Array Value × T Value) :=
 match o with
 | some (.cells n _ zero over _ _ _ _) => some (n, zero, over)
 | some (.rom l _) => some (l.length, l.toArray, .e)
 | some (.held c _ _) => some (c.size, c.map strip, .e)
 | some (.pin l _ _ _) => some (l.length, l.toArray, .e)
 | _ => none
theorem jd9 {μ : Mem} {w : World} (h : Rel J μ w) {i n : Nat} {zero : Array Value} {over : T Value} (ho : jb3 (μ.obs.get i) = some (n, zero, over)) :
  ∃ b s, J i = .at b s ∧ ∀ k, k < n → ∃ x, w.cell? ⟨b, k, none⟩ = some x ∧ VRel J (cellAt zero over k) x := by
 unfold jb3 at ho
 split at ho
 ·rename_i n' t' z' o' lo hi fx sh hob
  cases ho
  obtain ⟨b, s, hb, _, hc⟩ := cell_of h hob
  exact ⟨b, s, hb, hc⟩
 ·rename_i l t hob
  cases ho
  obtain ⟨b, s, hb, h1, h2⟩ := h.obj i _ hob (by simp)
  refine ⟨b, s, hb, fun k hk => ⟨l[k], by simp [World.cell?, h1, hk], ?_⟩⟩
  have hm : Nat.mod k l.toArray.size = k := by show k % _ = k; rw [Nat.mod_eq_of_lt]; simpa using hk
  have : cellAt l.toArray T.e k = l[k] := by
   simp only [cellAt, T.get_e, hm]
   simp [Array.getD, hk]
  rw [this]
  exact h2 _ (List.getElem_mem hk)
 ·rename_i c t fz hob
  cases ho
  obtain ⟨b, s, hb, h1⟩ := h.obj i _ hob (by simp)
  have h1' : w.heap[b]? = some (.cells c t fz) := h1
  refine ⟨b, s, hb, fun k hk => ⟨c[k], by simp [World.cell?, h1', hk], ?_⟩⟩
  have hm : Nat.mod k (c.map strip).size = k := by show k % _ = k; rw [Nat.mod_eq_of_lt]; simpa using hk
  have : cellAt (c.map strip) T.e k = strip c[k] := by
   simp only [cellAt, T.get_e, hm]
   simp [Array.getD, hk]
  rw [this]
  exact jg5 J _
 ·rename_i l c t fz hob
  cases ho
  obtain ⟨b, s, hb, h1, h2⟩ := h.obj i _ hob (by simp)
  refine ⟨b, s, hb, fun k hk => ?_⟩
  have hk' : k < l.toArray.size := by simpa using hk
  obtain ⟨x, hx, hv⟩ := h2.get (rzJ hk')
  refine ⟨x, by simp [World.cell?, h1, hx], ?_⟩
  have hm : Nat.mod k l.toArray.size = k := by show k % _ = k; rw [Nat.mod_eq_of_lt]; simpa using hk
  have : cellAt l.toArray T.e k = l.toArray[k] := by
   simp only [cellAt, T.get_e, hm]
   simp [Array.getD, hk]
  rw [this]
  exact hv
 ·cases ho
def jcq (P : Program) (μ : Mem) (t : TypeId) (v : Value) : Option Value :=
 match v with
 | .pointer (some ⟨i, o, none⟩) => match jb3 (μ.obs.get i) with
   | some (n, zero, over) => match P.underlying t with
     | some (.struct _) => match P.info? t with
       | some inf => match Nat.ble (Nat.add o inf.size) n with
         | true => some (.agg (jas zero over o inf.size).toArray)
         | false => none
       | none => none
     | some (.array _ _) => match P.info? t with
       | some inf => match Nat.ble (Nat.add o inf.size) n with
         | true => some (.agg (jas zero over o inf.size).toArray)
         | false => none
       | none => none
     | some _ => match Nat.blt o n with
       | true => some (cellAt zero over o)
       | false => none
     | none => none
   | _ => none
 | _ => none
theorem jcV {μ : Mem} {w : World} (h : Rel J μ w) {t : TypeId} {v v' x : Value} (hv : VRel J v v') (hl : jcq P μ t v = some x) :
  ∃ a x', v' = .pointer (some a) ∧ VRel J x x' ∧ (loadVar t a).run P w = .ok x' w := by
 unfold jcq at hl
 split at hl
 ·rename_i i o
  split at hl
  ·rename_i n zero over ho
   obtain ⟨b, s, hb, hc⟩ := jd9 h ho
   have ha : v' = .pointer (some ⟨b, o, none⟩) := by
    cases hv with
    | ptr e => rw [hb] at e; cases e; rfl
    | ptrDead a' e => rw [show J i = _ from hb] at e; cases e
   have agg : ∀ inf, P.info? t = some inf → (isAgg t).run P w = .ok true w → Nat.ble (Nat.add o inf.size) n = true →
     ∃ x', VRel J (.agg (jas zero over o inf.size).toArray) x' ∧ (loadVar t ⟨b, o, none⟩).run P w = .ok x' w := by
    intro inf hinf hag hle
    have hle' : o + inf.size ≤ n := rzE hle
    obtain ⟨l, h1, h2⟩ := jcE (P := P) (w := w) (zero := zero) (over := over) (b := b) (o := o) inf.size 0 #[] (fun k hk => hc _ (by omega))
    refine ⟨.agg l.toArray, .agg h2.size h2.at_, ?_⟩
    simp only [loadVar, rzB, hag, rzA, if_true, ja2 hinf, loadCells, h1, rzC]
    simp
   split at hl
   ·rename_i f hu
    split at hl
    ·rename_i inf hinf
     split at hl
     ·rename_i hle
      cases hl
      obtain ⟨x', h1, h2⟩ := agg inf hinf (by simp only [isAgg, rzB, jaw hu, rzA, rzC]) hle
      exact ⟨_, x', ha, h1, h2⟩
     ·cases hl
    ·cases hl
   ·rename_i m e hu
    split at hl
    ·rename_i inf hinf
     split at hl
     ·rename_i hle
      cases hl
      obtain ⟨x', h1, h2⟩ := agg inf hinf (by simp only [isAgg, rzB, jaw hu, rzA, rzC]) hle
      exact ⟨_, x', ha, h1, h2⟩
     ·cases hl
    ·cases hl
   ·rename_i d h1 h2 hu
    split at hl
    ·rename_i hlt
     cases hl
     have hlt' : o < n := by simpa using hlt
     obtain ⟨x', hx, hvx⟩ := hc o hlt'
     have hag : (isAgg t).run P w = .ok false w := by
      simp only [isAgg, rzB, jaw hu, rzA]
      cases d <;> first | rfl | exact absurd rfl (h1 _) | exact absurd rfl (h2 _ _)
     refine ⟨_, x', ha, hvx, ?_⟩
     simp only [loadVar, rzB, hag, rzA, Bool.false_eq_true, if_false, run_load hx]
    ·cases hl
   ·cases hl
  ·cases hl
 ·cases hl
def bytesOf : List Value → Option (List UInt8)
 | [] => some []
 | .int .u8 n :: r => match bytesOf r with
   | some l => some (UInt8.ofNat n.toNat :: l)
   | none => none
 | _ :: _ => none
def jcD : List Value → ByteArray → Option ByteArray
 | [], acc => some acc
 | .int .i32 n :: r, acc => jcD r (acc ++ Utf8.encode n)
 | _ :: _, _ => none
theorem run_runes {w : World} {F : Value → ByteArray → Sem (ForInStep ByteArray)} (hF : ∀ n s, F (.int .i32 n) s = pure (.yield (s ++ Utf8.encode n))) :
  ∀ (l l' : List Value) (r acc : ByteArray), ARel J l.toArray l'.toArray → jcD l acc = some r → (forIn l' acc F).run P w = .ok r w := by
 intro l
 induction l with
 | nil =>
   intro l' r acc h hr
   obtain rfl : l' = [] := by have := h.size; simp at this; exact List.length_eq_zero_iff.1 this.symm
   simp only [jcD] at hr; cases hr
   simp [rzC]
 | cons v l ih =>
   intro l' r acc h hr
   cases l' with
   | nil => have := h.size; simp at this
   | cons v' l' =>
     have hv : ∃ n, v = .int .i32 n ∧ jcD l (acc ++ Utf8.encode n) = some r := by
      cases v with
      | int k n => cases k <;> first | exact ⟨n, rfl, hr⟩ | (simp [jcD] at hr)
      | _ => simp [jcD] at hr
     obtain ⟨n, rfl, hr⟩ := hv
     have h0 : VRel J (.int .i32 n) v' := h.at_ 0 _ _ rfl rfl
     have hrest : ARel J l.toArray l'.toArray := ⟨by have := h.size; simp at this ⊢; exact this, fun i a b ha hb => h.at_ (i + 1) a b (by simpa using ha) (by simpa using hb)⟩
     rw [ja4 h0]
     simp only [List.forIn_cons, rzB, hF, rzC, rzA]
     exact ih l' r _ hrest hr
def ja3 (P : Program) (μ : Mem) (src dst : TypeId) (v : Value) : Option Value :=
 match v with
 | .slice (some ⟨i, o, none⟩) len _ => match P.underlying src with
   | some (.slice e) => match P.underlying dst with
     | some .string => match P.underlying e with
       | some (.int .u8) => match μ.obs.get i with
         | some (.cells n _ zero over _ _ _ _) => match Nat.ble (Nat.add o len) n with
           | true => match bytesOf (jas zero over o len) with
             | some l => some (.string ⟨l.toArray⟩)
             | none => none
           | false => none
         | some (.held ch _ _) => match Nat.ble (Nat.add o len) ch.size with
           | true => match bytesOf (jas (ch.map strip) .e o len) with
             | some l => some (.string ⟨l.toArray⟩)
             | none => none
           | false => none
         | _ => match Nat.beq len 0 with
           | true => some (.string ⟨#[]⟩)
           | false => none
       | some (.int .i32) => match μ.obs.get i with
         | some (.cells n _ zero over _ _ _ _) => match Nat.ble (Nat.add o len) n with
           | true => match jcD (jas zero over o len) .empty with
             | some l => some (.string l)
             | none => none
           | false => none
         | _ => none
       | _ => none
     | _ => none
   | _ => none
 | .slice (some _) 0 _ => match P.underlying src with
   | some (.slice e) => match P.underlying dst with
     | some .string => match P.underlying e with
       | some (.int .u8) => some (.string ⟨#[]⟩)
       | _ => none
     | _ => none
   | _ => none
 | _ => none
theorem jhc {w : World} {F : Value → ByteArray → Sem (ForInStep ByteArray)} (hF : ∀ n s, F (.int .u8 n) s = pure (.yield (s.push (UInt8.ofNat n.toNat)))) :
  ∀ (l l' : List Value) (r : List UInt8) (acc : ByteArray), ARel J l.toArray l'.toArray → bytesOf l = some r →
  (forIn l' acc F).run P w = .ok ⟨(acc.data.toList ++ r).toArray⟩ w := by
 intro l
 induction l with
 | nil =>
   intro l' r acc h hr
   obtain rfl : l' = [] := by have := h.size; simp at this; exact List.length_eq_zero_iff.1 this.symm
   simp only [bytesOf] at hr; cases hr
   simp [rzC]
 | cons v l ih =>
   intro l' r acc h hr
   cases l' with
   | nil => have := h.size; simp at this
   | cons v' l' =>
     unfold bytesOf at hr
     split at hr
     ·rename_i e; cases e
     ·rename_i n r' e
      cases e
      split at hr
      ·rename_i l2 hl2
       cases hr
       have h0 : VRel J (.int .u8 n) v' := h.at_ 0 _ _ rfl rfl
       have hrest : ARel J l.toArray l'.toArray := ⟨by have := h.size; simp at this ⊢; exact this, fun i a b ha hb => h.at_ (i + 1) a b (by simpa using ha) (by simpa using hb)⟩
       rw [ja4 h0]
       simp only [List.forIn_cons, rzB, hF, rzC, rzA]
       rw [ih l' l2 _ hrest hl2]
       simp [ByteArray.push]
      ·cases hr
     ·cases hr
theorem jdz {ρ ρ' : Operand → Value} (hρ : ∀ x, VRel J (ρ x) (ρ' x)) {μ : Mem} {w : World} (h : Rel J μ w) {o : Oper} {src dst : TypeId} {x : Operand} {v : Value}
  (ho : o.op = .convert src dst x) (hv : ja3 P μ src dst (ρ x) = some v) : ∃ v', VRel J v v' ∧ (execOp ρ' o).run P w = .ok (.value v') w := by
 have hx := hρ x
 unfold ja3 at hv
 have empty : ∀ e a' c', ρ' x = .slice (some a') 0 c' → P.underlying src = some (.slice e) → P.underlying dst = some .string → P.underlying e = some (.int .u8) →
   (execOp ρ' o).run P w = .ok (.value (.string ⟨#[]⟩)) w := by
  intro e a' c' hx' h1 h2 h3
  simp only [execOp, ho, convert, rzB, jaw h1, jaw h2, jaw h3, rzA, hx', Conv.bytesToString, loadCells, loadCellsFrom, rzC]
  rfl
 split at hv
 ·rename_i i of len c e
  rw [e] at hx
  obtain ⟨a', c', hx', _, hcase⟩ := jbh hx
  split at hv
  ·rename_i el hs
   split at hv
   ·rename_i hd
    split at hv
    ·rename_i he
     split at hv
     ·rename_i n te zero over lo hi fx sh hob
      split at hv
      ·rename_i hle
       have hle' : of + len ≤ n := rzE hle
       split at hv
       ·rename_i l hl
        cases hv
        obtain ⟨b, s, hb, _, hc⟩ := cell_of h hob
        have ha' : a' = ⟨b, of, none⟩ := by
         rcases hcase with ⟨i2, o2, b2, s2, e1, e2, e3, _⟩ | ⟨e1, _⟩
         ·cases e1; rw [hb] at e3; cases e3; exact e2
         ·rw [show J i = _ from hb] at e1; cases e1
        subst ha'
        obtain ⟨l', h1, h2⟩ := jcE (P := P) (w := w) (zero := zero) (over := over) (b := b) (o := of) len 0 #[] (fun k hk => hc _ (by omega))
        refine ⟨_, .string _, ?_⟩
        have h4 : (loadCells ⟨b, of, none⟩ len).run P w = .ok l'.toArray w := by simpa [loadCells] using h1
        simp only [execOp, ho, convert, rzB, jaw hs, jaw hd, jaw he, rzA, hx', Conv.bytesToString, h4]
        rw [List.forIn_toArray, jhc (P := P) (w := w) (fun n s => rfl) (jas zero over of len) l' l .empty (by simpa using h2) hl]
        simp only [rzA, rzC]
        simp
       ·cases hv
      ·cases hv
     ·rename_i ch te fz hob
      split at hv
      ·rename_i hle
       have hle' : of + len ≤ ch.size := rzE hle
       split at hv
       ·rename_i l hl
        cases hv
        obtain ⟨b, s, hb, hc⟩ := jd9 h (i := i) (n := ch.size) (zero := ch.map strip) (over := .e) (by rw [hob]; rfl)
        have ha' : a' = ⟨b, of, none⟩ := by
         rcases hcase with ⟨i2, o2, b2, s2, e1, e2, e3, _⟩ | ⟨e1, _⟩
         ·cases e1; rw [hb] at e3; cases e3; exact e2
         ·rw [show J i = _ from hb] at e1; cases e1
        subst ha'
        obtain ⟨l', h1, h2⟩ := jcE (P := P) (w := w) (zero := ch.map strip) (over := .e) (b := b) (o := of) len 0 #[] (fun k hk => hc _ (by omega))
        refine ⟨_, .string _, ?_⟩
        have h4 : (loadCells ⟨b, of, none⟩ len).run P w = .ok l'.toArray w := by simpa [loadCells] using h1
        simp only [execOp, ho, convert, rzB, jaw hs, jaw hd, jaw he, rzA, hx', Conv.bytesToString, h4]
        rw [List.forIn_toArray, jhc (P := P) (w := w) (fun n s => rfl) (jas (ch.map strip) .e of len) l' l .empty (by simpa using h2) hl]
        simp only [rzA, rzC]
        simp
       ·cases hv
      ·cases hv
     ·split at hv
      ·rename_i hz
       obtain rfl : len = 0 := rzD hz
       cases hv
       exact ⟨_, .string _, empty _ _ _ hx' hs hd he⟩
      ·cases hv
    ·rename_i he
     split at hv
     ·rename_i n te zero over lo hi fx sh hob
      split at hv
      ·rename_i hle
       have hle' : of + len ≤ n := rzE hle
       split at hv
       ·rename_i l hl
        cases hv
        obtain ⟨b, s, hb, _, hc⟩ := cell_of h hob
        have ha' : a' = ⟨b, of, none⟩ := by
         rcases hcase with ⟨i2, o2, b2, s2, e1, e2, e3, _⟩ | ⟨e1, _⟩
         ·cases e1; rw [hb] at e3; cases e3; exact e2
         ·rw [show J i = _ from hb] at e1; cases e1
        subst ha'
        obtain ⟨l', h1, h2⟩ := jcE (P := P) (w := w) (zero := zero) (over := over) (b := b) (o := of) len 0 #[] (fun k hk => hc _ (by omega))
        refine ⟨_, .string _, ?_⟩
        have h4 : (loadCells ⟨b, of, none⟩ len).run P w = .ok l'.toArray w := by simpa [loadCells] using h1
        simp only [execOp, ho, convert, rzB, jaw hs, jaw hd, jaw he, rzA, hx', Conv.runesToString, h4]
        rw [List.forIn_toArray, run_runes (P := P) (w := w) (fun n s => rfl) (jas zero over of len) l' l .empty (by simpa using h2) hl]
        simp only [rzA, rzC]
       ·cases hv
      ·cases hv
     ·cases hv
    ·cases hv
   ·cases hv
  ·cases hv
 ·rename_i a c hna e
  rw [e] at hx
  obtain ⟨a', c', hx', _, _⟩ := jbh hx
  split at hv
  ·rename_i el hs
   split at hv
   ·rename_i hd
    split at hv
    ·rename_i he
     cases hv
     exact ⟨_, .string _, empty _ _ _ hx' hs hd he⟩
    ·cases hv
   ·cases hv
  ·cases hv
 ·cases hv
end
noncomputable section
variable {P : Program} {J : Nat → Loc}
structure Makes (P : Program) (J : Nat → Loc) (ρ' : Operand → Value) (o : Oper) (ob : Ob) (mk : Nat → Value) (w : World) (o' : Obj) (s : Nat) (v' : Value) (w' : World) : Prop where
 run : (execOp ρ' o).run P w = .ok (.value v') w'
 heap : w'.heap = w.heap.push o'
 os : w'.os = w.os
 tape : w'.tape = w.tape
 output : w'.output = w.output
 rel : ∀ J' id, Ext J J' → J' id = .at w.heap.size s → VRel J' (mk id) v' ∧ ObRel J' w' w.heap.size s ob
theorem ARel.mono {J' : Nat → Loc} {x x' : Array Value} (h : ARel J x x') (he : Ext J J') : ARel J' x x' :=
 ⟨h.size, fun i a b ha hb => (h.at_ i a b ha hb).mono he⟩
theorem jea {w : World} {l : List Value} {x' : Array Value} {t : TypeId} (h : ARel J l.toArray x') :
  ObRel J (w.alloc (.cells x' t)) w.heap.size x'.size (.cells l.length t l.toArray .e 0 0 false false) := by
 have hs : l.length = x'.size := by simpa using h.size
 refine ⟨x', (0, 0), heap_alloc_new w _, rfl, by omega, fun _ => hs, fun i hi => ?_, .inl rfl⟩
 refine ⟨x'[i], rzJ (by omega), ?_⟩
 refine h.at_ i _ _ ?_ (rzJ (by omega))
 have hm : Nat.mod i l.toArray.size = i := by show i % _ = i; rw [Nat.mod_eq_of_lt]; simpa using hi
 simp only [cellAt, T.get_e, hm]
 rw [rzJ (by simpa using hi), Array.getD, dif_pos (by simpa using hi)]
 rfl
theorem jbW {t : TypeId} {x : Array Value} (w : World) : (newRow t x).run P w = .ok ⟨w.heap.size, 0, none⟩ (w.alloc (.cells x t)) := by
 simp [newRow, newObj, rzB, Sem.run, Result.andThen, World.alloc_eq, rzC]
def jcS (P : Program) (t : TypeId) : Option (Ob × (Nat → Value)) :=
 match ja6 P t with
 | some z => some (.cells (jaR z).length t (jaR z).toArray .e 0 0 false false, fun id => .pointer (some ⟨id, 0, none⟩))
 | none => none
theorem jh0 {ρ' : Operand → Value} {o : Oper} {t : TypeId} {ob : Ob} {mk : Nat → Value} (ho : o.op = .alloc t) (h : jcS P t = some (ob, mk)) (w : World) :
  ∃ o' s v' w', Makes P J ρ' o ob mk w o' s v' w' := by
 unfold jcS at h
 split at h
 ·rename_i z hz
  cases h
  have hzp := (jbs hz default).2
  refine ⟨.cells z.cells t, z.cells.size, .pointer (some ⟨w.heap.size, 0, none⟩), w.alloc (.cells z.cells t), ?_, rfl, rfl, rfl, rfl, fun J' id he hid => ⟨.ptr hid, ?_⟩⟩
  ·simp only [execOp, ho, Instr.alloc, rzB, (jbs hz w).1, rzA, newVar, jbW, rzC]
  ·exact jea (jcc (jbp 5 hzp) (jcG hzp))
 ·cases h
def aBox (t : TypeId) (v : Value) : Option (Ob × (Nat → Value)) :=
 match jde v with
 | true => some (.cells (jaR v).length t (jaR v).toArray .e 0 0 false false, fun id => .pointer (some ⟨id, 0, none⟩))
 | false => none
theorem jkt {ρ ρ' : Operand → Value} (hρ : ∀ x, VRel J (ρ x) (ρ' x)) {o : Oper} {t : TypeId} {x : Operand} {ob : Ob} {mk : Nat → Value} (ho : o.op = .box t x)
  (h : aBox t (ρ x) = some (ob, mk)) (w : World) : ∃ o' s v' w', Makes P J ρ' o ob mk w o' s v' w' := by
 unfold aBox at h
 split at h
 ·rename_i hn
  cases h
  refine ⟨.cells (ρ' x).cells t, (ρ' x).cells.size, .pointer (some ⟨w.heap.size, 0, none⟩), w.alloc (.cells (ρ' x).cells t), ?_, rfl, rfl, rfl, rfl, fun J' id he hid => ⟨.ptr hid, ?_⟩⟩
  ·simp only [execOp, ho, Instr.box, rzB, rzA, newVar, jbW, rzC]
  ·exact jea ((jcc (hρ x) hn).mono he)
 ·cases h
def tile (zero : List Value) (n : Nat) : List Value := (List.range n).map fun i => zero.toArray.getD (Nat.mod i zero.length) undef
theorem jhK {z : List Value} {z' : Array Value} (h : ARel J z.toArray z') {n : Nat} (hz : 0 < z.length ∨ n = 0) :
  ARel J (tile z n).toArray ((Array.range n).map (z'[· % z'.size]!)) where
 size := by simp [tile]
 at_ i a b ha hb := by
  have hs : z.length = z'.size := by simpa using h.size
  simp only [tile, List.getElem?_toArray, List.getElem?_map, Array.getElem?_map] at ha hb
  have hi : i < n := by
   rcases Nat.lt_or_ge i n with h1 | h1
   ·exact h1
   ·rw [List.getElem?_eq_none (by simpa using h1)] at ha; cases ha
  have hz' : 0 < z.length := by omega
  rw [List.getElem?_range hi] at ha
  rw [rzJ (by simpa using hi)] at hb
  simp at ha hb
  have hm : i % z.length < z.length := Nat.mod_lt _ hz'
  have hm' : i % z'.size < z'.size := by rw [← hs]; exact hm
  rw [show Nat.mod i z.length = i % z.length from rfl] at ha
  subst ha hb
  refine h.at_ (i % z.length) _ _ ?_ ?_
  ·simp [hm]
  ·rw [hs, rzJ hm', getElem!_pos z' (i % z'.size) hm']
def jap (P : Program) (ρ : Operand → Value) (t : TypeId) (len : Nat) (parts : Array (Nat × Operand)) : Option (Ob × (Nat → Value)) :=
 match P.underlying t with
 | some (.slice e) => match P.info? e with
   | some inf => match Nat.ble (Nat.mul len inf.size) 16777216 with
     | false => none
     | true => match Nat.beq (Nat.mul len inf.size) 0 with
       | true => match parts.toList with
         | [] => some (.cells 0 e #[] .e 0 0 false false, fun id => .slice (some ⟨id, 0, none⟩) len (Nat.mul 2 len))
         | _ :: _ => none
       | false => match ja6 P e with
         | none => none
         | some z => match Nat.beq (jaR z).length 0 with
           | true => none
           | false => match jcR (fun i => some (Nat.mul i inf.size, inf.size)) (tile (jaR z) (Nat.mul len inf.size)) (parts.toList.map fun p => (p.1, ρ p.2)) with
             | some cs => some (.cells cs.length e cs.toArray .e 0 0 false false, fun id => .slice (some ⟨id, 0, none⟩) len (Nat.mul 2 len))
             | none => none
   | none => none
 | _ => none
theorem jeJ {ρ ρ' : Operand → Value} (hρ : ∀ x, VRel J (ρ x) (ρ' x)) {o : Oper} {t : TypeId} {len : Nat} {parts : Array (Nat × Operand)} {ob : Ob} {mk : Nat → Value} (ho : o.op = .buildSlice t len parts)
  (h : jap P ρ t len parts = some (ob, mk)) (w : World) : ∃ o' s v' w', Makes P J ρ' o ob mk w o' s v' w' := by
 unfold jap at h
 obtain ⟨hl, hp⟩ := jhn hρ parts
 split at h
 ·rename_i e hu
  split at h
  ·rename_i inf hinf
   split at h
   ·cases h
   ·rename_i hle
    have hle' : len * inf.size ≤ 16777216 := rzE hle
    split at h
    ·rename_i h0
     have h0' : len * inf.size = 0 := rzD h0
     split at h
     ·rename_i hpa
      cases h
      have hpe : parts = #[] := by rw [← Array.toList_eq_nil_iff]; exact hpa
      subst hpe
      refine ⟨.cells #[] e, 0, .slice (some ⟨w.heap.size, 0, none⟩) len len, w.alloc (.cells #[] e), ?_, rfl, rfl, rfl, rfl, fun J' id he hid => ⟨.slice hid (.inl ⟨by show 2 * len % 2 = 0; omega, by show len = 2 * len / 2; omega⟩), ?_⟩⟩
      ·have h24 : ¬ (len * inf.size > 2 ^ 24) := by omega
       have em : ∀ f : Nat → Value, Array.map f (Array.range 0) = #[] := fun f => by simp
       have h24' : ¬ (0 > 2 ^ 24) := by omega
       simp only [execOp, ho, Instr.buildSlice, rzB, jaw hu, ja2 hinf, rzA, h0', if_neg h24', if_true, List.map_nil, em, rzC, jbW, Array.map_empty, List.map_toArray, Instr.fill, Array.toList_empty]
      ·exact jea (l := []) (x' := #[]) ⟨rfl, fun i a b h => by simp at h⟩
     ·cases h
    ·rename_i h0
     have h0' : len * inf.size ≠ 0 := rzF h0
     split at h
     ·cases h
     ·rename_i z hz
      split at h
      ·cases h
      ·rename_i hz0
       have hz0' : (jaR z).length ≠ 0 := rzF hz0
       split at h
       ·rename_i cs hcs
        cases h
        have hzp := (jbs hz default).2
        have hz2 : ARel J (jaR z).toArray z.cells := jcc (jbp 5 hzp) (jcG hzp)
        obtain ⟨r', hr', hR⟩ := jdJ _ _ _ _ _ (jhK hz2 (n := len * inf.size) (.inl (by omega))) hl hp hcs
        have hr'' : Instr.fill (fun i => some (i * inf.size, inf.size)) ((Array.range (len * inf.size)).map (z.cells[· % z.cells.size]!)) (parts.map fun (i, x) => (i, ρ' x)).toList = some r' := hr'
        refine ⟨.cells r' e, r'.size, .slice (some ⟨w.heap.size, 0, none⟩) len len, w.alloc (.cells r' e), ?_, rfl, rfl, rfl, rfl, fun J' id he hid => ⟨.slice hid (.inl ⟨by show 2 * len % 2 = 0; omega, by show len = 2 * len / 2; omega⟩), ?_⟩⟩
        ·have h24 : ¬ (len * inf.size > 2 ^ 24) := by omega
         simp only [execOp, ho, Instr.buildSlice, rzB, jaw hu, ja2 hinf, rzA, if_neg h24, if_neg h0', (jbs hz w).1, rzC, hr'', jbW]
        ·exact jea (hR.mono he)
       ·cases h
  ·cases h
 ·cases h
def jbZ (P : Program) (t : TypeId) (l c : Value) : Option (Ob × (Nat → Value)) :=
 match l, c with
 | .int _ (.ofNat ln), .int _ (.ofNat cn) => match P.underlying t with
   | some (.slice e) => match P.info? e with
     | some inf => match Nat.ble ln cn with
       | false => none
       | true => match Nat.ble cn 1073741824 with
         | false => none
         | true => match Nat.ble (Nat.mul cn inf.bytes) 1099511627776 with
           | false => none
           | true => match ja6 P e with
             | none => none
             | some z => match Nat.beq (jaR z).length inf.size with
               | false => none
               | true => some (.cells (Nat.mul cn inf.size) e (jaR z).toArray .e 0 0 false false, fun id => .slice (some ⟨id, 0, none⟩) ln (Nat.mul 2 cn))
     | none => none
   | _ => none
 | _, _ => none
theorem run_askRoom {n : Nat} (h : n ≤ 2 ^ 47) (w : World) : (askRoom n).run P w = .ok () w := by
 unfold askRoom roomBytes
 rw [if_neg (by omega)]; rfl
theorem wrap_small {n : Nat} (h : n ≤ 1073741824) : IntKind.i64.wrap (Int.ofNat n) = Int.ofNat n :=
 IntWalk.i64_in _ ⟨by show (-9223372036854775808 : Int) ≤ (n : Int); omega, by show (n : Int) ≤ 9223372036854775807; omega⟩
theorem jeR {ρ ρ' : Operand → Value} (hρ : ∀ x, VRel J (ρ x) (ρ' x)) {o : Oper} {t : TypeId} {l c : Operand} {ob : Ob} {mk : Nat → Value} (ho : o.op = .makeSlice t l c)
  (h : jbZ P t (ρ l) (ρ c) = some (ob, mk)) (w : World) : ∃ o' s v' w', Makes P J ρ' o ob mk w o' s v' w' := by
 have hl := hρ l
 have hc := hρ c
 unfold jbZ at h
 split at h
 ·rename_i k1 ln k2 cn e1 e2
  rw [e1] at hl
  rw [e2] at hc
  split at h
  ·rename_i e hu
   split at h
   ·rename_i inf hinf
    split at h
    ·cases h
    ·rename_i h1
     have h1' : ln ≤ cn := rzE h1
     split at h
     ·cases h
     ·rename_i h2
      have h2' : cn ≤ 1073741824 := rzE h2
      split at h
      ·cases h
      ·rename_i h3
       have h3' : cn * inf.bytes ≤ 1099511627776 := rzE h3
       split at h
       ·cases h
       ·rename_i z hz
        split at h
        ·cases h
        ·rename_i hzs
         have hzs' : (jaR z).length = inf.size := rzD hzs
         cases h
         have hzp := (jbs hz default).2
         have hz2 : ∀ J' : Nat → Loc, ARel J' (jaR z).toArray z.cells := fun J' => jcc (jbp 5 hzp) (jcG hzp)
         have hzc : z.cells.size = inf.size := by have := (hz2 J).size; simp at this; omega
         have htl : ARel J (tile (jaR z) (cn * inf.size)).toArray ((Array.range (cn * inf.size)).map (z.cells[· % z.cells.size]!)) := by
          refine jhK (hz2 J) ?_
          by_cases h0 : inf.size = 0
          ·right; rw [h0]; rfl
          ·left; omega
         refine ⟨.cells ((Array.range (cn * inf.size)).map (z.cells[· % z.cells.size]!)) e, cn * inf.size, .slice (some ⟨w.heap.size, 0, none⟩) ln cn,
          w.alloc (.cells ((Array.range (cn * inf.size)).map (z.cells[· % z.cells.size]!)) e), ?_, rfl, rfl, rfl, rfl, fun J' id he hid =>
           ⟨.slice hid (.inl ⟨by show 2 * cn % 2 = 0; omega, by show cn = 2 * cn / 2; omega⟩), ?_⟩⟩
         ·have hl' : ρ' l = .int k1 (ln : Int) := ja4 hl
          have hc' : ρ' c = .int k2 (cn : Int) := ja4 hc
          have w1 : IntKind.i64.wrap (cn : Int) = cn := wrap_small h2'
          have w2 : IntKind.i64.wrap (ln : Int) = ln := wrap_small (Nat.le_trans h1' h2')
          have hb1 : ((cn : Int) < 0) = False := by simp
          have hb2 : ((inf.bytes : Int) * (cn : Int) > 2 ^ 48) = False := by
           have e0 : (inf.bytes : Int) * (cn : Int) = ((cn * inf.bytes : Nat) : Int) := by rw [Nat.mul_comm]; rfl
           rw [e0]
           have : ((2 : Int) ^ 48) = 281474976710656 := by decide
           simp only [gt_iff_lt, eq_iff_iff, iff_false, Int.not_lt]
           omega
          have hb3 : ((ln : Int) < 0) = False := by simp
          have hb4 : ((ln : Int) > (cn : Int)) = False := by simp; omega
          have hroom : cn * inf.bytes ≤ 2 ^ 47 := by
           have : (2 : Nat) ^ 47 = 140737488355328 := by decide
           omega
          simp only [execOp, ho, hl', hc', Instr.makeSlice, asInt, asIntOf, rzB, jaw hu, jdU hinf, rzA, rzC, w1, w2, hb1, hb2, hb3, hb4,
           decide_false, Bool.or_false, Bool.false_eq_true, if_false, Int.toNat_natCast, run_askRoom hroom, ja2 hinf]
          by_cases h0 : cn * inf.size = 0
          ·have em : ∀ f : Nat → Value, Array.map f (Array.range 0) = #[] := fun f => by simp
           simp only [h0, em, if_true, rzC, rzA, rzB, jbW]
          ·simp only [if_neg h0, rzB, (jbs hz w).1, rzC, rzA, jbW]
         ·refine ⟨_, (0, 0), heap_alloc_new w _, by simp, Nat.le_refl _, fun _ => rfl, fun i hi => ?_, .inl rfl⟩
          have hi : i < cn * inf.size := hi
          have hm0 : 0 < inf.size := by
           rcases Nat.eq_zero_or_pos inf.size with h0 | h0
           ·rw [h0] at hi; simp at hi
           ·exact h0
          have hlt : i % (jaR z).length < (jaR z).length := Nat.mod_lt _ (by omega)
          have := (htl.mono he).at_ i ((jaR z).toArray.getD (i % (jaR z).length) undef) (z.cells[i % z.cells.size]!) (by
           simp only [tile, List.getElem?_toArray, List.getElem?_map, List.getElem?_range hi]; rfl) (by simp [hi])
          refine ⟨z.cells[i % z.cells.size]!, by simp [hi], ?_⟩
          simp only [cellAt, T.get_e]
          rw [show Nat.mod i (jaR z).toArray.size = i % (jaR z).length from rfl]
          exact this
   ·cases h
  ·cases h
 ·cases h
end
noncomputable section
variable {P : Program} {J : Nat → Loc}
theorem jdX (need old : Nat) (e : TypeId) (w : World) :
  ∃ c, need ≤ c ∧ (choose (.appendCap need old e)).run P w = .ok c { w with drawn := w.drawn + 1 } :=
 ⟨need + w.tape w.drawn (.appendCap need old e) % (2 ^ 63 - need), by omega, by
  simp [choose, Sem.run, Question.forced, Question.cut]⟩
theorem jhz (w : World) (C : Array Value) (e : TypeId) : ((w.alloc (.cells C e)).freeze ⟨w.heap.size, C.size, none⟩ 1).heap = w.heap.push (.cells C e (C.size, C.size + 1)) := by
 have e1 : (w.alloc (.cells C e)).heap = w.heap.push (.cells C e) := rfl
 unfold World.freeze
 rw [if_neg (by omega)]
 apply Array.ext_getElem?
 intro i
 simp only [e1, Array.getElem?_modify, Array.getElem?_push]
 by_cases h : w.heap.size = i
 ·subst h; simp
 ·rw [if_neg h, if_neg (fun h2 => h h2.symm), if_neg (fun h2 => h h2.symm)]
def jcM (P : Program) (src dst : TypeId) (v : Value) : Option (Ob × (Nat → Value)) :=
 match v with
 | .string s => match P.underlying src with
   | none => none
   | some us => match P.underlying dst with
     | some (.slice e) => match P.underlying e with
       | some (.int .u8) => some (.cells s.data.toList.length e (s.data.toList.map fun b => .int .u8 b.toNat).toArray .e 0 0 true true, fun id => .slice (some ⟨id, 0, none⟩) s.data.toList.length 3)
       | _ => none
     | _ => none
 | _ => none
theorem jdy {ρ ρ' : Operand → Value} (hρ : ∀ x, VRel J (ρ x) (ρ' x)) {o : Oper} {src dst : TypeId} {x : Operand} {ob : Ob} {mk : Nat → Value} (ho : o.op = .convert src dst x)
  (h : jcM P src dst (ρ x) = some (ob, mk)) (w : World) : ∃ o' s v' w', Makes P J ρ' o ob mk w o' s v' w' := by
 have hx := hρ x
 unfold jcM at h
 split at h
 ·rename_i s e
  rw [e] at hx
  split at h
  ·cases h
  ·rename_i us hus
   split at h
   ·rename_i el hd
    split at h
    ·rename_i he
     cases h
     obtain ⟨c, hc, hr⟩ := jdX (P := P) s.size 0 el w
     have hlen : s.data.toList.length = s.size := by rw [Array.length_toList]; rfl
     obtain ⟨C, hC⟩ : ∃ C : Array Value, C = (s.data.map fun b => Value.int .u8 b.toNat) ++ Array.replicate (c - s.size) (.int .u8 0) := ⟨_, rfl⟩
     have hsz : s.data.size = s.size := rfl
     have hCs : C.size = c := by rw [hC, Array.size_append, Array.size_map, Array.size_replicate, hsz]; omega
     obtain ⟨w', hw', hwh⟩ : ∃ w', w' = (({ w with drawn := w.drawn + 1 } : World).alloc (.cells C el)).freeze ⟨w.heap.size, C.size, none⟩ 1 ∧ w'.heap = w.heap.push (.cells C el (C.size, C.size + 1)) := by
      exact ⟨_, rfl, jhz { w with drawn := w.drawn + 1 } C el⟩
     refine ⟨.cells C el (C.size, C.size + 1), C.size, .slice (some ⟨w.heap.size, 0, none⟩) s.size c, w', ?_, hwh, ?_, ?_, ?_, fun J' id hE hid => ⟨?_, ?_⟩⟩
     ·have hshape : (shape w.heap.size).run P (({ w with drawn := w.drawn + 1 } : World).alloc (.cells C el)) = .ok (some (el, C.size)) (({ w with drawn := w.drawn + 1 } : World).alloc (.cells C el)) := by
       simp only [shape, Sem.run, World.shape?]
       rw [show (({ w with drawn := w.drawn + 1 } : World).alloc (.cells C el)).heap[w.heap.size]? = some (.cells C el) from heap_alloc_new { w with drawn := w.drawn + 1 } _]
      have hstb : (Conv.stringToBytes el s).run P w = .ok (.slice (some ⟨w.heap.size, 0, none⟩) s.size c) w' := by
       simp only [Conv.stringToBytes, rzB, hr, rzA]
       rw [← hC]
       rw [jbW]
       simp only [rzA, markStringish, rzB, hshape, freeze, Sem.run, rzC]
       rw [hw']
      simp only [execOp, ho, convert, rzB, jaw hus, jaw hd, rzA, jbE hx]
      cases us <;> simp only [jaw he, rzA, hstb, rzC]
     ·rw [hw']; unfold World.freeze; rw [if_neg (by omega)]; rfl
     ·rw [hw']; unfold World.freeze; rw [if_neg (by omega)]; rfl
     ·rw [hw']; unfold World.freeze; rw [if_neg (by omega)]; rfl
     ·simp only [hlen]
      exact .slice hid (.inr ⟨rfl, hc, by show 0 + c * (3 / 2) ≤ C.size; omega⟩)
     ·refine ⟨C, (C.size, C.size + 1), by rw [hwh]; simp, rfl, by omega, (fun h => by cases h), fun i hi => ?_, .inr (.inl ⟨rfl, Nat.le_refl _⟩)⟩
      have hi' : i < s.data.size := by simpa using hi
      refine ⟨.int .u8 (s.data[i]).toNat, ?_, ?_⟩
      ·rw [hC, Array.getElem?_append_left (by simpa using hi'), Array.getElem?_map, rzJ hi']
       rfl
      ·have hm : Nat.mod i (s.data.toList.map fun b => Value.int .u8 b.toNat).toArray.size = i := by
        show i % _ = i; rw [Nat.mod_eq_of_lt]; simpa using hi'
       simp only [cellAt, T.get_e, hm]
       have : (s.data.toList.map fun b => Value.int .u8 b.toNat).toArray.getD i undef = .int .u8 (s.data[i]).toNat := by
        rw [Array.getD_eq_getD_getElem?, List.getElem?_toArray, List.getElem?_map, Array.getElem?_toList, rzJ hi']
        rfl
       rw [this]
       exact .int _ _
    ·cases h
   ·cases h
 ·cases h
def jhR (P : Program) (t : TypeId) (v : Value) : Option (Ob × (Nat → Value)) :=
 match v with
 | .string s => match P.underlying t with
   | some .string => some (.siter s 0, fun id => .pointer (some ⟨id, 0, none⟩))
   | _ => none
 | _ => none
theorem run_newObj (ob : Obj) (w : World) : (newObj ob).run P w = .ok w.heap.size (w.alloc ob) := by
 simp [newObj, Sem.run, World.alloc_eq]
theorem jhQ {ρ ρ' : Operand → Value} (hρ : ∀ x, VRel J (ρ x) (ρ' x)) {o : Oper} {t : TypeId} {x : Operand} {ob : Ob} {mk : Nat → Value} (ho : o.op = .range t x)
  (h : jhR P t (ρ x) = some (ob, mk)) (w : World) : ∃ o' s v' w', Makes P J ρ' o ob mk w o' s v' w' := by
 have hx := hρ x
 unfold jhR at h
 split at h
 ·rename_i s e
  rw [e] at hx
  split at h
  ·rename_i hu
   cases h
   refine ⟨.stringIter s 0, 0, .pointer (some ⟨w.heap.size, 0, none⟩), w.alloc (.stringIter s 0), ?_, rfl, rfl, rfl, rfl, fun J' id hE hid => ⟨.ptr hid, heap_alloc_new w _⟩⟩
   simp only [execOp, ho, jbE hx, Instr.range, rzB, jaw hu, rzA, rzC, run_newObj]
  ·cases h
 ·cases h
theorem jfM {ρ' : Operand → Value} {o : Oper} {t : TypeId} (ho : o.op = .makeMap t none) (w : World) :
  ∃ o' s v' w', Makes P J ρ' o (.map [] 0) (fun id => .map (some id)) w o' s v' w' := by
 refine ⟨.map #[] 0, 0, .map (some w.heap.size), w.alloc (.map #[] 0), ?_, rfl, rfl, rfl, rfl, fun J' id hE hid => ⟨.map hid, #[], heap_alloc_new w _, rfl, fun i k v n e => by simp at e⟩⟩
 simp only [execOp, ho, Instr.makeMap, Option.map_none, rzB, rzA, rzC, run_newObj]
def aA (P : Program) (ρ : Operand → Value) (o : Oper) : Option (Ob × (Nat → Value)) :=
 match o.op with
 | .alloc t => jcS P t
 | .box t x => aBox t (ρ x)
 | .buildSlice t len parts => jap P ρ t len parts
 | .makeSlice t l c => jbZ P t (ρ l) (ρ c)
 | .convert s d x => jcM P s d (ρ x)
 | .range t x => jhR P t (ρ x)
 | .makeMap _ none => some (.map [] 0, fun id => .map (some id))
 | _ => none
theorem aA_sound {ρ ρ' : Operand → Value} (hρ : ∀ x, VRel J (ρ x) (ρ' x)) {o : Oper} {ob : Ob} {mk : Nat → Value} (h : aA P ρ o = some (ob, mk)) (w : World) :
  ∃ o' s v' w', Makes P J ρ' o ob mk w o' s v' w' := by
 unfold aA at h
 split at h
 ·rename_i ho; exact jh0 ho h w
 ·rename_i ho; exact jkt hρ ho h w
 ·rename_i ho; exact jeJ hρ ho h w
 ·rename_i ho; exact jeR hρ ho h w
 ·rename_i ho; exact jdy hρ ho h w
 ·rename_i ho; exact jhQ hρ ho h w
 ·rename_i ho; cases h; exact jfM ho w
 ·cases h
theorem Makes.step {ρ' : Operand → Value} {o : Oper} {ob : Ob} {mk : Nat → Value} {w : World} {o' : Obj} {s : Nat} {v' : Value} {w' : World} (h : Makes P J ρ' o ob mk w o' s v' w') {μ : Mem} (hr : Rel J μ w)
  {i nx : Nat} (hu : J i = .unborn) (hi : i < nx) (hnx : μ.next ≤ nx) :
  VRel (upd J i (.at w.heap.size s)) (mk i) v' ∧ Rel (upd J i (.at w.heap.size s)) ⟨μ.obs.set i ob, nx⟩ w' := by
 obtain ⟨h1, h2⟩ := h.rel (upd J i (.at w.heap.size s)) i (jdG _ hu) (upd_same _ _ _)
 refine ⟨h1, ?_⟩
 have : Rel (upd J i (.at w.heap.size s)) ⟨μ.obs.set i ob, nx⟩ (w.alloc o') :=
  hr.alloc s ob o' hu hi hnx (h2.keep (Ext.refl _) (by rw [h.heap]; rfl))
 exact this.heap (by rw [h.heap]; rfl)
end
noncomputable section
variable {P : Program} {J : Nat → Loc}
def scalar : Value → Bool
 | .agg _ => false
 | .tuple _ => false
 | .chan _ => false
 | _ => true
theorem jfT {v v' : Value} (h : VRel J v v') (hs : scalar v = true) : (∀ x, v' ≠ .agg x) ∧ (∀ x, v' ≠ .tuple x) := by
 cases h <;> first | (cases hs; done) | exact ⟨fun x e => (by cases e), fun x e => (by cases e)⟩
theorem run_store {w : World} {a : Addr} {v u : Value} (h1 : ∀ x, v ≠ .agg x) (h2 : ∀ x, v ≠ .tuple x) (hc : w.cell? a = some u) (hf : w.frozen? a = false) :
  (store a v).run P w = .ok () (w.setCell a v) := by
 cases v <;> first
  | exact absurd rfl (h1 _)
  | exact absurd rfl (h2 _)
  | simp [store, Sem.run, hc, hf]
structure Stored (w w' : World) (b : Nat) (te : TypeId) (fz : Nat × Nat) (c c' : Array Value) : Prop where
 size : w'.heap.size = w.heap.size
 other : ∀ k, k ≠ b → w'.heap[k]? = w.heap[k]?
 block : w'.heap[b]? = some (.cells c' te fz)
 cells : c'.size = c.size
 os : w'.os = w.os
 tape : w'.tape = w.tape
 output : w'.output = w.output
theorem jdA {b te : Nat} {fz : Nat × Nat} {o : Nat} : ∀ (vs : List Value) (i : Nat) (w : World) (c : Array Value), w.heap[b]? = some (.cells c te fz) →
  o + i + vs.length ≤ c.size → (∀ k, o + i ≤ k → k < o + i + vs.length → ¬ (fz.1 ≤ k ∧ k < fz.2)) → (∀ v ∈ vs, (∀ x, v ≠ .agg x) ∧ (∀ x, v ≠ .tuple x)) →
  ∃ w' c', (storeCells ⟨b, o, none⟩ vs i).run P w = .ok () w' ∧ Stored w w' b te fz c c' ∧
   ∀ k, c'[k]? = if o + i ≤ k ∧ k < o + i + vs.length then vs[k - (o + i)]? else c[k]? := by
 intro vs
 induction vs with
 | nil =>
   intro i w c hb _ _ _
   exact ⟨w, c, rfl, ⟨rfl, fun _ _ => rfl, hb, rfl, rfl, rfl, rfl⟩, fun k => by rw [if_neg (by simp)]⟩
 | cons v vs ih =>
   intro i w c hb hle hf hs
   simp only [List.length_cons] at hle hf
   have hlt : o + i < c.size := by omega
   have hcell : w.cell? ⟨b, o + i, none⟩ = some c[o + i] := by
    simp [World.cell?, hb, hlt]
   have hfr : w.frozen? ⟨b, o + i, none⟩ = false := by
    have := hf (o + i) (Nat.le_refl _) (by omega)
    obtain ⟨f1, f2⟩ := fz
    simp only [World.frozen?, hb]
    simp only at this
    by_cases h1 : f1 ≤ o + i
    ·have h2 : ¬ (o + i < f2) := fun h => this ⟨h1, h⟩
     simp [h1, h2]
    ·simp [h1]
   have hset : (w.setCell ⟨b, o + i, none⟩ v).heap[b]? = some (.cells (c.setIfInBounds (o + i) v) te fz) := by
    obtain ⟨f1, f2⟩ := fz
    simp [World.setCell, Array.getElem?_modify, hb]
   obtain ⟨w', c', h1, h2, h3⟩ := ih (i + 1) (w.setCell ⟨b, o + i, none⟩ v) (c.setIfInBounds (o + i) v) hset (by simp; omega) (fun k h1 h2 => hf k (by omega) (by omega)) (fun u hu => hs u (List.mem_cons_of_mem _ hu))
   obtain ⟨hsa, hst⟩ := hs v (List.mem_cons_self ..)
   refine ⟨w', c', ?_, ?_, ?_⟩
   ·simp only [storeCells, rzB, jga, run_store hsa hst hcell hfr, rzA, h1]
   ·refine ⟨?_, ?_, h2.block, ?_, ?_, ?_, ?_⟩
    ·rw [h2.size]; simp [World.setCell]
    ·intro k hk
     rw [h2.other k hk]
     simp only [World.setCell, Array.getElem?_modify]
     rw [if_neg (fun e => hk e.symm)]
    ·rw [h2.cells]; simp
    ·exact h2.os
    ·exact h2.tape
    ·exact h2.output
   ·intro k
    rw [h3 k]
    simp only [List.length_cons]
    by_cases hk : o + (i + 1) ≤ k ∧ k < o + (i + 1) + vs.length
    ·rw [if_pos hk, if_pos (by omega), show k - (o + i) = (k - (o + (i + 1))) + 1 from by omega, List.getElem?_cons_succ]
    ·rw [if_neg hk]
     rw [Array.getElem?_setIfInBounds]
     by_cases e : o + i = k
     ·subst e
      rw [if_pos rfl, if_pos hlt, if_pos (by omega)]; simp
     ·rw [if_neg e, if_neg (by omega)]
def scalars : List Value → Bool
 | [] => true
 | v :: r => match scalar v with
   | true => scalars r
   | false => false
theorem jfb : ∀ (l : List Value), scalars l = true → ∀ v ∈ l, scalar v = true := by
 intro l
 induction l with
 | nil => intro _ v hv; cases hv
 | cons a l ih =>
   intro h v hv
   simp only [scalars] at h
   split at h
   ·rcases List.mem_cons.1 hv with e | e
    ·subst e; assumption
    ·exact ih h v e
   ·cases h
def jbH (n lo hi o k : Nat) : Bool :=
 match Nat.ble (Nat.add o k) n with
 | false => false
 | true => match Nat.blt lo hi with
   | false => true
   | true => match Nat.ble (Nat.add o k) lo with
     | true => true
     | false => Nat.ble hi o
theorem jh2 {n lo hi o k s : Nat} {fz : Nat × Nat} {sh : Bool} (h : jbH n lo hi o k = true) (hn : n ≤ s) (hf : FzRel fz s lo hi sh) :
  o + k ≤ n ∧ ∀ j, o ≤ j → j < o + k → ¬ (fz.1 ≤ j ∧ j < fz.2) := by
 unfold jbH at h
 split at h
 ·cases h
 ·rename_i h1
  have h1' : o + k ≤ n := rzE h1
  refine ⟨h1', fun j hj1 hj2 ⟨e1, e2⟩ => ?_⟩
  rcases hf with hf | ⟨_, hf⟩ | ⟨hf1, hf2, hf3⟩
  ·omega
  ·omega
  ·split at h
   ·rename_i h2
    have : ¬ lo < hi := fun hlt => by rw [show Nat.blt lo hi = true from by simpa using hlt] at h2; cases h2
    omega
   ·split at h
    ·rename_i h3
     have h3' : o + k ≤ lo := rzE h3
     omega
    ·have h3' : hi ≤ o := rzE h
     omega
theorem jkk {zero : Array Value} {over : T Value} {o : Nat} {vs : List Value} {k : Nat} :
  cellAt zero (over.lay o vs) k = if o ≤ k ∧ k < o + vs.length then (vs[k - o]?).getD undef else cellAt zero over k := by
 unfold cellAt
 rw [T.get_lay]
 by_cases h : o ≤ k ∧ k < o + vs.length
 ·rw [if_pos h, if_pos h]
  have : k - o < vs.length := by omega
  rw [rzK this]; rfl
 ·rw [if_neg h, if_neg h]
theorem jer {μ : Mem} {w : World} (h : Rel J μ w) {i n te lo hi o : Nat} {zero : Array Value} {over : T Value} {fx sh : Bool} {vs vs' : List Value}
  (hob : μ.obs.get i = some (.cells n te zero over lo hi fx sh)) (hw : jbH n lo hi o vs.length = true) (hs : scalars vs = true) (hv : ARel J vs.toArray vs'.toArray) :
  ∃ b s, J i = .at b s ∧ ∃ w', (storeCells ⟨b, o, none⟩ vs').run P w = .ok () w' ∧ Rel J ⟨μ.obs.set i (.cells n te zero (over.lay o vs) lo hi fx sh), μ.next⟩ w' ∧
   Step J μ w J ⟨μ.obs.set i (.cells n te zero (over.lay o vs) lo hi fx sh), μ.next⟩ w' := by
 obtain ⟨b, s, hb, hr, _⟩ := cell_of h hob
 obtain ⟨c, fz, h1, h2, h3, h4, h5, h6⟩ := hr
 obtain ⟨hle, hfree⟩ := jh2 hw h3 h6
 have hl : vs.length = vs'.length := by simpa using hv.size
 have hsc : ∀ v ∈ vs', (∀ x, v ≠ .agg x) ∧ (∀ x, v ≠ .tuple x) := by
  intro v hvm
  obtain ⟨k, hk, rfl⟩ := List.mem_iff_getElem.1 hvm
  have hk' : k < vs.length := by omega
  exact jfT (hv.at_ k vs[k] vs'[k] (by simp [hk']) (by simp [hk])) (jfb vs hs _ (List.getElem_mem hk'))
 obtain ⟨w', c', r1, r2, r3⟩ := jdA (P := P) (o := o) vs' 0 w c h1 (by omega) (fun k a b => hfree k (by omega) (by omega)) hsc
 have hnew : ObRel J w' b s (.cells n te zero (over.lay o vs) lo hi fx sh) := by
  refine ⟨c', fz, r2.block, by rw [r2.cells]; exact h2, h3, h4, fun k hk => ?_, h6⟩
  rw [r3 k, jkk]
  by_cases hk2 : o ≤ k ∧ k < o + vs.length
  ·rw [if_pos hk2, if_pos (by omega)]
   have e1 : k - o < vs.length := by omega
   have e2 : k - o < vs'.length := by omega
   refine ⟨vs'[k - o], by simp [e2], ?_⟩
   exact hv.at_ (k - o) _ _ (by simp [e1]) (by simp [e2])
  ·rw [if_neg hk2, if_neg (by omega)]
   exact h5 k hk
 have hp : ¬ gone μ i := fun hg => by have := hg _ hob; cases this
 exact ⟨b, s, hb, w', r1, h.update hb _ r2.size r2.other hnew, Step.update hb hp _ r2.size r2.other r2.os r2.tape r2.output⟩
def jfQ (P : Program) (J : Nat → Loc) (ρ' : Operand → Value) (o : Oper) (μ : Mem) (w : World) (v : Value) (μ' : Mem) : Prop :=
 ∃ J' v' w', ((execOp ρ' o).run P w = .ok (.value v') w' ∨ ((execOp ρ' o).run P w = .ok .skip w' ∧ v' = undef)) ∧ VRel J' v v' ∧ Rel J' μ' w' ∧ Step J μ w J' μ' w'
theorem jc9 : VRel J undef undef := .tuple rfl (fun i a b ha => by simp at ha)
def jbx (P : Program) (μ : Mem) (t : TypeId) (p v : Value) : Option (Value × Mem) :=
 match p with
 | .pointer (some ⟨i, o, none⟩) => match μ.obs.get i with
   | some (.cells n te zero over lo hi fx sh) => match jde v with
     | false => none
     | true => match P.info? t with
       | none => none
       | some inf => match Nat.beq (jaR v).length inf.size with
         | false => none
         | true => match jbH n lo hi o (jaR v).length with
           | false => none
           | true => match scalars (jaR v) with
             | false => none
             | true => some (undef, ⟨μ.obs.set i (.cells n te zero (over.lay o (jaR v)) lo hi fx sh), μ.next⟩)
   | _ => none
 | _ => none
theorem jhN {ρ ρ' : Operand → Value} (hρ : ∀ x, VRel J (ρ x) (ρ' x)) {μ : Mem} {w : World} (h : Rel J μ w) {o : Oper} {t : TypeId} {x y : Operand} {v : Value} {μ' : Mem} (ho : o.op = .store t x y)
  (hs : jbx P μ t (ρ x) (ρ y) = some (v, μ')) : jfQ P J ρ' o μ w v μ' := by
 have hx := hρ x
 have hy := hρ y
 unfold jbx at hs
 split at hs
 ·rename_i i of e
  rw [e] at hx
  split at hs
  ·rename_i n te zero over lo hi fx sh hob
   split at hs
   ·cases hs
   ·rename_i hna
    split at hs
    ·cases hs
    ·rename_i inf hinf
     split at hs
     ·cases hs
     ·rename_i hsz
      split at hs
      ·cases hs
      ·rename_i hw
       split at hs
       ·cases hs
       ·rename_i hsc
        cases hs
        have hc := jcc hy hna
        have hsz' : (jaR (ρ y)).length = inf.size := rzD hsz
        have hsz2 : (ρ' y).cells.size = inf.size := by have := hc.size; simp at this; omega
        obtain ⟨b, s, hb, w', r1, r2, r3⟩ := jer (P := P) (vs' := (ρ' y).cells.toList) h hob hw hsc (by simpa using hc)
        have hxa : ρ' x = .pointer (some ⟨b, of, none⟩) := by
         generalize ρ' x = q at hx
         cases hx with
         | ptr e2 => rw [hb] at e2; cases e2; rfl
         | ptrDead a' e2 => rw [show J i = _ from hb] at e2; cases e2
        refine ⟨J, undef, w', .inr ⟨?_, rfl⟩, jc9, r2, r3⟩
        simp only [execOp, ho, Instr.storeAt, hxa, Instr.sureAddr, rzB, rzC, rzA, storeVar, ja2 hinf]
        rw [if_neg (by simpa using hsz2)]
        simp only [r1, rzA]
  ·cases hs
 ·cases hs
end
noncomputable section
variable {P : Program} {J : Nat → Loc}
def jaP (μ : Mem) (size n : Nat) (v : Value) : Option (List Value) :=
 match v with
 | .slice none _ _ => some []
 | .slice (some ⟨i, o, none⟩) _ _ => match Nat.mul n size with
   | 0 => some []
   | k => match μ.obs.get i with
     | some (.cells m _ zero over _ _ _ _) => match Nat.ble (Nat.add o k) m with
       | true => some (jas zero over o k)
       | false => none
     | some (.held c _ _) => match Nat.ble (Nat.add o k) c.size with
       | true => some (jas (c.map strip) .e o k)
       | false => none
     | some (.pin p _ _ _) => match Nat.ble (Nat.add o k) p.length with
       | true => some (jas p.toArray .e o k)
       | false => none
     | some (.rom p _) => match Nat.ble (Nat.add o k) p.length with
       | true => some (jas p.toArray .e o k)
       | false => none
     | _ => none
 | .slice (some _) _ _ => match Nat.mul n size with
   | 0 => some []
   | _ => none
 | .string s => some ((s.data.toList.take n).map fun b => .int .u8 b.toNat)
 | _ => none
theorem jcT {μ : Mem} {w : World} (h : Rel J μ w) {size n : Nat} {v v' : Value} {l : List Value} (hv : VRel J v v') (hl : jaP μ size n v = some l) :
  ∃ l' : Array Value, (∀ w' : World, w'.heap = w.heap → (Builtin.firstCells size n v').run P w' = .ok l' w') ∧ ARel J l.toArray l' := by
 have nothing : ∀ (a : Addr) (w : World), n * size = 0 → (loadCells a (n * size)).run P w = .ok #[] w := fun a w e => by rw [e]; rfl
 have hnil : ARel J ([] : List Value).toArray #[] := ⟨rfl, fun i a b ha => by simp at ha⟩
 unfold jaP at hl
 split at hl
 ·cases hl
  cases hv
  exact ⟨#[], fun _ _ => rfl, hnil⟩
 ·rename_i i o ln c
  obtain ⟨a', c', hv', _, hcase⟩ := jbh hv
  rw [hv']
  split at hl
  ·rename_i h0
   cases hl
   exact ⟨#[], fun w' _ => by show (loadCells a' (n * size)).run P w' = _; exact nothing _ _ h0, hnil⟩
  ·split at hl
   ·rename_i m te zero over lo hi fx sh hob
    split at hl
    ·rename_i hle
     cases hl
     have hle' : o + n * size ≤ m := rzE hle
     obtain ⟨b, s, hb, _, hc⟩ := cell_of h hob
     have ha' : a' = ⟨b, o, none⟩ := by
      rcases hcase with ⟨i2, o2, b2, s2, e1, e2, e3, _⟩ | ⟨e1, _⟩
      ·cases e1; rw [hb] at e3; cases e3; exact e2
      ·rw [show J i = _ from hb] at e1; cases e1
     subst ha'
     obtain ⟨l', h1, h2⟩ := jbL (P := P) (w := w) (zero := zero) (over := over) (b := b) (o := o) (n * size) 0 #[] (fun k hk => hc _ (by omega))
     refine ⟨l'.toArray, fun w' hw => ?_, h2⟩
     show (loadCells ⟨b, o, none⟩ (n * size)).run P w' = _
     simpa [loadCells] using h1 w' hw
    ·cases hl
   ·rename_i ch te fz hob
    split at hl
    ·rename_i hle
     cases hl
     have hle' : o + n * size ≤ ch.size := rzE hle
     obtain ⟨b, s, hb, hc⟩ := jd9 h (i := i) (n := ch.size) (zero := ch.map strip) (over := .e) (by rw [hob]; rfl)
     have ha' : a' = ⟨b, o, none⟩ := by
      rcases hcase with ⟨i2, o2, b2, s2, e1, e2, e3, _⟩ | ⟨e1, _⟩
      ·cases e1; rw [hb] at e3; cases e3; exact e2
      ·rw [show J i = _ from hb] at e1; cases e1
     subst ha'
     obtain ⟨l', h1, h2⟩ := jbL (P := P) (w := w) (zero := ch.map strip) (over := .e) (b := b) (o := o) (n * size) 0 #[] (fun k hk => hc _ (by omega))
     refine ⟨l'.toArray, fun w' hw => ?_, h2⟩
     show (loadCells ⟨b, o, none⟩ (n * size)).run P w' = _
     simpa [loadCells] using h1 w' hw
    ·cases hl
   ·rename_i ch cc te fz hob
    split at hl
    ·rename_i hle
     cases hl
     have hle' : o + n * size ≤ ch.length := rzE hle
     obtain ⟨b, s, hb, hc⟩ := jd9 h (i := i) (n := ch.length) (zero := ch.toArray) (over := .e) (by rw [hob]; rfl)
     have ha' : a' = ⟨b, o, none⟩ := by
      rcases hcase with ⟨i2, o2, b2, s2, e1, e2, e3, _⟩ | ⟨e1, _⟩
      ·cases e1; rw [hb] at e3; cases e3; exact e2
      ·rw [show J i = _ from hb] at e1; cases e1
     subst ha'
     obtain ⟨l', h1, h2⟩ := jbL (P := P) (w := w) (zero := ch.toArray) (over := .e) (b := b) (o := o) (n * size) 0 #[] (fun k hk => hc _ (by omega))
     refine ⟨l'.toArray, fun w' hw => ?_, h2⟩
     show (loadCells ⟨b, o, none⟩ (n * size)).run P w' = _
     simpa [loadCells] using h1 w' hw
    ·cases hl
   ·rename_i ch te hob
    split at hl
    ·rename_i hle
     cases hl
     have hle' : o + n * size ≤ ch.length := rzE hle
     obtain ⟨b, s, hb, hc⟩ := jd9 h (i := i) (n := ch.length) (zero := ch.toArray) (over := .e) (by rw [hob]; rfl)
     have ha' : a' = ⟨b, o, none⟩ := by
      rcases hcase with ⟨i2, o2, b2, s2, e1, e2, e3, _⟩ | ⟨e1, _⟩
      ·cases e1; rw [hb] at e3; cases e3; exact e2
      ·rw [show J i = _ from hb] at e1; cases e1
     subst ha'
     obtain ⟨l', h1, h2⟩ := jbL (P := P) (w := w) (zero := ch.toArray) (over := .e) (b := b) (o := o) (n * size) 0 #[] (fun k hk => hc _ (by omega))
     refine ⟨l'.toArray, fun w' hw => ?_, h2⟩
     show (loadCells ⟨b, o, none⟩ (n * size)).run P w' = _
     simpa [loadCells] using h1 w' hw
    ·cases hl
   ·cases hl
 ·rename_i a ln c hna
  obtain ⟨a', c', hv', _, hcase⟩ := jbh hv
  rw [hv']
  split at hl
  ·rename_i h0
   cases hl
   exact ⟨#[], fun w' _ => by show (loadCells a' (n * size)).run P w' = _; exact nothing _ _ h0, hnil⟩
  ·cases hl
 ·rename_i s
  cases hl
  rw [jbE hv]
  refine ⟨(s.extract 0 n).data.map fun b => .int .u8 b.toNat, fun _ _ => rfl, ?_⟩
  have e : ((s.extract 0 n).data.map fun b => Value.int .u8 b.toNat) = ((s.data.toList.take n).map fun b => Value.int .u8 b.toNat).toArray := by
   apply Array.ext'
   rw [Array.toList_map, ByteArray.data_extract, Array.toList_extract]
   simp [List.extract_eq_take_drop]
  rw [e]
  refine ⟨rfl, fun i a b ha hb => ?_⟩
  rw [ha] at hb; cases hb
  simp only [List.getElem?_toArray, List.getElem?_map] at ha
  cases hk : (s.data.toList.take n)[i]? with
  | none => rw [hk] at ha; cases ha
  | some x => rw [hk] at ha; cases ha; exact .int _ _
 ·cases hl
theorem jeL {μ : Mem} {w : World} (h : Rel J μ w) {size n : Nat} {v v' : Value} {l : List Value} (hv : VRel J v v') (hl : jaP μ size n v = some l) :
  ∃ l' : Array Value, (Builtin.firstCells size n v').run P w = .ok l' w ∧ ARel J l.toArray l' :=
 let ⟨l', h1, h2⟩ := jcT (P := P) h hv hl
 ⟨l', h1 w rfl, h2⟩
def lenV : Value → Option Nat
 | .slice _ n _ => some n
 | .string s => some s.data.toList.length
 | _ => none
theorem jhb {v v' : Value} {n : Nat} (hv : VRel J v v') (h : lenV v = some n) (w : World) : (Builtin.lenOf v').run P w = .ok n w := by
 unfold lenV at h
 split at h
 ·cases h; cases hv <;> rfl
 ·rename_i s
  cases h
  rw [jbE hv]
  have e : s.data.toList.length = s.size := by rw [Array.length_toList]; rfl
  rw [e]; rfl
 ·cases h
def jkr (P : Program) (μ : Mem) (dt : TypeId) (d s : Value) : Option (Value × Mem) :=
 match P.underlying dt with
 | some (.slice e) => match P.info? e with
   | none => none
   | some inf => match lenV s with
     | none => none
     | some sl => match d with
       | .slice (some ⟨i, o, none⟩) dl _ => match jaP μ inf.size (Nat.min sl dl) s with
         | none => none
         | some cs => match cs with
           | [] => some (.int .i64 (Nat.min sl dl), μ)
           | _ => match μ.obs.get i with
             | some (.cells n te zero over lo hi fx sh) => match jbH n lo hi o cs.length with
               | false => none
               | true => match scalars cs with
                 | false => none
                 | true => some (.int .i64 (Nat.min sl dl), ⟨μ.obs.set i (.cells n te zero (over.lay o cs) lo hi fx sh), μ.next⟩)
             | _ => none
       | .slice none dl _ => match jaP μ inf.size (Nat.min sl dl) s with
         | none => none
         | some _ => some (.int .i64 (Nat.min sl dl), μ)
       | _ => none
 | _ => none
theorem jiW {ρ ρ' : Operand → Value} (hρ : ∀ x, VRel J (ρ x) (ρ' x)) {μ : Mem} {w : World} (h : Rel J μ w) {o : Oper} {c : Call} {dt : TypeId} {x y : Operand} {v : Value} {μ' : Mem} (ho : o.op = .call c)
  (hc : c.callee = .builtin .copy) (ha : c.args.toList = [x, y]) (ht : c.argTypes[0]? = some dt) (hs : jkr P μ dt (ρ x) (ρ y) = some (v, μ')) : jfQ P J ρ' o μ w v μ' := by
 have hx := hρ x
 have hy := hρ y
 unfold jkr at hs
 split at hs
 ·rename_i e hu
  split at hs
  ·cases hs
  ·rename_i inf hinf
   split at hs
   ·cases hs
   ·rename_i sl hsl
    have hlen := fun w => jhb (P := P) hy hsl w
    split at hs
    ·rename_i i of dl cp e1
     rw [e1] at hx
     obtain ⟨a', c', hx', _, hcase⟩ := jbh hx
     split at hs
     ·cases hs
     ·rename_i cs hcs
      obtain ⟨l', hl1, hl2⟩ := jeL (P := P) h hy hcs
      have hrun : ∀ w', (storeCells a' l'.toList).run P w = .ok () w' → (execOp ρ' o).run P w = .ok (.value (.int .i64 (Nat.min sl dl : Nat))) w' := by
       intro w' hst
       rw [jb9 ho hc, jdF ha]
       simp only [builtin, Builtin.copy_, ht, hx', rzB, jaw hu, rzA, hlen w, ja2 hinf, hl1, hst, rzC, goInt, List.getElem?_toArray, List.getElem?_cons_zero, List.getElem?_cons_succ]
      split at hs
      ·cases hs
       have : l' = #[] := Array.eq_empty_of_size_eq_zero (by have := hl2.size; simp at this; exact this.symm)
       subst this
       exact ⟨J, _, w, .inl (hrun w rfl), .int _ _, h, Step.refl _ _ _⟩
      ·split at hs
       ·rename_i n te zero over lo hi fx sh hob
        split at hs
        ·cases hs
        ·rename_i hw
         split at hs
         ·cases hs
         ·rename_i hsc
          cases hs
          obtain ⟨b, s, hb, w', r1, r2, r3⟩ := jer (P := P) (vs' := l'.toList) h hob hw hsc (by simpa using hl2)
          have ha' : a' = ⟨b, of, none⟩ := by
           rcases hcase with ⟨i2, o2, b2, s2, e1, e2, e3, _⟩ | ⟨e1, _⟩
           ·cases e1; rw [hb] at e3; cases e3; exact e2
           ·rw [show J i = _ from hb] at e1; cases e1
          subst ha'
          exact ⟨J, _, w', .inl (hrun w' r1), .int _ _, r2, r3⟩
       ·cases hs
    ·rename_i dl cp e1
     rw [e1] at hx
     have hx' : ρ' x = .slice none dl cp := by generalize ρ' x = q at hx; cases hx; rfl
     split at hs
     ·cases hs
     ·rename_i cs hcs
      cases hs
      obtain ⟨l', hl1, hl2⟩ := jeL (P := P) h hy hcs
      refine ⟨J, _, w, .inl ?_, .int _ _, h, Step.refl _ _ _⟩
      rw [jb9 ho hc, jdF ha]
      simp only [builtin, Builtin.copy_, ht, hx', rzB, jaw hu, rzA, hlen w, ja2 hinf, hl1, rzC, goInt, List.getElem?_toArray, List.getElem?_cons_zero, List.getElem?_cons_succ]
    ·cases hs
 ·cases hs
end
noncomputable section
variable {P : Program} {J : Nat → Loc}
theorem growBy_le (n : Nat) : ∀ (r c : Nat), Builtin.growBy n r c ≤ max c (n + (n + 768) / 4) := by
 intro r
 induction r with
 | zero => intro c; simp only [Builtin.growBy]; omega
 | succ r ih =>
   intro c
   simp only [Builtin.growBy]
   split
   ·omega
   ·have := ih (c + (c + 768) / 4)
    omega
theorem jj6 {n c : Nat} (h : c < n) : Builtin.nextslicecap n c ≤ 3 * n + 1000 := by
 unfold Builtin.nextslicecap
 split
 ·omega
 ·split
  ·omega
  ·have := growBy_le n 4 c
   omega
theorem jhd (n : Nat) (w : World) : (askRoom n).run P w = .ok () w := by
 unfold askRoom
 split <;> rfl
theorem jfI (z : Array Value) (n : Nat) : (Builtin.zeroCells z n).size = n * z.size := by simp [Builtin.zeroCells]
structure AppArgs (P : Program) (c : Call) (st xt e : TypeId) (inf : TypeInfo) (z : Value) : Prop where
 t0 : c.argTypes[0]? = some st
 t1 : c.argTypes[1]? = some xt
 us : P.underlying st = some (.slice e)
 info : P.info? e = some inf
 ux : (∃ e2, P.underlying xt = some (.slice e2)) ∨ P.underlying xt = some .string
 zero : ja6 P e = some z
 zsize : z.cells.size = inf.size
 bytes : inf.bytes ≤ 4096
theorem jdV {c : Call} {st xt e : TypeId} {inf : TypeInfo} {z : Value} (A : AppArgs P c st xt e inf z) {ty : TypeId} {base : Option Addr} {l cp n : Nat} {x' : Value} {w w' : World} {new : Array Value}
  (hn : (Builtin.lenOf x').run P w = .ok n w) (hle : l + n ≤ cp) (hnew : (Builtin.firstCells inf.size n x').run P w = .ok new w)
  (hst : ∀ a, base = some a → (storeCells (a.add (l * inf.size)) new.toList).run P w = .ok () w') (hw : base = none → w' = w) :
  (Builtin.append_ c.argTypes ty #[.slice base l cp, x']).run P w = .ok (.slice base (l + n) cp) w' := by
 cases base with
 | none =>
   rw [hw rfl]
   rcases A.ux with ⟨e2, hd⟩ | hd
   all_goals
    simp only [Builtin.append_, A.t0, A.t1, List.getElem?_toArray, List.getElem?_cons_zero, List.getElem?_cons_succ, rzB, jaw A.us, jaw hd, rzA, ja2 A.info, Bool.false_eq_true, if_false, hn, Bool.not_false,
     if_true, if_pos hle, hnew, rzC]
 | some a =>
   rcases A.ux with ⟨e2, hd⟩ | hd
   all_goals
    simp only [Builtin.append_, A.t0, A.t1, List.getElem?_toArray, List.getElem?_cons_zero, List.getElem?_cons_succ, rzB, jaw A.us, jaw hd, rzA, ja2 A.info, Bool.false_eq_true, if_false, hn, Bool.not_false,
     if_true, if_pos hle, hnew, hst a rfl, rzC]
theorem run_grows {c : Call} {st xt e : TypeId} {inf : TypeInfo} {z : Value} (A : AppArgs P c st xt e inf z) {ty : TypeId} {base : Option Addr} {l cp n : Nat} {x' : Value} {w : World} {old new : Array Value}
  (hn : ∀ w, (Builtin.lenOf x').run P w = .ok n w) (hgt : cp < l + n) (hs : l + n ≤ 67108864)
  (hnew : ∀ w', w'.heap = w.heap → (Builtin.firstCells inf.size n x').run P w' = .ok new w') (hold : ∀ w', w'.heap = w.heap → (Builtin.firstCells inf.size l (.slice base l cp)).run P w' = .ok old w') :
  ∃ (nc : Nat) (w1 : World), l + n ≤ nc ∧ w1.heap = w.heap ∧ w1.os = w.os ∧ w1.tape = w.tape ∧ w1.output = w.output ∧
   (Builtin.append_ c.argTypes ty #[.slice base l cp, x']).run P w =
    .ok (.slice (some ⟨w.heap.size, 0, none⟩) (l + n) nc) (w1.alloc (.cells (old ++ new ++ Builtin.zeroCells z.cells (nc - (l + n))) e)) := by
 obtain ⟨nc, hnc, hr⟩ := jdX (P := P) (l + n) cp e w
 refine ⟨nc, { w with drawn := w.drawn + 1 }, hnc, rfl, rfl, rfl, rfl, ?_⟩
 have h1 : ¬ (((l + n : Nat) : Int) > IntKind.i64.max ∧ (false = true ∨ inf.bytes = 0)) := by
  have : IntKind.i64.max = 9223372036854775807 := by decide
  rintro ⟨h, _⟩
  omega
 have h2 : ¬ (Builtin.nextslicecap (l + n) cp * inf.bytes > 2 ^ 48) := by
  have := jj6 hgt
  have h3 : Builtin.nextslicecap (l + n) cp * inf.bytes ≤ 201327592 * 4096 := Nat.mul_le_mul (by omega) A.bytes
  have h4 : (2 : Nat) ^ 48 = 281474976710656 := by decide
  omega
 have h1' : ¬ (((l + n : Nat) : Int) > IntKind.i64.max ∧ (False ∨ inf.bytes = 0)) := fun h => h1 ⟨h.1, h.2.imp (fun x => x.elim) id⟩
 rcases A.ux with ⟨e2, hd⟩ | hd
 all_goals
  simp only [Builtin.append_, A.t0, A.t1, List.getElem?_toArray, List.getElem?_cons_zero, List.getElem?_cons_succ, rzB, jaw A.us, jaw hd, rzA, ja2 A.info, Bool.false_eq_true, if_false, hn, Bool.not_false,
   if_true, if_neg (Nat.not_le.2 hgt), jdU A.info, if_neg h1', if_neg h2, hr, jhd, hold { w with drawn := w.drawn + 1 } rfl, hnew { w with drawn := w.drawn + 1 } rfl, (jbs A.zero _).1, jbW, rzC]
theorem jdu {J : Nat → Loc} (i : Nat) : Ext J (upd J i .dead) :=
 ⟨fun j b s e => by
  by_cases hj : j = i
  ·subst hj; exact .inr (upd_same _ _ _)
  ·exact .inl (by rw [jav hj]; exact e),
  fun j e => by
   by_cases hj : j = i
   ·subst hj; exact upd_same _ _ _
   ·rw [jav hj]; exact e⟩
theorem Rel.kill {μ : Mem} {w : World} (h : Rel J μ w) {i b s : Nat} (hi : J i = .at b s) : Rel (upd J i .dead) ⟨μ.obs.set i .dead, μ.next⟩ w where
 inj a c x t t' ha hc := by
  by_cases h1 : a = i
  ·subst h1; rw [upd_same] at ha; cases ha
  ·by_cases h2 : c = i
   ·subst h2; rw [upd_same] at hc; cases hc
   ·rw [jav h1] at ha; rw [jav h2] at hc; exact h.inj _ _ _ _ _ ha hc
 bnd a c t ha := by
  by_cases h1 : a = i
  ·subst h1; rw [upd_same] at ha; cases ha
  ·rw [jav h1] at ha; exact h.bnd _ _ _ ha
 fresh a ha := by
  have : i < μ.next := jdf h hi
  rw [jav (by have ha : μ.next ≤ a := ha; omega)]
  exact h.fresh a ha
 obj a o ha hd := by
  simp only [T.get_set] at ha
  by_cases h1 : a = i
  ·rw [if_pos h1] at ha; cases ha; exact absurd rfl hd
  ·rw [if_neg h1] at ha
   obtain ⟨c, t, hc, hob⟩ := h.obj a o ha hd
   exact ⟨c, t, by rw [jav h1]; exact hc, hob.keep (jdu i) rfl⟩
theorem Step.kill {μ : Mem} {w : World} (h : Rel J μ w) {i b s : Nat} (hi : J i = .at b s) (hp : ¬ gone μ i) : Step J μ w (upd J i .dead) ⟨μ.obs.set i .dead, μ.next⟩ w where
 at_ a c t e := by
  by_cases h1 : a = i
  ·subst h1; exact .inr ⟨upd_same _ _ _, hp⟩
  ·exact .inl (by rw [jav h1]; exact e)
 dead a e := (jdu i).dead a e
 unborn a _ e := by
  by_cases h1 : a = i
  ·subst h1; rw [hi] at e; cases e
  ·rw [jav h1]; exact e
 born a c t e e2 := by
  by_cases h1 : a = i
  ·subst h1; rw [hi] at e; cases e
  ·rw [jav h1, e] at e2; cases e2
 next := Nat.le_refl _
 gone_ a ha hg o ho := by
  simp only [T.get_set] at ho
  by_cases e : a = i
  ·subst e; rw [if_pos rfl] at ho; cases ho; rfl
  ·rw [if_neg e] at ho; exact hg o ho
 size := Nat.le_refl _
 frame c hc _ := rfl
 os := rfl
 tape := rfl
 output := rfl
theorem Rel.move {μ : Mem} {w w' : World} (h : Rel J μ w) {i b s : Nat} (hi : J i = .at b s) (o2 : Ob) (hsz : w'.heap.size = w.heap.size) (hoth : ∀ c, c ≠ b → w'.heap[c]? = w.heap[c]?)
  (ho : ∀ J', Ext J J' → ObRel J' w' b s o2) : Rel (upd (upd J i .dead) μ.next (.at b s)) ⟨(μ.obs.set i .dead).set μ.next o2, μ.next + 1⟩ w' := by
 have hlt : i < μ.next := jdf h hi
 have hu : (upd J i .dead) μ.next = .unborn := by rw [jav (by omega)]; exact h.fresh _ (Nat.le_refl _)
 have hE : Ext J (upd (upd J i .dead) μ.next (.at b s)) := (jdu i).trans (jdG _ hu)
 have hno : ∀ a t, J a = .at b t → a = i := fun a t e => h.inj _ _ _ _ _ e hi
 constructor
 ·intro a c x t t' ha hc
  by_cases h1 : a = μ.next
  ·by_cases h2 : c = μ.next
   ·rw [h1, h2]
   ·subst h1
    rw [upd_same] at ha; cases ha
    rw [jav h2] at hc
    by_cases h3 : c = i
    ·subst h3; rw [upd_same] at hc; cases hc
    ·rw [jav h3] at hc; exact absurd (hno _ _ hc) h3
  ·rw [jav h1] at ha
   by_cases h4 : a = i
   ·subst h4; rw [upd_same] at ha; cases ha
   ·rw [jav h4] at ha
    by_cases h2 : c = μ.next
    ·subst h2
     rw [upd_same] at hc; cases hc
     exact absurd (hno _ _ ha) h4
    ·rw [jav h2] at hc
     by_cases h3 : c = i
     ·subst h3; rw [upd_same] at hc; cases hc
     ·rw [jav h3] at hc; exact h.inj _ _ _ _ _ ha hc
 ·intro a c t ha
  rw [hsz]
  by_cases h1 : a = μ.next
  ·subst h1; rw [upd_same] at ha; cases ha; exact h.bnd _ _ _ hi
  ·rw [jav h1] at ha
   by_cases h4 : a = i
   ·subst h4; rw [upd_same] at ha; cases ha
   ·rw [jav h4] at ha; exact h.bnd _ _ _ ha
 ·intro a ha
  have ha : μ.next + 1 ≤ a := ha
  rw [jav (by omega), jav (by omega)]
  exact h.fresh a (by omega)
 ·intro a o ha hd
  simp only [T.get_set] at ha
  by_cases h1 : a = μ.next
  ·rw [if_pos h1] at ha; cases ha; subst h1
   exact ⟨b, s, upd_same _ _ _, ho _ hE⟩
  ·rw [if_neg h1] at ha
   by_cases h4 : a = i
   ·rw [if_pos h4] at ha; cases ha; exact absurd rfl hd
   ·rw [if_neg h4] at ha
    obtain ⟨c, t, hc, hob⟩ := h.obj a o ha hd
    refine ⟨c, t, by rw [jav h1, jav h4]; exact hc, hob.keep hE (hoth c fun e2 => h4 ?_)⟩
    subst e2
    exact hno _ _ hc
theorem Step.move {μ : Mem} {w w' : World} (h : Rel J μ w) {i b s : Nat} (hi : J i = .at b s) (hp : ¬ gone μ i) (o2 : Ob) (hsz : w'.heap.size = w.heap.size) (hoth : ∀ c, c ≠ b → w'.heap[c]? = w.heap[c]?)
  (h1 : w'.os = w.os) (h2 : w'.tape = w.tape) (h3 : w'.output = w.output) :
  Step J μ w (upd (upd J i .dead) μ.next (.at b s)) ⟨(μ.obs.set i .dead).set μ.next o2, μ.next + 1⟩ w' := by
 have hlt : i < μ.next := jdf h hi
 have hu : (upd J i .dead) μ.next = .unborn := by rw [jav (by omega)]; exact h.fresh _ (Nat.le_refl _)
 have hE : Ext J (upd (upd J i .dead) μ.next (.at b s)) := (jdu i).trans (jdG _ hu)
 constructor
 ·intro a c t e
  have ha := jdf h e
  by_cases h4 : a = i
  ·subst h4; exact .inr ⟨by rw [jav (by omega), upd_same], hp⟩
  ·exact .inl (by rw [jav (by omega), jav h4]; exact e)
 ·exact hE.dead
 ·intro a ha e
  by_cases h4 : a = i
  ·subst h4; rw [hi] at e; cases e
  ·rw [jav (by omega), jav h4]; exact e
 ·intro a c t e e2
  by_cases h5 : a = μ.next
  ·subst h5; rw [upd_same] at e2; cases e2; exact .inr ⟨i, s, hi, hp⟩
  ·rw [jav h5] at e2
   by_cases h4 : a = i
   ·subst h4; rw [upd_same] at e2; cases e2
   ·rw [jav h4, e] at e2; cases e2
 ·show μ.next ≤ μ.next + 1; omega
 ·intro a ha hg o ho
  simp only [T.get_set] at ho
  rw [if_neg (by omega)] at ho
  by_cases e : a = i
  ·subst e; rw [if_pos rfl] at ho; cases ho; rfl
  ·rw [if_neg e] at ho; exact hg o ho
 ·rw [hsz]; exact Nat.le_refl _
 ·intro c hc hall
  refine hoth c fun e => ?_
  subst e
  exact hp (hall i s hi)
 ·exact h1
 ·exact h2
 ·exact h3
end
noncomputable section
variable {P : Program} {J : Nat → Loc}
def jck (μ : Mem) (e : TypeId) (size need : Nat) (cs : List Value) (lo hi : Nat) (sh : Bool) : Value × Mem :=
 (.slice (some ⟨μ.next, 0, none⟩) need (Nat.add (Nat.mul 2 size) 1), ⟨μ.obs.set μ.next (.cells cs.length e cs.toArray .e lo hi true sh), Nat.add μ.next 1⟩)
def jdN (lo hi o k : Nat) : Bool :=
 match Nat.blt lo hi with
 | false => true
 | true => match Nat.ble k lo with
   | true => true
   | false => Nat.ble hi o
def ja1 (P : Program) (μ : Mem) (e : TypeId) (size n : Nat) (new : List Value) (s : Value) : Option (Value × Mem) :=
 match s with
 | .slice none 0 0 => match n with
   | 0 => some (.slice none 0 0, μ)
   | _ => some (jck μ e size n new 0 0 false)
 | .slice (some ⟨i, o, none⟩) l c => match Nat.ble (Nat.add l n) 67108864 with
   | false => none
   | true => match Nat.beq (Nat.mod c 2) 0 with
     | true => match Nat.ble (Nat.add l n) (Nat.div c 2) with
       | true => match new with
         | [] => some (.slice (some ⟨i, o, none⟩) (Nat.add l n) c, μ)
         | _ => match μ.obs.get i with
           | some (.cells m te zero over lo hi fx sh) => match jbH m lo hi (Nat.add o (Nat.mul l size)) new.length with
             | false => none
             | true => match scalars new with
               | false => none
               | true => some (.slice (some ⟨i, o, none⟩) (Nat.add l n) c, ⟨μ.obs.set i (.cells m te zero (over.lay (Nat.add o (Nat.mul l size)) new) lo hi fx sh), μ.next⟩)
           | _ => none
       | false => match jaP μ size l (.slice (some ⟨i, o, none⟩) l c) with
         | some old => some (jck μ e size (Nat.add l n) (old ++ new) 0 0 false)
         | none => none
     | false => match n with
       | 0 => some (.slice (some ⟨i, o, none⟩) l c, μ)
       | _ => match o with
         | 0 => match μ.obs.get i with
           | some (.cells m te zero over lo hi fx sh) => match Nat.beq (Nat.div c 2) size with
             | false => none
             | true => match Nat.beq te e with
               | false => none
               | true => match Nat.ble (Nat.mul l size) m with
                 | false => none
                 | true => match jdN lo hi (Nat.mul l size) (Nat.mul (Nat.add l n) size) with
                   | false => none
                   | true => match scalars new with
                     | false => none
                     | true => some (.slice (some ⟨μ.next, 0, none⟩) (Nat.add l n) c,
                       ⟨(μ.obs.set i .dead).set μ.next (.cells (jas zero over 0 (Nat.mul l size) ++ new).length e (jas zero over 0 (Nat.mul l size) ++ new).toArray .e lo hi true sh), Nat.add μ.next 1⟩)
           | _ => none
         | _ => none
 | _ => none
def jaN (P : Program) (μ : Mem) (st xt : TypeId) (s x : Value) : Option (Value × Mem) :=
 match P.underlying st with
 | some (.slice e) => match P.info? e with
   | none => none
   | some inf => match Nat.ble inf.bytes 4096 with
     | false => none
     | true => match ja6 P e with
       | none => none
       | some z => match Nat.beq (jaR z).length inf.size with
         | false => none
         | true => match (match P.underlying xt with | some (.slice _) => true | some .string => true | _ => false) with
           | false => none
           | true => match lenV x with
             | none => none
             | some n => match Nat.ble n 67108864 with
               | false => none
               | true => match jaP μ inf.size n x with
                 | none => none
                 | some new => match Nat.beq new.length (Nat.mul n inf.size) with
                   | false => none
                   | true => ja1 P μ e inf.size n new s
 | _ => none
theorem ja9 {zero : Array Value} {over : T Value} : ∀ (n o : Nat), (jas zero over o n).length = n := by
 intro n
 induction n with
 | zero => intro o; rfl
 | succ n ih => intro o; simp [jas, ih]
theorem jcY {zero : Array Value} {over : T Value} : ∀ (n o k : Nat), k < n → (jas zero over o n)[k]? = some (cellAt zero over (o + k)) := by
 intro n
 induction n with
 | zero => intro o k h; omega
 | succ n ih =>
   intro o k h
   cases k with
   | zero => rfl
   | succ k =>
     rw [jas, List.getElem?_cons_succ, ih _ _ (by omega)]
     rw [show Nat.add o 1 + k = o + (k + 1) from by show o + 1 + k = _; omega]
theorem app_cells {J : Nat → Loc} {a b c : List Value} {a' b' c' : Array Value} (h1 : ARel J a.toArray a') (h2 : ARel J b.toArray b') : ARel J (a ++ b).toArray (a' ++ b') where
 size := by have e1 := h1.size; have e2 := h2.size; simp at e1 e2 ⊢; omega
 at_ i x y hx hy := by
  have e1 : a.length = a'.size := by simpa using h1.size
  simp only [List.getElem?_toArray] at hx
  by_cases h : i < a.length
  ·rw [List.getElem?_append_left h] at hx
   rw [Array.getElem?_append_left (by omega)] at hy
   exact h1.at_ i x y (by simpa using hx) hy
  ·rw [List.getElem?_append_right (by omega)] at hx
   rw [Array.getElem?_append_right (by omega)] at hy
   rw [e1] at hx
   exact h2.at_ _ x y (by simpa using hx) hy
theorem jkj {w : World} {l : List Value} {x' r : Array Value} {t : TypeId} {lo hi : Nat} {sh : Bool} (h : ARel J l.toArray x') :
  ObRel J (w.alloc (.cells (x' ++ r) t)) w.heap.size (x' ++ r).size (.cells l.length t l.toArray .e lo hi true sh) := by
 have hs : l.length = x'.size := by simpa using h.size
 refine ⟨x' ++ r, (0, 0), heap_alloc_new w _, rfl, by simp; omega, (fun h => by cases h), fun i hi => ?_, .inl rfl⟩
 refine ⟨x'[i], by rw [Array.getElem?_append_left (by omega)]; exact rzJ (by omega), ?_⟩
 refine h.at_ i _ _ ?_ (rzJ (by omega))
 have hm : Nat.mod i l.toArray.size = i := by show i % _ = i; rw [Nat.mod_eq_of_lt]; simpa using hi
 simp only [cellAt, T.get_e, hm]
 rw [rzJ (by simpa using hi), Array.getD, dif_pos (by simpa using hi)]
 rfl
theorem jeA {μ : Mem} {w : World} (h : Rel J μ w) {c : Call} {st xt e : TypeId} {inf : TypeInfo} {z : Value} (A : AppArgs P c st xt e inf z) {ty : TypeId} {base : Option Addr} {l cp n : Nat} {x' : Value}
  {olds news : List Value} {old new : Array Value} {lo hi : Nat} {sh : Bool}
  (hn : ∀ w, (Builtin.lenOf x').run P w = .ok n w) (hgt : cp < l + n) (hs : l + n ≤ 67108864)
  (hnew : ∀ w', w'.heap = w.heap → (Builtin.firstCells inf.size n x').run P w' = .ok new w') (hold : ∀ w', w'.heap = w.heap → (Builtin.firstCells inf.size l (.slice base l cp)).run P w' = .ok old w')
  (ho : ARel J olds.toArray old) (hne : ARel J news.toArray new) (hlen : (olds ++ news).length = (l + n) * inf.size) :
  ∃ J' v' w', (Builtin.append_ c.argTypes ty #[.slice base l cp, x']).run P w = .ok v' w' ∧ VRel J' (jck μ e inf.size (l + n) (olds ++ news) lo hi sh).1 v' ∧
   Rel J' (jck μ e inf.size (l + n) (olds ++ news) lo hi sh).2 w' ∧ Step J μ w J' (jck μ e inf.size (l + n) (olds ++ news) lo hi sh).2 w' := by
 obtain ⟨nc, w1, hnc, hw1, o1, o2, o3, hrun⟩ := run_grows A (ty := ty) hn hgt hs hnew hold
 have hcs := app_cells (c := []) (c' := #[]) ho hne
 have h1 : Rel J μ w1 := h.heap hw1
 have hsz : (old ++ new).size = (l + n) * inf.size := by have := hcs.size; simp only [List.size_toArray] at this; omega
 have hfull : (old ++ new ++ Builtin.zeroCells z.cells (nc - (l + n))).size = nc * inf.size := by
  rw [Array.size_append, hsz, jfI, A.zsize, Nat.sub_mul]
  have : (l + n) * inf.size ≤ nc * inf.size := Nat.mul_le_mul_right _ hnc
  omega
 have hu : J μ.next = .unborn := h.fresh _ (Nat.le_refl _)
 refine ⟨upd J μ.next (.at w1.heap.size (old ++ new ++ Builtin.zeroCells z.cells (nc - (l + n))).size), _, _, hrun, ?_, ?_, ?_⟩
 ·rw [show w.heap.size = w1.heap.size from by rw [hw1]]
  refine .slice (upd_same _ _ _) (.inr ⟨by show (2 * inf.size + 1) % 2 = 1; omega, hnc, ?_⟩)
  rw [hfull, show (Nat.add (Nat.mul 2 inf.size) 1) / 2 = inf.size from by show (2 * inf.size + 1) / 2 = _; omega]
  omega
 ·exact h1.alloc _ _ _ hu (Nat.lt_succ_self _) (Nat.le_succ _) ((jkj hcs).keep (jdG _ hu) rfl)
 ·have s1 : Step J μ w J μ w1 := { Step.refl J μ w with size := by rw [hw1]; exact Nat.le_refl _, frame := fun b _ _ => by rw [hw1], os := o1, tape := o2, output := o3, born := (Step.refl J μ w).born }
  exact s1.trans h (Step.alloc h1 _ _ _ (Nat.le_refl _) (Nat.lt_succ_self _) (Nat.le_succ _))
def AppTurns (P : Program) (J : Nat → Loc) (c : Call) (ty : TypeId) (s' x' : Value) (μ : Mem) (w : World) (v : Value) (μ' : Mem) : Prop :=
 ∃ J' v' w', (Builtin.append_ c.argTypes ty #[s', x']).run P w = .ok v' w' ∧ VRel J' v v' ∧ Rel J' μ' w' ∧ Step J μ w J' μ' w'
theorem jh6 {lo hi o k s : Nat} {fz : Nat × Nat} {sh : Bool} (h : jdN lo hi o k = true) (hs : k ≤ s) (hf : FzRel fz s lo hi sh) : ∀ j, o ≤ j → j < k → ¬ (fz.1 ≤ j ∧ j < fz.2) := by
 unfold jdN at h
 intro j hj1 hj2 ⟨e1, e2⟩
 rcases hf with hf | ⟨_, hf⟩ | ⟨hf1, hf2, hf3⟩
 ·omega
 ·omega
 ·split at h
  ·rename_i h2
   have : ¬ lo < hi := fun hlt => by rw [show Nat.blt lo hi = true from by simpa using hlt] at h2; cases h2
   omega
  ·split at h
   ·rename_i h3
    have h3' : k ≤ lo := rzE h3
    omega
   ·have h3' : hi ≤ o := rzE h
    omega
theorem jfH {μ : Mem} {w : World} (h : Rel J μ w) {c : Call} {st xt e : TypeId} {inf : TypeInfo} {z : Value} (A : AppArgs P c st xt e inf z) {ty : TypeId} {s s' x x' : Value} {n : Nat} {news : List Value} {v : Value} {μ' : Mem}
  (hx : VRel J s s') (hy : VRel J x x') (hn : lenV x = some n) (hn2 : n ≤ 67108864) (hnew : jaP μ inf.size n x = some news) (hnl : news.length = n * inf.size)
  (hs : ja1 P μ e inf.size n news s = some (v, μ')) : AppTurns P J c ty s' x' μ w v μ' := by
 have hlen : ∀ w, (Builtin.lenOf x').run P w = .ok n w := jhb hy hn
 obtain ⟨new, hnew1, hnew2⟩ := jcT (P := P) h hy hnew
 have hns : news.length = new.size := by simpa using hnew2.size
 unfold ja1 at hs
 split at hs
 ·
  cases hx
  split at hs
  ·cases hs
   refine ⟨J, .slice none 0 0, w, ?_, .sliceNil 0 0, h, Step.refl _ _ _⟩
   exact jdV A (base := none) (l := 0) (cp := 0) (hlen w) (Nat.le_refl _) (hnew1 w rfl) (fun a e => by cases e) (fun _ => rfl)
  ·rename_i hn0
   cases hs
   have hn0' : 0 < n := Nat.pos_of_ne_zero fun e => hn0 (by omega)
   have := jeA h A (ty := ty) (base := none) (l := 0) (cp := 0) (olds := []) (old := #[]) (lo := 0) (hi := 0) (sh := false) hlen (by omega) (by omega) hnew1 (fun w' _ => rfl) ⟨rfl, fun i a b ha => by simp at ha⟩ hnew2 (by simpa using hnl)
   rw [Nat.zero_add] at this
   exact this
 ·rename_i i of l cp
  obtain ⟨a', c', hx', hadd, hcase⟩ := jbh hx
  have hx2 := hx
  rw [hx'] at hx2 ⊢
  split at hs
  ·cases hs
  ·rename_i hsum
   have hsum' : l + n ≤ 67108864 := rzE hsum
   split at hs
   ·rename_i heven
    have heven' : cp % 2 = 0 := rzD heven
    have hcc : c' = cp / 2 := by
     rcases hcase with ⟨_, _, _, _, _, _, _, hcap⟩ | ⟨_, hcap⟩
     ·rcases hcap with ⟨_, e2⟩ | ⟨e2, _⟩
      ·exact e2
      ·omega
     ·rcases hcap with ⟨_, e2⟩ | ⟨e2, _⟩
      ·exact e2
      ·omega
    split at hs
    ·rename_i hfit
     have hfit' : l + n ≤ c' := by rw [hcc]; exact rzE hfit
     have hval : ∀ J', Ext J J' → VRel J' (.slice (some ⟨i, of, none⟩) (Nat.add l n) cp) (.slice (some a') (l + n) c') := by
      intro J' hE
      rcases hcase with ⟨i2, o2, b2, s2, e1, e2, e3, hcap⟩ | ⟨e1, hcap⟩
      ·cases e1
       subst e2
       refine VRel.mono hE (.slice e3 ?_)
       rcases hcap with hcap | ⟨e4, _⟩
       ·exact .inl hcap
       ·omega
      ·refine VRel.mono hE (.sliceDead _ _ e1 ?_)
       rcases hcap with hcap | ⟨e4, _⟩
       ·exact .inl hcap
       ·omega
     split at hs
     ·cases hs
      have hnil : new = #[] := Array.eq_empty_of_size_eq_zero (by rw [← hns]; rfl)
      refine ⟨J, _, w, jdV A (base := some a') (w' := w) (hlen w) hfit' (hnew1 w rfl) (fun a e => by cases e; rw [hnil]; rfl) (fun e => by cases e), hval J (Ext.refl J), h, Step.refl _ _ _⟩
     ·split at hs
      ·rename_i m te zero over lo hi fx sh hob
       split at hs
       ·cases hs
       ·rename_i hw
        split at hs
        ·cases hs
        ·rename_i hsc
         cases hs
         obtain ⟨b, sz, hb, w', r1, r2, r3⟩ := jer (P := P) (vs' := new.toList) h hob hw hsc (by simpa using hnew2)
         have ha' : a' = ⟨b, of, none⟩ := by
          rcases hcase with ⟨i2, o2, b2, s2, e1, e2, e3, _⟩ | ⟨e1, _⟩
          ·cases e1; rw [hb] at e3; cases e3; exact e2
          ·rw [show J i = _ from hb] at e1; cases e1
         refine ⟨J, _, w', jdV A (base := some a') (w' := w') (hlen w) hfit' (hnew1 w rfl) (fun a e => ?_) (fun e => by cases e), hval J (Ext.refl J), r2, r3⟩
         cases e
         rw [ha', jga]
         exact r1
      ·cases hs
    ·rename_i hfit
     have hfit' : c' < l + n := by
      have : ¬ (l + n ≤ cp / 2) := fun hle => by rw [show Nat.ble (Nat.add l n) (Nat.div cp 2) = true from Nat.ble_eq_true_of_le hle] at hfit; cases hfit
      omega
     split at hs
     ·rename_i olds hold
      cases hs
      obtain ⟨old, ho1, ho2⟩ := jcT (P := P) h hx hold
      rw [hx'] at ho1
      have hol : olds.length = l * inf.size := by
       unfold jaP at hold
       simp only at hold
       split at hold
       ·rename_i h0; cases hold; exact h0.symm
       ·split at hold
        ·split at hold
         ·cases hold; rw [ja9]; rfl
         ·cases hold
        ·split at hold
         ·cases hold; rw [ja9]; rfl
         ·cases hold
        ·split at hold
         ·cases hold; rw [ja9]; rfl
         ·cases hold
        ·split at hold
         ·cases hold; rw [ja9]; rfl
         ·cases hold
        ·cases hold
      exact jeA h A hlen hfit' hsum' hnew1 ho1 ho2 hnew2 (by rw [List.length_append, hol, hnl, Nat.add_mul])
     ·cases hs
   ·rename_i hodd
    have hodd' : cp % 2 = 1 := by have : cp % 2 ≠ 0 := rzF hodd; omega
    have hlc : l ≤ c' := by
     rcases hcase with ⟨_, _, _, _, _, _, _, hcap⟩ | ⟨_, hcap⟩
     ·rcases hcap with ⟨e2, _⟩ | ⟨_, e2, _⟩
      ·omega
      ·exact e2
     ·rcases hcap with ⟨e2, _⟩ | ⟨_, e2⟩
      ·omega
      ·exact e2
    split at hs
    ·cases hs
     have hnil : new = #[] := Array.eq_empty_of_size_eq_zero (by rw [← hns, hnl, Nat.zero_mul])
     refine ⟨J, _, w, jdV A (base := some a') (w' := w) (hlen w) (by omega) (hnew1 w rfl) (fun a e => by cases e; rw [hnil]; rfl) (fun e => by cases e), hx2, h, Step.refl _ _ _⟩
    ·rename_i hn0
     split at hs
     ·split at hs
      ·rename_i m te zero over lo hi fx sh hob
       split at hs
       ·cases hs
       ·rename_i hes
        have hes' : cp / 2 = inf.size := rzD hes
        split at hs
        ·cases hs
        ·rename_i hte
         obtain rfl : te = e := rzD hte
         split at hs
         ·cases hs
         ·rename_i hle
          have hle' : l * inf.size ≤ m := rzE hle
          split at hs
          ·cases hs
          ·rename_i huf
           split at hs
           ·cases hs
           ·rename_i hsc
            cases hs
            obtain ⟨b, sz, hb, hr, hcells⟩ := cell_of h hob
            have hcap : a' = ⟨b, 0, none⟩ ∧ c' * inf.size ≤ sz := by
             rcases hcase with ⟨i2, o2, b2, s2, e1, e2, e3, hcap⟩ | ⟨e1, _⟩
             ·cases e1; rw [hb] at e3; cases e3
              rcases hcap with ⟨e4, _⟩ | ⟨_, _, e4⟩
              ·omega
              ·rw [hes'] at e4; exact ⟨e2, by omega⟩
             ·rw [show J i = _ from hb] at e1; cases e1
            obtain ⟨ha', hcap⟩ := hcap
            subst ha'
            obtain ⟨ol, ho1, ho2⟩ := jbL (P := P) (w := w) (zero := zero) (over := over) (b := b) (o := 0) (l * inf.size) 0 #[] (fun k hk => hcells _ (by omega))
            have hol : (jas zero over 0 (l * inf.size)).length = l * inf.size := ja9 _ _
            have hwhole : (jas zero over 0 (Nat.mul l inf.size) ++ news).length = (l + n) * inf.size := by
             rw [List.length_append, show Nat.mul l inf.size = l * inf.size from rfl, hol, hnl, Nat.add_mul]
            by_cases hfit : l + n ≤ c'
            ·
             obtain ⟨cc, fz, h1, h2, h3, h4, h5, h6⟩ := hr
             have hnc : (l + n) * inf.size ≤ sz := Nat.le_trans (Nat.mul_le_mul_right _ hfit) hcap
             have hfree := jh6 huf hnc h6
             have hscm : ∀ v ∈ new.toList, (∀ x, v ≠ .agg x) ∧ (∀ x, v ≠ .tuple x) := by
              intro u hum
              obtain ⟨k, hk, rfl⟩ := List.mem_iff_getElem.1 hum
              have hk' : k < new.size := by simpa using hk
              have hk2 : k < news.length := by omega
              exact jfT (hnew2.at_ k news[k] new.toList[k] (by simp [hk2]) (by simp [hk'])) (jfb news hsc _ (List.getElem_mem hk2))
             obtain ⟨w', cc', r1, r2, r3⟩ := jdA (P := P) (o := l * inf.size) new.toList 0 w cc h1 (by simp only [Array.length_toList]; rw [← hns, hnl, h2]; rw [Nat.add_mul] at hnc; omega)
              (fun k a b => hfree k (by show l * inf.size ≤ k; omega) (by simp only [Array.length_toList] at b; rw [← hns, hnl] at b; show k < (l + n) * inf.size; rw [Nat.add_mul]; omega)) hscm
             have hob2 : ∀ J', Ext J J' → ObRel J' w' b sz (.cells (jas zero over 0 (Nat.mul l inf.size) ++ news).length te (jas zero over 0 (Nat.mul l inf.size) ++ news).toArray .e lo hi true sh) := by
              intro J' hE
              refine ⟨cc', fz, r2.block, by rw [r2.cells]; exact h2, by rw [hwhole]; exact hnc, (fun h => by cases h), fun k hk => ?_, h6⟩
              have hm : Nat.mod k (jas zero over 0 (Nat.mul l inf.size) ++ news).toArray.size = k := by show k % _ = k; rw [Nat.mod_eq_of_lt]; simpa using hk
              have hval : cellAt (jas zero over 0 (Nat.mul l inf.size) ++ news).toArray .e k = (jas zero over 0 (Nat.mul l inf.size) ++ news)[k] := by
               simp only [cellAt, T.get_e, hm]
               rw [Array.getD, dif_pos (by simpa using hk)]; rfl
              rw [hval, r3 k]
              by_cases hk2 : k < l * inf.size
              ·rw [if_neg (by omega)]
               obtain ⟨y, hy1, hy2⟩ := hcells k (by omega)
               have hcell : cc[k]? = some y := by
                simp only [World.cell?, h1] at hy1
                simpa using hy1
               refine ⟨y, hcell, VRel.mono hE ?_⟩
               rw [List.getElem_append_left (by rw [show Nat.mul l inf.size = l * inf.size from rfl, hol]; exact hk2)]
               have hcf : (jas zero over 0 (l * inf.size))[k]? = some (cellAt zero over (0 + k)) := jcY _ _ _ hk2
               rw [rzK (by omega), Option.some.injEq, Nat.zero_add] at hcf
               exact hcf ▸ hy2
              ·have hk4 : k < (l + n) * inf.size := by rw [← hwhole]; exact hk
               rw [Nat.add_mul] at hk4
               rw [if_pos ⟨by omega, by simp only [Array.length_toList]; omega⟩]
               have hk5 : k - (l * inf.size + 0) < new.size := by omega
               refine ⟨new[k - (l * inf.size + 0)], by simp [hk5], VRel.mono hE ?_⟩
               rw [List.getElem_append_right (by rw [show Nat.mul l inf.size = l * inf.size from rfl, hol]; omega)]
               refine hnew2.at_ (k - (l * inf.size + 0)) _ _ ?_ (by simp [hk5])
               simp only [List.getElem?_toArray]
               rw [rzK (by omega)]
               congr 2
               rw [show Nat.mul l inf.size = l * inf.size from rfl, hol]
               omega
             have hp : ¬ gone μ i := fun hg => by have := hg _ hob; cases this
             have hne : μ.next ≠ i := by have := jdf h hb; omega
             refine ⟨_, _, w', jdV A (base := some ⟨b, 0, none⟩) (w' := w') (hlen w) hfit (hnew1 w rfl) (fun a e => ?_) (fun e => by cases e), ?_,
              h.move hb _ r2.size r2.other hob2, Step.move h hb hp _ r2.size r2.other r2.os r2.tape r2.output⟩
             ·cases e
              rw [jga, Nat.zero_add]
              exact r1
             ·exact .slice (upd_same _ _ _) (.inr ⟨hodd', hfit, by rw [hes']; omega⟩)
            ·
             have hp : ¬ gone μ i := fun hg => by have := hg _ hob; cases this
             have hold : ∀ w', w'.heap = w.heap → (Builtin.firstCells inf.size l (.slice (some ⟨b, 0, none⟩) l c')).run P w' = .ok ol.toArray w' := fun w' hw' => by
              have := ho1 w' hw'
              simpa [Builtin.firstCells, loadCells] using this
             obtain ⟨J', v', w', g1, g2, g3, g4⟩ := jeA (h.kill hb) A (ty := ty) (base := some ⟨b, 0, none⟩) (l := l) (cp := c') (lo := lo) (hi := hi) (sh := sh) hlen (by omega) hsum' hnew1 hold
              ((show ARel J (jas zero over 0 (l * inf.size)).toArray ol.toArray from ho2).mono (jdu i)) (hnew2.mono (jdu i)) hwhole
             have hcpe : cp = 2 * inf.size + 1 := by omega
             refine ⟨J', v', w', g1, ?_, g3, (Step.kill h hb hp).trans h g4⟩
             rw [hcpe]
             exact g2
      ·cases hs
     ·cases hs
 ·cases hs
end
noncomputable section
variable {P : Program} {J : Nat → Loc}
theorem jgW {ρ ρ' : Operand → Value} (hρ : ∀ x, VRel J (ρ x) (ρ' x)) {μ : Mem} {w : World} (h : Rel J μ w) {o : Oper} {c : Call} {st xt : TypeId} {r : List TypeId} {x y : Operand} {v : Value} {μ' : Mem} (ho : o.op = .call c)
  (hc : c.callee = .builtin .append) (ha : c.args.toList = [x, y]) (ht : c.argTypes.toList = st :: xt :: r) (hs : jaN P μ st xt (ρ x) (ρ y) = some (v, μ')) : jfQ P J ρ' o μ w v μ' := by
 have h0 : c.argTypes[0]? = some st := by rw [← Array.getElem?_toList, ht]; rfl
 have h1 : c.argTypes[1]? = some xt := by rw [← Array.getElem?_toList, ht]; rfl
 unfold jaN at hs
 split at hs
 ·rename_i e hu
  split at hs
  ·cases hs
  ·rename_i inf hinf
   split at hs
   ·cases hs
   ·rename_i hb
    split at hs
    ·cases hs
    ·rename_i z hz
     split at hs
     ·cases hs
     ·rename_i hzs
      split at hs
      ·cases hs
      ·rename_i hux
       split at hs
       ·cases hs
       ·rename_i n hn
        split at hs
        ·cases hs
        ·rename_i hn2
         split at hs
         ·cases hs
         ·rename_i news hnew
          split at hs
          ·cases hs
          ·rename_i hnl
           have hzc : z.cells.size = inf.size := by
            have : (jaR z).length = inf.size := rzD hzs
            rw [jhE] at this; simpa using this
           have hux' : (∃ e2, P.underlying xt = some (.slice e2)) ∨ P.underlying xt = some .string := by
            split at hux
            ·rename_i e2 he2; exact .inl ⟨e2, he2⟩
            ·rename_i he2; exact .inr he2
            ·cases hux
           have A : AppArgs P c st xt e inf z := ⟨h0, h1, hu, hinf, hux', hz, hzc, rzE hb⟩
           obtain ⟨J', v', w', r1, r2, r3, r4⟩ := jfH h A (ty := o.type) (hρ x) (hρ y) hn (rzE hn2) hnew (rzD hnl) hs
           refine ⟨J', v', w', .inl ?_, r2, r3, r4⟩
           rw [jb9 ho hc, jdF ha]
           simp only [builtin, rzB, r1, rzA, rzC]
 ·cases hs
def jiU (μ : Mem) (v : Value) : Option (Value × Mem) :=
 match v with
 | .pointer (some ⟨i, 0, none⟩) => match μ.obs.get i with
   | some (.siter s pos) => match Nat.blt pos s.data.toList.length with
     | true => some (.tuple #[.bool true, .int .i64 pos, .int .i32 (Utf8.decode s pos).1], ⟨μ.obs.set i (.siter s (Nat.add pos (Utf8.decode s pos).2)), μ.next⟩)
     | false => some (.tuple #[.bool false], μ)
   | _ => none
 | _ => none
theorem jhg {i b s o : Nat} {p : Value} (hb : J i = .at b s) (h : VRel J (.pointer (some ⟨i, o, none⟩)) p) : p = .pointer (some ⟨b, o, none⟩) := by
 cases h with
 | ptr e => rw [hb] at e; cases e; rfl
 | ptrDead a' e => rw [show J i = _ from hb] at e; cases e
theorem heap_set {w : World} {b : Nat} {o : Obj} (h : b < w.heap.size) : ({ w with heap := w.heap.setIfInBounds b o } : World).heap[b]? = some o ∧
  (∀ c, c ≠ b → ({ w with heap := w.heap.setIfInBounds b o } : World).heap[c]? = w.heap[c]?) ∧ ({ w with heap := w.heap.setIfInBounds b o } : World).heap.size = w.heap.size := by
 refine ⟨by simp [h], fun c hc => ?_, by simp⟩
 simp only [Array.getElem?_setIfInBounds]
 rw [if_neg (fun e => hc e.symm)]
theorem jiT {ρ ρ' : Operand → Value} (hρ : ∀ x, VRel J (ρ x) (ρ' x)) {μ : Mem} {w : World} (h : Rel J μ w) {o : Oper} {x : Operand} {v : Value} {μ' : Mem} (ho : o.op = .next x true)
  (hs : jiU μ (ρ x) = some (v, μ')) : jfQ P J ρ' o μ w v μ' := by
 have hx := hρ x
 unfold jiU at hs
 split at hs
 ·rename_i i e
  rw [e] at hx
  split at hs
  ·rename_i s pos hob
   obtain ⟨b, sz, hb, hr⟩ := h.obj i _ hob (by simp)
   have hx' := jhg hb hx
   have hlen : s.data.toList.length = s.size := by rw [Array.length_toList]; rfl
   rw [hlen] at hs
   have hget : (getObj b).run P w = .ok (.stringIter s pos) w := by
    have hr' : w.heap[b]? = some (.stringIter s pos) := hr
    simp [getObj, Sem.run, hr']
   split at hs
   ·rename_i hlt
    have hlt' : pos < s.size := by simpa using hlt
    cases hs
    have hbl : b < w.heap.size := h.bnd _ _ _ hb
    obtain ⟨g1, g2, g3⟩ := heap_set (w := w) (o := .stringIter s (pos + (Utf8.decode s pos).2)) hbl
    have hset : (setObj b (.stringIter s (pos + (Utf8.decode s pos).2))).run P w = .ok () { w with heap := w.heap.setIfInBounds b (.stringIter s (pos + (Utf8.decode s pos).2)) } := by
     have hr' : w.heap[b]? = some (.stringIter s pos) := hr
     simp [setObj, Sem.run, hr']
    have hp : ¬ gone μ i := fun hg => by have := hg _ hob; cases this
    refine ⟨J, .tuple #[.bool true, .int .i64 pos, .int .i32 (Utf8.decode s pos).1], _, .inl ?_, jbp 5 rfl, h.update hb (.siter s (Nat.add pos (Utf8.decode s pos).2)) g3 g2 g1, Step.update hb hp _ g3 g2 rfl rfl rfl⟩
    simp only [execOp, ho, Instr.next, hx', rzB, hget, rzA, if_pos hlt', hset, rzC, goInt]
   ·rename_i hlt
    have hlt' : ¬ pos < s.size := fun hh => by rw [show Nat.blt pos s.size = true from by simpa using hh] at hlt; cases hlt
    cases hs
    refine ⟨J, .tuple #[.bool false], w, .inl ?_, jbp 5 rfl, h, Step.refl _ _ _⟩
    simp only [execOp, ho, Instr.next, hx', rzB, hget, rzA, if_neg hlt', rzC]
  ·cases hs
 ·cases hs
def jcZ : List Value → Option (List UInt8)
 | [] => some []
 | .int .u8 (.ofNat k) :: r => match Nat.blt k 256 with
   | true => match jcZ r with
     | some l => some (UInt8.ofNat k :: l)
     | none => none
   | false => none
 | _ :: _ => none
theorem jiK : ∀ (vs : List Value) (l : List UInt8), jcZ vs = some l → vs.length = l.length ∧ ∀ (j : Nat) x, l[j]? = some x → vs[j]? = some (.int .u8 x.toNat) := by
 intro vs
 induction vs with
 | nil => intro l h; simp only [jcZ] at h; cases h; exact ⟨rfl, fun j x hx => by simp at hx⟩
 | cons v vs ih =>
   intro l h
   unfold jcZ at h
   split at h
   ·rename_i e; cases e
   ·rename_i k r e
    cases e
    split at h
    ·rename_i hk
     have hk' : k < 256 := by simpa using hk
     split at h
     ·rename_i l' hl
      cases h
      obtain ⟨h1, h2⟩ := ih _ hl
      refine ⟨by simp [h1], fun j x hx => ?_⟩
      cases j with
      | zero =>
        simp at hx
        subst hx
        have : (UInt8.ofNat k).toNat = k := by simp; omega
        simp [this]
      | succ j => simp at hx ⊢; exact h2 j x hx
     ·cases h
    ·cases h
   ·cases h
def jb6 (P : Program) (μ : Mem) (pt : TypeId) (p n : Value) : Option (Value × Mem) :=
 match n with
 | .int .i64 (.ofNat m) => match m with
   | 0 => match p with
     | .pointer _ => some (.string .empty, μ)
     | _ => none
   | _ => match p with
     | .pointer (some ⟨i, 0, none⟩) => match μ.obs.get i with
       | some (.cells k te zero over lo hi fx false) => match P.underlying pt with
         | some (.pointer e) => match Nat.beq te e with
           | false => none
           | true => match Nat.beq (P.cellsOf e) 1 with
             | false => none
             | true => match Nat.ble m k with
               | false => none
               | true => match Nat.ble m 1073741824 with
                 | false => none
                 | true => match jcZ (jas zero over 0 m) with
                   | none => none
                   | some l => some (.string ⟨l.toArray⟩, ⟨μ.obs.set i (.cells k te zero over 0 (match Nat.blt lo hi with | true => Nat.max hi m | false => m) fx false), μ.next⟩)
         | _ => none
       | _ => none
     | _ => none
 | _ => none
theorem jdH {ρ ρ' : Operand → Value} (hρ : ∀ x, VRel J (ρ x) (ρ' x)) {μ : Mem} {w : World} (h : Rel J μ w) {o : Oper} {c : Call} {pt it : TypeId} {x y : Operand} {v : Value} {μ' : Mem} (ho : o.op = .call c)
  (hc : c.callee = .builtin .unsafeString) (ha : c.args.toList = [x, y]) (ht : c.argTypes.toList = [pt, it]) (hs : jb6 P μ pt (ρ x) (ρ y) = some (v, μ')) : jfQ P J ρ' o μ w v μ' := by
 have hx := hρ x
 have hy := hρ y
 have hts : c.argTypes = #[pt, it] := by cases hq : c.argTypes; rw [hq] at ht; simp at ht; rw [ht]
 unfold jb6 at hs
 split at hs
 ·rename_i m e
  rw [e] at hy
  have hy' : ρ' y = .int .i64 (m : Int) := ja4 hy
  split at hs
  ·split at hs
   ·rename_i a e2
    cases hs
    rw [e2] at hx
    refine ⟨J, _, w, .inl ?_, .string _, h, Step.refl _ _ _⟩
    rw [jb9 ho hc, jdF ha, hts, hy']
    have hp : ∃ p, ρ' x = .pointer p := by
     generalize ρ' x = q at hx
     cases hx with
     | ptrNil => exact ⟨_, rfl⟩
     | ptr _ => exact ⟨_, rfl⟩
     | ptrDead a' _ => exact ⟨_, rfl⟩
    obtain ⟨p, hp⟩ := hp
    rw [hp]
    simp only [builtin, rzB]
    rw [show ((0 : Nat) : Int) = 0 from rfl, Lib.run_unsafeString_none]
    rfl
   ·cases hs
  ·rename_i hm0
   have hm0' : m ≠ 0 := fun e => hm0 (by omega)
   split at hs
   ·rename_i i e2
    rw [e2] at hx
    split at hs
    ·rename_i k te zero over lo hi fx hob
     split at hs
     ·rename_i el hpt
      split at hs
      ·cases hs
      ·rename_i hte
       obtain rfl : te = el := rzD hte
       split at hs
       ·cases hs
       ·rename_i hc1
        have hc1' : P.cellsOf te = 1 := rzD hc1
        split at hs
        ·cases hs
        ·rename_i hmk
         have hmk' : m ≤ k := rzE hmk
         split at hs
         ·cases hs
         ·rename_i hmb
          have hmb' : m ≤ 1073741824 := rzE hmb
          split at hs
          ·cases hs
          ·rename_i l hl
           cases hs
           obtain ⟨b, sz, hb, hr, hcells⟩ := cell_of h hob
           have hx' := jhg hb hx
           obtain ⟨hl1, hl2⟩ := jiK _ _ hl
           have hlm : l.length = m := by rw [← hl1, ja9]
           obtain ⟨cc, fz, h1, h2, h3, h4, h5, h6⟩ := hr
           have hsh : w.shape? b = some (te, cc.size) := by simp [World.shape?, h1]
           have hcell : ∀ (j : Nat) x, l[j]? = some x → w.cell? ((⟨b, 0, none⟩ : Addr).add j) = some (.int .u8 x.toNat) := by
            intro j x hjx
            have hj : j < m := by rw [← hlm]; exact (List.getElem?_eq_some_iff.1 hjx).1
            have hv := hl2 j x hjx
            rw [jcY _ _ _ hj, Option.some.injEq, Nat.zero_add] at hv
            obtain ⟨y, hy1, hy2⟩ := hcells j (by omega)
            rw [hv] at hy2
            rw [jga, Nat.zero_add, hy1, ja4 hy2]
           have hrun := Lib.run_unsafeString_row (P := P) (w := w) pt it o.type te hpt hc1' b cc.size hsh l (fun e => by rw [e] at hlm; simp at hlm; omega) (by omega) (by omega) hcell
           have hw' : (w.freeze ⟨b, 0, none⟩ l.length).heap[b]? = some (.cells cc te (if fz.1 == fz.2 then (0, m) else (min fz.1 0, max fz.2 m))) := by
            unfold World.freeze
            rw [if_neg (by omega), hlm]
            obtain ⟨f1, f2⟩ := fz
            simp [Array.getElem?_modify, h1]
           have hoth : ∀ q, q ≠ b → (w.freeze ⟨b, 0, none⟩ l.length).heap[q]? = w.heap[q]? := by
            intro q hq
            unfold World.freeze
            rw [if_neg (by omega)]
            simp only [Array.getElem?_modify]
            rw [if_neg (fun e => hq e.symm)]
           have hsz : (w.freeze ⟨b, 0, none⟩ l.length).heap.size = w.heap.size := by
            unfold World.freeze
            rw [if_neg (by omega)]
            simp
           have hp : ¬ gone μ i := fun hg => by have := hg _ hob; cases this
           have hnew : ObRel J (w.freeze ⟨b, 0, none⟩ l.length) b sz (.cells k te zero over 0 (match Nat.blt lo hi with | true => Nat.max hi m | false => m) fx false) := by
            refine ⟨cc, _, hw', h2, h3, h4, h5, ?_⟩
            rcases h6 with h6 | ⟨h6, _⟩ | ⟨g1, g2, g3⟩
            ·rw [if_pos (by simpa using h6)]
             refine .inr (.inr ⟨Nat.zero_le _, ?_, ?_⟩)
             ·split
              ·exact Nat.le_max_right _ _
              ·exact Nat.le_refl _
             ·split
              ·exact Nat.lt_of_lt_of_le (by omega) (Nat.le_max_right hi m)
              ·omega
            ·cases h6
            ·have hb2 : Nat.blt lo hi = true := by simpa using g3
             rw [hb2]
             split
             ·exact .inr (.inr ⟨Nat.zero_le _, Nat.le_max_right _ _, Nat.lt_of_lt_of_le (by omega) (Nat.le_max_right hi m)⟩)
             ·refine .inr (.inr ⟨Nat.zero_le _, ?_, Nat.lt_of_lt_of_le (by omega) (Nat.le_max_right hi m)⟩)
              show max fz.2 m ≤ max hi m
              omega
           refine ⟨J, _, _, .inl ?_, .string _, h.update hb _ hsz hoth hnew, Step.update hb hp _ hsz hoth ?_ ?_ ?_⟩
           ·rw [jb9 ho hc, jdF ha, hts, hx', hy']
            rw [hlm] at hrun
            simp only [builtin, rzB, hrun, rzA, rzC, hlm]
           ·unfold World.freeze; rw [if_neg (by omega)]
           ·unfold World.freeze; rw [if_neg (by omega)]
           ·unfold World.freeze; rw [if_neg (by omega)]
     ·cases hs
    ·cases hs
   ·cases hs
 ·cases hs
end
noncomputable section
variable {P : Program} {J : Nat → Loc}
def aLookup (_ : Program) (_ : Mem) (_ : TypeId) (_ _ : Value) (_ : Bool) : Option Value := none
theorem jgS {ρ ρ' : Operand → Value} (hρ : ∀ x, VRel J (ρ x) (ρ' x)) {μ : Mem} {w : World} (h : Rel J μ w) {o : Oper} {t : TypeId} {x y : Operand} {c : Bool} {v : Value}
  (ho : o.op = .lookup t x y c) (hs : aLookup P μ t (ρ x) (ρ y) c = some v) : ∃ v', VRel J v v' ∧ (execOp ρ' o).run P w = .ok (.value v') w := nomatch hs
def aMapLen (_ : Mem) (_ : Value) : Option Value := none
theorem jgR {ρ ρ' : Operand → Value} (hρ : ∀ x, VRel J (ρ x) (ρ' x)) {μ : Mem} {w : World} (h : Rel J μ w) {o : Oper} {c : Call} {x : Operand} {t kt et : TypeId} {r : List TypeId} {v : Value}
  (ho : o.op = .call c) (hc : c.callee = .builtin .len) (ha : c.args.toList = [x]) (ht : c.argTypes.toList = t :: r) (hu : P.underlying t = some (.map kt et)) (hs : aMapLen μ (ρ x) = some v) :
  ∃ v', VRel J v v' ∧ (execOp ρ' o).run P w = .ok (.value v') w := nomatch hs
def jiV (_ : Program) (_ : Mem) (_ : TypeId) (_ _ _ : Value) : Option (Value × Mem) := none
theorem jeh {ρ ρ' : Operand → Value} (hρ : ∀ x, VRel J (ρ x) (ρ' x)) {μ : Mem} {w : World} (h : Rel J μ w) {o : Oper} {t : TypeId} {x y z : Operand} {v : Value} {μ' : Mem}
  (ho : o.op = .mapUpdate t x y z ∨ o.op = .insert t x y z) (hs : jiV P μ t (ρ x) (ρ y) (ρ z) = some (v, μ')) : jfQ P J ρ' o μ w v μ' := nomatch hs
def jhU (_ : Program) (_ : Mem) (_ : TypeId) (_ _ : Value) : Option (Value × Mem) := none
theorem jfD {ρ ρ' : Operand → Value} (hρ : ∀ x, VRel J (ρ x) (ρ' x)) {μ : Mem} {w : World} (h : Rel J μ w) {o : Oper} {t : TypeId} {x y : Operand} {v : Value} {μ' : Mem}
  (ho : o.op = .mapEntry t x y) (hs : jhU P μ t (ρ x) (ρ y) = some (v, μ')) : jfQ P J ρ' o μ w v μ' := nomatch hs
def jfG (_ : Mem) (_ _ _ : Value) : Option (Value × Mem) := none
theorem jeI {ρ ρ' : Operand → Value} (hρ : ∀ x, VRel J (ρ x) (ρ' x)) {μ : Mem} {w : World} (h : Rel J μ w) {o : Oper} {t : TypeId} {x y z : Operand} {v : Value} {μ' : Mem}
  (ho : o.op = .entryStore t x y z) (hs : jfG μ (ρ x) (ρ y) (ρ z) = some (v, μ')) : jfQ P J ρ' o μ w v μ' := nomatch hs
def jiO (P : Program) (μ : Mem) (src dst : TypeId) (v : Value) : Option (Value × Mem) :=
 match v with
 | .slice (some ⟨i, o, none⟩) l c => match Nat.beq src dst with
   | false => none
   | true => match P.underlying src with
     | some (.slice e) => match P.underlying e with
       | some (.int .u8) => match μ.obs.get i with
         | some (.cells n t zero over lo hi fx _) => match Nat.blt lo hi with
           | true => none
           | false => some (.slice (some ⟨i, o, none⟩) l c, ⟨μ.obs.set i (.cells n t zero over lo hi fx true), μ.next⟩)
         | _ => none
       | _ => none
     | _ => none
 | _ => none
theorem jgO {ρ ρ' : Operand → Value} (hρ : ∀ x, VRel J (ρ x) (ρ' x)) {μ : Mem} {w : World} (h : Rel J μ w) {o : Oper} {src dst : TypeId} {x : Operand} {v : Value} {μ' : Mem}
  (ho : o.op = .convert src dst x) (hs : jiO P μ src dst (ρ x) = some (v, μ')) : jfQ P J ρ' o μ w v μ' := by
 have hx := hρ x
 unfold jiO at hs
 split at hs
 ·rename_i i of l c e
  rw [e] at hx
  split at hs
  ·cases hs
  ·rename_i hsd
   have hsd' : src = dst := rzD hsd
   subst hsd'
   split at hs
   ·rename_i el hu
    split at hs
    ·rename_i he
     split at hs
     ·rename_i n te zero over lo hi fx sh hob
      split at hs
      ·cases hs
      ·rename_i hlt
       cases hs
       obtain ⟨b, s, hb, hr, _⟩ := cell_of h hob
       obtain ⟨a', c', hx', _, hcase⟩ := jbh hx
       have ha' : a' = ⟨b, of, none⟩ := by
        rcases hcase with ⟨i2, o2, b2, s2, e1, e2, e3, _⟩ | ⟨e1, _⟩
        ·cases e1; rw [hb] at e3; cases e3; exact e2
        ·rw [show J i = _ from hb] at e1; cases e1
       subst ha'
       obtain ⟨C, fz, r1, r2, r3, r4, r5, r6⟩ := hr
       have hbl : b < w.heap.size := h.bnd _ _ _ hb
       have hlh : ¬ lo < hi := fun hh => by rw [show Nat.blt lo hi = true from by simpa using hh] at hlt; cases hlt
       have hp : ¬ gone μ i := fun hg => by have := hg _ hob; cases this
       obtain ⟨f1, f2⟩ := fz
       have hself : (w.freeze ⟨b, C.size, none⟩ 1).heap[b]? = some (.cells C te (if f1 == f2 then (C.size, C.size + 1) else (min f1 C.size, max f2 (C.size + 1)))) := by
        unfold World.freeze
        rw [if_neg (by omega)]
        simp [Array.getElem?_modify, r1]
       have hoth : ∀ k, k ≠ b → (w.freeze ⟨b, C.size, none⟩ 1).heap[k]? = w.heap[k]? := fun k hk => by
        unfold World.freeze
        rw [if_neg (by omega)]
        simp only [Array.getElem?_modify]
        rw [if_neg (fun e => hk e.symm)]
       have hsz : (w.freeze ⟨b, C.size, none⟩ 1).heap.size = w.heap.size := by
        unfold World.freeze
        rw [if_neg (by omega)]
        simp
       have hrun : (markStringish ⟨b, of, none⟩).run P w = .ok () (w.freeze ⟨b, C.size, none⟩ 1) := by
        have hshape : (shape b).run P w = .ok (some (te, C.size)) w := by
         simp only [shape, Sem.run, World.shape?, r1]
        simp only [markStringish, rzB, hshape, rzA, freeze, Sem.run]
       have hv : VRel J (.slice (some ⟨i, of, none⟩) l c) (.slice (some ⟨b, of, none⟩) l c') := by rw [← hx']; exact hx
       refine ⟨J, .slice (some ⟨b, of, none⟩) l c', _, .inl ?_, hv, h.update hb (.cells n te zero over lo hi fx true) hsz hoth ?_, Step.update hb hp _ hsz hoth ?_ ?_ ?_⟩
       ·simp only [execOp, ho, convert, rzB, jaw hu, jaw he, rzA, hx', beq_self_eq_true, hrun, rzC]
       ·refine ⟨C, _, hself, r2, r3, r4, r5, ?_⟩
        by_cases hf : f1 = f2
        ·rw [if_pos (by simpa using hf)]
         exact .inr (.inl ⟨rfl, by simp; omega⟩)
        ·rw [if_neg (by simpa using hf)]
         rcases r6 with r6 | ⟨_, r6⟩ | ⟨_, _, r6⟩
         ·exact absurd r6 hf
         ·exact .inr (.inl ⟨rfl, by simp only at r6 ⊢; omega⟩)
         ·exact absurd r6 hlh
       ·unfold World.freeze; rw [if_neg (by omega)]
       ·unfold World.freeze; rw [if_neg (by omega)]
       ·unfold World.freeze; rw [if_neg (by omega)]
     ·cases hs
    ·cases hs
   ·cases hs
 ·cases hs
end
noncomputable section
variable {P : Program} {J : Nat → Loc}
def jgc (P : Program) (μ : Mem) (t : TypeId) (a b : Value) : Option Bool :=
 match a, b with
 | .pointer (some ⟨i, o, none⟩), .pointer (some ⟨j, q, none⟩) => match Nat.beq i j with
   | false => none
   | true => match μ.obs.get i with
     | some (.cells _ _ _ _ _ _ _ _) => match P.underlying t with
       | some (.pointer e) => match P.info? e with
         | some inf => match Nat.beq inf.size 0 with
           | true => none
           | false => some (Nat.beq o q)
         | none => none
       | _ => none
     | _ => none
 | _, _ => none
theorem jgb {μ : Mem} {w : World} (h : Rel J μ w) {t : TypeId} {a b a' b' : Value} {r : Bool} (ha : VRel J a a') (hb : VRel J b b') (hs : jgc P μ t a b = some r) :
  (Op.equal t a' b').run P w = .ok r w ∧ (∀ op x y, (eqGuard op t x y a' b').run P w = .ok () w) ∧ binOp .eql t a' b' = (do pure (.bool (← Op.equal t a' b'))) ∧
   binOp .neq t a' b' = (do pure (.bool (!(← Op.equal t a' b')))) := by
 unfold jgc at hs
 split at hs
 ·rename_i i o j q
  split at hs
  ·cases hs
  ·rename_i hij
   obtain rfl : i = j := rzD hij
   split at hs
   ·rename_i n te zero over lo hi fx sh hob
    obtain ⟨bb, s, hbb, _⟩ := cell_of h hob
    rw [jhg hbb ha, jhg hbb hb]
    split at hs
    ·rename_i e hu
     split at hs
     ·rename_i inf hinf
      split at hs
      ·cases hs
      ·rename_i hz
       have hz' : inf.size ≠ 0 := rzF hz
       cases hs
       refine ⟨?_, fun op x y => by unfold eqGuard; split <;> rfl, rfl, rfl⟩
       have key : ∀ d, (Op.equalIn (d + 1) t (.pointer (some ⟨bb, o, none⟩)) (.pointer (some ⟨bb, q, none⟩))).run P w = .ok (Nat.beq o q) w := by
        intro d
        simp only [Op.equalIn, rzB, jaw hu, rzA, ja2 hinf, if_pos hz', sameAddr, beq_self_eq_true, if_true, rzC]
        congr 1
        rw [Bool.eq_iff_iff]
        simp
       exact key 9999
     ·cases hs
    ·cases hs
   ·cases hs
 ·cases hs
def jdI (P : Program) (μ : Mem) (src dst : TypeId) (v : Value) : Option Value :=
 match v with
 | .pointer (some ⟨i, o, none⟩) => match μ.obs.get i with
   | some (.cells n te _ _ _ _ false _) => match Nat.blt o n with
     | false => none
     | true => match P.underlying src with
       | some (.pointer t) => match P.underlying dst with
         | some .unsafePointer => match P.info? t with
           | some inf => match Nat.beq inf.size 0 with
             | true => none
             | false => some v
           | none => none
         | _ => none
       | some .unsafePointer => match P.underlying dst with
         | some (.pointer u) => match liesAt P P.depth te (Nat.div n (P.cellsOf te)) o u 1 with
           | true => match P.info? u with
             | some inf => match Nat.beq inf.size 0 with
               | true => none
               | false => some v
             | none => none
           | false => none
         | _ => none
       | _ => none
   | _ => none
 | _ => none
theorem jgN {ρ ρ' : Operand → Value} (hρ : ∀ x, VRel J (ρ x) (ρ' x)) {μ : Mem} {w : World} (h : Rel J μ w) {o : Oper} {src dst : TypeId} {x : Operand} {v : Value} (ho : o.op = .convert src dst x)
  (hs : jdI P μ src dst (ρ x) = some v) : ∃ v', VRel J v v' ∧ (execOp ρ' o).run P w = .ok (.value v') w := by
 have hx := hρ x
 unfold jdI at hs
 split at hs
 ·rename_i i of e
  rw [e] at hx
  split at hs
  ·rename_i n te zero over lo hi sh hob
   obtain ⟨b, s, hb, hr, _⟩ := cell_of h hob
   have hx' := jhg hb hx
   have hx2 := hx
   rw [hx'] at hx2
   obtain ⟨cc, fz, h1, h2, h3, h4, h5, h6⟩ := hr
   have hns : n = cc.size := by rw [h2]; exact h4 rfl
   have hshape : (shape b).run P w = .ok (some (te, cc.size)) w := by simp [shape, Sem.run, World.shape?, h1]
   have hview : (viewAt b).run P w = .ok none w := by
    simp only [viewAt, rzB, hshape, rzA, Option.isSome_some, if_true, rzC]
   have hseen : (Conv.seenAt ⟨b, of, none⟩).run P w = .ok ⟨b, of, none⟩ w := by
    simp only [Conv.seenAt, rzB, hview, rzA, rzC]
   have hcin : (cellsIn b).run P w = .ok (some cc.size) w := by
    simp only [cellsIn, rzB, hshape, rzA, rzC]
   split at hs
   ·cases hs
   ·rename_i hlt
    have hlt' : of < n := by simpa using hlt
    split at hs
    ·rename_i t hu
     split at hs
     ·rename_i hd
      split at hs
      ·rename_i inf hinf
       split at hs
       ·cases hs
       ·rename_i hz
        have hz' : inf.size ≠ 0 := rzF hz
        cases hs
        rw [e]
        refine ⟨_, hx2, ?_⟩
        have hzd : decide (inf.size = 0) = false := by simpa using hz'
        have hno : decide (of ≥ cc.size) = false := by simp; omega
        simp only [execOp, ho, convert, rzB, jaw hu, jaw hd, rzA, hx', Conv.unsafePointer, hseen, hcin, ja2 hinf, hno, Bool.false_and, hzd, Bool.or_false, Bool.false_eq_true, if_false, rzC]
      ·cases hs
     ·cases hs
    ·rename_i hu
     split at hs
     ·rename_i u hd
      split at hs
      ·rename_i hl
       split at hs
       ·rename_i inf hinf
        split at hs
        ·cases hs
        ·rename_i hz
         have hz' : inf.size ≠ 0 := rzF hz
         cases hs
         rw [e]
         refine ⟨_, hx2, ?_⟩
         have hva : (variablesAt ⟨b, of, none⟩ u 1).run P w = .ok true w := by
          have hl' : liesAt P P.depth te (cc.size / P.cellsOf te) of u 1 = true := by rw [← hns]; exact hl
          simp only [variablesAt, rzB, program, Sem.run, rzA, hshape, rzC, hl', pure]
         simp only [execOp, ho, convert, rzB, jaw hu, jaw hd, rzA, hx', Conv.unsafePointer, hseen, ja2 hinf, hva, Bool.or_true, if_true, rzC]
       ·cases hs
      ·cases hs
     ·cases hs
    ·cases hs
  ·cases hs
 ·cases hs
def aR (P : Program) (μ : Mem) (ρ : Operand → Value) (o : Oper) : Option Value :=
 match o.op with
 | .load t a => jcq P μ t (ρ a)
 | .convert s d x => match jdI P μ s d (ρ x) with
   | some v => some v
   | none => ja3 P μ s d (ρ x)
 | .binOp .eql t x y _ => match jgc P μ t (ρ x) (ρ y) with
   | some r => some (.bool r)
   | none => none
 | .binOp .neq t x y _ => match jgc P μ t (ρ x) (ρ y) with
   | some r => some (.bool (!r))
   | none => none
 | .lookup t x y c => aLookup P μ t (ρ x) (ρ y) c
 | .call c => match c.callee with
   | .builtin .len => match c.args.toList, c.argTypes.toList with
     | [x], t :: _ => match P.underlying t with
       | some (.map _ _) => aMapLen μ (ρ x)
       | _ => none
     | _, _ => none
   | _ => none
 | _ => none
theorem aR_sound {ρ ρ' : Operand → Value} (hρ : ∀ x, VRel J (ρ x) (ρ' x)) {μ : Mem} {w : World} (h : Rel J μ w) {o : Oper} {v : Value} (hs : aR P μ ρ o = some v) :
  ∃ v', VRel J v v' ∧ (execOp ρ' o).run P w = .ok (.value v') w := by
 unfold aR at hs
 split at hs
 ·rename_i t a ho
  obtain ⟨ad, x', h1, h2, h3⟩ := jcV (P := P) h (hρ a) hs
  exact ⟨x', h2, by simp only [execOp, ho, Instr.loadAt, h1, Instr.sureAddr, rzB, rzC, rzA, h3]⟩
 ·rename_i s d x ho
  split at hs
  ·rename_i v1 e; cases hs; exact jgN hρ h ho e
  ·exact jdz hρ h ho hs
 ·rename_i t x y yt ho
  split at hs
  ·rename_i r e
   cases hs
   obtain ⟨r1, r2, r3, r4⟩ := jgb (P := P) h (hρ x) (hρ y) e
   exact ⟨_, .bool r, by simp only [execOp, ho, rzB, r2, rzA, r3, r1, rzC]⟩
  ·cases hs
 ·rename_i t x y yt ho
  split at hs
  ·rename_i r e
   cases hs
   obtain ⟨r1, r2, r3, r4⟩ := jgb (P := P) h (hρ x) (hρ y) e
   exact ⟨_, .bool (!r), by simp only [execOp, ho, rzB, r2, rzA, r4, r1, rzC]⟩
  ·cases hs
 ·rename_i t x y c ho; exact jgS hρ h ho hs
 ·rename_i c ho
  split at hs
  ·rename_i hc
   split at hs
   ·rename_i x t r ha ht
    split at hs
    ·rename_i kt et hu; exact jgR hρ h ho hc ha ht hu hs
    ·cases hs
   ·cases hs
  ·cases hs
 ·cases hs
def aT (P : Program) (μ : Mem) (ρ : Operand → Value) (o : Oper) : Option (Value × Mem) :=
 match o.op with
 | .store t a x => jbx P μ t (ρ a) (ρ x)
 | .next it true => jiU μ (ρ it)
 | .convert s d x => jiO P μ s d (ρ x)
 | .mapUpdate t x y z => jiV P μ t (ρ x) (ρ y) (ρ z)
 | .insert t x y z => jiV P μ t (ρ x) (ρ y) (ρ z)
 | .mapEntry t x y => jhU P μ t (ρ x) (ρ y)
 | .entryStore _ x y z => jfG μ (ρ x) (ρ y) (ρ z)
 | .call c => match c.callee with
   | .builtin .append => match c.args.toList, c.argTypes.toList with
     | [x, y], st :: xt :: _ => jaN P μ st xt (ρ x) (ρ y)
     | _, _ => none
   | .builtin .copy => match c.args.toList, c.argTypes.toList with
     | [x, y], dt :: _ => jkr P μ dt (ρ x) (ρ y)
     | _, _ => none
   | .builtin .unsafeString => match c.args.toList, c.argTypes.toList with
     | [x, y], [pt, _] => jb6 P μ pt (ρ x) (ρ y)
     | _, _ => none
   | _ => none
 | _ => none
theorem aT_sound {ρ ρ' : Operand → Value} (hρ : ∀ x, VRel J (ρ x) (ρ' x)) {μ : Mem} {w : World} (h : Rel J μ w) {o : Oper} {v : Value} {μ' : Mem} (hs : aT P μ ρ o = some (v, μ')) : jfQ P J ρ' o μ w v μ' := by
 unfold aT at hs
 split at hs
 ·rename_i ho; exact jhN hρ h ho hs
 ·rename_i ho; exact jiT hρ h ho hs
 ·rename_i ho; exact jgO hρ h ho hs
 ·rename_i ho; exact jeh hρ h (.inl ho) hs
 ·rename_i ho; exact jeh hρ h (.inr ho) hs
 ·rename_i ho; exact jfD hρ h ho hs
 ·rename_i ho; exact jeI hρ h ho hs
 ·rename_i c ho
  split at hs
  ·rename_i hc
   split at hs
   ·rename_i ha ht; exact jgW hρ h ho hc ha ht hs
   ·cases hs
  ·rename_i hc
   split at hs
   ·rename_i ha ht; exact jiW hρ h ho hc ha (jgy ht) hs
   ·cases hs
  ·rename_i hc
   split at hs
   ·rename_i ha ht; exact jdH hρ h ho hc ha ht hs
   ·cases hs
  ·cases hs
 ·cases hs
end
noncomputable section
structure Rg where
 n : Nat
 tm : T Value
 ds : List Nat
 rd : Option Nat
def aev (P : Program) (r : Rg) : Operand → Value
 | .tmp t => jac r.tm t
 | .const v => match jaK 5 v with
   | true => v
   | false => .chan none
 | .global g => match Nat.blt g P.globals.size with
   | true => .pointer (some ⟨g, 0, none⟩)
   | false => .chan none
 | .func f => .func (.func f) #[] #[]
def aput (r : Rg) (d : Option Nat) (v : Value) : Option Rg :=
 match d with
 | none => some r
 | some d => match Nat.blt d r.n with
   | true => some { r with tm := r.tm.set d v }
   | false => none
def ayield (ops : List Oper) (r : Rg) (j : Nat) (want : Bool) : Option Bool :=
 match ops[j]? with
 | none => some false
 | some oj => match oj.dst with
   | none => some false
   | some d => match Nat.blt d r.n with
     | false => some false
     | true => match jac r.tm d with
       | .bool b => some (b == want)
       | .chan _ => none
       | _ => some false
def jcb (ops : List Oper) (r : Rg) (o : Oper) : Option Bool :=
 match o.guard with
 | none => some true
 | some (j, want) => ayield ops r j want
def jgQ (P : Program) (μ : Mem) (recv : Value) (name : String) : Option (FuncId × Value) :=
 match recv with
 | .iface t v => match P.info? t with
   | none => none
   | some inf => match inf.methods.toList.find? (fun m => m.name == name) with
     | none => none
     | some m => match m.path.toList with
       | [] => match m.func with
         | none => none
         | some (f, pr) => match P.underlying t with
           | none => none
           | some (.pointer e) => match pr with
             | true => some (f, v)
             | false => match jcq P μ e v with
               | some x => some (f, x)
               | none => none
           | some _ => match pr with
             | false => some (f, v)
             | true => none
       | _ => none
 | _ => none
section
variable (P : Program) (X : XT) (callF : XT) (roundF : NT)
def aGo (g : FuncId) (args : List Value) (μ : Mem) : Option (Value × Mem) :=
 match P.funcs[g]? with
 | none => none
 | some fn => match fn.body with
   | some _ => callF g args μ
   | none => X g args μ
def je3 (v : Value) (args : List Value) (μ : Mem) : Option (Value × Mem) :=
 match v with
 | .func (.func g) fi ca => aGo P X callF g (fi.toList ++ (args ++ ca.toList)) μ
 | .func (.yield l) fi _ => roundF l (fi.toList ++ args) μ
 | .func (.method nm) fi _ => match fi.toList ++ args with
   | rv :: rest => match jgQ P μ rv nm with
     | some (g, x) => aGo P X callF g (x :: rest) μ
     | none => none
   | [] => none
 | _ => none
def jdK (ρ : Operand → Value) (μ : Mem) (o : Oper) : Option (Value × Mem) :=
 match o.op with
 | .call c => match c.callee with
   | .value f => je3 P X callF roundF (ρ f) (c.args.toList.map ρ) μ
   | .invoke rv nm => match jgQ P μ (ρ rv) nm with
     | some (g, x) => aGo P X callF g (x :: c.args.toList.map ρ) μ
     | none => none
   | .builtin _ => none
 | _ => none
def aOne (r : Rg) (μ : Mem) (o : Oper) : Option (Value × Mem) :=
 match aP P (aev P r) o with
 | some v => some (v, μ)
 | none => match aR P μ (aev P r) o with
   | some v => some (v, μ)
   | none => match aA P (aev P r) o with
     | some (ob, mk) => some (mk μ.next, ⟨μ.obs.set μ.next ob, Nat.add μ.next 1⟩)
     | none => match aT P μ (aev P r) o with
       | some x => some x
       | none => jdK P X callF roundF (aev P r) μ o
def aOps (ops : List Oper) : List Oper → Rg → Mem → Option (Rg × Mem)
 | [], r, μ => some (r, μ)
 | o :: rest, r, μ => match jcb ops r o with
   | none => none
   | some false => match aput r o.dst undef with
     | some r' => aOps ops rest r' μ
     | none => none
   | some true => match aOne P X callF roundF r μ o with
     | none => none
     | some (v, μ') => match aput r o.dst v with
       | some r' => aOps ops rest r' μ'
       | none => none
end
section
variable (P : Program) (X : XT) (callF : XT) (roundF : NT)
def jiS (ops : List Oper) (l : List Oper) : Rg → Mem → Option (Rg × Mem) :=
 List.rec (motive := fun _ => Rg → Mem → Option (Rg × Mem)) (fun r μ => some (r, μ)) (fun o _ ih r μ => match o with
  | ⟨some d, .move x, _, _, _, none⟩ => match Nat.blt d r.n with
    | true => ih ⟨r.n, r.tm.set d (aev P r x), r.ds, r.rd⟩ μ
    | false => none
  | ⟨some d, .assign x, _, _, _, none⟩ => match Nat.blt d r.n with
    | true => ih ⟨r.n, r.tm.set d (aev P r x), r.ds, r.rd⟩ μ
    | false => none
  | o => match jcb ops r o with
    | none => none
    | some false => match aput r o.dst undef with
      | some r' => ih r' μ
      | none => none
    | some true => match aOne P X callF roundF r μ o with
      | none => none
      | some (v, μ') => match aput r o.dst v with
        | some r' => ih r' μ'
        | none => none) l
theorem jgP (ops : List Oper) : ∀ (l : List Oper) (r : Rg) (μ : Mem), jiS P X callF roundF ops l r μ = aOps P X callF roundF ops l r μ := by
 intro l
 induction l with
 | nil => intro r μ; rfl
 | cons o rest ih =>
   intro r μ
   have ih' : jiS P X callF roundF ops rest = aOps P X callF roundF ops rest := funext fun r => funext fun μ => ih r μ
   simp only [aOps]
   rw [← ih']
   obtain ⟨dst, op, ty, pos, af, g⟩ := o
   cases dst with
   | none => rfl
   | some d =>
     cases g with
     | some g => cases op <;> rfl
     | none =>
       cases op with
       | move x =>
         show (match Nat.blt d r.n with
          | true => jiS P X callF roundF ops rest ⟨r.n, r.tm.set d (aev P r x), r.ds, r.rd⟩ μ
          | false => none) = (match (match Nat.blt d r.n with
            | true => some { r with tm := r.tm.set d (aev P r x) }
            | false => none : Option Rg) with
          | some r' => jiS P X callF roundF ops rest r' μ
          | none => none)
         cases Nat.blt d r.n <;> rfl
       | assign x =>
         show (match Nat.blt d r.n with
          | true => jiS P X callF roundF ops rest ⟨r.n, r.tm.set d (aev P r x), r.ds, r.rd⟩ μ
          | false => none) = (match (match Nat.blt d r.n with
            | true => some { r with tm := r.tm.set d (aev P r x) }
            | false => none : Option Rg) with
          | some r' => jiS P X callF roundF ops rest r' μ
          | none => none)
         cases Nat.blt d r.n <;> rfl
       | _ => rfl
end
def heavy : Op → Bool
 | .store _ _ _ => true
 | .next _ _ => true
 | .mapUpdate _ _ _ _ => true
 | .insert _ _ _ _ => true
 | .mapEntry _ _ _ => true
 | .entryStore _ _ _ _ => true
 | .call c => match c.callee with
   | .builtin .len => false
   | .builtin .cap => false
   | .builtin .max => false
   | .builtin .min => false
   | .builtin .unsafeSliceData => false
   | _ => true
 | .ready _ => true
 | .waits _ => true
 | .go _ => true
 | .defer _ => true
 | .panic _ => true
 | .send _ _ => true
 | .recv _ _ _ => true
 | .select _ _ => true
 | _ => false
def masksOf (ops : List Oper) : List Oper → List Nat → List Nat
 | [], acc => acc.reverse
 | o :: rest, acc => masksOf ops rest ((o.after.toList.foldl (fun s e => match Region.binds .any e with
   | true => Nat.lor (Nat.lor s (Nat.pow 2 e.on)) ((acc.reverse[e.on]?).getD 0)
   | false => s) 0) :: acc)
def masks (ops : List Oper) : List Nat := masksOf ops ops []
def bef (ms : List Nat) (i j : Nat) : Bool :=
 match ms[j]? with
 | some m => Nat.testBit m i
 | none => false
def alapGo (ops : List Oper) (ms : List Nat) (n : Nat) : List Nat → List Nat → List Nat
 | [], done => done.reverse ++ (List.range n).filter (fun i => !(done.contains i))
 | h :: hs, done => alapGo ops ms n hs (h :: ((((List.range n).filter (fun i => bef ms i h && !(done.contains i))).reverse) ++ done))
def heavies (ops : List Oper) (n : Nat) : List Nat := (List.range n).filter fun i => match ops[i]? with
 | some o => heavy o.op
 | none => false
def alap (ops : List Oper) : List Nat := alapGo ops (masks ops) ops.length (heavies ops ops.length) []
def addrEq (a b : Addr) : Bool :=
 match a, b with
 | ⟨i, o, none⟩, ⟨j, q, none⟩ => match Nat.beq i j with
   | true => Nat.beq o q
   | false => false
 | _, _ => false
def veq : Nat → Value → Value → Bool
 | 0, _, _ => false
 | n + 1, u, v => match u, v with
   | .int k a, .int j b => match decide (k = j) with
     | true => decide (a = b)
     | false => false
   | .bool a, .bool b => decide (a = b)
   | .string a, .string b => jc0 a.data.toList b.data.toList
   | .float k a, .float j b => match decide (k = j) with
     | true => Nat.beq a b
     | false => false
   | .pointer none, .pointer none => true
   | .pointer (some a), .pointer (some b) => addrEq a b
   | .slice none l c, .slice none l' c' => match Nat.beq l l' with
     | true => Nat.beq c c'
     | false => false
   | .slice (some a) l c, .slice (some b) l' c' => match addrEq a b with
     | true => match Nat.beq l l' with
       | true => Nat.beq c c'
       | false => false
     | false => false
   | .map none, .map none => true
   | .map (some a), .map (some b) => Nat.beq a b
   | .nilFunc, .nilFunc => true
   | .nilIface, .nilIface => true
   | .chan none, .chan none => true
   | .iface t x, .iface u y => match Nat.beq t u with
     | true => veq n x y
     | false => false
   | .agg a, .agg b => veqs n a.toList b.toList
   | .tuple a, .tuple b => veqs n a.toList b.toList
   | _, _ => false
 where
 veqs (n : Nat) : List Value → List Value → Bool
  | [], [] => true
  | a :: x, b :: y => match veq n a b with
    | true => veqs n x y
    | false => false
  | _, _ => false
noncomputable def jke (u v : Value) : Bool := match veq 5 u v with
 | true => true
 | false => @decide (u = v) (Classical.propDecidable _)
theorem jar (v : Value) : jke v v = true := by
 unfold jke; split
 ·rfl
 ·exact @decide_eq_true _ (Classical.propDecidable _) rfl
noncomputable def jaO (P : Program) (ρ : Operand → Value) (o : Oper) (ms : List Nat) (i : Nat) : List (Nat × Mem) → Option Value
 | [] => none
 | (h, μ) :: rest => match aR P μ ρ o with
   | none => none
   | some v => match rest with
     | [] => some v
     | _ => match bef ms h i with
       | true => some v
       | false => match jaO P ρ o ms i rest with
         | none => none
         | some v' => match jke v v' with
           | true => some v
           | false => none
section
variable (P : Program) (X : XT) (callF : XT) (roundF : NT)
def jaC (ms : List Nat) (base i : Nat) (o : Oper) (r : Rg) (μ : Mem) (sn : List (Nat × Mem)) : Option (Value × Mem × List (Nat × Mem)) :=
 match heavy o.op with
 | true => match aT P μ (aev P r) o with
   | some (v, μ') => some (v, μ', (i, μ') :: sn)
   | none => match jdK P X callF roundF (aev P r) μ o with
     | some (v, μ') => some (v, μ', (i, μ') :: sn)
     | none => none
 | false => match aP P (aev P r) o with
   | some v => some (v, μ, sn)
   | none => match jaO P (aev P r) o ms i sn with
     | some v => some (v, μ, sn)
     | none => match aA P (aev P r) o with
       | some (ob, mk) => some (mk (Nat.add base i), ⟨μ.obs.set (Nat.add base i) ob, μ.next⟩, sn)
       | none => none
def jch (ops : List Oper) (ms : List Nat) (base i : Nat) (s : Rg × Mem × List (Nat × Mem)) : Option (Rg × Mem × List (Nat × Mem)) :=
 match ops[i]? with
 | none => none
 | some o => match jcb ops s.1 o with
   | none => none
   | some false => match aput s.1 o.dst undef with
     | some r' => some (r', s.2)
     | none => none
   | some true => match jaC P X callF roundF ms base i o s.1 s.2.1 s.2.2 with
     | none => none
     | some (v, x) => match aput s.1 o.dst v with
       | some r' => some (r', x)
       | none => none
def jcN (ops : List Oper) (ms : List Nat) (base : Nat) : List Nat → Rg × Mem × List (Nat × Mem) → Option (Rg × Mem × List (Nat × Mem))
 | [], s => some s
 | i :: rest, s => match jch P X callF roundF ops ms base i s with
   | none => none
   | some s' => jcN ops ms base rest s'
end
def nodupB : List Nat → Bool
 | [] => true
 | a :: l => match l.contains a with
   | true => false
   | false => nodupB l
def tmpsOf (ops : List Oper) (o : Oper) : List Nat :=
 (o.op.operands.toList.filterMap fun | .tmp t => some t | _ => none) ++ (match o.guard with
  | some (g, _) => match ops[g]? with
    | some og => og.dst.toList
    | none => []
  | none => []) ++ o.dst.toList
def ordered (ms : List Nat) (i j : Nat) : Bool := Nat.beq i j || (bef ms i j || bef ms j i)
def xedge (ms : List Nat) (x : Option (Nat × Nat)) (i j : Nat) : Bool :=
 match x with
 | none => false
 | some (a, b) => Nat.beq j b && (Nat.beq i a || bef ms i a)
def drawOk (ops : List Oper) : Bool :=
 okAll ops ops.length (masks ops) (alap ops) none (List.range ops.length)
 where
 okAll (ops : List Oper) (n : Nat) (ms ord : List Nat) (x : Option (Nat × Nat)) (is : List Nat) : Bool :=
  Nat.beq ord.length n && ((is.all fun i => ord.contains i) && ((ord.all fun i => Nat.blt i n) && (nodupB ord &&
  ((is.all fun j => okAfter ops ms is x j) && ((is.all fun i => okSlots ops ms is i) && go ms ops [] ord)))))
 okAfter (ops : List Oper) (ms is : List Nat) (x : Option (Nat × Nat)) (j : Nat) : Bool := match ops[j]? with
  | none => false
  | some o => (o.after.toList.all fun e => !(Region.binds .any e) || (bef ms e.on j && Nat.blt e.on ops.length)) &&
    (is.all fun i => !(bef ms i j) || (xedge ms x i j || o.after.toList.any fun e => Region.binds .any e && (Nat.beq i e.on || bef ms i e.on)))
 okSlots (ops : List Oper) (ms is : List Nat) (i : Nat) : Bool := match ops[i]? with
  | none => false
  | some o => match o.dst with
    | none => true
    | some d => is.all fun j => match ops[j]? with
      | none => false
      | some o' => ordered ms i j || !((tmpsOf ops o').contains d)
 go (ms : List Nat) (ops : List Oper) : List Nat → List Nat → Bool
  | _, [] => true
  | done, j :: rest => ((List.range ops.length).all fun i => !(bef ms i j) || done.contains i) &&
    (match ops[j]? with
     | none => false
     | some o => match heavy o.op with
       | true => done.all fun i => bef ms i j
       | false => true) && go ms ops (j :: done) rest
def jhr (ms : List Nat) (a b : Nat) : List Nat :=
 match ms[b]?, ms[a]? with
 | some m, some k => ms.set b (Nat.lor (Nat.lor m (Nat.pow 2 a)) k)
 | _, _ => ms
def chainOf (ops : List Oper) (ms : List Nat) (f g : Nat) : List Nat := (List.range ops.length).filter fun i => Nat.beq i f || (bef ms i f && !(bef ms i g))
def splitOf (ops : List Oper) (ms : List Nat) : Option (Nat × Nat × List Nat × List Nat × List Nat) :=
 match (heavies ops ops.length).reverse with
 | g :: f :: hs => some (f, g, (alapGo ops ms ops.length hs.reverse []).filter (fun i => !((chainOf ops ms f g).contains i || (chainOf ops ms g f).contains i)), chainOf ops ms f g, chainOf ops ms g f)
 | _ => none
def jjf (ops : List Oper) (i : Nat) : Bool :=
 match ops[i]? with
 | some o => !(heavy o.op)
 | none => false
def splitOk (ops : List Oper) (ms : List Nat) (f g : Nat) (pre la lb : List Nat) : Bool :=
 drawOk.okAll ops ops.length (jhr ms f g) (pre ++ (la ++ lb)) (some (f, g)) (List.range ops.length) &&
 (drawOk.okAll ops ops.length (jhr ms g f) (pre ++ (lb ++ la)) (some (g, f)) (List.range ops.length) &&
 (((la ++ lb).all fun i => pre.all fun k => bef ms k i) &&
 (((la ++ lb).all fun i => Nat.beq i f || (Nat.beq i g || jjf ops i)) && (la.contains f && (lb.contains g && (!(Nat.beq f g) && pre.all fun i => !(Nat.beq i f) && !(Nat.beq i g)))))))
def jg3 (P : Program) (r : Rg) (o : Oper) : Option (List Nat) :=
 match o.op with
 | .store _ a _ => match aev P r a with
   | .pointer (some ad) => some [ad.block]
   | _ => none
 | _ => match heavy o.op with
   | true => none
   | false => match aA P (aev P r) o with
     | some _ => none
     | none => some []
def tvEq : T Value → T Value → Bool
 | .e, .e => true
 | .n a l r, .n b l' r' => (match a, b with
   | none, none => true
   | some u, some v => veq 5 u v
   | _, _ => false) && (tvEq l l' && tvEq r r')
 | _, _ => false
def obEqC (a b : Option Ob) : Bool :=
 match a, b with
 | some (.cells n t z o lo hi fx sh), some (.cells n' t' z' o' lo' hi' fx' sh') =>
   Nat.beq n n' && (Nat.beq t t' && (veq.veqs 5 z.toList z'.toList && (tvEq o o' && (Nat.beq lo lo' && (Nat.beq hi hi' && (decide (fx = fx') && decide (sh = sh')))))))
 | none, none => true
 | _, _ => false
noncomputable def eqOb (a b : Option Ob) : Bool := match obEqC a b with
 | true => true
 | false => @decide (a = b) (Classical.propDecidable _)
noncomputable def sameEnd (ops : List Oper) (tl ids : List Nat) (s1 s2 : Rg × Mem × List (Nat × Mem)) : Bool :=
 (ids.all fun j => eqOb (s1.2.1.obs.get j) (s2.2.1.obs.get j)) &&
 (tl.all fun i => match ops[i]? with
  | some o => match o.dst with
    | some d => jke (jac s1.1.tm d) (jac s2.1.tm d)
    | none => true
  | none => true)
inductive Ax where
 | normal
 | exit (id : Nat)
 | ret
 | goto (l : Nat)
abbrev ET : Type := Code → Rg → Mem → Option (Ax × Rg × Mem)
section
variable (P : Program) (X : XT) (callF : XT) (roundF : NT)
def jeH (ops : List Oper) (ms : List Nat) (base : Nat) : List Nat → Rg × Mem × List (Nat × Mem) → List Nat → Option ((Rg × Mem × List (Nat × Mem)) × List Nat)
 | [], s, ids => some (s, ids)
 | i :: rest, s, ids => match ops[i]? with
   | none => none
   | some o => match jg3 P s.1 o with
     | none => none
     | some l => match jch P X callF roundF ops ms base i s with
       | none => none
       | some s' => jeH ops ms base rest s' (l ++ ids)
def aSplit (ops : List Oper) (ms : List Nat) (r : Rg) (μ : Mem) : Option (Ax × Rg × Mem) :=
 match splitOf ops ms with
 | none => none
 | some (f, g, pre, la, lb) => match splitOk ops ms f g pre la lb with
   | false => none
   | true => match jcN P X callF roundF ops ms μ.next pre (r, ⟨μ.obs, Nat.add μ.next ops.length⟩, [(ops.length, ⟨μ.obs, Nat.add μ.next ops.length⟩)]) with
     | none => none
     | some s0 => match jeH P X callF roundF ops (jhr ms f g) μ.next (la ++ lb) s0 [] with
       | none => none
       | some (s1, i1) => match jeH P X callF roundF ops (jhr ms g f) μ.next (lb ++ la) s0 [] with
         | none => none
         | some (s2, i2) => match sameEnd ops (la ++ lb) (i1 ++ i2) s1 s2 with
           | true => some (.normal, s1.1, s1.2.1)
           | false => none
end
def jfC (μ : Mem) : List Nat → Option Mem
 | [] => some μ
 | d :: ds => match μ.obs.get d with
   | some .deferred => jfC ⟨μ.obs.set d .dead, μ.next⟩ ds
   | _ => none
def aRes (P : Program) (μ : Mem) (r : Rg) : List ResultVar → Option (List Value)
 | [] => some []
 | .tmp t :: rs => match aRes P μ r rs with
   | some l => some (jac r.tm t :: l)
   | none => none
 | .cell a t :: rs => match jcq P μ t (jac r.tm a) with
   | none => none
   | some v => match aRes P μ r rs with
     | some l => some (v :: l)
     | none => none
def jc1 (P : Program) (μ : Mem) (r : Rg) (fn : Func) : Option Value :=
 match aRes P μ r fn.results.toList with
 | some [v] => some v
 | some l => some (.tuple l.toArray)
 | none => none
def jie (_ : Mem) (_ : List (Nat × List Value × TypeId)) : Bool := true
inductive LK where
 | alive (roms : List (Nat × List Value × TypeId))
 | plain (f : List Value → Option Value)
def lkOf : List (FuncId × LK) → FuncId → Option LK
 | [], _ => none
 | (f, k) :: r, g => match Nat.beq f g with
   | true => some k
   | false => lkOf r g
def aLK (k : LK) (args : List Value) (μ : Mem) : Option (Value × Mem) :=
 match k with
 | .alive roms => match args with
   | [] => match jie μ roms with
     | true => some (.bool true, μ)
     | false => none
   | _ => none
 | .plain f => match f args with
   | some v => match args.all (jaK 5) with
     | true => match jaK 5 v with
       | true => some (v, μ)
       | false => none
     | false => none
   | none => none
section
variable (P : Program) (X : XT) (ev : ET)
def aFun (g : FuncId) (args : List Value) (μ : Mem) : Option (Value × Mem) :=
 match P.funcs[g]? with
 | none => none
 | some fn => match fn.body with
   | none => none
   | some c => match Nat.ble args.length fn.ntmps with
     | false => none
     | true => match ev c ⟨fn.ntmps, T.e.lay 0 args, [], none⟩ μ with
       | none => none
       | some (.exit _, _, _) => none
       | some (.goto _, _, _) => none
       | some (_, r, μ1) => match jfC μ1 r.ds with
         | none => none
         | some μ2 => match jc1 P μ2 r fn with
           | none => none
           | some v => some (v, μ2)
def jdo (_ : ET) (_ : Nat) (_ : List Value) (_ : Mem) : Option (Value × Mem) := none
def jbj (S : List (FuncId × LK)) (g : FuncId) (args : List Value) (μ : Mem) : Option (Value × Mem) :=
 match lkOf S g with
 | some k => aLK k args μ
 | none => aFun P ev g args μ
variable (S : List (FuncId × LK))
def jbz : ET
 | .skip, r, μ => some (.normal, r, μ)
 | .label _, r, μ => some (.normal, r, μ)
 | .ret, r, μ => some (.ret, r, μ)
 | .exit id, r, μ => some (.exit id, r, μ)
 | .goto l, r, μ => some (.goto l, r, μ)
 | .scope c, r, μ => match ev c r μ with
   | some (.goto l, r1, μ1) => match findLabel c l with
     | some rest => match ev rest r1 μ1 with
       | some (.goto _, _, _) => none
       | x => x
     | none => none
   | x => x
 | .region _ ops false, r, μ => match jiS P X (jbj P ev S) (jdo ev) ops.toList ops.toList r μ with
   | some (r', μ') => some (.normal, r', μ')
   | none => none
 | .region _ ops true, r, μ => match drawOk ops.toList with
   | false => aSplit P X (jbj P ev S) (jdo ev) ops.toList (masks ops.toList) r μ
   | true => match jcN P X (jbj P ev S) (jdo ev) ops.toList (masks ops.toList) μ.next (alap ops.toList) (r, ⟨μ.obs, Nat.add μ.next ops.toList.length⟩, [(ops.toList.length, ⟨μ.obs, Nat.add μ.next ops.toList.length⟩)]) with
     | some (r', μ', _) => some (.normal, r', μ')
     | none => none
 | .seq a b, r, μ => match ev a r μ with
   | some (.normal, r1, μ1) => ev b r1 μ1
   | x => x
 | .cond c a b, r, μ => match aev P r c with
   | .bool true => ev a r μ
   | .bool false => ev b r μ
   | _ => none
 | .block id c, r, μ => match ev c r μ with
   | some (.exit id', r1, μ1) => match Nat.beq id' id with
     | true => some (.normal, r1, μ1)
     | false => some (.exit id', r1, μ1)
   | x => x
 | .loop c, r, μ => match ev c r μ with
   | some (.normal, r1, μ1) => ev (.loop c) r1 μ1
   | x => x
 | _, _, _ => none
end
def jaj (P : Program) (X : XT) (S : List (FuncId × LK)) (n : Nat) : ET :=
 Nat.rec (motive := fun _ => ET) (fun _ _ _ => none) (fun _ ih => jbz P X ih S) n
theorem jgd (P : Program) (X : XT) (S : List (FuncId × LK)) : jaj P X S 0 = fun _ _ _ => none := rfl
theorem jaA (P : Program) (X : XT) (S : List (FuncId × LK)) (n : Nat) : jaj P X S (n + 1) = jbz P X (jaj P X S n) S := rfl
end
end Go.Proofs.YtlkenchibdeinaaGreatDoor.Ev
