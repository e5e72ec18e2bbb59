/-
  The evaluator, part A: finite maps on numbers; abstract values and memory; how they are held against the model's. No conditions.
-/
import Derived.RangeFuncLeaves
import Derived.OrdersIn
import Derived.WalkKit
set_option linter.unusedSimpArgs false
set_option linter.unusedVariables false
namespace Go.Proofs.YtnafmgiaifbhgaaGreatDoor.Ev
noncomputable section
inductive T (α : Type) where
 | e : T α
 | n (v : Option α) (l r : T α) : T α
namespace T
variable {α : Type}
def get0 : T α → Nat → Option α
 | .e, _ => none
 | .n v l r, k => match k with
   | 0 => v
   | k + 1 => match Nat.beq (Nat.mod k 2) 0 with
     | true => l.get0 (Nat.div k 2)
     | false => r.get0 (Nat.div k 2)
def single (v : α) : Nat → Nat → T α
 | 0, _ => .n (some v) .e .e
 | _ + 1, 0 => .n (some v) .e .e
 | f + 1, k + 1 => match Nat.beq (Nat.mod k 2) 0 with
   | true => .n none (single v f (Nat.div k 2)) .e
   | false => .n none .e (single v f (Nat.div k 2))
def set0 : T α → Nat → α → T α
 | .e, k, v => single v k k
 | .n o l r, k, v => match k with
   | 0 => .n (some v) l r
   | k + 1 => match Nat.beq (Nat.mod k 2) 0 with
     | true => .n o (l.set0 (Nat.div k 2) v) r
     | false => .n o l (r.set0 (Nat.div k 2) v)
theorem jh3 (v : α) : ∀ (f k j : Nat), k ≤ f → (single v f k).get0 j = if j = k then some v else none := by
 intro f
 induction f with
 | zero =>
   intro k j hk
   obtain rfl : k = 0 := by omega
   cases j with
   | zero => rfl
   | succ j => simp only [single, get0]; cases Nat.beq (Nat.mod j 2) 0 <;> simp [get0]
 | succ f ih =>
   intro k j hk
   cases k with
   | zero =>
     cases j with
     | zero => rfl
     | succ j => simp only [single, get0]; cases Nat.beq (Nat.mod j 2) 0 <;> simp [get0]
   | succ k =>
     have hd : Nat.div k 2 ≤ f := by show k / 2 ≤ f; omega
     cases j with
     | zero =>
       simp only [single]
       cases Nat.beq (Nat.mod k 2) 0 <;> simp [get0]
     | succ j =>
       simp only [single]
       cases h1 : Nat.beq (Nat.mod k 2) 0 with
       | true =>
         simp only [get0]
         cases h2 : Nat.beq (Nat.mod j 2) 0 with
         | true =>
           rw [ih _ _ hd]
           have e1 : k % 2 = 0 := Nat.eq_of_beq_eq_true h1
           have e2 : j % 2 = 0 := Nat.eq_of_beq_eq_true h2
           have : (Nat.div j 2 = Nat.div k 2) ↔ (j + 1 = k + 1) := by show (j / 2 = k / 2) ↔ _; omega
           simp only [this]
         | false =>
           have e1 : k % 2 = 0 := Nat.eq_of_beq_eq_true h1
           have e2 : j % 2 ≠ 0 := Nat.ne_of_beq_eq_false h2
           rw [if_neg (by omega)]
       | false =>
         simp only [get0]
         cases h2 : Nat.beq (Nat.mod j 2) 0 with
         | true =>
           have e1 : k % 2 ≠ 0 := Nat.ne_of_beq_eq_false h1
           have e2 : j % 2 = 0 := Nat.eq_of_beq_eq_true h2
           rw [if_neg (by omega)]
         | false =>
           rw [ih _ _ hd]
           have e1 : k % 2 ≠ 0 := Nat.ne_of_beq_eq_false h1
           have e2 : j % 2 ≠ 0 := Nat.ne_of_beq_eq_false h2
           have : (Nat.div j 2 = Nat.div k 2) ↔ (j + 1 = k + 1) := by show (j / 2 = k / 2) ↔ _; omega
           simp only [this]
theorem get0_set0 : ∀ (t : T α) (k j : Nat) (v : α), (t.set0 k v).get0 j = if j = k then some v else t.get0 j := by
 intro t
 induction t with
 | e => intro k j v; rw [set0, jh3 v k k j (Nat.le_refl _)]; rfl
 | n o l r ihl ihr =>
   intro k j v
   cases k with
   | zero =>
     cases j with
     | zero => rfl
     | succ j => simp [set0, get0]
   | succ k =>
     simp only [set0]
     cases h1 : Nat.beq (Nat.mod k 2) 0 with
     | true =>
       cases j with
       | zero => simp [get0]
       | succ j =>
         simp only [get0]
         cases h2 : Nat.beq (Nat.mod j 2) 0 with
         | true =>
           simp only [ihl]
           have e1 : k % 2 = 0 := Nat.eq_of_beq_eq_true h1
           have e2 : j % 2 = 0 := Nat.eq_of_beq_eq_true h2
           have : (Nat.div j 2 = Nat.div k 2) ↔ (j + 1 = k + 1) := by show (j / 2 = k / 2) ↔ _; omega
           simp only [this]
         | false =>
           have e1 : k % 2 = 0 := Nat.eq_of_beq_eq_true h1
           have e2 : j % 2 ≠ 0 := Nat.ne_of_beq_eq_false h2
           rw [if_neg (by omega)]
     | false =>
       cases j with
       | zero => simp [get0]
       | succ j =>
         simp only [get0]
         cases h2 : Nat.beq (Nat.mod j 2) 0 with
         | true =>
           have e1 : k % 2 ≠ 0 := Nat.ne_of_beq_eq_false h1
           have e2 : j % 2 = 0 := Nat.eq_of_beq_eq_true h2
           rw [if_neg (by omega)]
         | false =>
           simp only [ihr]
           have e1 : k % 2 ≠ 0 := Nat.ne_of_beq_eq_false h1
           have e2 : j % 2 ≠ 0 := Nat.ne_of_beq_eq_false h2
           have : (Nat.div j 2 = Nat.div k 2) ↔ (j + 1 = k + 1) := by show (j / 2 = k / 2) ↔ _; omega
           simp only [this]
def get (t : T α) : Nat → Option α :=
 T.rec (motive := fun _ => Nat → Option α) (fun _ => none)
  (fun v _ _ ihl ihr k => Nat.rec (motive := fun _ => Option α) v (fun k _ => Bool.rec (motive := fun _ => Option α) (ihr (Nat.div k 2)) (ihl (Nat.div k 2)) (Nat.beq (Nat.mod k 2) 0)) k) t
def set (t : T α) : Nat → α → T α :=
 T.rec (motive := fun _ => Nat → α → T α) (fun k v => T.single v k k)
  (fun o l r ihl ihr k v => Nat.rec (motive := fun _ => T α) (T.n (some v) l r) (fun k _ => Bool.rec (motive := fun _ => T α) (T.n o l (ihr (Nat.div k 2) v)) (T.n o (ihl (Nat.div k 2) v) r) (Nat.beq (Nat.mod k 2) 0)) k) t
theorem jgq : ∀ (t : T α) (k : Nat), t.get k = t.get0 k
 | .e, _ => rfl
 | .n v l r, 0 => rfl
 | .n v l r, k + 1 => by
   show Bool.rec (motive := fun _ => Option α) (r.get (Nat.div k 2)) (l.get (Nat.div k 2)) (Nat.beq (Nat.mod k 2) 0) = _
   simp only [get0]
   cases Nat.beq (Nat.mod k 2) 0
   ·exact jgq r _
   ·exact jgq l _
theorem jhN : ∀ (t : T α) (k : Nat) (v : α), t.set k v = t.set0 k v
 | .e, _, _ => rfl
 | .n o l r, 0, _ => rfl
 | .n o l r, k + 1, v => by
   show Bool.rec (motive := fun _ => T α) (T.n o l (r.set (Nat.div k 2) v)) (T.n o (l.set (Nat.div k 2) v) r) (Nat.beq (Nat.mod k 2) 0) = _
   simp only [set0]
   cases Nat.beq (Nat.mod k 2) 0
   ·show T.n o l (r.set (Nat.div k 2) v) = T.n o l (r.set0 (Nat.div k 2) v)
    rw [jhN r]
   ·show T.n o (l.set (Nat.div k 2) v) r = T.n o (l.set0 (Nat.div k 2) v) r
    rw [jhN l]
theorem get_set (t : T α) (k j : Nat) (v : α) : (t.set k v).get j = if j = k then some v else t.get j := by
 rw [jgq, jgq, jhN]; exact get0_set0 t k j v
theorem get_e (k : Nat) : (T.e : T α).get k = none := rfl
end T
def T.lay {α : Type} (t : T α) (i : Nat) : List α → T α
 | [] => t
 | v :: r => (t.set i v).lay (i + 1) r
theorem T.get_lay {α : Type} : ∀ (l : List α) (t : T α) (i j : Nat), (t.lay i l).get j = if i ≤ j ∧ j < i + l.length then l[j - i]? else t.get j := by
 intro l
 induction l with
 | nil => intro t i j; rw [T.lay, if_neg (by simp)]
 | cons v r ih =>
   intro t i j
   rw [T.lay, ih, T.get_set]
   by_cases h1 : i + 1 ≤ j ∧ j < i + 1 + r.length
   ·rw [if_pos h1, if_pos (by simp; omega)]
    rw [show j - i = (j - (i + 1)) + 1 from by omega, List.getElem?_cons_succ]
   ·rw [if_neg h1]
    by_cases h2 : j = i
    ·subst h2; rw [if_pos rfl, if_pos (by simp)]; simp
    ·rw [if_neg h2, if_neg (by simp; omega)]
inductive Loc where
 | unborn
 | dead
 | at (b s : Nat)
def CapRel (c c' l off sz : Nat) : Prop := (c % 2 = 0 ∧ c' = c / 2) ∨ (c % 2 = 1 ∧ l ≤ c' ∧ off + c' * (c / 2) ≤ sz)
def CapD (c c' l : Nat) : Prop := (c % 2 = 0 ∧ c' = c / 2) ∨ (c % 2 = 1 ∧ l ≤ c')
theorem CapRel.dead {c c' l off sz : Nat} (h : CapRel c c' l off sz) : CapD c c' l := h.imp id (fun h => ⟨h.1, h.2.1⟩)
inductive FnRel (J : Nat → Loc) : Fn → Fn → Prop where
 | func (f : FuncId) : FnRel J (.func f) (.func f)
 | method (name : String) : FnRel J (.method name) (.method name)
 | methodOf (t : TypeId) (name : String) : FnRel J (.methodOf t name) (.methodOf t name)
 | via (t : TypeId) (path : Array FieldStep) (f : FuncId) (p : Bool) : FnRel J (.via t path f p) (.via t path f p)
 | yield {l b s : Nat} (h : J l = .at b s) : FnRel J (.yield l) (.yield b)
 | yieldDead {l : Nat} (l' : Nat) (h : J l = .dead) : FnRel J (.yield l) (.yield l')
inductive VRel (J : Nat → Loc) : Value → Value → Prop where
 | any (r : Option Nat) (v : Value) : VRel J (.chan r) v
 | bool (b : Bool) : VRel J (.bool b) (.bool b)
 | int (k : IntKind) (n : Int) : VRel J (.int k n) (.int k n)
 | float (k : FloatKind) (n : Nat) : VRel J (.float k n) (.float k n)
 | complex (k : FloatKind) (n m : Nat) : VRel J (.complex k n m) (.complex k n m)
 | string (s : ByteArray) : VRel J (.string s) (.string s)
 | ptrNil : VRel J (.pointer none) (.pointer none)
 | ptr {i o b s : Nat} (h : J i = .at b s) : VRel J (.pointer (some ⟨i, o, none⟩)) (.pointer (some ⟨b, o, none⟩))
 | ptrDead {a : Addr} (a' : Addr) (h : J a.block = .dead) : VRel J (.pointer (some a)) (.pointer (some a'))
 | sliceNil (l c : Nat) : VRel J (.slice none l c) (.slice none l c)
 | slice {i o b s l c c' : Nat} (h : J i = .at b s) (hc : CapRel c c' l o s) : VRel J (.slice (some ⟨i, o, none⟩) l c) (.slice (some ⟨b, o, none⟩) l c')
 | sliceDead {a : Addr} {l c : Nat} (a' : Addr) (c' : Nat) (h : J a.block = .dead) (hc : CapD c c' l) : VRel J (.slice (some a) l c) (.slice (some a') l c')
 | mapNil : VRel J (.map none) (.map none)
 | map {i b s : Nat} (h : J i = .at b s) : VRel J (.map (some i)) (.map (some b))
 | mapDead {i : Nat} (b : Nat) (h : J i = .dead) : VRel J (.map (some i)) (.map (some b))
 | nilFunc : VRel J .nilFunc .nilFunc
 | func {fn fn' : Fn} {x x' y y' : Array Value} (h : FnRel J fn fn') (hx : x.size = x'.size) (hx' : ∀ (i : Nat) a b, x[i]? = some a → x'[i]? = some b → VRel J a b)
   (hy : y.size = y'.size) (hy' : ∀ (i : Nat) a b, y[i]? = some a → y'[i]? = some b → VRel J a b) : VRel J (.func fn x y) (.func fn' x' y')
 | iface {t : TypeId} {v v' : Value} (h : VRel J v v') : VRel J (.iface t v) (.iface t v')
 | nilIface : VRel J .nilIface .nilIface
 | agg {x x' : Array Value} (hx : x.size = x'.size) (hx' : ∀ (i : Nat) a b, x[i]? = some a → x'[i]? = some b → VRel J a b) : VRel J (.agg x) (.agg x')
 | tuple {x x' : Array Value} (hx : x.size = x'.size) (hx' : ∀ (i : Nat) a b, x[i]? = some a → x'[i]? = some b → VRel J a b) : VRel J (.tuple x) (.tuple x')
structure ARel (J : Nat → Loc) (x x' : Array Value) : Prop where
 size : x.size = x'.size
 at_ : ∀ (i : Nat) a b, x[i]? = some a → x'[i]? = some b → VRel J a b
theorem ARel.get {J : Nat → Loc} {x x' : Array Value} (h : ARel J x x') {i : Nat} {a : Value} (ha : x[i]? = some a) : ∃ b, x'[i]? = some b ∧ VRel J a b := by
 have hi : i < x'.size := by rw [← h.size]; exact (Array.getElem?_eq_some_iff.1 ha).1
 exact ⟨x'[i], Array.getElem?_eq_getElem hi, h.at_ i a _ ha (Array.getElem?_eq_getElem hi)⟩
structure Ext (J J' : Nat → Loc) : Prop where
 at_ : ∀ i b s, J i = .at b s → J' i = .at b s ∨ J' i = .dead
 dead : ∀ i, J i = .dead → J' i = .dead
theorem Ext.refl (J : Nat → Loc) : Ext J J := ⟨fun _ _ _ h => .inl h, fun _ h => h⟩
theorem Ext.trans {J K L : Nat → Loc} (h : Ext J K) (g : Ext K L) : Ext J L :=
 ⟨fun i b s e => by
  rcases h.at_ i b s e with e1 | e1
  ·exact g.at_ i b s e1
  ·exact .inr (g.dead i e1), fun i e => g.dead i (h.dead i e)⟩
theorem FnRel.mono {J J' : Nat → Loc} (h : Ext J J') {f f' : Fn} (hf : FnRel J f f') : FnRel J' f f' := by
 cases hf with
 | func f => exact .func f
 | method n => exact .method n
 | methodOf t n => exact .methodOf t n
 | via t p f b => exact .via t p f b
 | yield e => exact (h.at_ _ _ _ e).elim (fun e1 => .yield e1) (fun e1 => .yieldDead _ e1)
 | yieldDead l' e => exact .yieldDead l' (h.dead _ e)
theorem VRel.mono {J J' : Nat → Loc} (h : Ext J J') {v v' : Value} (hv : VRel J v v') : VRel J' v v' := by
 induction hv with
 | any r v => exact .any r v
 | bool b => exact .bool b
 | int k n => exact .int k n
 | float k n => exact .float k n
 | complex k n m => exact .complex k n m
 | string s => exact .string s
 | ptrNil => exact .ptrNil
 | ptr e => exact (h.at_ _ _ _ e).elim (fun e1 => .ptr e1) (fun e1 => .ptrDead _ e1)
 | ptrDead a' e => exact .ptrDead a' (h.dead _ e)
 | sliceNil l c => exact .sliceNil l c
 | slice e hc => exact (h.at_ _ _ _ e).elim (fun e1 => .slice e1 hc) (fun e1 => .sliceDead _ _ e1 hc.dead)
 | sliceDead a' c' e hc => exact .sliceDead a' c' (h.dead _ e) hc
 | mapNil => exact .mapNil
 | map e => exact (h.at_ _ _ _ e).elim (fun e1 => .map e1) (fun e1 => .mapDead _ e1)
 | mapDead b e => exact .mapDead b (h.dead _ e)
 | nilFunc => exact .nilFunc
 | func hf hx _ hy _ ihx ihy => exact .func (hf.mono h) hx (fun i a b ha hb => ihx i a b ha hb) hy (fun i a b ha hb => ihy i a b ha hb)
 | iface _ ih => exact .iface ih
 | nilIface => exact .nilIface
 | agg hx _ ih => exact .agg hx (fun i a b ha hb => ih i a b ha hb)
 | tuple hx _ ih => exact .tuple hx (fun i a b ha hb => ih i a b ha hb)
end
end Go.Proofs.YtnafmgiaifbhgaaGreatDoor.Ev
