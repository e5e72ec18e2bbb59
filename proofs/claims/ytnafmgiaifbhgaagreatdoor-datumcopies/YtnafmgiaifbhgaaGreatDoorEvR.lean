/-
  The evaluator, part R: the evaluator itself. No conditions.
-/
import Derived.Test.YtnafmgiaifbhgaaGreatDoorEvQ
set_option linter.unusedSimpArgs false
set_option linter.unusedVariables false
namespace Go.Proofs.YtnafmgiaifbhgaaGreatDoor.Ev
noncomputable section
structure Rg where
 n : Nat
 tm : T Value
 ds : List Nat
 rd : Option Nat
def aev (P : Program) (r : Rg) : Operand → Value
 | .tmp t => jam r.tm t
 | .const v => match jaS 5 v with
   | true => v
   | false => .chan none
 | .global g => match Nat.blt g P.globals.size with
   | true => .pointer (some ⟨g, 0, none⟩)
   | false => .chan none
 | .func f => .func (.func f) #[] #[]
def aput (r : Rg) (d : Option Nat) (v : Value) : Option Rg :=
 match d with
 | none => some r
 | some d => match Nat.blt d r.n with
   | true => some { r with tm := r.tm.set d v }
   | false => none
def ayield (ops : List Oper) (r : Rg) (j : Nat) (want : Bool) : Option Bool :=
 match ops[j]? with
 | none => some false
 | some oj => match oj.dst with
   | none => some false
   | some d => match Nat.blt d r.n with
     | false => some false
     | true => match jam r.tm d with
       | .bool b => some (b == want)
       | .chan _ => none
       | _ => some false
def jcp (ops : List Oper) (r : Rg) (o : Oper) : Option Bool :=
 match o.guard with
 | none => some true
 | some (j, want) => ayield ops r j want
def jgB (P : Program) (μ : Mem) (recv : Value) (name : String) : Option (FuncId × Value) :=
 match recv with
 | .iface t v => match P.info? t with
   | none => none
   | some inf => match inf.methods.toList.find? (fun m => m.name == name) with
     | none => none
     | some m => match m.path.toList with
       | [] => match m.func with
         | none => none
         | some (f, pr) => match P.underlying t with
           | none => none
           | some (.pointer e) => match pr with
             | true => some (f, v)
             | false => match jbH P μ e v with
               | some x => some (f, x)
               | none => none
           | some _ => match pr with
             | false => some (f, v)
             | true => none
       | _ => none
 | _ => none
section
variable (P : Program) (X : FuncId → List Value → Mem → Option (Value × Mem)) (callF : FuncId → List Value → Mem → Option (Value × Mem)) (roundF : Nat → List Value → Mem → Option (Value × Mem))
def aGo (g : FuncId) (args : List Value) (μ : Mem) : Option (Value × Mem) :=
 match P.funcs[g]? with
 | none => none
 | some fn => match fn.body with
   | some _ => callF g args μ
   | none => X g args μ
def jeR (v : Value) (args : List Value) (μ : Mem) : Option (Value × Mem) :=
 match v with
 | .func (.func g) fi ca => aGo P X callF g (fi.toList ++ (args ++ ca.toList)) μ
 | .func (.yield l) fi _ => roundF l (fi.toList ++ args) μ
 | .func (.method nm) fi _ => match fi.toList ++ args with
   | rv :: rest => match jgB P μ rv nm with
     | some (g, x) => aGo P X callF g (x :: rest) μ
     | none => none
   | [] => none
 | _ => none
def jew (ρ : Operand → Value) (μ : Mem) (o : Oper) : Option (Value × Mem) :=
 match o.op with
 | .call c => match c.callee with
   | .value f => jeR P X callF roundF (ρ f) (c.args.toList.map ρ) μ
   | .invoke rv nm => match jgB P μ (ρ rv) nm with
     | some (g, x) => aGo P X callF g (x :: c.args.toList.map ρ) μ
     | none => none
   | .builtin _ => none
 | _ => none
def aOne (r : Rg) (μ : Mem) (o : Oper) : Option (Value × Mem) :=
 match aP P (aev P r) o with
 | some v => some (v, μ)
 | none => match aR P μ (aev P r) o with
   | some v => some (v, μ)
   | none => match aA P (aev P r) o with
     | some (ob, mk) => some (mk μ.next, ⟨μ.obs.set μ.next ob, Nat.add μ.next 1⟩)
     | none => match aT P μ (aev P r) o with
       | some x => some x
       | none => jew P X callF roundF (aev P r) μ o
def aOps (ops : List Oper) : List Oper → Rg → Mem → Option (Rg × Mem)
 | [], r, μ => some (r, μ)
 | o :: rest, r, μ => match jcp ops r o with
   | none => none
   | some false => match aput r o.dst undef with
     | some r' => aOps ops rest r' μ
     | none => none
   | some true => match aOne P X callF roundF r μ o with
     | none => none
     | some (v, μ') => match aput r o.dst v with
       | some r' => aOps ops rest r' μ'
       | none => none
end
section
variable (P : Program) (X : FuncId → List Value → Mem → Option (Value × Mem)) (callF : FuncId → List Value → Mem → Option (Value × Mem)) (roundF : Nat → List Value → Mem → Option (Value × Mem))
def jig (ops : List Oper) (l : List Oper) : Rg → Mem → Option (Rg × Mem) :=
 List.rec (motive := fun _ => Rg → Mem → Option (Rg × Mem)) (fun r μ => some (r, μ)) (fun o _ ih r μ => match o with
  | ⟨some d, .move x, _, _, _, none⟩ => match Nat.blt d r.n with
    | true => ih ⟨r.n, r.tm.set d (aev P r x), r.ds, r.rd⟩ μ
    | false => none
  | ⟨some d, .assign x, _, _, _, none⟩ => match Nat.blt d r.n with
    | true => ih ⟨r.n, r.tm.set d (aev P r x), r.ds, r.rd⟩ μ
    | false => none
  | o => match jcp ops r o with
    | none => none
    | some false => match aput r o.dst undef with
      | some r' => ih r' μ
      | none => none
    | some true => match aOne P X callF roundF r μ o with
      | none => none
      | some (v, μ') => match aput r o.dst v with
        | some r' => ih r' μ'
        | none => none) l
theorem jgA (ops : List Oper) : ∀ (l : List Oper) (r : Rg) (μ : Mem), jig P X callF roundF ops l r μ = aOps P X callF roundF ops l r μ := by
 intro l
 induction l with
 | nil => intro r μ; rfl
 | cons o rest ih =>
   intro r μ
   have ih' : jig P X callF roundF ops rest = aOps P X callF roundF ops rest := funext fun r => funext fun μ => ih r μ
   simp only [aOps]
   rw [← ih']
   obtain ⟨dst, op, ty, pos, af, g⟩ := o
   cases dst with
   | none => rfl
   | some d =>
     cases g with
     | some g => cases op <;> rfl
     | none =>
       cases op with
       | move x =>
         show (match Nat.blt d r.n with
          | true => jig P X callF roundF ops rest ⟨r.n, r.tm.set d (aev P r x), r.ds, r.rd⟩ μ
          | false => none) = (match (match Nat.blt d r.n with
            | true => some { r with tm := r.tm.set d (aev P r x) }
            | false => none : Option Rg) with
          | some r' => jig P X callF roundF ops rest r' μ
          | none => none)
         cases Nat.blt d r.n <;> rfl
       | assign x =>
         show (match Nat.blt d r.n with
          | true => jig P X callF roundF ops rest ⟨r.n, r.tm.set d (aev P r x), r.ds, r.rd⟩ μ
          | false => none) = (match (match Nat.blt d r.n with
            | true => some { r with tm := r.tm.set d (aev P r x) }
            | false => none : Option Rg) with
          | some r' => jig P X callF roundF ops rest r' μ
          | none => none)
         cases Nat.blt d r.n <;> rfl
       | _ => rfl
end
def heavy : Op → Bool
 | .store _ _ _ => true
 | .next _ _ => true
 | .mapUpdate _ _ _ _ => true
 | .insert _ _ _ _ => true
 | .mapEntry _ _ _ => true
 | .entryStore _ _ _ _ => true
 | .call c => match c.callee with
   | .builtin .len => false
   | .builtin .cap => false
   | .builtin .max => false
   | .builtin .min => false
   | .builtin .unsafeSliceData => false
   | _ => true
 | .ready _ => true
 | .waits _ => true
 | .go _ => true
 | .defer _ => true
 | .panic _ => true
 | .send _ _ => true
 | .recv _ _ _ => true
 | .select _ _ => true
 | _ => false
def masksOf (ops : List Oper) : List Oper → List Nat → List Nat
 | [], acc => acc.reverse
 | o :: rest, acc => masksOf ops rest ((o.after.toList.foldl (fun s e => match Region.binds .any e with
   | true => Nat.lor (Nat.lor s (Nat.pow 2 e.on)) ((acc.reverse[e.on]?).getD 0)
   | false => s) 0) :: acc)
def masks (ops : List Oper) : List Nat := masksOf ops ops []
def bef (ms : List Nat) (i j : Nat) : Bool :=
 match ms[j]? with
 | some m => Nat.testBit m i
 | none => false
def alapGo (ops : List Oper) (ms : List Nat) (n : Nat) : List Nat → List Nat → List Nat
 | [], done => done.reverse ++ (List.range n).filter (fun i => !(done.contains i))
 | h :: hs, done => alapGo ops ms n hs (h :: ((((List.range n).filter (fun i => bef ms i h && !(done.contains i))).reverse) ++ done))
def heavies (ops : List Oper) (n : Nat) : List Nat := (List.range n).filter fun i => match ops[i]? with
 | some o => heavy o.op
 | none => false
def alap (ops : List Oper) : List Nat := alapGo ops (masks ops) ops.length (heavies ops ops.length) []
def addrEq (a b : Addr) : Bool :=
 match a, b with
 | ⟨i, o, none⟩, ⟨j, q, none⟩ => match Nat.beq i j with
   | true => Nat.beq o q
   | false => false
 | _, _ => false
def veq : Nat → Value → Value → Bool
 | 0, _, _ => false
 | n + 1, u, v => match u, v with
   | .int k a, .int j b => match decide (k = j) with
     | true => decide (a = b)
     | false => false
   | .bool a, .bool b => decide (a = b)
   | .string a, .string b => jc5 a.data.toList b.data.toList
   | .float k a, .float j b => match decide (k = j) with
     | true => Nat.beq a b
     | false => false
   | .pointer none, .pointer none => true
   | .pointer (some a), .pointer (some b) => addrEq a b
   | .slice none l c, .slice none l' c' => match Nat.beq l l' with
     | true => Nat.beq c c'
     | false => false
   | .slice (some a) l c, .slice (some b) l' c' => match addrEq a b with
     | true => match Nat.beq l l' with
       | true => Nat.beq c c'
       | false => false
     | false => false
   | .map none, .map none => true
   | .map (some a), .map (some b) => Nat.beq a b
   | .nilFunc, .nilFunc => true
   | .nilIface, .nilIface => true
   | .chan none, .chan none => true
   | .iface t x, .iface u y => match Nat.beq t u with
     | true => veq n x y
     | false => false
   | .agg a, .agg b => veqs n a.toList b.toList
   | .tuple a, .tuple b => veqs n a.toList b.toList
   | _, _ => false
 where
 veqs (n : Nat) : List Value → List Value → Bool
  | [], [] => true
  | a :: x, b :: y => match veq n a b with
    | true => veqs n x y
    | false => false
  | _, _ => false
noncomputable def eqVal (u v : Value) : Bool := match veq 5 u v with
 | true => true
 | false => @decide (u = v) (Classical.propDecidable _)
theorem jaq (v : Value) : eqVal v v = true := by
 unfold eqVal; split
 ·rfl
 ·exact @decide_eq_true _ (Classical.propDecidable _) rfl
noncomputable def jaI (P : Program) (ρ : Operand → Value) (o : Oper) (ms : List Nat) (i : Nat) : List (Nat × Mem) → Option Value
 | [] => none
 | (h, μ) :: rest => match aR P μ ρ o with
   | none => none
   | some v => match rest with
     | [] => some v
     | _ => match bef ms h i with
       | true => some v
       | false => match jaI P ρ o ms i rest with
         | none => none
         | some v' => match eqVal v v' with
           | true => some v
           | false => none
section
variable (P : Program) (X : FuncId → List Value → Mem → Option (Value × Mem)) (callF : FuncId → List Value → Mem → Option (Value × Mem)) (roundF : Nat → List Value → Mem → Option (Value × Mem))
def jav (ms : List Nat) (base i : Nat) (o : Oper) (r : Rg) (μ : Mem) (sn : List (Nat × Mem)) : Option (Value × Mem × List (Nat × Mem)) :=
 match heavy o.op with
 | true => match aT P μ (aev P r) o with
   | some (v, μ') => some (v, μ', (i, μ') :: sn)
   | none => match jew P X callF roundF (aev P r) μ o with
     | some (v, μ') => some (v, μ', (i, μ') :: sn)
     | none => none
 | false => match aP P (aev P r) o with
   | some v => some (v, μ, sn)
   | none => match jaI P (aev P r) o ms i sn with
     | some v => some (v, μ, sn)
     | none => match aA P (aev P r) o with
       | some (ob, mk) => some (mk (Nat.add base i), ⟨μ.obs.set (Nat.add base i) ob, μ.next⟩, sn)
       | none => none
def jdE (ops : List Oper) (ms : List Nat) (base i : Nat) (s : Rg × Mem × List (Nat × Mem)) : Option (Rg × Mem × List (Nat × Mem)) :=
 match ops[i]? with
 | none => none
 | some o => match jcp ops s.1 o with
   | none => none
   | some false => match aput s.1 o.dst undef with
     | some r' => some (r', s.2)
     | none => none
   | some true => match jav P X callF roundF ms base i o s.1 s.2.1 s.2.2 with
     | none => none
     | some (v, x) => match aput s.1 o.dst v with
       | some r' => some (r', x)
       | none => none
def jc8 (ops : List Oper) (ms : List Nat) (base : Nat) : List Nat → Rg × Mem × List (Nat × Mem) → Option (Rg × Mem × List (Nat × Mem))
 | [], s => some s
 | i :: rest, s => match jdE P X callF roundF ops ms base i s with
   | none => none
   | some s' => jc8 ops ms base rest s'
end
def nodupB : List Nat → Bool
 | [] => true
 | a :: l => match l.contains a with
   | true => false
   | false => nodupB l
def tmpsOf (ops : List Oper) (o : Oper) : List Nat :=
 (o.op.operands.toList.filterMap fun | .tmp t => some t | _ => none) ++ (match o.guard with
  | some (g, _) => match ops[g]? with
    | some og => og.dst.toList
    | none => []
  | none => []) ++ o.dst.toList
def ordered (ms : List Nat) (i j : Nat) : Bool := Nat.beq i j || (bef ms i j || bef ms j i)
def xedge (ms : List Nat) (x : Option (Nat × Nat)) (i j : Nat) : Bool :=
 match x with
 | none => false
 | some (a, b) => Nat.beq j b && (Nat.beq i a || bef ms i a)
def drawOk (ops : List Oper) : Bool :=
 okAll ops ops.length (masks ops) (alap ops) none (List.range ops.length)
 where
 okAll (ops : List Oper) (n : Nat) (ms ord : List Nat) (x : Option (Nat × Nat)) (is : List Nat) : Bool :=
  Nat.beq ord.length n && ((is.all fun i => ord.contains i) && ((ord.all fun i => Nat.blt i n) && (nodupB ord &&
  ((is.all fun j => okAfter ops ms is x j) && ((is.all fun i => okSlots ops ms is i) && go ms ops [] ord)))))
 okAfter (ops : List Oper) (ms is : List Nat) (x : Option (Nat × Nat)) (j : Nat) : Bool := match ops[j]? with
  | none => false
  | some o => (o.after.toList.all fun e => !(Region.binds .any e) || (bef ms e.on j && Nat.blt e.on ops.length)) &&
    (is.all fun i => !(bef ms i j) || (xedge ms x i j || o.after.toList.any fun e => Region.binds .any e && (Nat.beq i e.on || bef ms i e.on)))
 okSlots (ops : List Oper) (ms is : List Nat) (i : Nat) : Bool := match ops[i]? with
  | none => false
  | some o => match o.dst with
    | none => true
    | some d => is.all fun j => match ops[j]? with
      | none => false
      | some o' => ordered ms i j || !((tmpsOf ops o').contains d)
 go (ms : List Nat) (ops : List Oper) : List Nat → List Nat → Bool
  | _, [] => true
  | done, j :: rest => ((List.range ops.length).all fun i => !(bef ms i j) || done.contains i) &&
    (match ops[j]? with
     | none => false
     | some o => match heavy o.op with
       | true => done.all fun i => bef ms i j
       | false => true) && go ms ops (j :: done) rest
inductive Ax where
 | normal
 | exit (id : Nat)
 | ret
 | goto (l : Nat)
section
variable (P : Program) (X : FuncId → List Value → Mem → Option (Value × Mem)) (callF : FuncId → List Value → Mem → Option (Value × Mem)) (roundF : Nat → List Value → Mem → Option (Value × Mem))
def aSplit (_ : Program) (_ : FuncId → List Value → Mem → Option (Value × Mem)) (_ : FuncId → List Value → Mem → Option (Value × Mem)) (_ : Nat → List Value → Mem → Option (Value × Mem)) (_ : List Oper) (_ : List Nat) (_ : Rg) (_ : Mem) : Option (Ax × Rg × Mem) := none
end
def jcI (μ : Mem) (l : Nat) (st : LoopState) (pe : Option Code) : Option Mem :=
 match μ.obs.get l with
 | some (.loop _ _ ps asg body n tm d) => some ⟨μ.obs.set l (.loop st pe ps asg body n tm d), μ.next⟩
 | _ => none
def jdS (n : Nat) : List Nat → List Value → T Value → Option (T Value)
 | [], [], tm => some tm
 | p :: ps, v :: vs, tm => match Nat.blt p n with
   | true => jdS n ps vs (tm.set p v)
   | false => none
 | _, _, _ => none
def jfx (μ : Mem) : List Nat → Option Mem
 | [] => some μ
 | d :: ds => match μ.obs.get d with
   | some .deferred => jfx ⟨μ.obs.set d .dead, μ.next⟩ ds
   | _ => none
def aRes (P : Program) (μ : Mem) (r : Rg) : List ResultVar → Option (List Value)
 | [] => some []
 | .tmp t :: rs => match aRes P μ r rs with
   | some l => some (jam r.tm t :: l)
   | none => none
 | .cell a t :: rs => match jbH P μ t (jam r.tm a) with
   | none => none
   | some v => match aRes P μ r rs with
     | some l => some (v :: l)
     | none => none
def jdz (P : Program) (μ : Mem) (r : Rg) (fn : Func) : Option Value :=
 match aRes P μ r fn.results.toList with
 | some [v] => some v
 | some l => some (.tuple l.toArray)
 | none => none
def jfe (l : List Value) : Bool := match l with
 | [.chan none] => true
 | _ => false
def je4 (μ : Mem) (roms : List (Nat × List Value × TypeId)) : Bool := roms.all fun x => match μ.obs.get x.1 with
 | some (.rom l t) => match jfe x.2.1 with
   | true => false
   | false => veq.veqs 5 l x.2.1 && Nat.beq t x.2.2
 | some (.opn t) => jfe x.2.1 && Nat.beq t x.2.2
 | _ => false
def spN (n : Nat) : Bool := match Nat.beq n 32 with
 | true => true
 | false => match Nat.ble 9 n with
   | true => Nat.ble n 13
   | false => false
def tabB : Nat → List Value → Bool
 | c, [] => Nat.beq c 256
 | c, v :: r => match v with
   | .int .u8 (.ofNat m) => match Nat.beq m (match spN c with
     | true => 1
     | false => 0) with
     | true => tabB (Nat.succ c) r
     | false => false
   | _ => false
def lowB : List UInt8 → Bool
 | [] => true
 | b :: l => match Nat.blt b.toNat 128 with
   | true => lowB l
   | false => false
def fieldsB : List UInt8 → List UInt8 → List (List UInt8)
 | cur, [] => match cur with
   | [] => []
   | c :: r => [(c :: r).reverse]
 | cur, b :: l => match spN b.toNat with
   | true => match cur with
     | [] => fieldsB [] l
     | c :: r => (c :: r).reverse :: fieldsB [] l
   | false => fieldsB (b :: cur) l
def preB : List UInt8 → List UInt8 → Bool
 | [], _ => true
 | _ :: _, [] => false
 | a :: x, b :: y => match Nat.beq a.toNat b.toNat with
   | true => preB x y
   | false => false
def hasB (sub : List UInt8) : List UInt8 → Bool
 | [] => match sub with
   | [] => true
   | _ :: _ => false
 | b :: l => match preB sub (b :: l) with
   | true => true
   | false => hasB sub l
inductive LK where
 | alive (roms : List (Nat × List Value × TypeId))
 | fields (g : Nat) (t : TypeId)
 | contains (g : Nat)
 | plain (f : List Value → Option Value)
def lkOf : List (FuncId × LK) → FuncId → Option LK
 | [], _ => none
 | (f, k) :: r, g => match Nat.beq f g with
   | true => some k
   | false => lkOf r g
def aLK (k : LK) (args : List Value) (μ : Mem) : Option (Value × Mem) :=
 match k with
 | .alive roms => match args with
   | [] => match je4 μ roms with
     | true => some (.bool true, μ)
     | false => none
   | _ => none
 | .fields g t => match args with
   | [.string s] => match μ.obs.get g with
     | some (.rom l _) => match tabB 0 l with
       | true => match lowB s.data.toList with
         | true => match Nat.blt s.size 4294967281 with
           | true => some (.slice (some ⟨μ.next, 0, none⟩) (fieldsB [] s.data.toList).length (Nat.mul 2 (fieldsB [] s.data.toList).length),
             ⟨μ.obs.set μ.next (.cells (fieldsB [] s.data.toList).length t ((fieldsB [] s.data.toList).map fun l => Value.string ⟨l.toArray⟩).toArray .e 0 0 false false), Nat.add μ.next 1⟩)
           | false => none
         | false => none
       | false => none
     | _ => none
   | _ => none
 | .contains g => match args with
   | [.string s, .string u] => match μ.obs.get g with
     | some (.opn _) => match Nat.blt s.size 4294967281 with
       | true => some (.bool (hasB u.data.toList s.data.toList), μ)
       | false => none
     | _ => none
   | _ => none
 | .plain f => match f args with
   | some v => match args.all (jaS 5) with
     | true => match jaS 5 v with
       | true => some (v, μ)
       | false => none
     | false => none
   | none => none
section
variable (P : Program) (X : FuncId → List Value → Mem → Option (Value × Mem)) (ev : Code → Rg → Mem → Option (Ax × Rg × Mem))
def aFun (g : FuncId) (args : List Value) (μ : Mem) : Option (Value × Mem) :=
 match P.funcs[g]? with
 | none => none
 | some fn => match fn.body with
   | none => none
   | some c => match Nat.ble args.length fn.ntmps with
     | false => none
     | true => match ev c ⟨fn.ntmps, T.e.lay 0 args, [], none⟩ μ with
       | none => none
       | some (.exit _, _, _) => none
       | some (.goto _, _, _) => none
       | some (_, r, μ1) => match jfx μ1 r.ds with
         | none => none
         | some μ2 => match jdz P μ2 r fn with
           | none => none
           | some v => some (v, μ2)
def jdt (l : Nat) (args : List Value) (μ : Mem) : Option (Value × Mem) :=
 match μ.obs.get l with
 | some (.loop _ _ ps asg body n tm _) => match jdS n ps.toList args tm with
   | none => none
   | some tm' => match ev asg ⟨n, tm', [], some l⟩ μ with
     | some (.normal, r1, μ1) => match μ1.obs.get l with
       | some (.loop .ready none _ _ _ _ _ _) => match jcI μ1 l .busy none with
         | none => none
         | some μ2 => match ev body r1 μ2 with
           | none => none
           | some (x, r2, μ3) => match r2.ds with
             | [] => match x with
               | .normal => match jcI μ3 l .ready none with
                 | some μ4 => some (.bool true, μ4)
                 | none => none
               | .ret => match jcI μ3 l .done (some .ret) with
                 | some μ4 => some (.bool false, μ4)
                 | none => none
               | .exit id => match jcI μ3 l .done (some (.exit id)) with
                 | some μ4 => some (.bool false, μ4)
                 | none => none
               | .goto _ => none
             | _ => none
       | _ => none
     | _ => none
 | _ => none
def jdA (f : Value) (l : Nat) (r : Rg) (μ : Mem) : Option (Ax × Rg × Mem) :=
 match f with
 | .func (.func g) fi ca => match P.funcs[g]? with
   | none => none
   | some fn => match fn.body with
     | none => none
     | some _ => match aFun P ev g (fi.toList ++ (.func (.yield l) #[] #[] :: ca.toList)) μ with
       | none => none
       | some (_, μ2) => match μ2.obs.get l with
         | some (.loop .busy _ _ _ _ _ _ _) => none
         | some (.loop _ pe _ _ _ _ _ _) => match jcI μ2 l .exhausted pe with
           | none => none
           | some μ3 => match pe with
             | none => some (.normal, r, μ3)
             | some c => ev c r μ3
         | _ => none
 | _ => none
def jbL (S : List (FuncId × LK)) (g : FuncId) (args : List Value) (μ : Mem) : Option (Value × Mem) :=
 match lkOf S g with
 | some k => aLK k args μ
 | none => aFun P ev g args μ
variable (S : List (FuncId × LK))
def jbG : Code → Rg → Mem → Option (Ax × Rg × Mem)
 | .skip, r, μ => some (.normal, r, μ)
 | .label _, r, μ => some (.normal, r, μ)
 | .ret, r, μ => some (.ret, r, μ)
 | .exit id, r, μ => some (.exit id, r, μ)
 | .goto l, r, μ => some (.goto l, r, μ)
 | .scope c, r, μ => match ev c r μ with
   | some (.goto l, r1, μ1) => match findLabel c l with
     | some rest => match ev rest r1 μ1 with
       | some (.goto _, _, _) => none
       | x => x
     | none => none
   | x => x
 | .region _ ops false, r, μ => match jig P X (jbL P ev S) (jdt ev) ops.toList ops.toList r μ with
   | some (r', μ') => some (.normal, r', μ')
   | none => none
 | .region _ ops true, r, μ => match drawOk ops.toList with
   | false => aSplit P X (jbL P ev S) (jdt ev) ops.toList (masks ops.toList) r μ
   | true => match jc8 P X (jbL P ev S) (jdt ev) ops.toList (masks ops.toList) μ.next (alap ops.toList) (r, ⟨μ.obs, Nat.add μ.next ops.toList.length⟩, [(ops.toList.length, ⟨μ.obs, Nat.add μ.next ops.toList.length⟩)]) with
     | some (r', μ', _) => some (.normal, r', μ')
     | none => none
 | .seq a b, r, μ => match ev a r μ with
   | some (.normal, r1, μ1) => ev b r1 μ1
   | x => x
 | .cond c a b, r, μ => match aev P r c with
   | .bool true => ev a r μ
   | .bool false => ev b r μ
   | _ => none
 | .block id c, r, μ => match ev c r μ with
   | some (.exit id', r1, μ1) => match Nat.beq id' id with
     | true => some (.normal, r1, μ1)
     | false => some (.exit id', r1, μ1)
   | x => x
 | .loop c, r, μ => match ev c r μ with
   | some (.normal, r1, μ1) => ev (.loop c) r1 μ1
   | x => x
 | .rangeFunc f ps asg body, r, μ => match r.rd with
   | none => jdA P ev (aev P r f) (Nat.add μ.next 1) { r with ds := μ.next :: r.ds }
     ⟨(μ.obs.set μ.next .deferred).set (Nat.add μ.next 1) (.loop .ready none ps asg body r.n r.tm μ.next), Nat.add μ.next 2⟩
   | some l0 => match μ.obs.get l0 with
     | some (.loop _ _ _ _ _ _ _ d) => jdA P ev (aev P r f) μ.next r ⟨μ.obs.set μ.next (.loop .ready none ps asg body r.n r.tm d), Nat.add μ.next 1⟩
     | _ => none
 | _, _, _ => none
end
def jao (P : Program) (X : FuncId → List Value → Mem → Option (Value × Mem)) (S : List (FuncId × LK)) (n : Nat) : Code → Rg → Mem → Option (Ax × Rg × Mem) :=
 Nat.rec (motive := fun _ => Code → Rg → Mem → Option (Ax × Rg × Mem)) (fun _ _ _ => none) (fun _ ih => jbG P X ih S) n
theorem jf7 (P : Program) (X : FuncId → List Value → Mem → Option (Value × Mem)) (S : List (FuncId × LK)) : jao P X S 0 = fun _ _ _ => none := rfl
theorem jaJ (P : Program) (X : FuncId → List Value → Mem → Option (Value × Mem)) (S : List (FuncId × LK)) (n : Nat) : jao P X S (n + 1) = jbG P X (jao P X S n) S := rfl
end
end Go.Proofs.YtnafmgiaifbhgaaGreatDoor.Ev
