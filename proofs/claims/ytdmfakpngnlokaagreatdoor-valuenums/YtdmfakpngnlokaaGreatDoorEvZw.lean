/-
  An evaluator, and what is proved of it. No conditions.
-/
import Derived.Test.YtdmfakpngnlokaaGreatDoorEvQ
import Derived.CallsIn
import Derived.Orders
import Derived.TacticsIn
import Derived.OrdersIn
import Derived.RangeFuncLeaves
import Derived.RangeFuncRecord
import Derived.LoopNIn
import Derived.RangeFuncNested
import Derived.Lib.Fields
import Derived.Lib.IndexMore
import Derived.Scope
import Derived.Laws.Externs
import Derived.Lib.MakeNoZero
import Derived.Lib.LaidU8
import Derived.OpenShut
import Derived.ChangeArms
import Derived.MakeChecks
import Derived.IntWalk
set_option linter.unusedSimpArgs false
set_option linter.unusedVariables false
set_option linter.defProp false
namespace Go.Proofs.YtdmfakpngnlokaaGreatDoor.Ev
noncomputable section
structure Rg where
 n : Nat
 tm : T Value
 ds : List Nat
 rd : Option Nat
def aev (P : Program) (r : Rg) : Operand → Value
 | .tmp t => jah r.tm t
 | .const v => match jaw 5 v with
   | true => v
   | false => .chan none
 | .global g => match Nat.blt g P.globals.size with
   | true => .pointer (some ⟨g, 0, none⟩)
   | false => .chan none
 | .func f => .func (.func f) #[] #[]
def aput (r : Rg) (d : Option Nat) (v : Value) : Option Rg :=
 match d with
 | none => some r
 | some d => match Nat.blt d r.n with
   | true => some { r with tm := r.tm.set d v }
   | false => none
def ayield (ops : List Oper) (r : Rg) (j : Nat) (want : Bool) : Option Bool :=
 match ops[j]? with
 | none => some false
 | some oj => match oj.dst with
   | none => some false
   | some d => match Nat.blt d r.n with
     | false => some false
     | true => match jah r.tm d with
       | .bool b => some (b == want)
       | .chan _ => none
       | _ => some false
def jca (ops : List Oper) (r : Rg) (o : Oper) : Option Bool :=
 match o.guard with
 | none => some true
 | some (j, want) => ayield ops r j want
def jgV (P : Program) (μ : Mem) (recv : Value) (name : String) : Option (FuncId × Value) :=
 match recv with
 | .iface t v => match P.info? t with
   | none => none
   | some inf => match inf.methods.toList.find? (fun m => m.name == name) with
     | none => none
     | some m => match m.path.toList with
       | [] => match m.func with
         | none => none
         | some (f, pr) => match P.underlying t with
           | none => none
           | some (.pointer e) => match pr with
             | true => some (f, v)
             | false => match jbZ P μ e v with
               | some x => some (f, x)
               | none => none
           | some _ => match pr with
             | false => some (f, v)
             | true => none
       | _ => none
 | _ => none
section
variable (P : Program) (X : XT) (callF : XT) (roundF : NT)
def aGo (g : FuncId) (args : List Value) (μ : Mem) : Option (Value × Mem) :=
 match P.funcs[g]? with
 | none => none
 | some fn => match fn.body with
   | some _ => callF g args μ
   | none => X g args μ
def jbz (v : Value) (args : List Value) (μ : Mem) : Option (Value × Mem) :=
 match v with
 | .func (.func g) fi ca => aGo P X callF g (fi.toList ++ (args ++ ca.toList)) μ
 | .func (.yield l) fi _ => roundF l (fi.toList ++ args) μ
 | .func (.method nm) fi _ => match fi.toList ++ args with
   | rv :: rest => match jgV P μ rv nm with
     | some (g, x) => aGo P X callF g (x :: rest) μ
     | none => none
   | [] => none
 | _ => none
def jb2 (ρ : Operand → Value) (μ : Mem) (o : Oper) : Option (Value × Mem) :=
 match o.op with
 | .call c => match c.callee with
   | .value f => jbz P X callF roundF (ρ f) (c.args.toList.map ρ) μ
   | .invoke rv nm => match jgV P μ (ρ rv) nm with
     | some (g, x) => aGo P X callF g (x :: c.args.toList.map ρ) μ
     | none => none
   | .builtin _ => none
 | _ => none
def aOne (r : Rg) (μ : Mem) (o : Oper) : Option (Value × Mem) :=
 match aP P (aev P r) o with
 | some v => some (v, μ)
 | none => match aR P μ (aev P r) o with
   | some v => some (v, μ)
   | none => match aA P (aev P r) o with
     | some (ob, mk) => some (mk μ.next, ⟨μ.obs.set μ.next ob, Nat.add μ.next 1⟩)
     | none => match aT P μ (aev P r) o with
       | some x => some x
       | none => jb2 P X callF roundF (aev P r) μ o
def aOps (ops : List Oper) : List Oper → Rg → Mem → Option (Rg × Mem)
 | [], r, μ => some (r, μ)
 | o :: rest, r, μ => match jca ops r o with
   | none => none
   | some false => match aput r o.dst undef with
     | some r' => aOps ops rest r' μ
     | none => none
   | some true => match aOne P X callF roundF r μ o with
     | none => none
     | some (v, μ') => match aput r o.dst v with
       | some r' => aOps ops rest r' μ'
       | none => none
end
section
variable (P : Program) (X : XT) (callF : XT) (roundF : NT)
def ji6 (ops : List Oper) (l : List Oper) : Rg → Mem → Option (Rg × Mem) :=
 List.rec (motive := fun _ => Rg → Mem → Option (Rg × Mem)) (fun r μ => some (r, μ)) (fun o _ ih r μ => match o with
  | ⟨some d, .move x, _, _, _, none⟩ => match Nat.blt d r.n with
    | true => ih ⟨r.n, r.tm.set d (aev P r x), r.ds, r.rd⟩ μ
    | false => none
  | ⟨some d, .assign x, _, _, _, none⟩ => match Nat.blt d r.n with
    | true => ih ⟨r.n, r.tm.set d (aev P r x), r.ds, r.rd⟩ μ
    | false => none
  | o => match jca ops r o with
    | none => none
    | some false => match aput r o.dst undef with
      | some r' => ih r' μ
      | none => none
    | some true => match aOne P X callF roundF r μ o with
      | none => none
      | some (v, μ') => match aput r o.dst v with
        | some r' => ih r' μ'
        | none => none) l
theorem jgU (ops : List Oper) : ∀ (l : List Oper) (r : Rg) (μ : Mem), ji6 P X callF roundF ops l r μ = aOps P X callF roundF ops l r μ := by
 intro l
 induction l with
 | nil => intro r μ; rfl
 | cons o rest ih =>
   intro r μ
   have ih' : ji6 P X callF roundF ops rest = aOps P X callF roundF ops rest := funext fun r => funext fun μ => ih r μ
   simp only [aOps]
   rw [← ih']
   obtain ⟨dst, op, ty, pos, af, g⟩ := o
   cases dst with
   | none => rfl
   | some d =>
     cases g with
     | some g => cases op <;> rfl
     | none =>
       cases op with
       | move x =>
         show (match Nat.blt d r.n with
          | true => ji6 P X callF roundF ops rest ⟨r.n, r.tm.set d (aev P r x), r.ds, r.rd⟩ μ
          | false => none) = (match (match Nat.blt d r.n with
            | true => some { r with tm := r.tm.set d (aev P r x) }
            | false => none : Option Rg) with
          | some r' => ji6 P X callF roundF ops rest r' μ
          | none => none)
         cases Nat.blt d r.n <;> rfl
       | assign x =>
         show (match Nat.blt d r.n with
          | true => ji6 P X callF roundF ops rest ⟨r.n, r.tm.set d (aev P r x), r.ds, r.rd⟩ μ
          | false => none) = (match (match Nat.blt d r.n with
            | true => some { r with tm := r.tm.set d (aev P r x) }
            | false => none : Option Rg) with
          | some r' => ji6 P X callF roundF ops rest r' μ
          | none => none)
         cases Nat.blt d r.n <;> rfl
       | _ => rfl
end
def heavy : Op → Bool
 | .store _ _ _ => true
 | .next _ _ => true
 | .mapUpdate _ _ _ _ => true
 | .insert _ _ _ _ => true
 | .mapEntry _ _ _ => true
 | .entryStore _ _ _ _ => true
 | .call c => match c.callee with
   | .builtin .len => false
   | .builtin .cap => false
   | .builtin .max => false
   | .builtin .min => false
   | .builtin .unsafeSliceData => false
   | _ => true
 | .ready _ => true
 | .waits _ => true
 | .go _ => true
 | .defer _ => true
 | .panic _ => true
 | .send _ _ => true
 | .recv _ _ _ => true
 | .select _ _ => true
 | _ => false
def masksOf (ops : List Oper) : List Oper → List Nat → List Nat
 | [], acc => acc.reverse
 | o :: rest, acc => masksOf ops rest ((o.after.toList.foldl (fun s e => match Region.binds .any e with
   | true => Nat.lor (Nat.lor s (Nat.pow 2 e.on)) ((acc.reverse[e.on]?).getD 0)
   | false => s) 0) :: acc)
def masks (ops : List Oper) : List Nat := masksOf ops ops []
def bef (ms : List Nat) (i j : Nat) : Bool :=
 match ms[j]? with
 | some m => Nat.testBit m i
 | none => false
def alapGo (ops : List Oper) (ms : List Nat) (n : Nat) : List Nat → List Nat → List Nat
 | [], done => done.reverse ++ (List.range n).filter (fun i => !(done.contains i))
 | h :: hs, done => alapGo ops ms n hs (h :: ((((List.range n).filter (fun i => bef ms i h && !(done.contains i))).reverse) ++ done))
def heavies (ops : List Oper) (n : Nat) : List Nat := (List.range n).filter fun i => match ops[i]? with
 | some o => heavy o.op
 | none => false
def alap (ops : List Oper) : List Nat := alapGo ops (masks ops) ops.length (heavies ops ops.length) []
def addrEq (a b : Addr) : Bool :=
 match a, b with
 | ⟨i, o, none⟩, ⟨j, q, none⟩ => match Nat.beq i j with
   | true => Nat.beq o q
   | false => false
 | _, _ => false
def veq : Nat → Value → Value → Bool
 | 0, _, _ => false
 | n + 1, u, v => match u, v with
   | .int k a, .int j b => match decide (k = j) with
     | true => decide (a = b)
     | false => false
   | .bool a, .bool b => decide (a = b)
   | .string a, .string b => jcw a.data.toList b.data.toList
   | .float k a, .float j b => match decide (k = j) with
     | true => Nat.beq a b
     | false => false
   | .pointer none, .pointer none => true
   | .pointer (some a), .pointer (some b) => addrEq a b
   | .slice none l c, .slice none l' c' => match Nat.beq l l' with
     | true => Nat.beq c c'
     | false => false
   | .slice (some a) l c, .slice (some b) l' c' => match addrEq a b with
     | true => match Nat.beq l l' with
       | true => Nat.beq c c'
       | false => false
     | false => false
   | .map none, .map none => true
   | .map (some a), .map (some b) => Nat.beq a b
   | .nilFunc, .nilFunc => true
   | .nilIface, .nilIface => true
   | .chan none, .chan none => true
   | .iface t x, .iface u y => match Nat.beq t u with
     | true => veq n x y
     | false => false
   | .agg a, .agg b => veqs n a.toList b.toList
   | .tuple a, .tuple b => veqs n a.toList b.toList
   | _, _ => false
 where
 veqs (n : Nat) : List Value → List Value → Bool
  | [], [] => true
  | a :: x, b :: y => match veq n a b with
    | true => veqs n x y
    | false => false
  | _, _ => false
noncomputable def jkL (u v : Value) : Bool := match veq 5 u v with
 | true => true
 | false => @decide (u = v) (Classical.propDecidable _)
theorem jaQ (v : Value) : jkL v v = true := by
 unfold jkL; split
 ·rfl
 ·exact @decide_eq_true _ (Classical.propDecidable _) rfl
noncomputable def jbg (P : Program) (ρ : Operand → Value) (o : Oper) (ms : List Nat) (i : Nat) : List (Nat × Mem) → Option Value
 | [] => none
 | (h, μ) :: rest => match aR P μ ρ o with
   | none => none
   | some v => match rest with
     | [] => some v
     | _ => match bef ms h i with
       | true => some v
       | false => match jbg P ρ o ms i rest with
         | none => none
         | some v' => match jkL v v' with
           | true => some v
           | false => none
section
variable (P : Program) (X : XT) (callF : XT) (roundF : NT)
def jaV (ms : List Nat) (base i : Nat) (o : Oper) (r : Rg) (μ : Mem) (sn : List (Nat × Mem)) : Option (Value × Mem × List (Nat × Mem)) :=
 match heavy o.op with
 | true => match aT P μ (aev P r) o with
   | some (v, μ') => some (v, μ', (i, μ') :: sn)
   | none => match jb2 P X callF roundF (aev P r) μ o with
     | some (v, μ') => some (v, μ', (i, μ') :: sn)
     | none => none
 | false => match aP P (aev P r) o with
   | some v => some (v, μ, sn)
   | none => match jbg P (aev P r) o ms i sn with
     | some v => some (v, μ, sn)
     | none => match aA P (aev P r) o with
       | some (ob, mk) => some (mk (Nat.add base i), ⟨μ.obs.set (Nat.add base i) ob, μ.next⟩, sn)
       | none => none
def jcj (ops : List Oper) (ms : List Nat) (base i : Nat) (s : Rg × Mem × List (Nat × Mem)) : Option (Rg × Mem × List (Nat × Mem)) :=
 match ops[i]? with
 | none => none
 | some o => match jca ops s.1 o with
   | none => none
   | some false => match aput s.1 o.dst undef with
     | some r' => some (r', s.2)
     | none => none
   | some true => match jaV P X callF roundF ms base i o s.1 s.2.1 s.2.2 with
     | none => none
     | some (v, x) => match aput s.1 o.dst v with
       | some r' => some (r', x)
       | none => none
def jcP (ops : List Oper) (ms : List Nat) (base : Nat) : List Nat → Rg × Mem × List (Nat × Mem) → Option (Rg × Mem × List (Nat × Mem))
 | [], s => some s
 | i :: rest, s => match jcj P X callF roundF ops ms base i s with
   | none => none
   | some s' => jcP ops ms base rest s'
end
def nodupB : List Nat → Bool
 | [] => true
 | a :: l => match l.contains a with
   | true => false
   | false => nodupB l
def tmpsOf (ops : List Oper) (o : Oper) : List Nat :=
 (o.op.operands.toList.filterMap fun | .tmp t => some t | _ => none) ++ (match o.guard with
  | some (g, _) => match ops[g]? with
    | some og => og.dst.toList
    | none => []
  | none => []) ++ o.dst.toList
def ordered (ms : List Nat) (i j : Nat) : Bool := Nat.beq i j || (bef ms i j || bef ms j i)
def xedge (ms : List Nat) (x : Option (Nat × Nat)) (i j : Nat) : Bool :=
 match x with
 | none => false
 | some (a, b) => Nat.beq j b && (Nat.beq i a || bef ms i a)
def drawOk (ops : List Oper) : Bool :=
 okAll ops ops.length (masks ops) (alap ops) none (List.range ops.length)
 where
 okAll (ops : List Oper) (n : Nat) (ms ord : List Nat) (x : Option (Nat × Nat)) (is : List Nat) : Bool :=
  Nat.beq ord.length n && ((is.all fun i => ord.contains i) && ((ord.all fun i => Nat.blt i n) && (nodupB ord &&
  ((is.all fun j => okAfter ops ms is x j) && ((is.all fun i => okSlots ops ms is i) && go ms ops [] ord)))))
 okAfter (ops : List Oper) (ms is : List Nat) (x : Option (Nat × Nat)) (j : Nat) : Bool := match ops[j]? with
  | none => false
  | some o => (o.after.toList.all fun e => !(Region.binds .any e) || (bef ms e.on j && Nat.blt e.on ops.length)) &&
    (is.all fun i => !(bef ms i j) || (xedge ms x i j || o.after.toList.any fun e => Region.binds .any e && (Nat.beq i e.on || bef ms i e.on)))
 okSlots (ops : List Oper) (ms is : List Nat) (i : Nat) : Bool := match ops[i]? with
  | none => false
  | some o => match o.dst with
    | none => true
    | some d => is.all fun j => match ops[j]? with
      | none => false
      | some o' => ordered ms i j || !((tmpsOf ops o').contains d)
 go (ms : List Nat) (ops : List Oper) : List Nat → List Nat → Bool
  | _, [] => true
  | done, j :: rest => ((List.range ops.length).all fun i => !(bef ms i j) || done.contains i) &&
    (match ops[j]? with
     | none => false
     | some o => match heavy o.op with
       | true => done.all fun i => bef ms i j
       | false => true) && go ms ops (j :: done) rest
def jhB (ms : List Nat) (a b : Nat) : List Nat :=
 match ms[b]?, ms[a]? with
 | some m, some k => ms.set b (Nat.lor (Nat.lor m (Nat.pow 2 a)) k)
 | _, _ => ms
def chainOf (ops : List Oper) (ms : List Nat) (f g : Nat) : List Nat := (List.range ops.length).filter fun i => Nat.beq i f || (bef ms i f && !(bef ms i g))
def splitOf (ops : List Oper) (ms : List Nat) : Option (Nat × Nat × List Nat × List Nat × List Nat) :=
 match (heavies ops ops.length).reverse with
 | g :: f :: hs => some (f, g, (alapGo ops ms ops.length hs.reverse []).filter (fun i => !((chainOf ops ms f g).contains i || (chainOf ops ms g f).contains i)), chainOf ops ms f g, chainOf ops ms g f)
 | _ => none
def jjx (ops : List Oper) (i : Nat) : Bool :=
 match ops[i]? with
 | some o => !(heavy o.op)
 | none => false
def splitOk (ops : List Oper) (ms : List Nat) (f g : Nat) (pre la lb : List Nat) : Bool :=
 drawOk.okAll ops ops.length (jhB ms f g) (pre ++ (la ++ lb)) (some (f, g)) (List.range ops.length) &&
 (drawOk.okAll ops ops.length (jhB ms g f) (pre ++ (lb ++ la)) (some (g, f)) (List.range ops.length) &&
 (((la ++ lb).all fun i => pre.all fun k => bef ms k i) &&
 (((la ++ lb).all fun i => Nat.beq i f || (Nat.beq i g || jjx ops i)) && (la.contains f && (lb.contains g && (!(Nat.beq f g) && pre.all fun i => !(Nat.beq i f) && !(Nat.beq i g)))))))
def jhe (P : Program) (r : Rg) (o : Oper) : Option (List Nat) :=
 match o.op with
 | .store _ a _ => match aev P r a with
   | .pointer (some ad) => some [ad.block]
   | _ => none
 | _ => match heavy o.op with
   | true => none
   | false => match aA P (aev P r) o with
     | some _ => none
     | none => some []
def tvEq : T Value → T Value → Bool
 | .e, .e => true
 | .n a l r, .n b l' r' => (match a, b with
   | none, none => true
   | some u, some v => veq 5 u v
   | _, _ => false) && (tvEq l l' && tvEq r r')
 | _, _ => false
def obEqC (a b : Option Ob) : Bool :=
 match a, b with
 | some (.cells n t z o lo hi fx sh), some (.cells n' t' z' o' lo' hi' fx' sh') =>
   Nat.beq n n' && (Nat.beq t t' && (veq.veqs 5 z.toList z'.toList && (tvEq o o' && (Nat.beq lo lo' && (Nat.beq hi hi' && (decide (fx = fx') && decide (sh = sh')))))))
 | none, none => true
 | _, _ => false
noncomputable def eqOb (a b : Option Ob) : Bool := match obEqC a b with
 | true => true
 | false => @decide (a = b) (Classical.propDecidable _)
noncomputable def sameEnd (ops : List Oper) (tl ids : List Nat) (s1 s2 : Rg × Mem × List (Nat × Mem)) : Bool :=
 (ids.all fun j => eqOb (s1.2.1.obs.get j) (s2.2.1.obs.get j)) &&
 (tl.all fun i => match ops[i]? with
  | some o => match o.dst with
    | some d => jkL (jah s1.1.tm d) (jah s2.1.tm d)
    | none => true
  | none => true)
inductive Ax where
 | normal
 | exit (id : Nat)
 | ret
 | goto (l : Nat)
abbrev ET : Type := Code → Rg → Mem → Option (Ax × Rg × Mem)
section
variable (P : Program) (X : XT) (callF : XT) (roundF : NT)
def jeC (ops : List Oper) (ms : List Nat) (base : Nat) : List Nat → Rg × Mem × List (Nat × Mem) → List Nat → Option ((Rg × Mem × List (Nat × Mem)) × List Nat)
 | [], s, ids => some (s, ids)
 | i :: rest, s, ids => match ops[i]? with
   | none => none
   | some o => match jhe P s.1 o with
     | none => none
     | some l => match jcj P X callF roundF ops ms base i s with
       | none => none
       | some s' => jeC ops ms base rest s' (l ++ ids)
def aSplit (ops : List Oper) (ms : List Nat) (r : Rg) (μ : Mem) : Option (Ax × Rg × Mem) :=
 match splitOf ops ms with
 | none => none
 | some (f, g, pre, la, lb) => match splitOk ops ms f g pre la lb with
   | false => none
   | true => match jcP P X callF roundF ops ms μ.next pre (r, ⟨μ.obs, Nat.add μ.next ops.length⟩, [(ops.length, ⟨μ.obs, Nat.add μ.next ops.length⟩)]) with
     | none => none
     | some s0 => match jeC P X callF roundF ops (jhB ms f g) μ.next (la ++ lb) s0 [] with
       | none => none
       | some (s1, i1) => match jeC P X callF roundF ops (jhB ms g f) μ.next (lb ++ la) s0 [] with
         | none => none
         | some (s2, i2) => match sameEnd ops (la ++ lb) (i1 ++ i2) s1 s2 with
           | true => some (.normal, s1.1, s1.2.1)
           | false => none
end
def jcc (μ : Mem) (l : Nat) (st : LoopState) (pe : Option Code) : Option Mem :=
 match μ.obs.get l with
 | some (.loop _ _ ps asg body n tm d) => some ⟨μ.obs.set l (.loop st pe ps asg body n tm d), μ.next⟩
 | _ => none
def jcy (n : Nat) : List Nat → List Value → T Value → Option (T Value)
 | [], [], tm => some tm
 | p :: ps, v :: vs, tm => match Nat.blt p n with
   | true => jcy n ps vs (tm.set p v)
   | false => none
 | _, _, _ => none
def jdI (μ : Mem) : List Nat → Option Mem
 | [] => some μ
 | d :: ds => match μ.obs.get d with
   | some .deferred => jdI ⟨μ.obs.set d .dead, μ.next⟩ ds
   | _ => none
def aRes (P : Program) (μ : Mem) (r : Rg) : List ResultVar → Option (List Value)
 | [] => some []
 | .tmp t :: rs => match aRes P μ r rs with
   | some l => some (jah r.tm t :: l)
   | none => none
 | .cell a t :: rs => match jbZ P μ t (jah r.tm a) with
   | none => none
   | some v => match aRes P μ r rs with
     | some l => some (v :: l)
     | none => none
def jcI (P : Program) (μ : Mem) (r : Rg) (fn : Func) : Option Value :=
 match aRes P μ r fn.results.toList with
 | some [v] => some v
 | some l => some (.tuple l.toArray)
 | none => none
def jfm (l : List Value) : Bool := match l with
 | [.chan none] => true
 | _ => false
def jff (μ : Mem) (roms : List (Nat × List Value × TypeId)) : Bool := roms.all fun x => match μ.obs.get x.1 with
 | some (.rom l t) => match jfm x.2.1 with
   | true => false
   | false => veq.veqs 5 l x.2.1 && Nat.beq t x.2.2
 | some (.opn t) => jfm x.2.1 && Nat.beq t x.2.2
 | _ => false
def spN (n : Nat) : Bool := match Nat.beq n 32 with
 | true => true
 | false => match Nat.ble 9 n with
   | true => Nat.ble n 13
   | false => false
def tabB : Nat → List Value → Bool
 | c, [] => Nat.beq c 256
 | c, v :: r => match v with
   | .int .u8 (.ofNat m) => match Nat.beq m (match spN c with
     | true => 1
     | false => 0) with
     | true => tabB (Nat.succ c) r
     | false => false
   | _ => false
def lowB : List UInt8 → Bool
 | [] => true
 | b :: l => match Nat.blt b.toNat 128 with
   | true => lowB l
   | false => false
def fieldsB : List UInt8 → List UInt8 → List (List UInt8)
 | cur, [] => match cur with
   | [] => []
   | c :: r => [(c :: r).reverse]
 | cur, b :: l => match spN b.toNat with
   | true => match cur with
     | [] => fieldsB [] l
     | c :: r => (c :: r).reverse :: fieldsB [] l
   | false => fieldsB (b :: cur) l
def preB : List UInt8 → List UInt8 → Bool
 | [], _ => true
 | _ :: _, [] => false
 | a :: x, b :: y => match Nat.beq a.toNat b.toNat with
   | true => preB x y
   | false => false
def hasB (sub : List UInt8) : List UInt8 → Bool
 | [] => match sub with
   | [] => true
   | _ :: _ => false
 | b :: l => match preB sub (b :: l) with
   | true => true
   | false => hasB sub l
inductive LK where
 | alive (roms : List (Nat × List Value × TypeId))
 | fields (g : Nat) (t : TypeId)
 | contains (g : Nat)
 | plain (f : List Value → Option Value)
def lkOf : List (FuncId × LK) → FuncId → Option LK
 | [], _ => none
 | (f, k) :: r, g => match Nat.beq f g with
   | true => some k
   | false => lkOf r g
def aLK (k : LK) (args : List Value) (μ : Mem) : Option (Value × Mem) :=
 match k with
 | .alive roms => match args with
   | [] => match jff μ roms with
     | true => some (.bool true, μ)
     | false => none
   | _ => none
 | .fields g t => match args with
   | [.string s] => match μ.obs.get g with
     | some (.rom l _) => match tabB 0 l with
       | true => match lowB s.data.toList with
         | true => match Nat.blt s.size 4294967281 with
           | true => some (.slice (some ⟨μ.next, 0, none⟩) (fieldsB [] s.data.toList).length (Nat.mul 2 (fieldsB [] s.data.toList).length),
             ⟨μ.obs.set μ.next (.cells (fieldsB [] s.data.toList).length t ((fieldsB [] s.data.toList).map fun l => Value.string ⟨l.toArray⟩).toArray .e 0 0 false false), Nat.add μ.next 1⟩)
           | false => none
         | false => none
       | false => none
     | _ => none
   | _ => none
 | .contains g => match args with
   | [.string s, .string u] => match μ.obs.get g with
     | some (.opn _) => match Nat.blt s.size 4294967281 with
       | true => some (.bool (hasB u.data.toList s.data.toList), μ)
       | false => none
     | _ => none
   | _ => none
 | .plain f => match f args with
   | some v => match args.all (jaw 5) with
     | true => match jaw 5 v with
       | true => some (v, μ)
       | false => none
     | false => none
   | none => none
section
variable (P : Program) (X : XT) (ev : ET)
def aFun (g : FuncId) (args : List Value) (μ : Mem) : Option (Value × Mem) :=
 match P.funcs[g]? with
 | none => none
 | some fn => match fn.body with
   | none => none
   | some c => match Nat.ble args.length fn.ntmps with
     | false => none
     | true => match ev c ⟨fn.ntmps, T.e.lay 0 args, [], none⟩ μ with
       | none => none
       | some (.exit _, _, _) => none
       | some (.goto _, _, _) => none
       | some (_, r, μ1) => match jdI μ1 r.ds with
         | none => none
         | some μ2 => match jcI P μ2 r fn with
           | none => none
           | some v => some (v, μ2)
def jcm (l : Nat) (args : List Value) (μ : Mem) : Option (Value × Mem) :=
 match μ.obs.get l with
 | some (.loop _ _ ps asg body n tm _) => match jcy n ps.toList args tm with
   | none => none
   | some tm' => match ev asg ⟨n, tm', [], some l⟩ μ with
     | some (.normal, r1, μ1) => match μ1.obs.get l with
       | some (.loop .ready none _ _ _ _ _ _) => match jcc μ1 l .busy none with
         | none => none
         | some μ2 => match ev body r1 μ2 with
           | none => none
           | some (x, r2, μ3) => match r2.ds with
             | [] => match x with
               | .normal => match jcc μ3 l .ready none with
                 | some μ4 => some (.bool true, μ4)
                 | none => none
               | .ret => match jcc μ3 l .done (some .ret) with
                 | some μ4 => some (.bool false, μ4)
                 | none => none
               | .exit id => match jcc μ3 l .done (some (.exit id)) with
                 | some μ4 => some (.bool false, μ4)
                 | none => none
               | .goto _ => none
             | _ => none
       | _ => none
     | _ => none
 | _ => none
def jde (f : Value) (l : Nat) (r : Rg) (μ : Mem) : Option (Ax × Rg × Mem) :=
 match f with
 | .func (.func g) fi ca => match P.funcs[g]? with
   | none => none
   | some fn => match fn.body with
     | none => none
     | some _ => match aFun P ev g (fi.toList ++ (.func (.yield l) #[] #[] :: ca.toList)) μ with
       | none => none
       | some (_, μ2) => match μ2.obs.get l with
         | some (.loop .busy _ _ _ _ _ _ _) => none
         | some (.loop _ pe _ _ _ _ _ _) => match jcc μ2 l .exhausted pe with
           | none => none
           | some μ3 => match pe with
             | none => some (.normal, r, μ3)
             | some c => ev c r μ3
         | _ => none
 | _ => none
def jbs (S : List (FuncId × LK)) (g : FuncId) (args : List Value) (μ : Mem) : Option (Value × Mem) :=
 match lkOf S g with
 | some k => aLK k args μ
 | none => aFun P ev g args μ
variable (S : List (FuncId × LK))
def jbB : ET
 | .skip, r, μ => some (.normal, r, μ)
 | .label _, r, μ => some (.normal, r, μ)
 | .ret, r, μ => some (.ret, r, μ)
 | .exit id, r, μ => some (.exit id, r, μ)
 | .goto l, r, μ => some (.goto l, r, μ)
 | .scope c, r, μ => match ev c r μ with
   | some (.goto l, r1, μ1) => match findLabel c l with
     | some rest => match ev rest r1 μ1 with
       | some (.goto _, _, _) => none
       | x => x
     | none => none
   | x => x
 | .region _ ops false, r, μ => match ji6 P X (jbs P ev S) (jcm ev) ops.toList ops.toList r μ with
   | some (r', μ') => some (.normal, r', μ')
   | none => none
 | .region _ ops true, r, μ => match drawOk ops.toList with
   | false => aSplit P X (jbs P ev S) (jcm ev) ops.toList (masks ops.toList) r μ
   | true => match jcP P X (jbs P ev S) (jcm ev) ops.toList (masks ops.toList) μ.next (alap ops.toList) (r, ⟨μ.obs, Nat.add μ.next ops.toList.length⟩, [(ops.toList.length, ⟨μ.obs, Nat.add μ.next ops.toList.length⟩)]) with
     | some (r', μ', _) => some (.normal, r', μ')
     | none => none
 | .seq a b, r, μ => match ev a r μ with
   | some (.normal, r1, μ1) => ev b r1 μ1
   | x => x
 | .cond c a b, r, μ => match aev P r c with
   | .bool true => ev a r μ
   | .bool false => ev b r μ
   | _ => none
 | .block id c, r, μ => match ev c r μ with
   | some (.exit id', r1, μ1) => match Nat.beq id' id with
     | true => some (.normal, r1, μ1)
     | false => some (.exit id', r1, μ1)
   | x => x
 | .loop c, r, μ => match ev c r μ with
   | some (.normal, r1, μ1) => ev (.loop c) r1 μ1
   | x => x
 | .rangeFunc f ps asg body, r, μ => match r.rd with
   | none => jde P ev (aev P r f) (Nat.add μ.next 1) { r with ds := μ.next :: r.ds }
     ⟨(μ.obs.set μ.next .deferred).set (Nat.add μ.next 1) (.loop .ready none ps asg body r.n r.tm μ.next), Nat.add μ.next 2⟩
   | some l0 => match μ.obs.get l0 with
     | some (.loop _ _ _ _ _ _ _ d) => jde P ev (aev P r f) μ.next r ⟨μ.obs.set μ.next (.loop .ready none ps asg body r.n r.tm d), Nat.add μ.next 1⟩
     | _ => none
 | _, _, _ => none
end
def jai (P : Program) (X : XT) (S : List (FuncId × LK)) (n : Nat) : ET :=
 Nat.rec (motive := fun _ => ET) (fun _ _ _ => none) (fun _ ih => jbB P X ih S) n
theorem jgl (P : Program) (X : XT) (S : List (FuncId × LK)) : jai P X S 0 = fun _ _ _ => none := rfl
theorem jaA (P : Program) (X : XT) (S : List (FuncId × LK)) (n : Nat) : jai P X S (n + 1) = jbB P X (jai P X S n) S := rfl
end
noncomputable section
variable {P : Program} {J : Nat → Loc}
section
variable {ρ τ : Operand → Value} {o : Oper}
theorem opsOf_sub {op : Op} {l : List Operand} (h : opsOf op = some l) : ∀ x ∈ l, x ∈ op.operands := by
 unfold opsOf at h
 split at h <;> first | (cases h; done) | skip
 all_goals
  cases h
  exact fun x hx => by simpa [Op.operands] using hx
theorem jht {l : List Operand} (h : ∀ x ∈ l, ρ x = τ x) : jbn ρ l = jbn τ l := by
 induction l with
 | nil => rfl
 | cons x l ih => simp only [jbn, h x (by simp)]; rw [ih fun y hy => h y (by simp [hy])]
theorem jh4 (h : ∀ x ∈ o.op.operands, ρ x = τ x) : jaC P ρ o = jaC P τ o := by
 unfold jaC
 cases hl : opsOf o.op with
 | none => rfl
 | some l =>
   dsimp only
   rw [jht fun x hx => h x (opsOf_sub hl x hx), execOp_congr o (jhA hl).1 h]
theorem aP_congr (h : ∀ x ∈ o.op.operands, ρ x = τ x) : aP P ρ o = aP P τ o := by
 have hpl := jh4 (P := P) h
 obtain ⟨dst, op, type, pos, after, guard⟩ := o
 cases op with
 | makeFunc fn x y =>
   simp only [aP, jdu]
   rw [List.map_congr_left (l := x.toList) fun a ha => h a (by simp only [Op.operands, Array.mem_append]; exact .inl (by simpa using ha)),
    List.map_congr_left (l := y.toList) fun a ha => h a (by simp only [Op.operands, Array.mem_append]; exact .inr (by simpa using ha))]
 | build t ps =>
   simp only [aP, jbF]
   rw [List.map_congr_left (l := ps.toList) (g := fun p => (p.1, τ p.2)) fun a ha => by
    rw [h a.2 (by simp only [Op.operands, List.mem_toArray, List.mem_map]; exact ⟨a, ha, rfl⟩)]]
 | slice t x lo hi mx =>
   have hx : ρ x = τ x := h x (by simp [Op.operands])
   have h1 : ∀ y, lo = some y → ρ y = τ y := fun y e => h y (by simp [Op.operands, e])
   have h2 : ∀ y, hi = some y → ρ y = τ y := fun y e => h y (by simp [Op.operands, e])
   have h3 : ∀ y, mx = some y → ρ y = τ y := fun y e => h y (by simp [Op.operands, e])
   have hb : ∀ l c, ja2 ρ l c lo hi mx = ja2 τ l c lo hi mx := fun l c => by
    cases lo <;> cases hi <;> cases mx <;> simp_all [ja2, jbl]
   have hb' : ∀ l c, ja2 ρ l c lo hi none = ja2 τ l c lo hi none := fun l c => by
    cases lo <;> cases hi <;> simp_all [ja2, jbl]
   simp only [aP, jaJ, hx, hb, hb', hpl]
 | call c =>
   cases hc : c.callee with
   | builtin b =>
     have ha : ∀ x ∈ c.args.toList, ρ x = τ x := fun x hx => h x (by simp only [Op.operands, Call.operands, hc]; simpa using hx)
     simp only [aP, hc]
     unfold jbE
     split <;> first
      | rfl
      | (split <;> first | rfl | (rename_i e _; rw [e] at ha; simp at ha; simp only [ha]) | (rename_i e; rw [e] at ha; simp at ha; simp only [ha]))
   | value f => simp only [aP, hc]
   | invoke a b => simp only [aP, hc]
 | typeAssert x a b c => simp only [aP, jg3, h x (by simp [Op.operands]), hpl]
 | binOp => simp [Op.operands] at h; simp only [aP, h, aBin, hpl]
 | unOp u t x => cases u with
   | not => simp [Op.operands] at h; simp only [aP, h]
   | _ => exact hpl
 | convert => simp [Op.operands] at h; simp only [aP, h, hpl]
 | _ => first
   | rfl
   | (simp [Op.operands] at h; simp only [aP, h, jaL, jal, jfQ, jb1, jbj, jdC, jj1, jb0]; done)
theorem jeB {c : Call} (ho : o.op = .call c) (h : ∀ x ∈ o.op.operands, ρ x = τ x) : ∀ x ∈ c.args.toList, ρ x = τ x :=
 fun x hx => h x (by rw [ho]; simp only [Op.operands, Call.operands]; cases c.callee <;> simp <;> first | exact hx | (right; simpa using hx) | simpa using hx)
theorem aR_congr {μ : Mem} (h : ∀ x ∈ o.op.operands, ρ x = τ x) : aR P μ ρ o = aR P μ τ o := by
 cases ho : o.op with
 | call c =>
   have ha := jeB ho h
   simp only [aR, ho]
   cases c.callee with
   | builtin b => cases b <;> first | rfl | (dsimp only; split <;> first | rfl | (rename_i e _; rw [e] at ha; simp at ha; simp only [ha]))
   | _ => rfl
 | load => simp [ho, Op.operands] at h; simp only [aR, ho, h]
 | convert => simp [ho, Op.operands] at h; simp only [aR, ho, h]
 | lookup => simp [ho, Op.operands] at h; simp only [aR, ho, h]
 | binOp b => simp [ho, Op.operands] at h; cases b <;> simp only [aR, ho, h]
 | _ => simp only [aR, ho]
theorem aA_congr (h : ∀ x ∈ o.op.operands, ρ x = τ x) : aA P ρ o = aA P τ o := by
 obtain ⟨dst, op, type, pos, after, guard⟩ := o
 cases op with
 | box => simp [Op.operands] at h; simp only [aA, h]
 | convert => simp [Op.operands] at h; simp only [aA, h]
 | makeSlice => simp [Op.operands] at h; simp only [aA, h]
 | range => simp [Op.operands] at h; simp only [aA, h]
 | buildSlice t n ps =>
   simp only [aA, jas]
   rw [List.map_congr_left (l := ps.toList) (g := fun p => (p.1, τ p.2)) fun a ha => by
    rw [h a.2 (by simp only [Op.operands, List.mem_toArray, List.mem_map]; exact ⟨a, ha, rfl⟩)]]
 | makeMap t r => cases r <;> rfl
 | _ => rfl
theorem aT_congr {μ : Mem} (h : ∀ x ∈ o.op.operands, ρ x = τ x) : aT P μ ρ o = aT P μ τ o := by
 cases ho : o.op with
 | call c =>
   have ha := jeB ho h
   simp only [aT, ho]
   cases c.callee with
   | builtin b =>
     cases b <;> first
      | rfl
      | (dsimp only; split <;> first | rfl | (rename_i e _; rw [e] at ha; simp at ha; simp only [ha]))
   | _ => rfl
 | store => simp [ho, Op.operands] at h; simp only [aT, ho, h]
 | convert => simp [ho, Op.operands] at h; simp only [aT, ho, h]
 | mapUpdate => simp [ho, Op.operands] at h; simp only [aT, ho, h]
 | insert => simp [ho, Op.operands] at h; simp only [aT, ho, h]
 | mapEntry => simp [ho, Op.operands] at h; simp only [aT, ho, h]
 | entryStore => simp [ho, Op.operands] at h; simp only [aT, ho, h]
 | next x b => simp [ho, Op.operands] at h; cases b <;> simp only [aT, ho, h]
 | _ => simp only [aT, ho]
theorem jjc {X : XT} {callF : XT} {roundF : NT} {μ : Mem}
  (h : ∀ x ∈ o.op.operands, ρ x = τ x) : jb2 P X callF roundF ρ μ o = jb2 P X callF roundF τ μ o := by
 cases ho : o.op with
 | call c =>
   have ha := jeB ho h
   have hm : c.args.toList.map ρ = c.args.toList.map τ := List.map_congr_left ha
   simp only [jb2, ho]
   cases hc : c.callee with
   | builtin b => rfl
   | value f => simp only [hm, h f (by rw [ho]; simp [Op.operands, Call.operands, hc])]
   | invoke rv nm => simp only [hm, h rv (by rw [ho]; simp [Op.operands, Call.operands, hc])]
 | _ => simp only [jb2, ho]
end
def fen (rd : Option Nat) : Fence := { fn := fun _ => True, depth := none, alive := false, round := rd }
def Lives (J : Nat → Loc) (i b : Nat) : Prop := (∃ s, J i = .at b s) ∨ J i = .dead
theorem Lives.mono {J J' : Nat → Loc} (he : Ext J J') {i b : Nat} (h : Lives J i b) : Lives J' i b := by
 rcases h with ⟨s, h⟩ | h
 ·rcases he.at_ _ _ _ h with h | h
  ·exact .inl ⟨s, h⟩
  ·exact .inr h
 ·exact .inr (he.dead _ h)
structure Base (P : Program) (J : Nat → Loc) : Prop where
 glob : ∀ g, g < P.globals.size → Lives J g g
 stop : J P.globals.size = .dead
theorem Base.mono {J' : Nat → Loc} (h : Base P J) (he : Ext J J') : Base P J' := ⟨fun g hg => (h.glob g hg).mono he, he.dead _ h.stop⟩
inductive Marks (J : Nat → Loc) : List Nat → List Deferred → Prop where
 | nil : Marks J [] []
 | cons {i b : Nat} {is : List Nat} {ds : List Deferred} (h : Lives J i b) (t : Marks J is ds) : Marks J (i :: is) ({ target := .collected b, args := #[] } :: ds)
theorem Marks.mono {J J' : Nat → Loc} (he : Ext J J') {is : List Nat} {ds : List Deferred} (h : Marks J is ds) : Marks J' is ds := by
 induction h with
 | nil => exact .nil
 | cons h _ ih => exact .cons (h.mono he) ih
inductive RdRel (J : Nat → Loc) : Option Nat → Option Nat → Prop where
 | none : RdRel J none none
 | some {l b : Nat} (h : Lives J l b) : RdRel J (some l) (some b)
theorem RdRel.mono {J J' : Nat → Loc} (he : Ext J J') {l b : Option Nat} (h : RdRel J l b) : RdRel J' l b := by
 cases h with
 | none => exact .none
 | some h => exact .some (h.mono he)
structure RgRel (J : Nat → Loc) (rd : Option Nat) (r : Rg) (a : Act) : Prop where
 size : a.tmps.size = r.n
 regs : ∀ d, VRel J (jah r.tm d) (a.tmps.getD d undef)
 ds : Marks J r.ds a.defers
 rd : RdRel J r.rd rd
theorem RgRel.mono {J J' : Nat → Loc} (he : Ext J J') {rd : Option Nat} {r : Rg} {a : Act} (h : RgRel J rd r a) : RgRel J' rd r a :=
 ⟨h.size, fun d => (h.regs d).mono he, h.ds.mono he, h.rd.mono he⟩
theorem jgR (hB : Base P J) {r : Rg} {a : Act} {x : Operand} (h : ∀ d, x = .tmp d → VRel J (jah r.tm d) (a.tmps.getD d undef)) : VRel J (aev P r x) (a.eval x) := by
 cases x with
 | tmp t => exact h t rfl
 | const v =>
   simp only [aev, Act.eval]
   split
   ·rename_i e; exact ja1 5 e
   ·exact .any _ _
 | global g =>
   simp only [aev, Act.eval]
   split
   ·rename_i e
    have e' : g < P.globals.size := by simpa using e
    rcases hB.glob g e' with ⟨s, hs⟩ | hs
    ·exact .ptr hs
    ·exact .ptrDead _ hs
   ·exact .any _ _
 | func f => exact .func (.func f) rfl (fun i a b ha => by simp at ha) rfl (fun i a b ha => by simp at ha)
theorem jaq {tm : T Value} {d e : Nat} {v : Value} : jah (tm.set d v) e = if e = d then v else jah tm e := by
 simp only [jah, T.get_set]
 by_cases h : e = d
 ·simp [h]
 ·simp [h]
theorem put_rel {r r' : Rg} {a : Act} {d : Option Nat} {v v' : Value} (hs : a.tmps.size = r.n) (hp : aput r d v = some r') :
  (a.put d v').tmps.size = r'.n ∧ r'.n = r.n ∧ r'.ds = r.ds ∧ r'.rd = r.rd ∧ (a.put d v').defers = a.defers ∧
  ∀ e, (d = some e ∧ jah r'.tm e = v ∧ (a.put d v').tmps.getD e undef = v') ∨ (d ≠ some e ∧ jah r'.tm e = jah r.tm e ∧ (a.put d v').tmps.getD e undef = a.tmps.getD e undef) := by
 unfold aput at hp
 cases d with
 | none => cases hp; exact ⟨hs, rfl, rfl, rfl, rfl, fun e => .inr ⟨by simp, rfl, rfl⟩⟩
 | some d =>
   simp only at hp
   split at hp
   ·rename_i hd
    have hd' : d < r.n := by simpa using hd
    cases hp
    refine ⟨by simp [Act.put, hs], rfl, rfl, rfl, rfl, fun e => ?_⟩
    by_cases he : e = d
    ·subst he
     refine .inl ⟨rfl, by simp [jaq], ?_⟩
     simp [Act.put, Array.getD, hs, hd']
    ·refine .inr ⟨by simp; exact fun h => he h.symm, by simp [jaq, he], ?_⟩
     simp only [Act.put, Array.getD_eq_getD_getElem?, Array.getElem?_setIfInBounds]
     rw [if_neg (fun h => he h.symm)]
   ·cases hp
theorem RgRel.put {rd : Option Nat} {r r' : Rg} {a : Act} {d : Option Nat} {v v' : Value} (h : RgRel J rd r a) (hp : aput r d v = some r') (hv : VRel J v v') : RgRel J rd r' (a.put d v') := by
 obtain ⟨h1, h2, h3, h4, h5, h6⟩ := put_rel (v' := v') h.size hp
 refine ⟨h1, fun e => ?_, by rw [h3, h5]; exact h.ds, by rw [h4]; exact h.rd⟩
 rcases h6 e with ⟨_, e1, e2⟩ | ⟨_, e1, e2⟩
 ·rw [e1, e2]; exact hv
 ·rw [e1, e2]; exact h.regs e
theorem jei {ops : Array Oper} {r : Rg} {a : Act} {o : Oper} {b : Bool} (hs : a.tmps.size = r.n)
  (h : ∀ j w oj d, o.guard = some (j, w) → ops[j]? = some oj → oj.dst = some d → VRel J (jah r.tm d) (a.tmps.getD d undef)) (hw : jca ops.toList r o = some b) :
  Region.wanted o (yielded ops a.tmps) = b := by
 unfold jca at hw
 unfold Region.wanted
 split at hw
 ·rename_i e; cases hw; rw [e]
 ·rename_i j want e
  rw [e]
  dsimp only
  unfold ayield at hw
  unfold yielded
  rw [Array.getElem?_toList] at hw
  cases hj : ops[j]? with
  | none => rw [hj] at hw; cases hw; simp
  | some oj =>
    rw [hj] at hw
    simp only [Option.bind_some] at hw ⊢
    cases hd : oj.dst with
    | none => rw [hd] at hw; cases hw; simp
    | some d =>
      rw [hd] at hw
      simp only [Option.bind_some] at hw ⊢
      split at hw
      ·rename_i hlt
       cases hw
       have hlt' : ¬ d < r.n := fun hh => by rw [show Nat.blt d r.n = true from by simpa using hh] at hlt; cases hlt
       rw [Array.getElem?_eq_none (by rw [hs]; exact Nat.le_of_not_lt hlt')]
       simp
      ·rename_i hlt
       have hlt' : d < r.n := by simpa using hlt
       have hrel := h j want oj d e hj hd
       have hget : a.tmps[d]? = some (a.tmps.getD d undef) := by rw [rzJ (by rw [hs]; exact hlt')]; simp [Array.getD, hs, hlt']
       rw [hget]
       generalize jah r.tm d = va at hw hrel
       generalize a.tmps.getD d undef = vc at hrel ⊢
       split at hw
       ·cases hrel; cases hw
        rename_i b' ; cases b' <;> cases want <;> rfl
       ·cases hw
       ·rename_i h1 h2
        cases hw
        cases hrel <;> first
         | rfl
         | exact absurd rfl (h1 _)
         | exact absurd rfl (h2 _)
end
noncomputable section
variable {P : Program} {J : Nat → Loc}
theorem run_callFunc_enter {f : FuncId} {fn : Func} {c : Code} (hf : P.funcs[f]? = some fn) (hname : (fn.name == "runtime.NumGoroutine") = false) (hb : fn.body = some c) (args : Array Value) (w : World) :
  (callFunc f args).run P w = .ok (.enter f args) w := by
 have h1 : fn.name ≠ "runtime.NumGoroutine" := by simpa using hname
 simp [callFunc, rzB, program, Sem.run, Result.andThen, hf, h1, hb, pure]
def Fine (P : Program) (rd : Option Nat) (J : Nat → Loc) (μ : Mem) (w : World) (v : Value) (μ' : Mem) (r : Result Next) : Prop :=
 ∀ (n : Nat) (o : Oper) (a : Act) (next : Act → World → Prop) (Q : Exit → Act → World → Prop),
  (∀ J' v' w', VRel J' v v' → Rel J' μ' w' → Step J μ w J' μ' w' → next (a.put o.dst v') w') → o.uponIn (fen rd) n P a next Q r
def jeh (P : Program) (callF : XT) : Prop :=
 ∀ g args μ v μ', callF g args μ = some (v, μ') → ∀ J w args', Rel J μ w → Base P J → ARel J args.toArray args' →
  ∀ n (R : Ending → World → Prop), (∀ J' v' w', VRel J' v v' → Rel J' μ' w' → Step J μ w J' μ' w' → R (.returned v') w') → CallsIn Fence.wide n P g args' w R
def XOk (P : Program) (X : XT) : Prop :=
 ∀ g args μ v μ' fn, P.funcs[g]? = some fn → fn.body = none → X g args μ = some (v, μ') → ∀ J w args', Rel J μ w → ARel J args.toArray args' →
  ∃ J' v' w', (callFunc g args').run P w = .ok (.value v') w' ∧ VRel J' v v' ∧ Rel J' μ' w' ∧ Step J μ w J' μ' w'
def jck (P : Program) (roundF : NT) : Prop :=
 ∀ l args μ v μ', roundF l args μ = some (v, μ') → ∀ J w b args', Rel J μ w → Base P J → Lives J l b → ARel J args.toArray args' →
  ∃ f tmps asg body, (Instr.yield b args').run P w = .ok (.round b f tmps asg body) w ∧
   ∀ n (R : Ending → World → Prop), (∀ J' v' w', VRel J' v v' → Rel J' μ' w' → Step J μ w J' μ' w' → R (.returned v') w') → RoundIn Fence.wide n P b f tmps asg body w R
def jcQ (P : Program) : Prop := ∀ (g : FuncId) (fn : Func), P.funcs[g]? = some fn → (fn.name == "runtime.NumGoroutine") = false
theorem jcY {rd : Option Nat} {μ μ' : Mem} {w w' : World} {v v' : Value} {J' : Nat → Loc} (hv : VRel J' v v') (hr : Rel J' μ' w') (hs : Step J μ w J' μ' w') :
  Fine P rd J μ w v μ' (.ok (.value v') w') := fun n o a next Q h => h J' v' w' hv hr hs
theorem ARel.app {x y : List Value} {x' y' : Array Value} (hx : ARel J x.toArray x') (hy : ARel J y.toArray y') : ARel J (x ++ y).toArray (x' ++ y') := by
 have hs1 : x.length = x'.size := by simpa using hx.size
 have hs2 : y.length = y'.size := by simpa using hy.size
 refine ⟨by simp [hs1, hs2], fun i a b ha hb => ?_⟩
 simp only [List.getElem?_toArray] at ha
 rw [Array.getElem?_append] at hb
 rw [List.getElem?_append] at ha
 by_cases h : i < x.length
 ·rw [if_pos h] at ha
  rw [if_pos (by omega)] at hb
  exact hx.at_ i a b (by simpa using ha) hb
 ·rw [if_neg h] at ha
  rw [if_neg (by omega)] at hb
  exact hy.at_ (i - x.length) a b (by simpa using ha) (by rw [hs1]; exact hb)
theorem jc1 {x x' : Array Value} (hs : x.size = x'.size) (h : ∀ (i : Nat) a b, x[i]? = some a → x'[i]? = some b → VRel J a b) : ARel J x.toList.toArray x' :=
 ⟨by simpa using hs, fun i a b ha hb => h i a b (by simpa using ha) hb⟩
theorem jfE {v v' : Value} {x : List Value} {x' : Array Value} (hv : VRel J v v') (hx : ARel J x.toArray x') : ARel J (v :: x).toArray (#[v'] ++ x') :=
 ARel.app (x := [v]) (y := x) ⟨rfl, fun i a b ha hb => by
  match i with
  | 0 => simp at ha hb; subst ha hb; exact hv
  | i + 1 => simp at ha⟩ hx
theorem run_wrap (t : TypeId) (a : Addr) (x y : String) (w : World) : (Builtin.ssaWrapNilChk_ #[t] t #[.pointer (some a), strVal x, strVal y]).run P w = .ok (.pointer (some a)) w := rfl
theorem jfJ {μ : Mem} {w : World} (h : Rel J μ w) {recv recv' x : Value} {name : String} {g : FuncId} (hv : VRel J recv recv') (hm : jgV P μ recv name = some (g, x)) :
  ∃ x', VRel J x x' ∧ ∀ args, (callMethod recv' name args).run P w = (callFunc g (#[x'] ++ args)).run P w := by
 unfold jgV at hm
 split at hm
 ·rename_i t v
  cases hv with
  | iface hv =>
  rename_i v'
  split at hm
  ·cases hm
  ·rename_i inf hinf
   split at hm
   ·cases hm
   ·rename_i m hfind
    have hfind' : inf.methods.find? (fun m => m.name == name) = some m := by rw [← Array.find?_toList]; exact hfind
    split at hm
    ·rename_i hpath
     have hpe : m.path = #[] := Array.toList_eq_nil_iff.1 hpath
     split at hm
     ·cases hm
     ·rename_i f pr hfn
      have key : ∀ (x' : Value), (receiverAt t (.val v') pr (if m.path.isEmpty then some ((name.splitOn ".").getLastD name) else none)).run P w = .ok x' w →
        ∀ args, (callMethod (.iface t v') name args).run P w = (callFunc f (#[x'] ++ args)).run P w := by
       intro x' hx args
       simp only [callMethod, rzB, program, Sem.run, rzA]
       have hd : P.types.size + Made.depth = (P.types.size + 99) + 1 := rfl
       have hmeth : (method (P.types.size + Made.depth) t v' name).run P w = .ok (f, x') w := by
        rw [hd]
        generalize P.types.size + 99 = k
        simp only [method, rzB, jc5 hinf, rzA, hfind', hpath, follow, rzC, hfn, hx]
       simp only [hmeth, rzA, pure, Sem.run]
      split at hm
      ·cases hm
      ·rename_i e hu
       split at hm
       ·cases hm
        refine ⟨v', hv, key v' ?_⟩
        simp only [receiverAt, rzB, jar hu, rzA, Place.get, rzC]
       ·split at hm
        ·rename_i xx hl
         cases hm
         obtain ⟨a, x', h1, h2, h3⟩ := jc8 (P := P) h hv hl
         refine ⟨x', h2, key x' ?_⟩
         rw [h1]
         simp only [receiverAt, rzB, jar hu, rzA, Place.get, rzC, hpe, Array.isEmpty_empty, if_true, run_wrap]
         simpa [asAddr, rzC] using h3
        ·cases hm
      ·rename_i d hnp hu
       split at hm
       ·cases hm
        refine ⟨v', hv, key v' ?_⟩
        cases d <;> first | exact absurd rfl (hnp _) | simp only [receiverAt, rzB, jar hu, rzA, Place.get, rzC]
       ·cases hm
    ·cases hm
 ·cases hm
section calls
variable {X : XT} {callF : XT} {roundF : NT}
theorem jgZ (hN : jcQ P) (hX : XOk P X) (hF : jeh P callF) {rd : Option Nat} {g : FuncId} {args : List Value} {μ μ' : Mem} {v : Value} (h : aGo P X callF g args μ = some (v, μ')) {w : World} {args' : Array Value} (hr : Rel J μ w) (hB : Base P J)
  (ha : ARel J args.toArray args') : Fine P rd J μ w v μ' ((callFunc g args').run P w) := by
 unfold aGo at h
 split at h
 ·cases h
 ·rename_i fn hfn
  split at h
  ·rename_i c hb
   rw [run_callFunc_enter hfn (hN g fn hfn) hb]
   intro n o a next Q hk
   rw [Oper.uponIn_enter]
   refine ⟨fun hd => by simp [fen] at hd, ?_⟩
   have := hF g args μ v μ' h J w args' hr hB ha (n - 1) (fun e w'' => match e with
    | .returned v => next (a.put o.dst v) w''
    | .panicked chain => Q (.panic chain) a w''
    | .outgrown => LetsOut Q) (fun J' v' w' h1 h2 h3 => hk J' v' w' h1 h2 h3)
   have h2 : CallsIn (fen rd) (n - 1) P g args' w _ := this
   exact h2.mono fun e w'' he => by cases e <;> exact he
  ·rename_i hb
   obtain ⟨J', v', w', h1, h2, h3, h4⟩ := hX g args μ v μ' fn hfn hb h J w args' hr ha
   rw [h1]
   exact jcY h2 h3 h4
theorem jg0 (hN : jcQ P) (hX : XOk P X) (hF : jeh P callF) (hR : jck P roundF) {rd : Option Nat} {f f' : Value} {args : List Value} {μ μ' : Mem} {v : Value} (h : jbz P X callF roundF f args μ = some (v, μ')) {w : World} {args' : Array Value} (hr : Rel J μ w)
  (hB : Base P J) (hf : VRel J f f') (ha : ARel J args.toArray args') : Fine P rd J μ w v μ' ((Deferred.ofValue f' args' >>= fun d => invoke d.target d.args).run P w) := by
 unfold jbz at h
 split at h
 ·rename_i g fi ca
  cases hf with
  | func hfn h1 h2 h3 h4 =>
    cases hfn
    simp only [Deferred.ofValue, rzB, rzC, rzA, invoke]
    rw [Array.append_assoc]
    exact jgZ hN hX hF h hr hB ((jc1 h1 h2).app (ha.app (jc1 h3 h4)))
 ·rename_i l fi ca
  cases hf with
  | func hfn h1 h2 h3 h4 =>
    have hlive : ∀ b, FnRel J (.yield l) (.yield b) → Lives J l b := fun b hh => by
     cases hh with
     | yield e => exact .inl ⟨_, e⟩
     | yieldDead _ e => exact .inr e
    cases hfn' : hfn with
    | yield e | yieldDead l' e =>
      simp only [Deferred.ofValue, rzB, rzC, rzA, invoke]
      obtain ⟨f, tmps, asg, body, hrun, hrest⟩ := hR l _ μ v μ' h J w _ _ hr hB (hlive _ hfn) ((jc1 h1 h2).app ha)
      rw [hrun]
      intro n o a next Q hk
      rw [Oper.uponIn_round]
      refine ⟨fun hd => by simp [fen] at hd, ?_⟩
      have := hrest (n - 1) (fun e w'' => match e with
       | .returned v => next (a.put o.dst v) w''
       | .panicked chain => Q (.panic chain) a w''
       | .outgrown => LetsOut Q) (fun J' v' w' h1 h2 h3 => hk J' v' w' h1 h2 h3)
      have h2 : RoundIn (fen rd) (n - 1) P _ f tmps asg body w _ := this
      exact h2.mono fun e w'' he => by cases e <;> exact he
 ·rename_i nm fi ca
  cases hf with
  | func hfn h1 h2 h3 h4 =>
    cases hfn
    rename_i fi' ca'
    split at h
    ·rename_i rv rest hl
     split at h
     ·rename_i g x hm
      have hall := (jc1 h1 h2).app ha
      rw [hl] at hall
      have hsz : 0 < (fi' ++ args').size := by have := hall.size; simp at this; simp; omega
      have hrv : VRel J rv (fi' ++ args')[0] := hall.at_ 0 _ _ (by simp) (rzJ hsz)
      obtain ⟨x', hx, hrun⟩ := jfJ hr hrv hm
      have h0 : (fi' ++ args')[0]? = some (fi' ++ args')[0] := rzJ hsz
      simp only [Deferred.ofValue, rzB, rzC, rzA, invoke, h0]
      rw [hrun]
      refine jgZ hN hX hF h hr hB (jfE hx ⟨?_, fun i a b ha' hb' => ?_⟩)
      ·have := hall.size; simp at this; simp; omega
      ·simp only [List.getElem?_toArray] at ha'
       rw [Array.getElem?_extract] at hb'
       split at hb'
       ·exact hall.at_ (i + 1) a b (by simpa using ha') (by rw [Nat.add_comm]; exact hb')
       ·cases hb'
     ·cases h
    ·cases h
 ·cases h
theorem jk4 (hN : jcQ P) (hX : XOk P X) (hF : jeh P callF) (hR : jck P roundF) {rd : Option Nat} {ρ ρ' : Operand → Value} (hρ : ∀ x, VRel J (ρ x) (ρ' x)) {μ μ' : Mem} {v : Value} {o : Oper} (h : jb2 P X callF roundF ρ μ o = some (v, μ')) {w : World} (hr : Rel J μ w)
  (hB : Base P J) : Fine P rd J μ w v μ' ((execOp ρ' o).run P w) := by
 unfold jb2 at h
 split at h
 ·rename_i c ho
  have hargs : ARel J (c.args.toList.map ρ).toArray (c.args.map ρ') := ⟨by simp, fun i a b ha hb => by
   simp only [List.getElem?_toArray, List.getElem?_map, Array.getElem?_toList, Option.map_eq_some_iff, Array.getElem?_map] at ha hb
   obtain ⟨x, hx, rfl⟩ := ha
   obtain ⟨y, hy, rfl⟩ := hb
   rw [hx] at hy; cases hy
   exact hρ x⟩
  split at h
  ·rename_i f hc
   have := jg0 (rd := rd) hN hX hF hR h hr hB (hρ f) hargs
   simpa only [execOp, ho, resolve, hc] using this
  ·rename_i rv nm hc
   split at h
   ·rename_i g x hm
    obtain ⟨x', hx, hrun⟩ := jfJ hr (hρ rv) hm
    have := jgZ (rd := rd) hN hX hF h hr hB (jfE hx hargs)
    rw [← hrun] at this
    have e0 : (#[ρ' rv] ++ c.args.map ρ')[0]? = some (ρ' rv) := by rw [Array.getElem?_append_left (by simp)]; rfl
    have e1 : (#[ρ' rv] ++ c.args.map ρ').extract 1 (#[ρ' rv] ++ c.args.map ρ').size = c.args.map ρ' := by
     rw [Array.extract_append]; simp
    have hex : (execOp ρ' o).run P w = (callMethod (ρ' rv) nm (c.args.map ρ')).run P w := by
     simp only [execOp, ho, resolve, hc, rzB, rzC, rzA, invoke, Array.append_empty, e0, e1]
    rw [hex]
    exact this
   ·cases h
  ·cases h
 ·cases h
end calls
end
noncomputable section
variable {P : Program} {J : Nat → Loc}
theorem Makes.turn {ρ' : Operand → Value} {o : Oper} {ob : Ob} {mk : Nat → Value} {w : World} {o' : Obj} {s : Nat} {v' : Value} {w' : World} (h : Makes P J ρ' o ob mk w o' s v' w') {μ : Mem} (hr : Rel J μ w)
  {i nx : Nat} (hu : μ.next ≤ i) (hi : i < nx) (hnx : μ.next ≤ nx) : Step J μ w (upd J i (.at w.heap.size s)) ⟨μ.obs.set i ob, nx⟩ w' := by
 have st := Step.alloc hr s ob o' hu hi hnx
 have e : w'.heap = (w.alloc o').heap := by rw [h.heap]; rfl
 exact ⟨st.at_, st.dead, st.unborn, st.born, st.next, st.gone_, by rw [e]; exact st.size, fun b hb ha => by rw [e]; exact st.frame b hb ha, h.os, h.tape, h.output⟩
section
variable {X : XT} {callF : XT} {roundF : NT}
open Classical in
def lim (o : Oper) (ρ : Operand → Value) : Operand → Value := fun x => if x ∈ o.op.operands then ρ x else .chan none
theorem jhG {o : Oper} {ρ : Operand → Value} : ∀ x ∈ o.op.operands, ρ x = lim o ρ x := fun x hx => by simp [lim, hx]
theorem jfj {o : Oper} {ρ ρ' : Operand → Value} (h : ∀ x ∈ o.op.operands, VRel J (ρ x) (ρ' x)) : ∀ x, VRel J (lim o ρ x) (ρ' x) := fun x => by
 unfold lim
 split
 ·rename_i hx; exact h x hx
 ·exact .any _ _
theorem jkw {ρ : Operand → Value} {o : Oper} {v : Value} (h : aP P ρ o = some v) : ∀ c, o.op ≠ .defer c := fun c hc => by simp [aP, hc] at h
theorem jkv {μ : Mem} {ρ : Operand → Value} {o : Oper} {v : Value} (h : aR P μ ρ o = some v) : ∀ c, o.op ≠ .defer c := fun c hc => by simp [aR, hc] at h
theorem jf7 {ρ : Operand → Value} {o : Oper} {v : Ob × (Nat → Value)} (h : aA P ρ o = some v) : ∀ c, o.op ≠ .defer c := fun c hc => by simp [aA, hc] at h
theorem jku {μ : Mem} {ρ : Operand → Value} {o : Oper} {v : Value × Mem} (h : aT P μ ρ o = some v) : ∀ c, o.op ≠ .defer c := fun c hc => by simp [aT, hc] at h
theorem jkx {μ : Mem} {ρ : Operand → Value} {o : Oper} {v : Value × Mem} (h : jb2 P X callF roundF ρ μ o = some v) : ∀ c, o.op ≠ .defer c := fun c hc => by simp [jb2, hc] at h
section pieces
variable {rd : Option Nat} {ρ ρ' : Operand → Value} {o : Oper} {μ : Mem} {w : World}
theorem ji5 (hρ : ∀ x ∈ o.op.operands, VRel J (ρ x) (ρ' x)) (hD : J P.globals.size = .dead) {v : Value} (h : aP P ρ o = some v) : ∃ v', VRel J v v' ∧ (o.semAt rd ρ').run P w = .ok (.value v') w := by
 rw [aP_congr (P := P) (jhG (o := o) (ρ := ρ))] at h
 obtain ⟨v', h1, h2⟩ := aP_sound (jfj hρ) hD h
 exact ⟨v', h1, by rw [Oper.semAt_eq rd ρ' o (jkw h)]; exact h2 w⟩
theorem ji3 (hρ : ∀ x ∈ o.op.operands, VRel J (ρ x) (ρ' x)) (hr : Rel J μ w) {v : Value} (h : aR P μ ρ o = some v) : ∃ v', VRel J v v' ∧ (o.semAt rd ρ').run P w = .ok (.value v') w := by
 rw [aR_congr (P := P) (jhG (o := o) (ρ := ρ))] at h
 obtain ⟨v', h1, h2⟩ := aR_sound (jfj hρ) hr h
 exact ⟨v', h1, by rw [Oper.semAt_eq rd ρ' o (jkv h)]; exact h2⟩
theorem jj2 (hρ : ∀ x ∈ o.op.operands, VRel J (ρ x) (ρ' x)) {ob : Ob} {mk : Nat → Value} (h : aA P ρ o = some (ob, mk)) : ∃ o' s v' w', Makes P J ρ' o ob mk w o' s v' w' := by
 rw [aA_congr (P := P) (jhG (o := o) (ρ := ρ))] at h
 exact aA_sound (jfj hρ) h w
theorem aT_fine (hρ : ∀ x ∈ o.op.operands, VRel J (ρ x) (ρ' x)) (hr : Rel J μ w) {v : Value} {μ' : Mem} (h : aT P μ ρ o = some (v, μ')) : Fine P rd J μ w v μ' ((o.semAt rd ρ').run P w) := by
 rw [aT_congr (P := P) (jhG (o := o) (ρ := ρ))] at h
 obtain ⟨J', v', w', h1, h2, h3, h4⟩ := aT_sound (jfj hρ) hr h
 rw [Oper.semAt_eq rd ρ' o (jku h)]
 rcases h1 with h1 | ⟨h1, rfl⟩
 ·rw [h1]; exact jcY h2 h3 h4
 ·rw [h1]; exact fun n o a next Q hk => hk J' _ w' h2 h3 h4
theorem aC_fine (hN : jcQ P) (hX : XOk P X) (hF : jeh P callF) (hR : jck P roundF) (hρ : ∀ x ∈ o.op.operands, VRel J (ρ x) (ρ' x)) (hr : Rel J μ w) (hB : Base P J) {v : Value} {μ' : Mem} (h : jb2 P X callF roundF ρ μ o = some (v, μ')) : Fine P rd J μ w v μ' ((o.semAt rd ρ').run P w) := by
 rw [jjc (P := P) (jhG (o := o) (ρ := ρ))] at h
 rw [Oper.semAt_eq rd ρ' o (jkx h)]
 exact jk4 hN hX hF hR (jfj hρ) h hr hB
end pieces
theorem aOne_fine (hN : jcQ P) (hX : XOk P X) (hF : jeh P callF) (hR : jck P roundF) {rd : Option Nat} {r : Rg} {μ μ' : Mem} {o : Oper} {v : Value} (h : aOne P X callF roundF r μ o = some (v, μ')) {w : World} {a : Act} (hr : Rel J μ w) (hB : Base P J)
  (hρ : ∀ x ∈ o.op.operands, VRel J (aev P r x) (a.eval x)) : Fine P rd J μ w v μ' ((o.semAt rd a.eval).run P w) := by
 unfold aOne at h
 split at h
 ·rename_i v1 e
  cases h
  obtain ⟨v', h1, h2⟩ := ji5 (rd := rd) (w := w) hρ hB.stop e
  rw [h2]; exact jcY h1 hr (Step.refl _ _ _)
 ·split at h
  ·rename_i v1 e
   cases h
   obtain ⟨v', h1, h2⟩ := ji3 (rd := rd) hρ hr e
   rw [h2]; exact jcY h1 hr (Step.refl _ _ _)
  ·split at h
   ·rename_i ob mk e
    cases h
    obtain ⟨o', s, v', w', hm⟩ := jj2 (w := w) hρ e
    rw [Oper.semAt_eq rd a.eval o (jf7 e), hm.run]
    obtain ⟨h1, h2⟩ := hm.step hr (hr.fresh _ (Nat.le_refl _)) (Nat.lt_succ_self _) (Nat.le_succ _)
    exact jcY h1 h2 (hm.turn hr (Nat.le_refl _) (Nat.lt_succ_self _) (Nat.le_succ _))
   ·split at h
    ·rename_i e
     cases h
     exact aT_fine hρ hr e
    ·exact aC_fine hN hX hF hR hρ hr hB h
theorem jk3 (hN : jcQ P) (hX : XOk P X) (hF : jeh P callF) (hR : jck P roundF) {rd : Option Nat} {n : Nat} {ops : Array Oper} {Q : Exit → Act → World → Prop} : ∀ (l : List Oper) (r : Rg) (μ : Mem) (r' : Rg) (μ' : Mem), aOps P X callF roundF ops.toList l r μ = some (r', μ') →
  ∀ (J : Nat → Loc) (a : Act) (w : World), Rel J μ w → Base P J → RgRel J rd r a →
   (∀ J' a' w', Rel J' μ' w' → RgRel J' rd r' a' → Step J μ w J' μ' w' → Q .normal a' w') → wpListIn (fen rd) n P ops Q l a w := by
 intro l
 induction l with
 | nil =>
   intro r μ r' μ' h J a w hr hB hg hk
   simp only [aOps] at h
   cases h
   exact hk J a w hr hg (Step.refl _ _ _)
 | cons o l ih =>
   intro r μ r' μ' h J a w hr hB hg hk
   simp only [aOps] at h
   simp only [wpListIn]
   split at h
   ·cases h
   ·rename_i hw
    rw [jei hg.size (fun j w oj d _ _ _ => hg.regs d) hw]
    simp only [Bool.false_eq_true, if_false]
    refine ⟨fun _ _ => trivial, ?_⟩
    split at h
    ·rename_i r1 hp
     exact ih r1 μ r' μ' h J _ w hr hB (hg.put hp jcd) hk
    ·cases h
   ·rename_i hw
    rw [jei hg.size (fun j w oj d _ _ _ => hg.regs d) hw]
    simp only [if_true]
    split at h
    ·cases h
    ·rename_i v μ1 hone
     split at h
     ·rename_i r1 hp
      refine ⟨fun _ _ => trivial, aOne_fine hN hX hF hR hone hr hB (fun x _ => jgR hB fun d _ => hg.regs d) n o a _ Q fun J1 v' w1 h1 h2 h3 => ?_⟩
      refine ih r1 μ1 r' μ' h J1 _ w1 h2 (hB.mono h3.ext) ((hg.mono h3.ext).put hp h1) fun J2 a2 w2 h4 h5 h6 => hk J2 a2 w2 h4 h5 (h3.trans hr h6)
     ·cases h
end
end
noncomputable section
variable {P : Program}
theorem jeM : ∀ {l : List Nat}, nodupB l = true → l.Nodup
 | [], _ => List.nodup_nil
 | a :: l, h => by
   simp only [nodupB] at h
   split at h
   ·cases h
   ·rename_i hc
    exact List.nodup_cons.2 ⟨by simpa using hc, jeM h⟩
structure DOk (ops : List Oper) (ms ord : List Nat) (x : Option (Nat × Nat)) : Prop where
 len : ord.length = ops.length
 all : ∀ i, i < ops.length → i ∈ ord
 lt : ∀ i ∈ ord, i < ops.length
 nd : ord.Nodup
 aft : ∀ j o, ops[j]? = some o → ∀ e ∈ o.after, Region.binds .any e = true → bef ms e.on j = true
 on : ∀ (j : Nat) (o : Oper), ops[j]? = some o → ∀ e ∈ o.after, Region.binds .any e = true → e.on < ops.length
 conv : ∀ j o, ops[j]? = some o → ∀ i, i < ops.length → bef ms i j = true → (∃ a, x = some (a, j) ∧ (i = a ∨ bef ms i a = true)) ∨ ∃ e ∈ o.after, Region.binds .any e = true ∧ (i = e.on ∨ bef ms i e.on = true)
 slots : ∀ i o d, ops[i]? = some o → o.dst = some d → ∀ j o', ops[j]? = some o' → d ∈ tmpsOf ops o' → i = j ∨ bef ms i j = true ∨ bef ms j i = true
 pre : ∀ (q j : Nat), ord[q]? = some j → ∀ (i : Nat), i < ops.length → bef ms i j = true → ∃ k : Nat, k < q ∧ ord[k]? = some i
 hvy : ∀ (q j : Nat) (o : Oper), ord[q]? = some j → ops[j]? = some o → heavy o.op = true → ∀ (k i : Nat), k < q → ord[k]? = some i → bef ms i j = true
theorem go_spec {ms : List Nat} {ops : List Oper} : ∀ (rest done : List Nat), drawOk.go ms ops done rest = true → ∀ (q j : Nat), rest[q]? = some j →
  (∀ (i : Nat), i < ops.length → bef ms i j = true → i ∈ done ∨ ∃ k : Nat, k < q ∧ rest[k]? = some i) ∧
  (∀ o, ops[j]? = some o → heavy o.op = true → (∀ i ∈ done, bef ms i j = true) ∧ ∀ (k i : Nat), k < q → rest[k]? = some i → bef ms i j = true)
 | [], done, _, q, j, h => by simp at h
 | a :: rest, done, h, q, j, hq => by
   simp only [drawOk.go, Bool.and_eq_true] at h
   obtain ⟨⟨h1, h2⟩, h3⟩ := h
   match q with
   | 0 =>
     simp at hq
     subst hq
     refine ⟨fun i hi hb => .inl ?_, fun o ho hh => ?_⟩
     ·have := List.all_eq_true.1 h1 i (by simpa using hi)
      simpa [hb] using this
     ·rw [ho] at h2
      simp only [hh] at h2
      exact ⟨fun i hi => List.all_eq_true.1 h2 i hi, fun k i hk => by omega⟩
   | q + 1 =>
     have hq' : rest[q]? = some j := by simpa using hq
     obtain ⟨g1, g2⟩ := go_spec rest (a :: done) h3 q j hq'
     refine ⟨fun i hi hb => ?_, fun o ho hh => ?_⟩
     ·rcases g1 i hi hb with g | ⟨k, hk, hr⟩
      ·rcases List.mem_cons.1 g with rfl | g
       ·exact .inr ⟨0, by omega, by simp⟩
       ·exact .inl g
      ·exact .inr ⟨k + 1, by omega, by simpa using hr⟩
     ·obtain ⟨g3, g4⟩ := g2 o ho hh
      refine ⟨fun i hi => g3 i (by simp [hi]), fun k i hk hr => ?_⟩
      match k with
      | 0 => simp at hr; subst hr; exact g3 _ (by simp)
      | k + 1 => exact g4 k i (by omega) (by simpa using hr)
theorem jj4 {ms : List Nat} {x : Option (Nat × Nat)} {i j : Nat} (h : xedge ms x i j = true) : ∃ a, x = some (a, j) ∧ (i = a ∨ bef ms i a = true) := by
 unfold xedge at h
 split at h
 ·cases h
 ·rename_i a b
  simp only [Bool.and_eq_true, Bool.or_eq_true] at h
  obtain ⟨h1, h2⟩ := h
  obtain rfl := rzD h1
  exact ⟨a, rfl, h2.imp (fun e => rzD e) id⟩
theorem jeq {ops : List Oper} {ms ord : List Nat} {x : Option (Nat × Nat)} (h : drawOk.okAll ops ops.length ms ord x (List.range ops.length) = true) : DOk ops ms ord x := by
 unfold drawOk.okAll at h
 simp only [Bool.and_eq_true] at h
 obtain ⟨h1, h2, h3, h4, h5, h6, h7⟩ := h
 have hgo := go_spec ord [] h7
 refine ⟨rzD h1, fun i hi => ?_, fun i hi => ?_, jeM h4, fun j o hj e he hb => ?_, fun j o hj e he hb => ?_, fun j o hj i hi hb => ?_, fun i o d hi hd j o' hj hs => ?_, fun q j hq i hi hb => ?_, fun q j o hq ho hh k i hk hr => ?_⟩
 ·have := List.all_eq_true.1 h2 i (by simpa using hi)
  simpa using this
 ·have := List.all_eq_true.1 h3 i hi
  simpa using this
 ·have hlt : j < ops.length := (List.getElem?_eq_some_iff.1 hj).1
  have := List.all_eq_true.1 h5 j (by simpa using hlt)
  simp only [drawOk.okAfter, hj, Bool.and_eq_true] at this
  have := List.all_eq_true.1 this.1 e (by simpa using he)
  simp only [hb, Bool.not_true, Bool.false_or, Bool.and_eq_true] at this
  exact this.1
 ·have hlt : j < ops.length := (List.getElem?_eq_some_iff.1 hj).1
  have := List.all_eq_true.1 h5 j (by simpa using hlt)
  simp only [drawOk.okAfter, hj, Bool.and_eq_true] at this
  have := List.all_eq_true.1 this.1 e (by simpa using he)
  simp only [hb, Bool.not_true, Bool.false_or, Bool.and_eq_true] at this
  simpa using this.2
 ·have hlt : j < ops.length := (List.getElem?_eq_some_iff.1 hj).1
  have := List.all_eq_true.1 h5 j (by simpa using hlt)
  simp only [drawOk.okAfter, hj, Bool.and_eq_true] at this
  have := List.all_eq_true.1 this.2 i (by simpa using hi)
  simp only [hb, Bool.not_true, Bool.false_or, List.any_eq_true, Bool.and_eq_true, Bool.or_eq_true] at this
  rcases this with hxe | ⟨e, he, hbd, hor⟩
  ·exact .inl (jj4 hxe)
  ·exact .inr ⟨e, by simpa using he, hbd, hor.imp (fun x => rzD x) id⟩
 ·have hlt : i < ops.length := (List.getElem?_eq_some_iff.1 hi).1
  have hltj : j < ops.length := (List.getElem?_eq_some_iff.1 hj).1
  have := List.all_eq_true.1 h6 i (by simpa using hlt)
  simp only [drawOk.okSlots, hi, hd] at this
  have := List.all_eq_true.1 this j (by simpa using hltj)
  simp only [hj] at this
  have hc : (tmpsOf ops o').contains d = true := by simpa using hs
  simp only [hc, Bool.not_true, Bool.or_false, ordered, Bool.or_eq_true] at this
  exact this.imp (fun x => rzD x) id
 ·rcases (hgo q j hq).1 i hi hb with g | g
  ·cases g
  ·exact g
 ·exact ((hgo q j hq).2 o ho hh).2 k i hk hr
theorem jiP {ops : List Oper} (h : drawOk ops = true) : DOk ops (masks ops) (alap ops) none := jeq h
theorem jhW {a b : List UInt8} (h : jcw a b = true) : a = b := by
 rw [jdA] at h; simpa using h
theorem jhZ {a b : Addr} (h : addrEq a b = true) : a = b := by
 unfold addrEq at h
 split at h
 ·split at h
  ·rename_i e
   have e1 := rzD e
   have e2 := rzD h
   rw [e1, e2]
  ·cases h
 ·cases h
theorem jdt {x y : Array Value} (h : x.toList = y.toList) : x = y := by cases x; cases y; simp at h; rw [h]
theorem jfA {x y : ByteArray} (h : x.data.toList = y.data.toList) : x = y := by
 cases x with | mk x => cases y with | mk y => cases x; cases y; simp at h; rw [h]
theorem je6 {n : Nat} (ih : ∀ u v, veq n u v = true → u = v) : ∀ (x y : List Value), veq.veqs n x y = true → x = y
 | [], [], _ => rfl
 | [], b :: y, h => by simp [veq.veqs] at h
 | a :: x, [], h => by simp [veq.veqs] at h
 | a :: x, b :: y, h => by
   simp only [veq.veqs] at h
   split at h
   ·rename_i e
    rw [ih a b e, je6 ih x y h]
   ·cases h
theorem jfX : ∀ (n : Nat) (u v : Value), veq n u v = true → u = v := by
 intro n
 induction n with
 | zero => intro u v h; simp [veq] at h
 | succ n ih =>
   intro u v h
   unfold veq at h
   split at h <;> first
    | rfl
    | (cases h; done)
    | (split at h
       ·rename_i e; have e1 := of_decide_eq_true e; have e2 := of_decide_eq_true h; rw [e1, e2]
       ·cases h)
    | (have e1 := of_decide_eq_true h; rw [e1])
    | (rw [jfA (jhW h)])
    | (split at h
       ·rename_i e; have e1 := of_decide_eq_true e; have e2 := rzD h; rw [e1, e2]
       ·cases h)
    | (rw [jhZ h])
    | (split at h
       ·rename_i e; have e1 := rzD e; have e2 := rzD h; rw [e1, e2]
       ·cases h)
    | (split at h
       ·rename_i e
        split at h
        ·rename_i e'; rw [jhZ e, rzD e', rzD h]
        ·cases h
       ·cases h)
    | (rw [rzD h])
    | (split at h
       ·rename_i e; rw [rzD e, ih _ _ h]
       ·cases h)
    | (rw [jdt (je6 ih _ _ h)])
theorem jjO {u v : Value} (h : jkL u v = true) : u = v := by
 unfold jkL at h
 split at h
 ·rename_i e; exact jfX 5 _ _ e
 ·exact @of_decide_eq_true _ (Classical.propDecidable _) h
end
noncomputable section
variable {P : Program}
abbrev St := Rg × Mem × List (Nat × Mem)
theorem jfF {r r' : Rg} {d : Option Nat} {v : Value} (h : aput r d v = some r') : r'.n = r.n ∧ r'.ds = r.ds ∧ r'.rd = r.rd ∧ ∀ e, (d = some e ∧ jah r'.tm e = v) ∨ (d ≠ some e ∧ jah r'.tm e = jah r.tm e) := by
 unfold aput at h
 cases d with
 | none => cases h; exact ⟨rfl, rfl, rfl, fun e => .inr ⟨by simp, rfl⟩⟩
 | some d =>
   simp only at h
   split at h
   ·cases h
    refine ⟨rfl, rfl, rfl, fun e => ?_⟩
    by_cases he : e = d
    ·subst he; exact .inl ⟨rfl, by simp [jaq]⟩
    ·exact .inr ⟨by simp; exact fun x => he x.symm, by simp [jaq, he]⟩
   ·cases h
section tr
variable {X : XT} {callF : XT} {roundF : NT} {ops : Array Oper} {ms : List Nat} {bs : Nat}
theorem jgn : ∀ (ord : List Nat) (s s' : St), jcP P X callF roundF ops.toList ms bs ord s = some s' →
  ∃ S : Nat → St, S 0 = s ∧ S ord.length = s' ∧ ∀ (q i : Nat), ord[q]? = some i → jcj P X callF roundF ops.toList ms bs i (S q) = some (S (q + 1))
 | [], s, s', h => by
   simp only [jcP] at h
   cases h
   exact ⟨fun _ => s, rfl, rfl, fun q i hq => by simp at hq⟩
 | j :: ord, s, s', h => by
   simp only [jcP] at h
   split at h
   ·cases h
   ·rename_i s1 h1
    obtain ⟨S, e0, e1, hS⟩ := jgn ord s1 s' h
    refine ⟨fun | 0 => s | q + 1 => S q, rfl, e1, fun q i hq => ?_⟩
    match q with
    | 0 => simp at hq; subst hq; rw [h1]; exact congrArg some e0.symm
    | q + 1 => exact hS q i (by simpa using hq)
def Skips (ops : Array Oper) (o : Oper) (v : Value) (s s' : St) : Prop := jca ops.toList s.1 o = some false ∧ v = undef ∧ s'.2 = s.2
def Turnt (P : Program) (X : XT) (callF : XT) (roundF : NT)
  (ops : Array Oper) (i : Nat) (o : Oper) (v : Value) (s s' : St) : Prop :=
 jca ops.toList s.1 o = some true ∧ heavy o.op = true ∧ s'.2.2 = (i, s'.2.1) :: s.2.2 ∧ (aT P s.2.1 (aev P s.1) o = some (v, s'.2.1) ∨ jb2 P X callF roundF (aev P s.1) s.2.1 o = some (v, s'.2.1))
def Yieldt (P : Program) (ops : Array Oper) (ms : List Nat) (i : Nat) (o : Oper) (v : Value) (s s' : St) : Prop :=
 jca ops.toList s.1 o = some true ∧ s'.2 = s.2 ∧ heavy o.op = false ∧ (aP P (aev P s.1) o = some v ∨ (aP P (aev P s.1) o = none ∧ jbg P (aev P s.1) o ms i s.2.2 = some v))
def jdf (P : Program) (ops : Array Oper) (ms : List Nat) (bs i : Nat) (o : Oper) (v : Value) (ob : Ob) (s s' : St) : Prop :=
 jca ops.toList s.1 o = some true ∧ heavy o.op = false ∧ aP P (aev P s.1) o = none ∧ jbg P (aev P s.1) o ms i s.2.2 = none ∧ ∃ mk, aA P (aev P s.1) o = some (ob, mk) ∧ v = mk (bs + i) ∧
  s'.2 = (⟨s.2.1.obs.set (bs + i) ob, s.2.1.next⟩, s.2.2)
theorem jbR {i : Nat} {s s' : St} (h : jcj P X callF roundF ops.toList ms bs i s = some s') : ∃ o v, ops[i]? = some o ∧ aput s.1 o.dst v = some s'.1 ∧
  (Skips ops o v s s' ∨ Turnt P X callF roundF ops i o v s s' ∨ Yieldt P ops ms i o v s s' ∨ ∃ ob, jdf P ops ms bs i o v ob s s') := by
 unfold jcj at h
 rw [Array.getElem?_toList] at h
 cases ho : ops[i]? with
 | none => rw [ho] at h; cases h
 | some o =>
   rw [ho] at h
   simp only at h
   split at h
   ·cases h
   ·rename_i hw
    split at h
    ·rename_i r' hp
     cases h
     exact ⟨o, undef, rfl, hp, .inl ⟨hw, rfl, rfl⟩⟩
    ·cases h
   ·rename_i hw
    split at h
    ·cases h
    ·rename_i v x hd
     split at h
     ·rename_i r' hp
      cases h
      refine ⟨o, v, rfl, hp, .inr ?_⟩
      unfold jaV at hd
      split at hd
      ·rename_i hh
       split at hd
       ·rename_i v1 m1 ht
        cases hd
        exact .inl ⟨hw, hh, rfl, .inl ht⟩
       ·split at hd
        ·rename_i v1 m1 ht
         cases hd
         exact .inl ⟨hw, hh, rfl, .inr ht⟩
        ·cases hd
      ·rename_i hh
       split at hd
       ·rename_i v1 hp1
        cases hd
        exact .inr (.inl ⟨hw, rfl, hh, .inl hp1⟩)
       ·rename_i hp0
        split at hd
        ·rename_i v1 hr1
         cases hd
         exact .inr (.inl ⟨hw, rfl, hh, .inr ⟨hp0, hr1⟩⟩)
        ·rename_i hr0
         split at hd
         ·rename_i ob mk ha
          cases hd
          exact .inr (.inr ⟨ob, hw, hh, hp0, hr0, mk, ha, rfl, rfl⟩)
         ·cases hd
     ·cases h
end tr
def Match (ops : Array Oper) (ord : List Nat) (E : Nat → Prop) (d q : Nat) : Prop := ∀ (q' i : Nat) (o : Oper), ord[q']? = some i → ops[i]? = some o → o.dst = some d → (E i ↔ q' < q)
structure Inv (P : Program) (ops : Array Oper) (ms ord : List Nat) (bs : Nat) (S : Nat → St) (J0 : Nat → Loc) (μ0 : Mem) (w0 : World) (rd : Option Nat) (r0 : Rg) (E : Nat → Prop) (J : Nat → Loc) (a : Act) (w : World) (p : Nat) : Prop where
 hp : p ≤ ops.size
 down : ∀ i j, i < ops.size → bef ms i j = true → E j → E i
 before : ∀ (q i : Nat), q < p → ord[q]? = some i → E i
 later : ∀ (q i : Nat), p ≤ q → ord[q]? = some i → (S (q + 1)).2.2 = (i, (S (q + 1)).2.1) :: (S q).2.2 → ¬ E i
 last : p = 0 ∨ ∃ i, ord[p - 1]? = some i ∧ (S p).2.2 = (i, (S p).2.1) :: (S (p - 1)).2.2
 rel : Rel J (S p).2.1 w
 base : Base P J
 step : Step J0 μ0 w0 J (S p).2.1 w
 al : ∀ (q i : Nat) (o : Oper) (v : Value) (ob : Ob), p ≤ q → ord[q]? = some i → ops[i]? = some o → E i → jdf P ops ms bs i o v ob (S q) (S (q + 1)) → ∃ b s, J (bs + i) = .at b s ∧ ObRel J w b s ob
 un : ∀ (q i : Nat), p ≤ q → ord[q]? = some i → ¬ E i → J (bs + i) = .unborn
 gon : ∀ (q i : Nat), p ≤ q → ord[q]? = some i → gone (S p).2.1 (bs + i)
 next : bs + ops.size ≤ (S p).2.1.next
 size : a.tmps.size = r0.n
 marks : Marks J r0.ds a.defers
 rdr : RdRel J r0.rd rd
 regs : ∀ d q, q ≤ ops.size → Match ops ord E d q → VRel J (jah (S q).1.tm d) (a.tmps.getD d undef)
section inv
variable {X : XT} {callF : XT} {roundF : NT} {ops : Array Oper} {ms ord : List Nat} {x0 : Option (Nat × Nat)} {bs : Nat} {S : Nat → St} {J0 : Nat → Loc} {μ0 : Mem} {w0 : World} {rd : Option Nat} {r0 : Rg} {E : Nat → Prop} {J : Nat → Loc} {a : Act} {w : World} {p : Nat}
theorem jbS (D : DOk ops.toList ms ord x0) {q q' i : Nat} (h : ord[q]? = some i) (h' : ord[q']? = some i) : q = q' := by
 have h1 := (List.getElem?_eq_some_iff.1 h).1
 exact (List.getElem?_inj h1 D.nd).1 (h.trans h'.symm)
theorem jgg (D : DOk ops.toList ms ord x0) {q : Nat} (h : q < ops.size) : ∃ i, ord[q]? = some i ∧ i < ops.size := by
 have hl := D.len
 simp at hl
 have h1 : q < ord.length := by omega
 refine ⟨ord[q], rzK h1, ?_⟩
 have := D.lt ord[q] (List.getElem_mem h1)
 simpa using this
theorem jd3 (D : DOk ops.toList ms ord x0) {q i : Nat} (h : ord[q]? = some i) : q < ops.size := by
 have h1 := (List.getElem?_eq_some_iff.1 h).1
 have hl := D.len
 simp at hl
 omega
theorem jdk (D : DOk ops.toList ms ord x0) {i : Nat} (h : i < ops.size) : ∃ q : Nat, ord[q]? = some i := by
 have := D.all i (by simpa using h)
 obtain ⟨q, hq, e⟩ := List.getElem_of_mem this
 exact ⟨q, by rw [rzK hq, e]⟩
theorem jes (D : DOk ops.toList ms ord x0) (T : ∀ (q i : Nat), ord[q]? = some i → jcj P X callF roundF ops.toList ms bs i (S q) = some (S (q + 1))) : ∀ q, q ≤ ops.size → (S q).1.n = (S 0).1.n ∧ (S q).1.ds = (S 0).1.ds ∧ (S q).1.rd = (S 0).1.rd := by
 intro q
 induction q with
 | zero => intro _; exact ⟨rfl, rfl, rfl⟩
 | succ q ih =>
   intro hq
   obtain ⟨i, hi, _⟩ := jgg D (show q < ops.size by omega)
   obtain ⟨o, v, _, hp, _⟩ := jbR (T q i hi)
   obtain ⟨h1, h2, h3, _⟩ := jfF hp
   obtain ⟨g1, g2, g3⟩ := ih (by omega)
   exact ⟨h1.trans g1, h2.trans g2, h3.trans g3⟩
theorem je2 (D : DOk ops.toList ms ord x0) (T : ∀ (q i : Nat), ord[q]? = some i → jcj P X callF roundF ops.toList ms bs i (S q) = some (S (q + 1))) {d q1 : Nat} : ∀ q2, q1 ≤ q2 → q2 ≤ ops.size → (∀ (q i : Nat) (o : Oper), q1 ≤ q → q < q2 → ord[q]? = some i → ops[i]? = some o → o.dst ≠ some d) → jah (S q2).1.tm d = jah (S q1).1.tm d := by
 intro q2 h
 induction q2 with
 | zero => intro _ _; have : q1 = 0 := by omega
           subst this; rfl
 | succ q2 ih =>
   intro hq hno
   by_cases he : q1 = q2 + 1
   ·rw [he]
   ·obtain ⟨i, hi, _⟩ := jgg D (show q2 < ops.size by omega)
    obtain ⟨o, v, ho, hp, _⟩ := jbR (T q2 i hi)
    obtain ⟨_, _, _, h4⟩ := jfF hp
    rcases h4 d with ⟨e, _⟩ | ⟨_, e⟩
    ·exact absurd e (hno q2 i o (by omega) (by omega) hi ho)
    ·rw [e]
     exact ih (by omega) (by omega) fun q i o h1 h2 => hno q i o h1 (by omega)
theorem Inv.slot (D : DOk ops.toList ms ord x0) (I : Inv P ops ms ord bs S J0 μ0 w0 rd r0 E J a w p) {q i : Nat} {o : Oper} (hi : ord[q]? = some i) (ho : ops[i]? = some o) (hE : ¬ E i) (hpre : ∀ k, k < ops.size → bef ms k i = true → E k)
  {d : Nat} (hd : d ∈ tmpsOf ops.toList o) : VRel J (jah (S q).1.tm d) (a.tmps.getD d undef) := by
 refine I.regs d q (Nat.le_of_lt (jd3 D hi)) fun q' i' o' hi' ho' hd' => ?_
 have ho1 : ops.toList[i]? = some o := by simpa using ho
 have ho2 : ops.toList[i']? = some o' := by simpa using ho'
 have hlt' : i' < ops.size := (Array.getElem?_eq_some_iff.1 ho').1
 have hlt : i < ops.size := (Array.getElem?_eq_some_iff.1 ho).1
 rcases D.slots i' o' d ho2 hd' i o ho1 hd with e | e | e
 ·subst e
  have := jbS D hi hi'
  subst this
  exact ⟨fun h => absurd h hE, fun h => absurd h (Nat.lt_irrefl _)⟩
 ·obtain ⟨k, hk, hk2⟩ := D.pre q i hi i' (by simpa using hlt') e
  have := jbS D hk2 hi'
  subst this
  exact ⟨fun _ => hk, fun _ => hpre i' hlt' e⟩
 ·obtain ⟨k, hk, hk2⟩ := D.pre q' i' hi' i (by simpa using hlt) e
  have := jbS D hk2 hi
  subst this
  refine ⟨fun h => absurd (I.down i i' hlt e h) hE, fun h => by omega⟩
theorem Inv.operand (D : DOk ops.toList ms ord x0) (I : Inv P ops ms ord bs S J0 μ0 w0 rd r0 E J a w p) {q i : Nat} {o : Oper} (hi : ord[q]? = some i) (ho : ops[i]? = some o) (hE : ¬ E i) (hpre : ∀ k, k < ops.size → bef ms k i = true → E k) :
  ∀ x ∈ o.op.operands, VRel J (aev P (S q).1 x) (a.eval x) := fun x hx => jgR I.base fun d e => I.slot D hi ho hE hpre (by
 subst e
 unfold tmpsOf
 simp only [List.mem_append, List.mem_filterMap]
 exact .inl (.inl ⟨.tmp d, by simpa using hx, rfl⟩))
theorem Inv.wanted (D : DOk ops.toList ms ord x0) (T : ∀ (q i : Nat), ord[q]? = some i → jcj P X callF roundF ops.toList ms bs i (S q) = some (S (q + 1))) (I : Inv P ops ms ord bs S J0 μ0 w0 rd r0 E J a w p) (h0 : (S 0).1 = r0) {q i : Nat} {o : Oper} {b : Bool} (hi : ord[q]? = some i) (ho : ops[i]? = some o) (hE : ¬ E i) (hpre : ∀ k, k < ops.size → bef ms k i = true → E k)
  (hw : jca ops.toList (S q).1 o = some b) : Region.wanted o (yielded ops a.tmps) = b := by
 refine jei ?_ (fun j w oj d hg hj hd => I.slot D hi ho hE hpre ?_) hw
 ·rw [I.size, (jes D T q (Nat.le_of_lt (jd3 D hi))).1, h0]
 ·unfold tmpsOf
  simp only [List.mem_append]
  refine .inl (.inr ?_)
  rw [hg]
  simp only
  rw [Array.getElem?_toList, hj]
  simp [hd]
theorem Inv.regs_step (D : DOk ops.toList ms ord x0) (T : ∀ (q i : Nat), ord[q]? = some i → jcj P X callF roundF ops.toList ms bs i (S q) = some (S (q + 1))) (I : Inv P ops ms ord bs S J0 μ0 w0 rd r0 E J a w p) (h0 : (S 0).1 = r0) {q i : Nat} {o : Oper} {v v' : Value} {J' : Nat → Loc} (hi : ord[q]? = some i) (ho : ops[i]? = some o) (hE : ¬ E i)
  (hpre : ∀ k, k < ops.size → bef ms k i = true → E k) (hput : aput (S q).1 o.dst v = some (S (q + 1)).1) (hx : Ext J J') (hv : VRel J' v v') :
  (a.put o.dst v').tmps.size = r0.n ∧ (a.put o.dst v').defers = a.defers ∧
  ∀ d q1, q1 ≤ ops.size → Match ops ord (fun j => E j ∨ j = i) d q1 → VRel J' (jah (S q1).1.tm d) ((a.put o.dst v').tmps.getD d undef) := by
 have hs : a.tmps.size = (S q).1.n := by rw [I.size, (jes D T q (Nat.le_of_lt (jd3 D hi))).1, h0]
 obtain ⟨g1, g2, _, _, g5, g6⟩ := put_rel (v' := v') hs hput
 refine ⟨by rw [g1, g2, (jes D T q (Nat.le_of_lt (jd3 D hi))).1, h0], g5, fun d q1 hq1 hm => ?_⟩
 rcases g6 d with ⟨e1, e2, e3⟩ | ⟨e1, e2, e3⟩
 ·rw [e3]
  have hlt : q < q1 := (hm q i o hi ho e1).1 (.inr rfl)
  rw [je2 D T (q1 := q + 1) q1 hlt hq1 ?_, e2]
  ·exact hv
  ·intro q2 i2 o2 hq2 hq3 hi2 ho2 hd2
   have hlt2 : i2 < ops.size := (Array.getElem?_eq_some_iff.1 ho2).1
   have hlti : i < ops.size := (Array.getElem?_eq_some_iff.1 ho).1
   have hne : i2 ≠ i := fun e => by
    subst e
    have := jbS D hi hi2
    omega
   have hE2 : E i2 := ((hm q2 i2 o2 hi2 ho2 hd2).2 hq3).resolve_right hne
   have hd1 : d ∈ tmpsOf ops.toList o2 := by
    unfold tmpsOf
    simp only [List.mem_append]
    exact .inr (by simp [hd2])
   rcases D.slots i o d (by simpa using ho) e1 i2 o2 (by simpa using ho2) hd1 with e | e | e
   ·exact hne e.symm
   ·exact hE (I.down i i2 hlti e hE2)
   ·obtain ⟨k, hk, hk2⟩ := D.pre q i hi i2 (by simpa using hlt2) e
    have := jbS D hk2 hi2
    omega
 ·rw [e3]
  refine (I.regs d q1 hq1 fun q' i' o' hi' ho' hd' => ?_).mono hx
  rw [← hm q' i' o' hi' ho' hd']
  have : i' ≠ i := fun e => by subst e; rw [ho] at ho'; cases ho'; exact e1 hd'
  simp [this]
end inv
end
noncomputable section
variable {P : Program}
section inv
variable {X : XT} {callF : XT} {roundF : NT} {ops : Array Oper} {ms ord : List Nat} {x0 : Option (Nat × Nat)} {bs : Nat} {S : Nat → St} {J0 : Nat → Loc} {μ0 : Mem} {w0 : World} {rd : Option Nat} {r0 : Rg} {E : Nat → Prop} {J : Nat → Loc} {a : Act} {w : World} {p : Nat}
theorem cons_ne {α : Type} {x : α} {l : List α} : l ≠ x :: l := fun h => by
 have := congrArg List.length h
 simp at this
theorem snaps {o : Oper} {i : Nat} {v : Value} {s s' : St} (h : Skips ops o v s s' ∨ Turnt P X callF roundF ops i o v s s' ∨ Yieldt P ops ms i o v s s' ∨ ∃ ob, jdf P ops ms bs i o v ob s s') :
  s'.2.2 = (i, s'.2.1) :: s.2.2 ∨ s'.2.2 = s.2.2 := by
 rcases h with ⟨_, _, h⟩ | ⟨_, _, h, _⟩ | ⟨_, h, _⟩ | ⟨ob, _, _, _, _, mk, _, _, h⟩
 ·exact .inr (by rw [h])
 ·exact .inl h
 ·exact .inr (by rw [h])
 ·exact .inr (by rw [h])
theorem jjp (D : DOk ops.toList ms ord x0) (T : ∀ (q i : Nat), ord[q]? = some i → jcj P X callF roundF ops.toList ms bs i (S q) = some (S (q + 1))) {m0 : Nat × Mem} (hS0 : (S 0).2 = (m0.2, [m0])) {ρ : Operand → Value} {o : Oper} {i p : Nat} (hlast : p = 0 ∨ ∃ i, ord[p - 1]? = some i ∧ (S p).2.2 = (i, (S p).2.1) :: (S (p - 1)).2.2) :
  ∀ (k : Nat) (v : Value), p + k ≤ ops.size → (∀ (q h : Nat), p ≤ q → q < p + k → ord[q]? = some h → (S (q + 1)).2.2 = (h, (S (q + 1)).2.1) :: (S q).2.2 → bef ms h i = false) →
   jbg P ρ o ms i (S (p + k)).2.2 = some v → aR P (S p).2.1 ρ o = some v := by
 intro k
 induction k with
 | zero =>
   intro v _ _ h
   have hh : ∃ x l, (S p).2.2 = (x, (S p).2.1) :: l := by
    rcases hlast with e | ⟨j, _, e⟩
    ·subst e; exact ⟨m0.1, [], by rw [hS0]⟩
    ·exact ⟨j, _, e⟩
   obtain ⟨x, l, e⟩ := hh
   simp only [Nat.add_zero, e, jbg] at h
   split at h
   ·cases h
   ·rename_i v1 hv1
    split at h
    ·cases h; exact hv1
    ·split at h
     ·cases h; exact hv1
     ·split at h
      ·cases h
      ·split at h
       ·cases h; exact hv1
       ·cases h
 | succ k ih =>
   intro v hk hno h
   obtain ⟨j, hj, _⟩ := jgg D (show p + k < ops.size by omega)
   obtain ⟨o', v', _, _, hkind⟩ := jbR (T (p + k) j hj)
   rcases snaps hkind with e | e
   ·have hb := hno (p + k) j (by omega) (by omega) hj e
    rw [show p + (k + 1) = p + k + 1 from rfl, e] at h
    simp only [jbg] at h
    split at h
    ·cases h
    ·rename_i v1 hv1
     have hne : (S (p + k)).2.2 ≠ [] := by
      have : ∀ q, q ≤ ops.size → (S q).2.2 ≠ [] := by
       intro q
       induction q with
       | zero => intro _; rw [hS0]; simp
       | succ q ihq =>
         intro hq
         obtain ⟨j2, hj2, _⟩ := jgg D (show q < ops.size by omega)
         obtain ⟨_, _, _, _, hk2⟩ := jbR (T q j2 hj2)
         rcases snaps hk2 with e2 | e2
         ·rw [e2]; simp
         ·rw [e2]; exact ihq (by omega)
      exact this _ (by omega)
     split at h
     ·rename_i e2; exact absurd e2 hne
     ·rw [hb] at h
      simp only at h
      split at h
      ·cases h
      ·rename_i v2 hv2
       split at h
       ·rename_i hq
        cases h
        rw [jjO hq]
        exact ih v2 (by omega) (fun q h' h1 h2 => hno q h' h1 (by omega)) hv2
       ·cases h
   ·rw [show p + (k + 1) = p + k + 1 from rfl, e] at h
    exact ih v (by omega) (fun q h' h1 h2 => hno q h' h1 (by omega)) h
theorem Inv.adv (D : DOk ops.toList ms ord x0) (T : ∀ (q i : Nat), ord[q]? = some i → jcj P X callF roundF ops.toList ms bs i (S q) = some (S (q + 1))) (I : Inv P ops ms ord bs S J0 μ0 w0 rd r0 E J a w p) (hbs : μ0.next ≤ bs) : ∀ k, p + k ≤ ops.size → (∀ (q i : Nat), p ≤ q → q < p + k → ord[q]? = some i → E i) →
  Rel J (S (p + k)).2.1 w ∧ Step J0 μ0 w0 J (S (p + k)).2.1 w ∧ (S (p + k)).2.1.next = (S p).2.1.next ∧ ∀ (q i : Nat), p + k ≤ q → ord[q]? = some i → gone (S (p + k)).2.1 (bs + i) := by
 intro k
 induction k with
 | zero => intro _ _; exact ⟨I.rel, I.step, rfl, fun q i h hi => I.gon q i h hi⟩
 | succ k ih =>
   intro hk hall
   obtain ⟨g1, g2, g3, g4⟩ := ih (by omega) fun q i h1 h2 => hall q i h1 (by omega)
   obtain ⟨j, hj, hlt⟩ := jgg D (show p + k < ops.size by omega)
   obtain ⟨o, v, ho, _, hkind⟩ := jbR (T (p + k) j hj)
   have hE := hall (p + k) j (by omega) (by omega) hj
   rw [show p + (k + 1) = p + k + 1 from rfl]
   rcases hkind with ⟨_, _, h⟩ | ⟨_, _, h, _⟩ | ⟨_, h, _⟩ | ⟨ob, hm⟩
   ·rw [h]; exact ⟨g1, g2, g3, fun q i h1 hi => g4 q i (by omega) hi⟩
   ·exact absurd hE (I.later (p + k) j (by omega) hj h)
   ·rw [h]; exact ⟨g1, g2, g3, fun q i h1 hi => g4 q i (by omega) hi⟩
   ·obtain ⟨b, s, hb, hob⟩ := I.al (p + k) j o v ob (by omega) hj ho hE hm
    obtain ⟨_, _, _, _, mk, _, _, h⟩ := hm
    rw [h]
    refine ⟨⟨g1.inj, g1.bnd, g1.fresh, fun x o' hx hd => ?_⟩, ⟨g2.at_, g2.dead, g2.unborn, g2.born, g2.next, fun x hx hg o' ho' => ?_, g2.size, g2.frame, g2.os, g2.tape, g2.output⟩, g3, fun q i h1 hi o' ho' => ?_⟩
    ·simp only [Go.Proofs.YtdmfakpngnlokaaGreatDoor.Ev.T.get_set] at hx
     by_cases hxe : x = bs + j
     ·rw [if_pos hxe] at hx
      cases hx
      subst hxe
      exact ⟨b, s, hb, hob⟩
     ·rw [if_neg hxe] at hx
      exact g1.obj x o' hx hd
    ·simp only [Go.Proofs.YtdmfakpngnlokaaGreatDoor.Ev.T.get_set] at ho'
     rw [if_neg (by omega)] at ho'
     exact g2.gone_ x hx hg o' ho'
    ·simp only [Go.Proofs.YtdmfakpngnlokaaGreatDoor.Ev.T.get_set] at ho'
     have hne : i ≠ j := fun e => by
      subst e
      have := jbS D hi hj
      omega
     rw [if_neg (by omega)] at ho'
     exact g4 q i (by omega) hi o' ho'
def more (E : Nat → Prop) (i : Nat) : Nat → Prop := fun j => E j ∨ j = i
theorem Inv.down_more (I : Inv P ops ms ord bs S J0 μ0 w0 rd r0 E J a w p) {i : Nat} (hpre : ∀ k, k < ops.size → bef ms k i = true → E k) : ∀ k j, k < ops.size → bef ms k j = true → more E i j → more E i k := by
 intro k j hk hb hj
 rcases hj with hj | rfl
 ·exact .inl (I.down k j hk hb hj)
 ·exact .inl (hpre k hk hb)
theorem Inv.calm (D : DOk ops.toList ms ord x0) (T : ∀ (q i : Nat), ord[q]? = some i → jcj P X callF roundF ops.toList ms bs i (S q) = some (S (q + 1))) (I : Inv P ops ms ord bs S J0 μ0 w0 rd r0 E J a w p) (h0 : (S 0).1 = r0) {q i : Nat} {o : Oper} {v v' : Value} (hi : ord[q]? = some i) (ho : ops[i]? = some o) (hE : ¬ E i)
  (hpre : ∀ k, k < ops.size → bef ms k i = true → E k) (hput : aput (S q).1 o.dst v = some (S (q + 1)).1) (hv : VRel J v v') (hS : (S (q + 1)).2 = (S q).2)
  (hno : ∀ ob v2, ¬ jdf P ops ms bs i o v2 ob (S q) (S (q + 1))) : Inv P ops ms ord bs S J0 μ0 w0 rd r0 (more E i) J (a.put o.dst v') w p := by
 obtain ⟨r1, r2, r3⟩ := I.regs_step D T h0 hi ho hE hpre hput (Ext.refl J) hv
 refine ⟨I.hp, I.down_more hpre, fun q2 j h1 h2 => .inl (I.before q2 j h1 h2), fun q2 j h1 h2 h3 h4 => ?_, I.last, I.rel, I.base, I.step,
  fun q2 j o2 v2 ob h1 h2 h3 h4 h5 => ?_, fun q2 j h1 h2 h3 => I.un q2 j h1 h2 fun h => h3 (.inl h), I.gon, I.next, r1, (by rw [r2]; exact I.marks), I.rdr, r3⟩
 ·rcases h4 with h4 | rfl
  ·exact I.later q2 j h1 h2 h3 h4
  ·have := jbS D hi h2
   subst this
   rw [hS] at h3
   exact cons_ne h3
 ·rcases h4 with h4 | rfl
  ·exact I.al q2 j o2 v2 ob h1 h2 h3 h4 h5
  ·have := jbS D hi h2
   subst this
   rw [ho] at h3
   cases h3
   exact absurd h5 (hno _ _)
theorem Inv.make (D : DOk ops.toList ms ord x0) (T : ∀ (q i : Nat), ord[q]? = some i → jcj P X callF roundF ops.toList ms bs i (S q) = some (S (q + 1))) (I : Inv P ops ms ord bs S J0 μ0 w0 rd r0 E J a w p) (h0 : (S 0).1 = r0) (hbs : μ0.next ≤ bs) (hr0 : Rel J0 μ0 w0) {q i : Nat} {o : Oper} {v : Value} {ob : Ob} (hi : ord[q]? = some i) (ho : ops[i]? = some o) (hE : ¬ E i)
  (hpre : ∀ k, k < ops.size → bef ms k i = true → E k) (hput : aput (S q).1 o.dst v = some (S (q + 1)).1) (hm : jdf P ops ms bs i o v ob (S q) (S (q + 1))) :
  ∃ J' v' w', (o.semAt rd a.eval).run P w = .ok (.value v') w' ∧ Inv P ops ms ord bs S J0 μ0 w0 rd r0 (more E i) J' (a.put o.dst v') w' p := by
 have hpq : p ≤ q := Nat.le_of_not_lt fun h => hE (I.before q i h hi)
 have hiu := I.un q i hpq hi hE
 have hlti : i < ops.size := (Array.getElem?_eq_some_iff.1 ho).1
 obtain ⟨hw, hh, hp0, hr0', mk, ha, hvm, hS⟩ := id hm
 obtain ⟨o', s, v', w', hM⟩ := jj2 (w := w) (I.operand D hi ho hE hpre) ha
 obtain ⟨hV, hR⟩ := hM.step I.rel (i := bs + i) (nx := (S p).2.1.next) hiu (by have := I.next; omega) (Nat.le_refl _)
 have hOb := (hM.rel (upd J (bs + i) (.at w.heap.size s)) (bs + i) (jda _ hiu) (upd_same _ _ _)).2
 have hx : Ext J (upd J (bs + i) (.at w.heap.size s)) := jda _ hiu
 have hheap : ∀ b, b < w.heap.size → w'.heap[b]? = w.heap[b]? := fun b hb => by rw [hM.heap, Array.getElem?_push, if_neg (by omega)]
 have hsz : w'.heap.size = w.heap.size + 1 := by rw [hM.heap]; simp
 obtain ⟨r1, r2, r3⟩ := I.regs_step D T (v' := v') h0 hi ho hE hpre hput hx (by rw [hvm]; exact hV)
 have hJ0 : J0 (bs + i) = .unborn := hr0.fresh _ (by omega)
 refine ⟨_, v', w', by rw [Oper.semAt_eq rd a.eval o (jf7 ha)]; exact hM.run,
  ⟨I.hp, I.down_more hpre, fun q2 j h1 h2 => .inl (I.before q2 j h1 h2), fun q2 j h1 h2 h3 h4 => ?_, I.last, ⟨hR.inj, hR.bnd, hR.fresh, fun x o2 hx2 hd => ?_⟩, I.base.mono hx,
   ⟨fun x b s2 e => ?_, fun x e => ?_, fun x hx2 e => ?_, fun x b s2 e e2 => ?_, I.step.next, I.step.gone_, ?_, fun b hb hall => ?_, hM.os.trans I.step.os, hM.tape.trans I.step.tape, hM.output.trans I.step.output⟩,
   fun q2 j o2 v2 ob2 h1 h2 h3 h4 h5 => ?_, fun q2 j h1 h2 h3 => ?_, I.gon, I.next, r1, (by rw [r2]; exact I.marks.mono hx), I.rdr.mono hx, r3⟩⟩
 ·rcases h4 with h4 | rfl
  ·exact I.later q2 j h1 h2 h3 h4
  ·have := jbS D hi h2
   subst this
   rw [hS] at h3
   exact cons_ne h3
 ·by_cases hxe : x = bs + i
  ·subst hxe
   exact absurd (I.gon q i hpq hi o2 hx2) hd
  ·exact hR.obj x o2 (by simp only [Go.Proofs.YtdmfakpngnlokaaGreatDoor.Ev.T.get_set]; rw [if_neg hxe]; exact hx2) hd
 ·rcases I.step.at_ x b s2 e with e1 | ⟨e1, e2⟩
  ·rcases hx.at_ x b s2 e1 with e3 | e3
   ·exact .inl e3
   ·exfalso
    by_cases hxe : x = bs + i
    ·subst hxe; rw [hiu] at e1; cases e1
    ·rw [jav hxe, e1] at e3; cases e3
  ·exact .inr ⟨hx.dead _ e1, e2⟩
 ·exact hx.dead _ (I.step.dead x e)
 ·rw [jav (by omega)]; exact I.step.unborn x hx2 e
 ·by_cases hxe : x = bs + i
  ·subst hxe
   rw [upd_same] at e2
   cases e2
   exact .inl I.step.size
  ·rw [jav hxe] at e2
   exact I.step.born x b s2 e e2
 ·rw [hsz]; exact Nat.le_succ_of_le I.step.size
 ·rw [hheap b (Nat.lt_of_lt_of_le hb I.step.size)]
  exact I.step.frame b hb hall
 ·rcases h4 with h4 | rfl
  ·obtain ⟨b, s2, e1, e2⟩ := I.al q2 j o2 v2 ob2 h1 h2 h3 h4 h5
   have hne : bs + j ≠ bs + i := fun e => hE (by have : j = i := by omega
                                                 rw [← this]; exact h4)
   exact ⟨b, s2, by rw [jav hne]; exact e1, e2.keep hx (hheap b (I.rel.bnd _ _ _ e1))⟩
  ·have := jbS D hi h2
   subst this
   rw [ho] at h3
   cases h3
   obtain ⟨_, _, _, _, mk2, ha2, _, _⟩ := h5
   rw [ha] at ha2
   cases ha2
   exact ⟨_, _, upd_same _ _ _, hOb⟩
 ·have hne : bs + j ≠ bs + i := fun e => h3 (.inr (by omega))
  rw [jav hne]
  exact I.un q2 j h1 h2 fun h => h3 (.inl h)
theorem Inv.turn (D : DOk ops.toList ms ord x0) (T : ∀ (q i : Nat), ord[q]? = some i → jcj P X callF roundF ops.toList ms bs i (S q) = some (S (q + 1))) (I : Inv P ops ms ord bs S J0 μ0 w0 rd r0 E J a w p) (h0 : (S 0).1 = r0) (hbs : μ0.next ≤ bs) (hr0 : Rel J0 μ0 w0) {q i : Nat} {o : Oper} {v : Value} (hi : ord[q]? = some i) (ho : ops[i]? = some o) (hE : ¬ E i)
  (hpre : ∀ k, k < ops.size → bef ms k i = true → E k) (hput : aput (S q).1 o.dst v = some (S (q + 1)).1) (hm : Turnt P X callF roundF ops i o v (S q) (S (q + 1))) :
  Rel J (S q).2.1 w ∧ ∀ J' v' w', VRel J' v v' → Rel J' (S (q + 1)).2.1 w' → Step J (S q).2.1 w J' (S (q + 1)).2.1 w' → Inv P ops ms ord bs S J0 μ0 w0 rd r0 (more E i) J' (a.put o.dst v') w' (q + 1) := by
 have hpq : p ≤ q := Nat.le_of_not_lt fun h => hE (I.before q i h hi)
 have hq := jd3 D hi
 obtain ⟨hw, hh, hSn, hex⟩ := hm
 have hallE : ∀ (q2 j : Nat), q2 < q → ord[q2]? = some j → E j := fun q2 j h1 h2 => by
  have := D.hvy q i o hi (by simpa using ho) hh q2 j h1 h2
  have hj := D.lt j (List.mem_of_getElem? h2)
  exact hpre j (by simpa using hj) this
 obtain ⟨g1, g2, g3, g4⟩ := I.adv D T hbs (q - p) (by omega) fun q2 j h1 h2 h3 => hallE q2 j (by omega) h3
 rw [show p + (q - p) = q by omega] at g1 g2 g3 g4
 refine ⟨g1, fun J' v' w' hv hr hs => ?_⟩
 have hx := hs.ext
 obtain ⟨r1, r2, r3⟩ := I.regs_step D T (v' := v') h0 hi ho hE hpre hput hx hv
 have hnx : ∀ j, j < ops.size → bs + j < (S q).2.1.next := fun j hj => by have := I.next; rw [g3]; omega
 refine ⟨hq, I.down_more hpre, fun q2 j h1 h2 => ?_, fun q2 j h1 h2 h3 h4 => ?_, .inr ⟨i, by simpa using hi, by simpa using hSn⟩, hr, I.base.mono hx, g2.trans hr0 hs,
  fun q2 j o2 v2 ob h1 h2 h3 h4 h5 => ?_, fun q2 j h1 h2 h3 => ?_, fun q2 j h1 h2 => ?_, ?_, r1, (by rw [r2]; exact I.marks.mono hx), I.rdr.mono hx, r3⟩
 ·by_cases e : q2 = q
  ·subst e; rw [hi] at h2; cases h2; exact .inr rfl
  ·exact .inl (hallE q2 j (by omega) h2)
 ·rcases h4 with h4 | rfl
  ·exact I.later q2 j (by omega) h2 h3 h4
  ·have := jbS D hi h2
   omega
 ·rcases h4 with h4 | rfl
  ·obtain ⟨b, s, e1, e2⟩ := I.al q2 j o2 v2 ob (by omega) h2 h3 h4 h5
   have hg := g4 q2 j (by omega) h2
   rcases hs.at_ _ _ _ e1 with e3 | ⟨_, e3⟩
   ·refine ⟨b, s, e3, e2.keep hx (hs.frame b (I.rel.bnd _ _ _ e1) fun i3 s3 e4 => ?_)⟩
    rw [I.rel.inj _ _ _ _ _ e4 e1]
    exact hg
   ·exact absurd hg e3
  ·have := jbS D hi h2
   omega
 ·have hj : j < ops.size := by have := D.lt j (List.mem_of_getElem? h2); simpa using this
  exact hs.unborn _ (hnx j hj) (I.un q2 j (by omega) h2 fun h => h3 (.inl h))
 ·have hj : j < ops.size := by have := D.lt j (List.mem_of_getElem? h2); simpa using this
  exact hs.gone_ _ (hnx j hj) (g4 q2 j (by omega) h2)
 ·have := hs.next
  have := I.next
  omega
end inv
end
noncomputable section
variable {P : Program}
section dr
variable {X : XT} {callF : XT} {roundF : NT} {ops : Array Oper} {ms ord : List Nat} {x0 : Option (Nat × Nat)} {bs : Nat} {S : Nat → St} {J0 : Nat → Loc} {μ0 : Mem} {w0 : World} {rd : Option Nat} {r0 : Rg}
theorem jdG {o : Oper} {i : Nat} {s s' : St} {v : Value} (h : Skips ops o v s s') : ∀ ob v2, ¬ jdf P ops ms bs i o v2 ob s s' := fun ob v2 hm => by
 have := h.1.symm.trans hm.1
 cases this
theorem jdm {o : Oper} {i : Nat} {s s' : St} {v : Value} (h : Yieldt P ops ms i o v s s') : ∀ ob v2, ¬ jdf P ops ms bs i o v2 ob s s' := fun ob v2 hm => by
 rcases h.2.2.2 with h | ⟨_, h⟩
 ·have := h.symm.trans hm.2.2.1; cases this
 ·have := h.symm.trans hm.2.2.2.1; cases this
theorem jgw (hN : jcQ P) (hX : XOk P X) (hF : jeh P callF) (hR : jck P roundF) (D : DOk ops.toList ms ord x0) (T : ∀ (q i : Nat), ord[q]? = some i → jcj P X callF roundF ops.toList ms bs i (S q) = some (S (q + 1))) {m0 : Nat × Mem} (hS0 : (S 0).2 = (m0.2, [m0])) {E : Nat → Prop} {J : Nat → Loc} {a : Act} {w : World} {p : Nat} (I : Inv P ops ms ord bs S J0 μ0 w0 rd r0 E J a w p) (h0 : (S 0).1 = r0) (hbs : μ0.next ≤ bs) (hr0 : Rel J0 μ0 w0)
  {n : Nat} {Q : Exit → Act → World → Prop} {K : Act → World → Prop} {q i : Nat} (hi : ord[q]? = some i) (hE : ¬ E i) (hpre : ∀ k, k < ops.size → bef ms k i = true → E k)
  (hK : ∀ J' a' w' p', Inv P ops ms ord bs S J0 μ0 w0 rd r0 (more E i) J' a' w' p' → K a' w') : wpOpIn (fen rd) n P ops Q i K a w := by
 obtain ⟨o, v, ho, hput, hkind⟩ := jbR (T q i hi)
 have hpq : p ≤ q := Nat.le_of_not_lt fun h => hE (I.before q i h hi)
 unfold wpOpIn
 rw [ho]
 dsimp only
 rcases hkind with h | h | h | ⟨ob, h⟩
 ·rw [I.wanted D T h0 hi ho hE hpre h.1]
  simp only [Bool.false_eq_true, if_false]
  refine ⟨fun _ _ => trivial, hK J _ w p ?_⟩
  have hv : v = undef := h.2.1
  rw [hv] at hput
  exact I.calm D T h0 hi ho hE hpre hput jcd h.2.2 (jdG h)
 ·rw [I.wanted D T h0 hi ho hE hpre h.1]
  simp only [if_true]
  refine ⟨fun _ _ => trivial, ?_⟩
  obtain ⟨hrel, hnext⟩ := I.turn D T h0 hbs hr0 hi ho hE hpre hput h
  have hρ := I.operand D hi ho hE hpre
  have hfine : Fine P rd J (S q).2.1 w v (S (q + 1)).2.1 ((o.semAt rd a.eval).run P w) := by
   rcases h.2.2.2 with ht | hc
   ·exact aT_fine hρ hrel ht
   ·exact aC_fine hN hX hF hR hρ hrel I.base hc
  exact hfine n o a K Q fun J' v' w' h1 h2 h3 => hK J' _ w' _ (hnext J' v' w' h1 h2 h3)
 ·rw [I.wanted D T h0 hi ho hE hpre h.1]
  simp only [if_true]
  refine ⟨fun _ _ => trivial, ?_⟩
  have hρ := I.operand D hi ho hE hpre
  have hval : ∃ v', VRel J v v' ∧ (o.semAt rd a.eval).run P w = .ok (.value v') w := by
   rcases h.2.2.2 with hp | ⟨_, hrd⟩
   ·exact ji5 hρ I.base.stop hp
   ·have hq := jd3 D hi
    have := jjp D T hS0 (ρ := aev P (S q).1) (o := o) (i := i) I.last (q - p) v (by omega) (fun q2 h2 g1 g2 g3 g4 => ?_) (by rw [show p + (q - p) = q by omega]; exact hrd)
    ·exact ji3 hρ I.rel this
    ·have hne := I.later q2 h2 g1 g3 g4
     have hlt : h2 < ops.size := by have := D.lt h2 (List.mem_of_getElem? g3); simpa using this
     cases hb : bef ms h2 i with
     | false => rfl
     | true => exact absurd (hpre h2 hlt hb) hne
  obtain ⟨v', hv, hrun⟩ := hval
  have : (o.semAt (fen rd).round a.eval).run P w = .ok (.value v') w := hrun
  rw [this]
  exact hK J _ w p (I.calm D T h0 hi ho hE hpre hput hv h.2.1 (jdm h))
 ·rw [I.wanted D T h0 hi ho hE hpre h.1]
  simp only [if_true]
  refine ⟨fun _ _ => trivial, ?_⟩
  obtain ⟨J', v', w', hrun, hI⟩ := I.make D T h0 hbs hr0 hi ho hE hpre hput h
  have : (o.semAt (fen rd).round a.eval).run P w = .ok (.value v') w' := hrun
  rw [this]
  exact hK J' _ w' p hI
theorem jbM {l : Array Bool} {i j : Nat} (h : i < l.size) : (l.setIfInBounds i true).getD j false = true ↔ l.getD j false = true ∨ j = i := by
 simp only [Array.getD_eq_getD_getElem?, Array.getElem?_setIfInBounds]
 by_cases e : i = j
 ·subst e; simp [h]
 ·rw [if_neg e]
  exact ⟨.inl, fun h => h.resolve_right fun x => e x.symm⟩
theorem jiU {l : Array Bool} {i : Nat} (h : l.getD i true = false) : (l.setIfInBounds i true).toList.countP id = l.toList.countP id + 1 := by
 have hlt : i < l.size := by
  rcases Nat.lt_or_ge i l.size with h1 | h1
  ·exact h1
  ·simp [Array.getD, Nat.not_lt.2 h1] at h
 have hli : l[i] = false := by simpa [Array.getD, hlt] using h
 rw [Array.toList_setIfInBounds, List.countP_set (by simpa using hlt)]
 simp [hli]
theorem ji0 {l : Array Bool} (h : l.size ≤ l.toList.countP id) {i : Nat} (hi : i < l.size) : l.getD i false = true := by
 have h1 : l.toList.countP id = l.toList.length := Nat.le_antisymm List.countP_le_length (by simpa using h)
 have h2 := List.countP_eq_length.1 h1 l[i] (by simp)
 simpa [Array.getD, hi] using h2
theorem jfG (hN : jcQ P) (hX : XOk P X) (hF : jeh P callF) (hR : jck P roundF) (D : DOk ops.toList ms ord x0) (T : ∀ (q i : Nat), ord[q]? = some i → jcj P X callF roundF ops.toList ms bs i (S q) = some (S (q + 1))) {m0 : Nat × Mem} (hS0 : (S 0).2 = (m0.2, [m0])) (h0 : (S 0).1 = r0) (hbs : μ0.next ≤ bs) (hr0 : Rel J0 μ0 w0) {n : Nat} {Q : Exit → Act → World → Prop}
  (hQ : ∀ J a w, Rel J (S ops.size).2.1 w → RgRel J rd (S ops.size).1 a → Step J0 μ0 w0 J (S ops.size).2.1 w → Q .normal a w) :
  ∀ (fuel : Nat) (listed : Array Bool), listed.size = ops.size → ops.size ≤ fuel + listed.toList.countP id → (∀ b c, x0 = some (b, c) → listed.getD b false = true) → ∀ J a w p, Inv P ops ms ord bs S J0 μ0 w0 rd r0 (fun i => listed.getD i false = true) J a w p →
   wpAnyIn (fen rd) n P .any ops Q fuel listed a w := by
 have hdone : ∀ (listed : Array Bool), (∀ i, i < ops.size → listed.getD i false = true) → ∀ J a w p, Inv P ops ms ord bs S J0 μ0 w0 rd r0 (fun i => listed.getD i false = true) J a w p → Q .normal a w := by
  intro listed hall J a w p I
  obtain ⟨g1, g2, _, _⟩ := I.adv D T hbs (ops.size - p) (by have := I.hp; omega) fun q i _ _ hi => hall i (by have := D.lt i (List.mem_of_getElem? hi); simpa using this)
  rw [show p + (ops.size - p) = ops.size by have := I.hp; omega] at g1 g2
  obtain ⟨k1, k2, k3⟩ := jes D T ops.size (Nat.le_refl _)
  refine hQ J a w g1 ⟨by rw [I.size, k1, h0], fun d => ?_, by rw [k2, h0]; exact I.marks, by rw [k3, h0]; exact I.rdr⟩ g2
  exact I.regs d ops.size (Nat.le_refl _) fun q' i o hi ho hd => ⟨fun _ => jd3 D hi, fun _ => hall i (Array.getElem?_eq_some_iff.1 ho).1⟩
 have hready : ∀ (listed : Array Bool), listed.size = ops.size → ∀ i ∈ Region.ready .any ops listed, (∀ b c, x0 = some (b, c) → listed.getD b false = true) → (∀ i j, i < ops.size → bef ms i j = true → listed.getD j false = true → listed.getD i false = true) →
   ¬ listed.getD i false = true ∧ i < ops.size ∧ ∀ k, k < ops.size → bef ms k i = true → listed.getD k false = true := by
  intro listed hls i hi hxx hdown
  obtain ⟨h1, o, ho, h2⟩ := mem_ready.1 hi
  have hlt : i < ops.size := (Array.getElem?_eq_some_iff.1 ho).1
  refine ⟨fun h => ?_, hlt, fun k hk hb => ?_⟩
  ·have : i < listed.size := by omega
   simp [Array.getD, this] at h h1
   rw [h] at h1; cases h1
  ·rcases D.conv i o (by simpa using ho) k (by simpa using hk) hb with ⟨b, hx1, hx2⟩ | ⟨e, he, hbd, hor⟩
   ·have he' := hxx b i hx1
    rcases hx2 with rfl | hor
    ·exact he'
    ·exact hdown k b hk hor he'
   ·have he' := h2 e he hbd
    rcases hor with rfl | hor
    ·exact he'
    ·exact hdown k e.on hk hor he'
 have hnone : ∀ (listed : Array Bool), listed.size = ops.size → Region.ready .any ops listed = [] → ∀ i, i < ops.size → listed.getD i false = true := by
  intro listed hls hr
  have : ∀ (q i : Nat), ord[q]? = some i → listed.getD i false = true := by
   intro q
   induction q using Nat.strongRecOn with
   | _ q ih =>
     intro i hi
     cases hli : listed.getD i false with
     | true => rfl
     | false =>
       exfalso
       have hlt : i < ops.size := by have := D.lt i (List.mem_of_getElem? hi); simpa using this
       have hm : i ∈ Region.ready .any ops listed := mem_ready.2 ⟨by
         have : i < listed.size := by omega
         simp [Array.getD, this] at hli ⊢
         exact hli, ops[i], rzJ hlt, fun e he hb => by
         have hbf := D.aft i ops[i] (by simp [hlt]) e he hb
         obtain ⟨k, hk, hk2⟩ := D.pre q i hi e.on (D.on i ops[i] (by simp [hlt]) e he hb) hbf
         exact ih k hk e.on hk2⟩
       rw [hr] at hm
       cases hm
  intro i hi
  obtain ⟨q, hq⟩ := jdk D hi
  exact this q i hq
 intro fuel
 induction fuel with
 | zero =>
   intro listed hls hcnt hxx J a w p I
   have hall : ∀ i, i < ops.size → listed.getD i false = true := fun i hi => ji0 (by omega) (by omega)
   refine ⟨?_, hdone listed hall J a w p I⟩
   cases hr : Region.ready .any ops listed with
   | nil => rfl
   | cons i l =>
     obtain ⟨h1, h2, _⟩ := hready listed hls i (by rw [hr]; simp) hxx fun i j hi hb hj => I.down i j hi hb hj
     exact absurd (hall i h2) h1
 | succ fuel ih =>
   intro listed hls hcnt hxx J a w p I
   refine ⟨fun hr => hdone listed (hnone listed hls hr) J a w p I, fun i hi => ?_⟩
   obtain ⟨h1, h2, h3⟩ := hready listed hls i hi hxx fun i j hi hb hj => I.down i j hi hb hj
   obtain ⟨q, hq⟩ := jdk D h2
   have hun : listed.getD i true = false := (mem_ready.1 hi).1
   refine jgw hN hX hF hR D T hS0 I h0 hbs hr0 hq h1 h3 fun J' a' w' p' I' => ih (listed.setIfInBounds i true) (by simpa using hls) ?_ (fun b c e => (jbM (by omega)).2 (.inl (hxx b c e))) J' a' w' p' ?_
   ·rw [jiU hun]; omega
   ·have e : (fun j => (listed.setIfInBounds i true).getD j false = true) = more (fun j => listed.getD j false = true) i := by
     funext j
     exact propext (jbM (by omega))
    rw [e]
    exact I'
end dr
end
noncomputable section
variable {P : Program}
def jeH : Ax → Exit
 | .normal => .normal
 | .exit id => .exit id
 | .ret => .ret
 | .goto l => .goto l
section draw
variable {X : XT} {callF : XT} {roundF : NT}
theorem jkN (hN : jcQ P) (hX : XOk P X) (hF : jeh P callF) (hR : jck P roundF) (hm : P.follows .mixedOrders = true) {id : Nat} {ops : Array Oper} (hd : drawOk ops.toList = true) {r r' : Rg} {μ μ' : Mem} {sn : List (Nat × Mem)}
  (h : jcP P X callF roundF ops.toList (masks ops.toList) μ.next (alap ops.toList) (r, ⟨μ.obs, Nat.add μ.next ops.toList.length⟩, [(ops.toList.length, ⟨μ.obs, Nat.add μ.next ops.toList.length⟩)]) = some (r', μ', sn))
  {J : Nat → Loc} {a : Act} {w : World} {rd : Option Nat} (hr : Rel J μ w) (hB : Base P J) (hg : RgRel J rd r a) {n : Nat} {Q : Exit → Act → World → Prop}
  (hk : ∀ J' a' w', Rel J' μ' w' → RgRel J' rd r' a' → Step J μ w J' μ' w' → Q .normal a' w') : (Code.region id ops true).wpIn (fen rd) n P Q a w := by
 have D := jiP hd
 generalize masks ops.toList = ms at h D
 generalize alap ops.toList = ord at h D
 obtain ⟨S, e0, e1, hT⟩ := jgn ord _ _ h
 have hlen : ord.length = ops.size := by have := D.len; simpa using this
 have hnx : Nat.add μ.next ops.toList.length = μ.next + ops.size := by simp
 rw [hnx] at e0
 have hS0 : (S 0).2 = (((ops.toList.length, (⟨μ.obs, μ.next + ops.size⟩ : Mem)) : Nat × Mem).2, [(ops.toList.length, ⟨μ.obs, μ.next + ops.size⟩)]) := by rw [e0]
 have h0 : (S 0).1 = r := by rw [e0]
 have hM0 : (S 0).2.1 = ⟨μ.obs, μ.next + ops.size⟩ := by rw [e0]
 refine wpIn_region_any hm ?_
 have hr1 : Rel J μ { w with drawn := w.drawn + 1 } := hr.heap rfl
 have hgone : ∀ i, μ.next ≤ i → gone μ i := fun i hi o ho => by
  cases o with
  | dead => rfl
  | _ =>
    obtain ⟨b, s, hb, _⟩ := hr.obj i _ ho (by simp)
    rw [hr.fresh i hi] at hb; cases hb
 have hfalse : ∀ i, (Array.replicate ops.size false).getD i false = true → False := fun i hi => by
  simp only [Array.getD_eq_getD_getElem?, Array.getElem?_replicate] at hi
  split at hi <;> simp at hi
 refine jfG hN hX hF hR D hT hS0 h0 (Nat.le_refl _) hr1 ?_ ops.size (Array.replicate ops.size false) (by simp) (by omega) (fun _ _ e => by cases e) J a _ 0 ?_
 ·intro J2 a2 w2 g1 g2 g3
  rw [hlen] at e1
  rw [e1] at g1 g2 g3
  exact hk J2 a2 w2 g1 g2 ⟨g3.at_, g3.dead, g3.unborn, g3.born, g3.next, g3.gone_, g3.size, g3.frame, g3.os, g3.tape, g3.output⟩
 ·refine ⟨Nat.zero_le _, fun i j _ _ h => absurd h (fun h => hfalse j h), fun q i hq => absurd hq (Nat.not_lt_zero _), fun q i _ _ _ => hfalse i, .inl rfl, ?_, hB, ?_, fun q i o v ob _ _ _ h => absurd h (fun h => hfalse i h), fun q i _ _ _ => hr.fresh _ (by omega), fun q i _ _ => ?_, ?_, hg.size.trans (by rfl), hg.ds, hg.rd, fun d q hq hmt => ?_⟩
  ·rw [hM0]
   exact ⟨hr1.inj, hr1.bnd, fun i hi => hr1.fresh i (Nat.le_trans (Nat.le_add_right _ _) hi), hr1.obj⟩
  ·rw [hM0]
   have := Step.refl J μ ({ w with drawn := w.drawn + 1 } : World)
   exact ⟨this.at_, this.dead, this.unborn, this.born, Nat.le_add_right _ _, this.gone_, this.size, this.frame, rfl, rfl, rfl⟩
  ·rw [hM0]; exact hgone _ (by omega)
  ·rw [hM0]; exact Nat.le_refl _
  ·rw [je2 D hT (q1 := 0) q (Nat.zero_le _) hq (fun q2 i2 o2 _ h2 hi2 ho2 hd2 => hfalse i2 ((hmt q2 i2 o2 hi2 ho2 hd2).2 h2)), h0]
   exact hg.regs d
end draw
def EvOk (P : Program) (ev : ET) : Prop :=
 ∀ c r μ x r' μ', ev c r μ = some (x, r', μ') → ∀ J a w rd n (Q : Exit → Act → World → Prop), Rel J μ w → Base P J → RgRel J rd r a →
  (∀ J' a' w', Rel J' μ' w' → RgRel J' rd r' a' → Step J μ w J' μ' w' → Q (jeH x) a' w') → c.wpIn (fen rd) n P Q a w
theorem jk2 {μ : Mem} {w : World} {J : Nat → Loc} {r : Rg} {tmps : Array Value} (hr : Rel J μ w) (hg : ∀ d, VRel J (jah r.tm d) (tmps.getD d undef)) : ∀ (rs : List ResultVar) (l : List Value), aRes P μ r rs = some l →
  ∃ l', (rs.mapM (fun | .tmp t => pure (tmps.getD t undef) | .cell a t => do loadVar t (← asAddr (tmps.getD a undef))) : Sem (List Value)).run P w = .ok l' w ∧ l.length = l'.length ∧
   ∀ (i : Nat) a b, l[i]? = some a → l'[i]? = some b → VRel J a b := by
 intro rs
 induction rs with
 | nil => intro l h; simp only [aRes] at h; cases h; exact ⟨[], rfl, rfl, fun i a b ha => by simp at ha⟩
 | cons x rs ih =>
   intro l h
   have cons2 : ∀ {v v' : Value} {x : List Value} {x' : List Value}, VRel J v v' → (x.length = x'.length ∧ ∀ (i : Nat) a b, x[i]? = some a → x'[i]? = some b → VRel J a b) →
     ((v :: x).length = (v' :: x').length ∧ ∀ (i : Nat) a b, (v :: x)[i]? = some a → (v' :: x')[i]? = some b → VRel J a b) := fun hv hx =>
    ⟨by simp [hx.1], fun i a b ha hb => by
     match i with
     | 0 => simp at ha hb; subst ha hb; exact hv
     | i + 1 => exact hx.2 i a b (by simpa using ha) (by simpa using hb)⟩
   cases x with
   | tmp t =>
     simp only [aRes] at h
     split at h
     ·rename_i l1 h1
      cases h
      obtain ⟨l', g1, g2⟩ := ih l1 h1
      refine ⟨tmps.getD t undef :: l', ?_, cons2 (hg t) g2⟩
      simp only [List.mapM_cons, rzB, rzC, rzA, g1]
     ·cases h
   | cell a t =>
     simp only [aRes] at h
     split at h
     ·cases h
     ·rename_i v hv
      split at h
      ·rename_i l1 h1
       cases h
       obtain ⟨l', g1, g2⟩ := ih l1 h1
       obtain ⟨ad, x', k1, k2, k3⟩ := jc8 (P := P) hr (hg a) hv
       refine ⟨x' :: l', ?_, cons2 k2 g2⟩
       have k4 : (asAddr (tmps.getD a undef)).run P w = .ok ad w := by rw [k1]; rfl
       simp only [List.mapM_cons, rzB, k4, rzC, rzA, k3, g1]
      ·cases h
theorem jfP {μ : Mem} {w : World} {J : Nat → Loc} {r : Rg} {tmps : Array Value} {fn : Func} {v : Value} (hr : Rel J μ w) (hg : ∀ d, VRel J (jah r.tm d) (tmps.getD d undef)) (h : jcI P μ r fn = some v) :
  ∃ v', (results fn tmps).run P w = .ok v' w ∧ VRel J v v' := by
 unfold jcI at h
 have key : ∀ l, aRes P μ r fn.results.toList = some l → ∃ l' : List Value, (results fn tmps).run P w = .ok (if h : l'.toArray.size = 1 then l'.toArray[0] else .tuple l'.toArray) w ∧ l.length = l'.length ∧
   ∀ (i : Nat) a b, l[i]? = some a → l'[i]? = some b → VRel J a b := by
  intro l hl
  obtain ⟨l', g1, g2⟩ := jk2 (P := P) hr hg _ l hl
  refine ⟨l', ?_, g2⟩
  unfold results
  rw [Array.mapM_eq_mapM_toList, rzB]
  have : (Functor.map List.toArray (fn.results.toList.mapM (fun | .tmp t => pure (tmps.getD t undef) | .cell a t => do loadVar t (← asAddr (tmps.getD a undef)))) : Sem (Array Value)).run P w = .ok l'.toArray w := by
   rw [map_eq_pure_bind]
   simp only [rzB, g1, rzA, rzC]
  erw [this]
  simp only [rzA, rzC]
 split at h
 ·rename_i x hx
  cases h
  obtain ⟨l', g1, g2, g3⟩ := key _ hx
  match l', g2 with
  | [y], _ => exact ⟨y, by rw [g1]; rfl, g3 0 _ _ rfl rfl⟩
 ·rename_i l hno hx
  cases h
  obtain ⟨l', g1, g2, g3⟩ := key _ hx
  have hne : l'.toArray.size ≠ 1 := fun e => by
   match l, hno, g2 with
   | [], _, g2 => simp at g2 e; omega
   | [x], hno, _ => exact absurd rfl (hno x)
   | a :: b :: l, _, g2 => simp at g2 e; omega
  refine ⟨_, g1, ?_⟩
  rw [dif_neg hne]
  exact .tuple (by simpa using g2) (fun i a b ha hb => g3 i a b (by simpa using ha) (by simpa using hb))
 ·cases h
theorem jh5 {rd : Option Nat} {n : Nat} {fn : Func} {tmps : Array Value} {R : Ending → World → Prop} {r : Rg} {v : Value} : ∀ (is : List Nat) (ds : List Deferred) (μ μ' : Mem), jdI μ is = some μ' → jcI P μ' r fn = some v →
  ∀ (J : Nat → Loc) (w : World), Rel J μ w → Marks J is ds → (∀ d, VRel J (jah r.tm d) (tmps.getD d undef)) →
   (∀ J' v' w', VRel J' v v' → Rel J' μ' w' → Step J μ w J' μ' w' → R (.returned v') w') → LeavesInM (fen rd) n P fn tmps R ds .returning w := by
 intro is
 induction is with
 | nil =>
   intro ds μ μ' hm hv J w hr hk hg hR
   cases hk
   simp only [jdI] at hm
   cases hm
   obtain ⟨v', g1, g2⟩ := jfP hr hg hv
   exact ⟨v', g1, hR J v' w g2 hr (Step.refl _ _ _)⟩
 | cons i is ih =>
   intro ds μ μ' hm hv J w hr hk hg hR
   cases hk with
   | cons hb ht =>
   rename_i b ds
   simp only [jdI] at hm
   split at hm
   ·rename_i ho
    obtain ⟨b', s, hb', hob⟩ := hr.obj i _ ho (by simp)
    have hbb : b' = b := by
     rcases hb with ⟨s2, e⟩ | e
     ·rw [e] at hb'; cases hb'; rfl
     ·rw [e] at hb'; cases hb'
    subst hbb
    have hob' : w.heap[b']? = some (.deferred (some [])) := hob
    have htake := run_takeDeferred (P := P) hob'
    have hlt : b' < w.heap.size := (Array.getElem?_eq_some_iff.1 hob').1
    have hsz : (w.putObj b' (.deferred none)).heap.size = w.heap.size := World.putObj_size
    have hoth : ∀ c, c ≠ b' → (w.putObj b' (.deferred none)).heap[c]? = w.heap[c]? := fun c hc => World.putObj_heap_other hc
    have hr2 : Rel J ⟨μ.obs.set i .dead, μ.next⟩ (w.putObj b' (.deferred none)) := hr.update hb' .dead hsz hoth trivial
    have hs2 : Step J μ w J ⟨μ.obs.set i .dead, μ.next⟩ (w.putObj b' (.deferred none)) :=
     Step.update hb' (fun hg => by have := hg _ ho; cases this) .dead hsz hoth rfl rfl rfl
    exact ⟨by simp, .inl ⟨b', _, rfl, htake, ih ds _ μ' hm hv J _ hr2 ht hg fun J' v' w' h1 h2 h3 => hR J' v' w' h1 h2 (hs2.trans hr h3)⟩⟩
   ·cases hm
theorem jhL {ev : ET} (hE : EvOk P ev) : jeh P (aFun P ev) := by
 intro g args μ v μ' h J w args' hr hB ha n R hR
 unfold aFun at h
 split at h
 ·cases h
 ·rename_i fn hfn
  split at h
  ·cases h
  ·rename_i c hc
   split at h
   ·cases h
   ·rename_i hle
    have hle' : args.length ≤ fn.ntmps := rzE hle
    have hsz : args.length = args'.size := by simpa using ha.size
    split at h
    ·cases h
    ·cases h
    ·cases h
    ·rename_i x r μ1 hne hng hev
     split at h
     ·cases h
     ·rename_i μ2 hmk
      split at h
      ·cases h
      ·rename_i v2 hres
       cases h
       refine callsIn_of_wp_marks hfn hc trivial ?_ rfl
       refine hE c _ μ x r μ1 hev J _ w none n _ hr hB ⟨by simp; omega, fun d => ?_, .nil, .none⟩ fun J1 a1 w1 g1 g2 g3 => ?_
       ·simp only [jah, T.get_lay]
        by_cases hd : d < args.length
        ·rw [if_pos ⟨Nat.zero_le _, by omega⟩, Nat.sub_zero, rzK hd]
         have : (args' ++ Array.replicate (fn.ntmps - args'.size) undef).getD d undef = args'[d]'(by omega) := by
          simp only [Array.getD_eq_getD_getElem?, Array.getElem?_append]
          rw [if_pos (by omega), rzJ (by omega)]; rfl
         rw [this]
         exact ha.at_ d _ _ (by simp [hd]) (rzJ (by omega))
        ·rw [if_neg (fun hh => hd (by omega))]
         have : (args' ++ Array.replicate (fn.ntmps - args'.size) undef).getD d undef = undef := by
          simp only [Array.getD_eq_getD_getElem?, Array.getElem?_append]
          rw [if_neg (by omega), Array.getElem?_replicate]
          split <;> rfl
         rw [this]
         exact jcd
       ·have hfin : LeavesInM (fen none) n P fn a1.tmps R a1.defers .returning w1 :=
         jh5 (rd := none) r.ds a1.defers μ1 μ' hmk hres J1 w1 g1 g2.ds g2.regs fun J2 v' w2 k1 k2 k3 => hR J2 v' w2 k1 k2 (g3.trans hr k3)
        cases x with
        | normal => exact hfin
        | ret => exact hfin
        | exit id => exact (hne id rfl).elim
        | goto l => exact (hng l rfl).elim
end
noncomputable section
variable {P : Program}
section pre
variable {X : XT} {callF : XT} {roundF : NT} {ops : List Oper} {bs : Nat}
theorem jee {ms : List Nat} {a b i j : Nat} (h : j ≠ b) : bef (jhB ms a b) i j = bef ms i j := by
 unfold jhB
 split
 ·unfold bef
  rw [List.getElem?_set]
  rw [if_neg (fun e => h e.symm)]
 ·rfl
theorem jh2 {ρ : Operand → Value} {o : Oper} {ms ms' : List Nat} {i : Nat} (h : ∀ k, bef ms k i = bef ms' k i) : ∀ l, jbg P ρ o ms i l = jbg P ρ o ms' i l := by
 intro l
 induction l with
 | nil => rfl
 | cons x l ih =>
   obtain ⟨k, μ⟩ := x
   simp only [jbg, ih, h]
theorem dStep_ms {ms ms' : List Nat} {i : Nat} (h : ∀ k, bef ms k i = bef ms' k i) (s : St) : jcj P X callF roundF ops ms bs i s = jcj P X callF roundF ops ms' bs i s := by
 simp only [jcj, jaV, jh2 h]
def Runs (P : Program) (X : XT) (callF : XT) (roundF : NT)
  (ops : List Oper) (ms : List Nat) (bs : Nat) (l : List Nat) (S : Nat → St) : Prop := ∀ (q i : Nat), l[q]? = some i → jcj P X callF roundF ops ms bs i (S q) = some (S (q + 1))
theorem Runs.append {ms : List Nat} {l1 l2 : List Nat} {S S' : Nat → St} (h1 : Runs P X callF roundF ops ms bs l1 S) (h2 : Runs P X callF roundF ops ms bs l2 S') (h : S' 0 = S l1.length) :
  Runs P X callF roundF ops ms bs (l1 ++ l2) (fun q => if q ≤ l1.length then S q else S' (q - l1.length)) := by
 intro q i hq
 by_cases hlt : q < l1.length
 ·rw [List.getElem?_append_left hlt] at hq
  show jcj P X callF roundF ops ms bs i (if q ≤ l1.length then S q else _) = some (if q + 1 ≤ l1.length then S (q + 1) else _)
  rw [if_pos (by omega), if_pos (by omega)]
  exact h1 q i hq
 ·rw [List.getElem?_append_right (by omega)] at hq
  have := h2 _ i hq
  show jcj P X callF roundF ops ms bs i (if q ≤ l1.length then S q else _) = some (if q + 1 ≤ l1.length then S (q + 1) else _)
  rw [if_neg (show ¬ q + 1 ≤ l1.length by omega)]
  by_cases e : q = l1.length
  ·subst e
   rw [if_pos (Nat.le_refl _), ← h]
   rw [Nat.sub_self] at this
   rw [this, show l1.length + 1 - l1.length = 0 + 1 by omega]
  ·rw [if_neg (by omega), this, show q + 1 - l1.length = q - l1.length + 1 by omega]
theorem tail_step {ms : List Nat} {i : Nat} {o : Oper} {s s' : St} {l : List Nat} (ho : ops[i]? = some o) (ht : jhe P s.1 o = some l) (h : jcj P X callF roundF ops ms bs i s = some s') :
  (∀ j, j ∉ l → s'.2.1.obs.get j = s.2.1.obs.get j) ∧ s'.2.1.next = s.2.1.next ∧ (∀ d, o.dst ≠ some d → jah s'.1.tm d = jah s.1.tm d) ∧ (∀ v ob, ¬ jdf P ops.toArray ms bs i o v ob s s') := by
 have h' : jcj P X callF roundF ops.toArray.toList ms bs i s = some s' := by simpa using h
 obtain ⟨o2, v, ho2, hput, hkind⟩ := jbR h'
 have : o2 = o := by
  have : ops[i]? = some o2 := by simpa using ho2
  rw [ho] at this; cases this; rfl
 subst this
 obtain ⟨_, _, _, hreg⟩ := jfF hput
 have hregs : ∀ d, o2.dst ≠ some d → jah s'.1.tm d = jah s.1.tm d := fun d hd => by
  rcases hreg d with ⟨e, _⟩ | ⟨_, e⟩
  ·exact absurd e hd
  ·exact e
 have hA : ∀ v ob, ¬ jdf P ops.toArray ms bs i o2 v ob s s' := fun v ob hm => by
  obtain ⟨_, hh, _, _, mk, ha, _⟩ := hm
  unfold jhe at ht
  split at ht
  ·rename_i t a x hop
   rw [hop] at hh
   cases hh
  ·rw [hh] at ht
   simp only [ha] at ht
   cases ht
 refine ⟨fun j hj => ?_, ?_, hregs, hA⟩
 ·rcases hkind with ⟨_, _, h2⟩ | ⟨_, hh, _, hex⟩ | ⟨_, h2, _⟩ | ⟨ob, hm⟩
  ·rw [h2]
  ·unfold jhe at ht
   split at ht
   ·rename_i t a x hop
    split at ht
    ·rename_i ad hp
     cases ht
     rcases hex with hex | hex
     ·simp only [aT, hop, jbu, hp] at hex
      split at hex
      ·rename_i i2 of e
       cases e
       split at hex
       ·split at hex <;> first | (cases hex; done) | skip
        split at hex <;> first | (cases hex; done) | skip
        split at hex <;> first | (cases hex; done) | skip
        split at hex <;> first | (cases hex; done) | skip
        split at hex <;> first | (cases hex; done) | skip
        injection hex with hex
        have := congrArg Prod.snd hex
        simp only at this
        rw [← this]
        simp only [Go.Proofs.YtdmfakpngnlokaaGreatDoor.Ev.T.get_set]
        rw [if_neg (fun e => hj (by rw [e]; simp))]
       ·cases hex
      ·cases hex
     ·simp only [jb2, hop] at hex
      cases hex
    ·cases ht
   ·rw [hh] at ht; cases ht
  ·rw [h2]
  ·exact absurd hm (hA v ob)
 ·rcases hkind with ⟨_, _, h2⟩ | ⟨_, hh, _, hex⟩ | ⟨_, h2, _⟩ | ⟨ob, hm⟩
  ·rw [h2]
  ·unfold jhe at ht
   split at ht
   ·rename_i t a x hop
    split at ht
    ·rename_i ad hp
     rcases hex with hex | hex
     ·simp only [aT, hop, jbu, hp] at hex
      split at hex
      ·split at hex
       ·split at hex <;> first | (cases hex; done) | skip
        split at hex <;> first | (cases hex; done) | skip
        split at hex <;> first | (cases hex; done) | skip
        split at hex <;> first | (cases hex; done) | skip
        split at hex <;> first | (cases hex; done) | skip
        injection hex with hex
        have := congrArg Prod.snd hex
        simp only at this
        rw [← this]
       ·cases hex
      ·cases hex
     ·simp only [jb2, hop] at hex
      cases hex
    ·cases ht
   ·rw [hh] at ht; cases ht
  ·rw [h2]
  ·exact absurd hm (hA v ob)
theorem jhd {ms : List Nat} : ∀ (l : List Nat) (s s' : St) (ids ids' : List Nat), jeC P X callF roundF ops ms bs l s ids = some (s', ids') →
  (∀ j, j ∈ ids → j ∈ ids') ∧ (∀ j, j ∉ ids' → s'.2.1.obs.get j = s.2.1.obs.get j) ∧ s'.2.1.next = s.2.1.next ∧
  (∀ d, (∀ i ∈ l, ∀ o, ops[i]? = some o → o.dst ≠ some d) → jah s'.1.tm d = jah s.1.tm d) ∧
  ∃ S : Nat → St, S 0 = s ∧ S l.length = s' ∧ Runs P X callF roundF ops ms bs l S ∧ ∀ (q i : Nat), l[q]? = some i → ∀ o, ops[i]? = some o → ∀ v ob, ¬ jdf P ops.toArray ms bs i o v ob (S q) (S (q + 1)) := by
 intro l
 induction l with
 | nil =>
   intro s s' ids ids' h
   simp only [jeC] at h
   cases h
   exact ⟨fun j h => h, fun j _ => rfl, rfl, fun d _ => rfl, fun _ => s, rfl, rfl, fun q i hq => by simp at hq, fun q i hq => by simp at hq⟩
 | cons i l ih =>
   intro s s' ids ids' h
   simp only [jeC] at h
   split at h
   ·cases h
   ·rename_i o ho
    split at h
    ·cases h
    ·rename_i tl ht
     split at h
     ·cases h
     ·rename_i s1 hs1
      obtain ⟨g1, g2, g3, g4, S, e0, e1, hS, hM⟩ := ih s1 s' _ _ h
      obtain ⟨k1, k2, k3, k4⟩ := tail_step ho ht hs1
      refine ⟨fun j hj => g1 j (by simp [hj]), fun j hj => ?_, g3.trans k2, fun d hd => ?_, fun | 0 => s | q + 1 => S q, rfl, e1, fun q i2 hq => ?_, fun q i2 hq o2 ho2 => ?_⟩
      ·rw [g2 j hj]
       exact k1 j fun hh => hj (g1 j (by simp [hh]))
      ·rw [g4 d fun i hi => hd i (List.mem_cons_of_mem _ hi)]
       exact k3 d (hd i (List.mem_cons_self ..) o ho)
      ·match q with
       | 0 => simp at hq; subst hq; rw [hs1]; exact congrArg some e0.symm
       | q + 1 => exact hS q i2 (by simpa using hq)
      ·match q with
       | 0 =>
         simp at hq; subst hq
         rw [ho] at ho2; cases ho2
         intro v ob
         show ¬ jdf P ops.toArray ms bs i o v ob s (S 0)
         rw [e0]
         exact k4 v ob
       | q + 1 => exact hM q i2 (by simpa using hq) o2 ho2
theorem jgm : ∀ (a b : T Value), tvEq a b = true → a = b
 | .e, .e, _ => rfl
 | .e, .n _ _ _, h => by simp [tvEq] at h
 | .n _ _ _, .e, h => by simp [tvEq] at h
 | .n a l r, .n b l' r', h => by
   simp only [tvEq, Bool.and_eq_true] at h
   obtain ⟨h1, h2, h3⟩ := h
   rw [jgm l l' h2, jgm r r' h3]
   cases a <;> cases b <;> first
    | rfl
    | (cases h1; done)
    | (rw [jfX 5 _ _ h1])
theorem obEqC_eq {a b : Option Ob} (h : obEqC a b = true) : a = b := by
 unfold obEqC at h
 split at h
 ·simp only [Bool.and_eq_true] at h
  obtain ⟨h1, h2, h3, h4, h5, h6, h7, h8⟩ := h
  rw [rzD h1, rzD h2, jdt (je6 (jfX 5) _ _ h3), jgm _ _ h4, rzD h5, rzD h6, of_decide_eq_true h7, of_decide_eq_true h8]
 ·rfl
 ·cases h
theorem eqOb_eq {a b : Option Ob} (h : eqOb a b = true) : a = b := by
 unfold eqOb at h
 split at h
 ·rename_i e; exact obEqC_eq e
 ·exact @of_decide_eq_true _ (Classical.propDecidable _) h
end pre
theorem Rel.same {J : Nat → Loc} {μ μ' : Mem} {w : World} (h : Rel J μ w) (hg : ∀ j, μ'.obs.get j = μ.obs.get j) (hn : μ'.next = μ.next) : Rel J μ' w :=
 ⟨h.inj, h.bnd, fun i hi => h.fresh i (by rw [← hn]; exact hi), fun i o ho hd => h.obj i o (by rw [← hg]; exact ho) hd⟩
theorem gone_same {μ μ' : Mem} (hg : ∀ j, μ'.obs.get j = μ.obs.get j) (i : Nat) : gone μ' i ↔ gone μ i := by
 unfold gone; rw [hg]
theorem Step.same {J J' : Nat → Loc} {μ0 μ μ' : Mem} {w w' : World} (h : Step J μ0 w J' μ w') (hg : ∀ j, μ'.obs.get j = μ.obs.get j) (hn : μ'.next = μ.next) : Step J μ0 w J' μ' w' :=
 ⟨h.at_, h.dead, h.unborn, h.born, by rw [hn]; exact h.next, fun i hi hgo => (gone_same hg i).2 (h.gone_ i hi hgo), h.size, h.frame, h.os, h.tape, h.output⟩
section rdy
variable {ops : Array Oper} {ms ord : List Nat} {x0 : Option (Nat × Nat)}
theorem jcs (D : DOk ops.toList ms ord x0) {listed : Array Bool} (hls : listed.size = ops.size) {i : Nat} (hi : i ∈ Region.ready .any ops listed) (hx : ∀ b, x0 ≠ some (b, i))
  (hdown : ∀ i j, i < ops.size → bef ms i j = true → listed.getD j false = true → listed.getD i false = true) :
  ¬ listed.getD i false = true ∧ i < ops.size ∧ ∀ k, k < ops.size → bef ms k i = true → listed.getD k false = true := by
 obtain ⟨h1, o, ho, h2⟩ := mem_ready.1 hi
 have hlt : i < ops.size := (Array.getElem?_eq_some_iff.1 ho).1
 refine ⟨fun h => ?_, hlt, fun k hk hb => ?_⟩
 ·have : i < listed.size := by omega
  simp [Array.getD, this] at h h1
  rw [h] at h1; cases h1
 ·rcases D.conv i o (by simpa using ho) k (by simpa using hk) hb with ⟨b, hx1, _⟩ | ⟨e, he, hbd, hor⟩
  ·exact absurd hx1 (hx b)
  ·have he' := h2 e he hbd
   rcases hor with rfl | hor
   ·exact he'
   ·exact hdown k e.on hk hor he'
theorem jf6 (D : DOk ops.toList ms ord x0) {listed : Array Bool} (hls : listed.size = ops.size) (hr : Region.ready .any ops listed = []) : ∀ i, i < ops.size → listed.getD i false = true := by
 have : ∀ (q i : Nat), ord[q]? = some i → listed.getD i false = true := by
  intro q
  induction q using Nat.strongRecOn with
  | _ q ih =>
    intro i hi
    cases hli : listed.getD i false with
    | true => rfl
    | false =>
      exfalso
      have hlt : i < ops.size := by have := D.lt i (List.mem_of_getElem? hi); simpa using this
      have hm : i ∈ Region.ready .any ops listed := mem_ready.2 ⟨by
        have : i < listed.size := by omega
        simp [Array.getD, this] at hli ⊢
        exact hli, ops[i], rzJ hlt, fun e he hb => by
        have hbf := D.aft i ops[i] (by simp [hlt]) e he hb
        obtain ⟨k, hk, hk2⟩ := D.pre q i hi e.on (D.on i ops[i] (by simp [hlt]) e he hb) hbf
        exact ih k hk e.on hk2⟩
      rw [hr] at hm
      cases hm
 intro i hi
 obtain ⟨q, hq⟩ := jdk D hi
 exact this q i hq
end rdy
section sp
variable {X : XT} {callF : XT} {roundF : NT} {ops : Array Oper} {bs : Nat} {J0 : Nat → Loc} {μ0 : Mem} {w0 : World} {rd : Option Nat} {r0 : Rg} {E : Nat → Prop} {J : Nat → Loc} {a : Act} {w : World} {p : Nat}
theorem Inv.light {ms ord : List Nat} {x0 : Option (Nat × Nat)} {S : Nat → St} (D : DOk ops.toList ms ord x0) (T : Runs P X callF roundF ops.toList ms bs ord S) {m0 : Nat × Mem} (hS0 : (S 0).2 = (m0.2, [m0]))
  (I : Inv P ops ms ord bs S J0 μ0 w0 rd r0 E J a w p) (h0 : (S 0).1 = r0) {q i : Nat} {o : Oper} (hi : ord[q]? = some i) (ho : ops[i]? = some o) (hE : ¬ E i)
  (hpre : ∀ k, k < ops.size → bef ms k i = true → E k) (hh : heavy o.op = false) (hM : ∀ v ob, ¬ jdf P ops ms bs i o v ob (S q) (S (q + 1))) :
  ∃ b v', Region.wanted o (yielded ops a.tmps) = b ∧ (b = false → v' = undef) ∧ (b = true → (o.semAt rd a.eval).run P w = .ok (.value v') w) ∧
   Inv P ops ms ord bs S J0 μ0 w0 rd r0 (more E i) J (a.put o.dst v') w p := by
 obtain ⟨o2, v, ho2, hput, hkind⟩ := jbR (T q i hi)
 rw [ho] at ho2
 cases ho2
 have hpq : p ≤ q := Nat.le_of_not_lt fun h => hE (I.before q i h hi)
 rcases hkind with h | h | h | ⟨ob, h⟩
 ·have hv : v = undef := h.2.1
  rw [hv] at hput
  exact ⟨false, undef, I.wanted D T h0 hi ho hE hpre h.1, fun _ => rfl, (fun e => by cases e), I.calm D T h0 hi ho hE hpre hput jcd h.2.2 (jdG h)⟩
 ·have := h.2.1; rw [hh] at this; cases this
 ·have hρ := I.operand D hi ho hE hpre
  have hval : ∃ v', VRel J v v' ∧ (o.semAt rd a.eval).run P w = .ok (.value v') w := by
   rcases h.2.2.2 with hp | ⟨_, hrd⟩
   ·exact ji5 hρ I.base.stop hp
   ·have hq := jd3 D hi
    have := jjp D T hS0 (ρ := aev P (S q).1) (o := o) (i := i) I.last (q - p) v (by omega) (fun q2 h2 g1 g2 g3 g4 => ?_) (by rw [show p + (q - p) = q by omega]; exact hrd)
    ·exact ji3 hρ I.rel this
    ·have hne := I.later q2 h2 g1 g3 g4
     have hlt : h2 < ops.size := by have := D.lt h2 (List.mem_of_getElem? g3); simpa using this
     cases hb : bef ms h2 i with
     | false => rfl
     | true => exact absurd (hpre h2 hlt hb) hne
  obtain ⟨v', hv, hrun⟩ := hval
  exact ⟨true, v', I.wanted D T h0 hi ho hE hpre h.1, (fun e => by cases e), fun _ => hrun, I.calm D T h0 hi ho hE hpre hput hv h.2.1 (jdm h)⟩
 ·exact absurd h (hM v ob)
variable {ms1 ms2 : List Nat} {pre t1 t2 : List Nat} {x1 x2 : Option (Nat × Nat)} {S1 S2 : Nat → St}
theorem jcJ {ms t : List Nat} {x : Option (Nat × Nat)} (D : DOk ops.toList ms (pre ++ t) x) {q i : Nat} (h : (pre ++ t)[q]? = some i) : i ∈ pre ↔ q < pre.length := by
 constructor
 ·intro hm
  obtain ⟨k, hk, e⟩ := List.getElem_of_mem hm
  have h2 : (pre ++ t)[k]? = some i := by rw [List.getElem?_append_left hk, rzK hk, e]
  have := jbS D h h2
  omega
 ·intro hq
  rw [List.getElem?_append_left hq] at h
  exact List.mem_of_getElem? h
theorem jhs {t t' : List Nat} {q i : Nat} (hq : q < pre.length) (h : (pre ++ t)[q]? = some i) : (pre ++ t')[q]? = some i := by
 rw [List.getElem?_append_left hq] at h ⊢; exact h
theorem Inv.turnover (D1 : DOk ops.toList ms1 (pre ++ t1) x1) (D2 : DOk ops.toList ms2 (pre ++ t2) x2) (T2 : Runs P X callF roundF ops.toList ms2 bs (pre ++ t2) S2) (hS : ∀ q, q ≤ pre.length → S2 q = S1 q)
  (hms : ∀ i ∈ pre, ∀ k, bef ms1 k i = bef ms2 k i) (I : Inv P ops ms1 (pre ++ t1) bs S1 J0 μ0 w0 rd r0 E J a w p) (hE : ∀ i, E i ↔ i ∈ pre) (hlt : pre.length < ops.size) :
  Inv P ops ms2 (pre ++ t2) bs S2 J0 μ0 w0 rd r0 E J a w p := by
 have hp : p ≤ pre.length := by
  refine Nat.le_of_not_lt fun h => ?_
  obtain ⟨i, hi, _⟩ := jgg D1 hlt
  have := (hE i).1 (I.before _ i h hi)
  have := (jcJ D1 hi).1 this
  omega
 have hSp := hS p hp
 refine ⟨I.hp, fun i j hi hb hj => ?_, fun q i hq hi => ?_, fun q i hq hi hh => ?_, ?_, by rw [hSp]; exact I.rel, I.base, by rw [hSp]; exact I.step, fun q i o v ob hq hi ho hEi hm => ?_, fun q i hq hi hn => ?_, fun q i hq hi => ?_, by rw [hSp]; exact I.next, I.size, I.marks, I.rdr, fun d q hq hmt => ?_⟩
 ·have hj2 := (hE j).1 hj
  rw [← hms j hj2] at hb
  exact I.down i j hi hb hj
 ·have hq2 : q < pre.length := by omega
  exact (hE i).2 ((jcJ D2 hi).2 hq2)
 ·by_cases hq2 : q < pre.length
  ·rw [hS _ (by omega), hS _ (by omega)] at hh
   exact I.later q i hq (jhs hq2 hi) hh
  ·exact fun h => hq2 ((jcJ D2 hi).1 ((hE i).1 h))
 ·rcases I.last with e | ⟨i, hi, hh⟩
  ·exact .inl e
  ·by_cases e0 : p = 0
   ·exact .inl e0
   ·refine .inr ⟨i, jhs (by omega) hi, ?_⟩
    rw [hSp, hS (p - 1) (by omega)]
    exact hh
 ·have hq2 := (jcJ D2 hi).1 ((hE i).1 hEi)
  have hip := (hE i).1 hEi
  rw [hS _ (by omega), hS _ (by omega)] at hm
  refine I.al q i o v ob hq (jhs hq2 hi) ho hEi ?_
  obtain ⟨m1, m2, m3, m4, m5⟩ := hm
  exact ⟨m1, m2, m3, by rw [jh2 (hms i hip)]; exact m4, m5⟩
 ·obtain ⟨q1, hq1⟩ := jdk D1 (i := i) (by have := D2.lt i (List.mem_of_getElem? hi); simpa using this)
  refine I.un q1 i (Nat.le_of_not_lt fun h => hn (I.before q1 i h hq1)) hq1 hn
 ·obtain ⟨q1, hq1⟩ := jdk D1 (i := i) (by have := D2.lt i (List.mem_of_getElem? hi); simpa using this)
  rw [hSp]
  refine I.gon q1 i (Nat.le_of_not_lt fun h => ?_) hq1
  have := jbS D2 hi (jhs (t' := t2) (by omega) hq1)
  omega
 ·have low : ∀ q, q ≤ pre.length → Match ops (pre ++ t2) E d q → VRel J (jah (S2 q).1.tm d) (a.tmps.getD d undef) := by
   intro q hq2 hmt
   rw [hS q hq2]
   refine I.regs d q (by omega) fun q' i o hi ho hd => ?_
   by_cases h : q' < pre.length
   ·exact hmt q' i o (jhs h hi) ho hd
   ·refine ⟨fun hh => ?_, fun hh => by omega⟩
    exact absurd ((jcJ D1 hi).1 ((hE i).1 hh)) h
  by_cases hq2 : q ≤ pre.length
  ·exact low q hq2 hmt
  ·rw [je2 D2 T2 (q1 := pre.length) q (by omega) hq fun q' i o h1 h2 hi ho hd => ?_]
   ·refine low _ (Nat.le_refl _) fun q' i o hi ho hd => ?_
    rw [hE i]; exact jcJ D2 hi
   ·have := (hmt q' i o hi ho hd).2 h2
    have := (jcJ D2 hi).1 ((hE i).1 this)
    omega
section main
variable {f g : Nat}
theorem jkW (hN : jcQ P) (hX : XOk P X) (hF : jeh P callF) (hR : jck P roundF) (D1 : DOk ops.toList ms1 (pre ++ t1) (some (f, g))) (D2 : DOk ops.toList ms2 (pre ++ t2) (some (g, f)))
 (T1 : Runs P X callF roundF ops.toList ms1 bs (pre ++ t1) S1) (T2 : Runs P X callF roundF ops.toList ms2 bs (pre ++ t2) S2) {m0 : Nat × Mem} (hS1 : (S1 0).2 = (m0.2, [m0])) (hS2 : (S2 0).2 = (m0.2, [m0]))
 (h01 : (S1 0).1 = r0) (h02 : (S2 0).1 = r0) (hbs : μ0.next ≤ bs) (hr0 : Rel J0 μ0 w0) (hfg : f ≠ g) (hf : f < ops.size) (hg : g < ops.size)
 (L1 : ∀ (q i : Nat), pre.length ≤ q → (pre ++ t1)[q]? = some i → ∀ o, ops[i]? = some o → ∀ v ob, ¬ jdf P ops ms1 bs i o v ob (S1 q) (S1 (q + 1)))
 (L2 : ∀ (q i : Nat), pre.length ≤ q → (pre ++ t2)[q]? = some i → ∀ o, ops[i]? = some o → ∀ v ob, ¬ jdf P ops ms2 bs i o v ob (S2 q) (S2 (q + 1)))
 (HH : ∀ (i : Nat) (o : Oper), i ∉ pre → ops[i]? = some o → i ≠ f → i ≠ g → heavy o.op = false) {n : Nat} {Q : Exit → Act → World → Prop}
 (hQ1 : ∀ J a w, Rel J (S1 ops.size).2.1 w → RgRel J rd (S1 ops.size).1 a → Step J0 μ0 w0 J (S1 ops.size).2.1 w → Q .normal a w)
 (hQ2 : ∀ J a w, Rel J (S2 ops.size).2.1 w → RgRel J rd (S2 ops.size).1 a → Step J0 μ0 w0 J (S2 ops.size).2.1 w → Q .normal a w) :
  ∀ (fuel : Nat) (listed : Array Bool), listed.size = ops.size → ops.size ≤ fuel + listed.toList.countP id → ∀ J a w p1 p2,
   Inv P ops ms1 (pre ++ t1) bs S1 J0 μ0 w0 rd r0 (fun i => listed.getD i false = true) J a w p1 → Inv P ops ms2 (pre ++ t2) bs S2 J0 μ0 w0 rd r0 (fun i => listed.getD i false = true) J a w p2 →
   ¬ listed.getD f false = true → ¬ listed.getD g false = true → (∀ i ∈ pre, listed.getD i false = true) → wpAnyIn (fen rd) n P .any ops Q fuel listed a w := by
 intro fuel
 induction fuel with
 | zero =>
   intro listed hls hcnt J a w p1 p2 I1 I2 nf ng hpre
   exact absurd (ji0 (by omega) (by omega)) nf
 | succ fuel ih =>
   intro listed hls hcnt J a w p1 p2 I1 I2 nf ng hpre
   refine ⟨fun hr => absurd (jf6 D1 hls hr f hf) nf, fun i hi => ?_⟩
   have hun : listed.getD i true = false := (mem_ready.1 hi).1
   have hcnt' : ops.size ≤ fuel + (listed.setIfInBounds i true).toList.countP id := by rw [jiU hun]; omega
   by_cases ef : i = f
   ·subst ef
    obtain ⟨k1, k2, k3⟩ := jcs D1 hls hi (fun b e => by cases e; exact hfg rfl) fun i j hi hb hj => I1.down i j hi hb hj
    obtain ⟨q, hq⟩ := jdk D1 k2
    refine jgw hN hX hF hR D1 T1 hS1 I1 h01 hbs hr0 hq k1 k3 fun J' a' w' p' I' => ?_
    refine jfG hN hX hF hR D1 T1 hS1 h01 hbs hr0 hQ1 fuel (listed.setIfInBounds i true) (by simpa using hls) hcnt' (fun b c e => by cases e; exact (jbM (by omega)).2 (.inr rfl)) J' a' w' p' ?_
    have e : (fun j => (listed.setIfInBounds i true).getD j false = true) = more (fun j => listed.getD j false = true) i := by
     funext j
     exact propext (jbM (by omega))
    rw [e]
    exact I'
   ·by_cases eg : i = g
    ·subst eg
     obtain ⟨k1, k2, k3⟩ := jcs D2 hls hi (fun b e => by cases e; exact hfg rfl) fun i j hi hb hj => I2.down i j hi hb hj
     obtain ⟨q, hq⟩ := jdk D2 k2
     refine jgw hN hX hF hR D2 T2 hS2 I2 h02 hbs hr0 hq k1 k3 fun J' a' w' p' I' => ?_
     refine jfG hN hX hF hR D2 T2 hS2 h02 hbs hr0 hQ2 fuel (listed.setIfInBounds i true) (by simpa using hls) hcnt' (fun b c e => by cases e; exact (jbM (by omega)).2 (.inr rfl)) J' a' w' p' ?_
     have e : (fun j => (listed.setIfInBounds i true).getD j false = true) = more (fun j => listed.getD j false = true) i := by
      funext j
      exact propext (jbM (by omega))
     rw [e]
     exact I'
    ·obtain ⟨k1, k2, k3⟩ := jcs D1 hls hi (fun b e => by cases e; exact eg rfl) fun i j hi hb hj => I1.down i j hi hb hj
     obtain ⟨_, _, k4⟩ := jcs D2 hls hi (fun b e => by cases e; exact ef rfl) fun i j hi hb hj => I2.down i j hi hb hj
     obtain ⟨q1, hq1⟩ := jdk D1 k2
     obtain ⟨q2, hq2⟩ := jdk D2 k2
     have hnp : i ∉ pre := fun h => k1 (hpre i h)
     have ho : ops[i]? = some ops[i] := rzJ k2
     have hh := HH i ops[i] hnp ho ef eg
     obtain ⟨b1, v1, c1, c2, c3, c4⟩ := I1.light D1 T1 hS1 h01 hq1 ho k1 k3 hh (L1 q1 i (Nat.le_of_not_lt fun h => hnp ((jcJ D1 hq1).2 h)) hq1 _ ho)
     obtain ⟨b2, v2, e1, e2, e3, e4⟩ := I2.light D2 T2 hS2 h02 hq2 ho k1 k4 hh (L2 q2 i (Nat.le_of_not_lt fun h => hnp ((jcJ D2 hq2).2 h)) hq2 _ ho)
     have hb : b2 = b1 := e1.symm.trans c1
     subst hb
     have hv : v2 = v1 := by
      cases b2 with
      | false => rw [c2 rfl, e2 rfl]
      | true =>
        have := (e3 rfl).symm.trans (c3 rfl)
        cases this; rfl
     subst hv
     have e : (fun j => (listed.setIfInBounds i true).getD j false = true) = more (fun j => listed.getD j false = true) i := by
      funext j
      exact propext (jbM (by omega))
     have hK : wpAnyIn (fen rd) n P .any ops Q fuel (listed.setIfInBounds i true) (a.put (ops[i]).dst v2) w := by
      refine ih (listed.setIfInBounds i true) (by simpa using hls) hcnt' J _ w p1 p2 (by rw [e]; exact c4) (by rw [e]; exact e4) (fun h => ?_) (fun h => ?_) fun k hk => (jbM (by omega)).2 (.inl (hpre k hk))
      ·rcases (jbM (by omega)).1 h with h | h
       ·exact nf h
       ·exact ef h.symm
      ·rcases (jbM (by omega)).1 h with h | h
       ·exact ng h
       ·exact eg h.symm
     unfold wpOpIn
     rw [ho]
     dsimp only
     rw [c1]
     cases b2 with
     | false =>
       simp only [Bool.false_eq_true, if_false]
       rw [c2 rfl] at hK
       exact ⟨fun _ _ => trivial, hK⟩
     | true =>
       simp only [if_true]
       refine ⟨fun _ _ => trivial, ?_⟩
       have : ((ops[i]).semAt (fen rd).round a.eval).run P w = .ok (.value v2) w := c3 rfl
       rw [this]
       exact hK
theorem jiL (hN : jcQ P) (hX : XOk P X) (hF : jeh P callF) (hR : jck P roundF) (D1 : DOk ops.toList ms1 (pre ++ t1) (some (f, g))) (D2 : DOk ops.toList ms2 (pre ++ t2) (some (g, f)))
 (T1 : Runs P X callF roundF ops.toList ms1 bs (pre ++ t1) S1) (T2 : Runs P X callF roundF ops.toList ms2 bs (pre ++ t2) S2) {m0 : Nat × Mem} (hS1 : (S1 0).2 = (m0.2, [m0])) (hS2 : (S2 0).2 = (m0.2, [m0]))
 (h01 : (S1 0).1 = r0) (h02 : (S2 0).1 = r0) (hbs : μ0.next ≤ bs) (hr0 : Rel J0 μ0 w0) (hfg : f ≠ g) (hf : f < ops.size) (hg : g < ops.size)
 (L1 : ∀ (q i : Nat), pre.length ≤ q → (pre ++ t1)[q]? = some i → ∀ o, ops[i]? = some o → ∀ v ob, ¬ jdf P ops ms1 bs i o v ob (S1 q) (S1 (q + 1)))
 (L2 : ∀ (q i : Nat), pre.length ≤ q → (pre ++ t2)[q]? = some i → ∀ o, ops[i]? = some o → ∀ v ob, ¬ jdf P ops ms2 bs i o v ob (S2 q) (S2 (q + 1)))
 (HH : ∀ (i : Nat) (o : Oper), i ∉ pre → ops[i]? = some o → i ≠ f → i ≠ g → heavy o.op = false) {n : Nat} {Q : Exit → Act → World → Prop}
 (hQ1 : ∀ J a w, Rel J (S1 ops.size).2.1 w → RgRel J rd (S1 ops.size).1 a → Step J0 μ0 w0 J (S1 ops.size).2.1 w → Q .normal a w)
 (hQ2 : ∀ J a w, Rel J (S2 ops.size).2.1 w → RgRel J rd (S2 ops.size).1 a → Step J0 μ0 w0 J (S2 ops.size).2.1 w → Q .normal a w)
 (hS : ∀ q, q ≤ pre.length → S2 q = S1 q) (hms : ∀ i ∈ pre, ∀ k, bef ms1 k i = bef ms2 k i) (hfp : f ∉ pre) (hgp : g ∉ pre)
 (hT1 : ∀ i, i < ops.size → i ∉ pre → i ≠ g → ∀ k ∈ pre, bef ms1 k i = true) (hT2 : ∀ k ∈ pre, bef ms2 k g = true) :
  ∀ (fuel : Nat) (listed : Array Bool), listed.size = ops.size → ops.size ≤ fuel + listed.toList.countP id → ∀ J a w p1,
   Inv P ops ms1 (pre ++ t1) bs S1 J0 μ0 w0 rd r0 (fun i => listed.getD i false = true) J a w p1 → (∀ i, listed.getD i false = true → i ∈ pre) → wpAnyIn (fen rd) n P .any ops Q fuel listed a w := by
 have hlt : pre.length < ops.size := by
  obtain ⟨q, hq⟩ := jdk D1 hf
  have h1 := jd3 D1 hq
  have h2 : ¬ q < pre.length := fun h => hfp ((jcJ D1 hq).2 h)
  omega
 have hin : ∀ k ∈ pre, k < ops.size := fun k hk => by
  have := D1.lt k (by simp [hk])
  simpa using this
 intro fuel
 induction fuel with
 | zero =>
   intro listed hls hcnt J a w p1 I1 hsub
   exact absurd (hsub f (ji0 (by omega) (by omega))) hfp
 | succ fuel ih =>
   intro listed hls hcnt J a w p1 I1 hsub
   by_cases hall : ∀ i ∈ pre, listed.getD i false = true
   ·have I2 := I1.turnover D1 D2 T2 hS hms (fun i => ⟨hsub i, hall i⟩) hlt
    exact jkW hN hX hF hR D1 D2 T1 T2 hS1 hS2 h01 h02 hbs hr0 hfg hf hg L1 L2 HH hQ1 hQ2 (fuel + 1) listed hls hcnt J a w p1 p1 I1 I2 (fun h => hfp (hsub f h)) (fun h => hgp (hsub g h)) hall
   ·refine ⟨fun hr => absurd (hsub f (jf6 D1 hls hr f hf)) hfp, fun i hi => ?_⟩
    have hun : listed.getD i true = false := (mem_ready.1 hi).1
    have hlti : i < ops.size := by
     obtain ⟨_, o, ho, _⟩ := mem_ready.1 hi
     exact (Array.getElem?_eq_some_iff.1 ho).1
    by_cases hip : i ∈ pre
    ·obtain ⟨k1, k2, k3⟩ := jcs D1 hls hi (fun b e => by cases e; exact hgp hip) fun i j hi hb hj => I1.down i j hi hb hj
     obtain ⟨q, hq⟩ := jdk D1 k2
     refine jgw hN hX hF hR D1 T1 hS1 I1 h01 hbs hr0 hq k1 k3 fun J' a' w' p' I' => ih (listed.setIfInBounds i true) (by simpa using hls) ?_ J' a' w' p' ?_ fun k hk => ?_
     ·rw [jiU hun]; omega
     ·have e : (fun j => (listed.setIfInBounds i true).getD j false = true) = more (fun j => listed.getD j false = true) i := by
       funext j
       exact propext (jbM (by omega))
      rw [e]
      exact I'
     ·rcases (jbM (by omega)).1 hk with h | h
      ·exact hsub k h
      ·rw [h]; exact hip
    ·exfalso
     apply hall
     by_cases eg : i = g
     ·subst eg
      obtain ⟨k1, k2, k3⟩ := jcs D2 hls hi (fun b e => by cases e; exact hfg rfl) fun i j hi hb hj => I1.down i j hi (by rw [hms j (hsub j hj)]; exact hb) hj
      exact fun k hk => k3 k (hin k hk) (hT2 k hk)
     ·obtain ⟨k1, k2, k3⟩ := jcs D1 hls hi (fun b e => by cases e; exact eg rfl) fun i j hi hb hj => I1.down i j hi hb hj
      exact fun k hk => k3 k (hin k hk) (hT1 i hlti hip eg k hk)
end main
end sp
end
noncomputable section
variable {P : Program}
variable {X : XT} {callF : XT} {roundF : NT}
theorem inv_start {ops : Array Oper} {ms ord : List Nat} {x0 : Option (Nat × Nat)} {S : Nat → St} (D : DOk ops.toList ms ord x0) {r : Rg} {μ : Mem} (hT : Runs P X callF roundF ops.toList ms μ.next ord S)
  {sn : List (Nat × Mem)} (e0 : S 0 = (r, ⟨μ.obs, μ.next + ops.size⟩, sn)) {J : Nat → Loc} {a : Act} {w : World} {rd : Option Nat} (hr : Rel J μ w) (hB : Base P J) (hg : RgRel J rd r a) :
  Inv P ops ms ord μ.next S J μ { w with drawn := w.drawn + 1 } rd r (fun i => (Array.replicate ops.size false).getD i false = true) J a { w with drawn := w.drawn + 1 } 0 := by
 have h0 : (S 0).1 = r := by rw [e0]
 have hM0 : (S 0).2.1 = ⟨μ.obs, μ.next + ops.size⟩ := by rw [e0]
 have hr1 : Rel J μ { w with drawn := w.drawn + 1 } := hr.heap rfl
 have hgone : ∀ i, μ.next ≤ i → gone μ i := fun i hi o ho => by
  cases o with
  | dead => rfl
  | _ =>
    obtain ⟨b, s, hb, _⟩ := hr.obj i _ ho (by simp)
    rw [hr.fresh i hi] at hb; cases hb
 have hfalse : ∀ i, (Array.replicate ops.size false).getD i false = true → False := fun i hi => by
  simp only [Array.getD_eq_getD_getElem?, Array.getElem?_replicate] at hi
  split at hi <;> simp at hi
 refine ⟨Nat.zero_le _, fun i j _ _ h => absurd h (fun h => hfalse j h), fun q i hq => absurd hq (Nat.not_lt_zero _), fun q i _ _ _ => hfalse i, .inl rfl, ?_, hB, ?_, fun q i o v ob _ _ _ h => absurd h (fun h => hfalse i h), fun q i _ _ _ => hr.fresh _ (by omega), fun q i _ _ => ?_, ?_, hg.size.trans (by rfl), hg.ds, hg.rd, fun d q hq hmt => ?_⟩
 ·rw [hM0]
  exact ⟨hr1.inj, hr1.bnd, fun i hi => hr1.fresh i (Nat.le_trans (Nat.le_add_right _ _) hi), hr1.obj⟩
 ·rw [hM0]
  have := Step.refl J μ ({ w with drawn := w.drawn + 1 } : World)
  exact ⟨this.at_, this.dead, this.unborn, this.born, Nat.le_add_right _ _, this.gone_, this.size, this.frame, rfl, rfl, rfl⟩
 ·rw [hM0]; exact hgone _ (by omega)
 ·rw [hM0]; exact Nat.le_refl _
 ·rw [je2 D hT (q1 := 0) q (Nat.zero_le _) hq (fun q2 i2 o2 _ h2 hi2 ho2 hd2 => hfalse i2 ((hmt q2 i2 o2 hi2 ho2 hd2).2 h2)), h0]
  exact hg.regs d
theorem joined {ops : Array Oper} {ms ms' : List Nat} {bs : Nat} {pre t : List Nat} {S0 Sq : Nat → St} (h0 : Runs P X callF roundF ops.toList ms bs pre S0) (hms : ∀ i ∈ pre, ∀ k, bef ms k i = bef ms' k i)
  (ht : Runs P X callF roundF ops.toList ms' bs t Sq) (e : Sq 0 = S0 pre.length) (hne : t ≠ [])
  (hM : ∀ (q i : Nat), t[q]? = some i → ∀ o, ops.toList[i]? = some o → ∀ v ob, ¬ jdf P ops.toList.toArray ms' bs i o v ob (Sq q) (Sq (q + 1))) :
  ∃ S : Nat → St, Runs P X callF roundF ops.toList ms' bs (pre ++ t) S ∧ (∀ q, q ≤ pre.length → S q = S0 q) ∧ S (pre ++ t).length = Sq t.length ∧
   ∀ (q i : Nat), pre.length ≤ q → (pre ++ t)[q]? = some i → ∀ o, ops[i]? = some o → ∀ v ob, ¬ jdf P ops ms' bs i o v ob (S q) (S (q + 1)) := by
 have h0' : Runs P X callF roundF ops.toList ms' bs pre S0 := fun q i hq => by
  rw [← dStep_ms (hms i (List.mem_of_getElem? hq))]
  exact h0 q i hq
 refine ⟨_, h0'.append ht e, fun q hq => if_pos hq, ?_, fun q i hq hi o ho v ob => ?_⟩
 ·have : 0 < t.length := List.length_pos_iff.2 hne
  show (if (pre ++ t).length ≤ pre.length then _ else Sq ((pre ++ t).length - pre.length)) = _
  rw [List.length_append, if_neg (by omega), show pre.length + t.length - pre.length = t.length by omega]
 ·rw [List.getElem?_append_right hq] at hi
  have := hM _ i hi o (by simpa using ho) v ob
  show ¬ jdf P ops ms' bs i o v ob (if q ≤ pre.length then S0 q else Sq (q - pre.length)) (if q + 1 ≤ pre.length then S0 (q + 1) else Sq (q + 1 - pre.length))
  rw [if_neg (show ¬ q + 1 ≤ pre.length by omega), show q + 1 - pre.length = q - pre.length + 1 by omega]
  have hSq : (if q ≤ pre.length then S0 q else Sq (q - pre.length)) = Sq (q - pre.length) := by
   by_cases h : q = pre.length
   ·subst h; rw [if_pos (Nat.le_refl _), ← e, Nat.sub_self]
   ·rw [if_neg (by omega)]
  rw [hSq]
  simpa using this
theorem jil (hN : jcQ P) (hX : XOk P X) (hF : jeh P callF) (hR : jck P roundF) (hm : P.follows .mixedOrders = true) {id : Nat} {ops : Array Oper} {ms : List Nat} {r r' : Rg} {μ μ' : Mem} {x : Ax}
  (h : aSplit P X callF roundF ops.toList ms r μ = some (x, r', μ'))
  {J : Nat → Loc} {a : Act} {w : World} {rd : Option Nat} (hr : Rel J μ w) (hB : Base P J) (hg : RgRel J rd r a) {n : Nat} {Q : Exit → Act → World → Prop}
  (hk : ∀ J' a' w', Rel J' μ' w' → RgRel J' rd r' a' → Step J μ w J' μ' w' → Q (jeH x) a' w') : (Code.region id ops true).wpIn (fen rd) n P Q a w := by
 unfold aSplit at h
 split at h
 ·cases h
 ·rename_i f g pre la lb hsp
  split at h
  ·cases h
  ·rename_i hok
   split at h
   ·cases h
   ·rename_i s0 hpre
    split at h
    ·cases h
    ·rename_i s1 i1 ht1
     split at h
     ·cases h
     ·rename_i s2 i2 ht2
      split at h
      ·rename_i hend
       cases h
       unfold splitOk at hok
       simp only [Bool.and_eq_true] at hok
       obtain ⟨k1, k2, k3, k4, k5, k6, k7, k8⟩ := hok
       have D1 := jeq k1
       have D2 := jeq k2
       have hfg : f ≠ g := fun e => by subst e; simp at k7
       have hnp : ∀ i ∈ pre, i ≠ f ∧ i ≠ g := fun i hi => by
        have := List.all_eq_true.1 k8 i hi
        simp only [Bool.and_eq_true, Bool.not_eq_true'] at this
        exact ⟨fun e => by subst e; simp at this, fun e => by subst e; simp at this⟩
       have hfm : f ∈ la := by simpa using k5
       have hgm : g ∈ lb := by simpa using k6
       have hfs : f < ops.size := by have := D1.lt f (by simp [hfm]); simpa using this
       have hgs : g < ops.size := by have := D1.lt g (by simp [hgm]); simpa using this
       have hnx : Nat.add μ.next ops.toList.length = μ.next + ops.size := by simp
       rw [hnx] at hpre
       obtain ⟨S0, a0, a1, hT0⟩ := jgn pre _ _ hpre
       obtain ⟨_, c2, c3, c4, St1, b0, b1, hR1, hM1⟩ := jhd _ _ _ _ _ ht1
       obtain ⟨_, d2, d3, d4, St2, e0, e1, hR2, hM2⟩ := jhd _ _ _ _ _ ht2
       have hm1 : ∀ i ∈ pre, ∀ k, bef ms k i = bef (jhB ms f g) k i := fun i hi k => (jee (hnp i hi).2).symm
       have hm2 : ∀ i ∈ pre, ∀ k, bef ms k i = bef (jhB ms g f) k i := fun i hi k => (jee (hnp i hi).1).symm
       obtain ⟨S1, T1, p1, q1, L1⟩ := joined hT0 hm1 hR1 (b0.trans a1.symm) (by intro e; simp at e; rw [e.1] at hfm; cases hfm) hM1
       obtain ⟨S2, T2, p2, q2, L2⟩ := joined hT0 hm2 hR2 (e0.trans a1.symm) (by intro e; simp at e; rw [e.2] at hfm; cases hfm) hM2
       have hl1 : (pre ++ (la ++ lb)).length = ops.size := by have := D1.len; simpa using this
       have hl2 : (pre ++ (lb ++ la)).length = ops.size := by have := D2.len; simpa using this
       rw [hl1, b1] at q1
       rw [hl2, e1] at q2
       have z1 : S1 0 = (r, ⟨μ.obs, μ.next + ops.size⟩, [(ops.toList.length, ⟨μ.obs, μ.next + ops.size⟩)]) := (p1 0 (Nat.zero_le _)).trans a0
       have z2 : S2 0 = (r, ⟨μ.obs, μ.next + ops.size⟩, [(ops.toList.length, ⟨μ.obs, μ.next + ops.size⟩)]) := (p2 0 (Nat.zero_le _)).trans a0
       have hS01 : (S1 0).2 = (((ops.toList.length, (⟨μ.obs, μ.next + ops.size⟩ : Mem)) : Nat × Mem).2, [(ops.toList.length, ⟨μ.obs, μ.next + ops.size⟩)]) := by rw [z1]
       have hS02 : (S2 0).2 = (((ops.toList.length, (⟨μ.obs, μ.next + ops.size⟩ : Mem)) : Nat × Mem).2, [(ops.toList.length, ⟨μ.obs, μ.next + ops.size⟩)]) := by rw [z2]
       unfold sameEnd at hend
       simp only [Bool.and_eq_true] at hend
       obtain ⟨w1, w2⟩ := hend
       have hget : ∀ j, s1.2.1.obs.get j = s2.2.1.obs.get j := fun j => by
        by_cases hj : j ∈ i1 ++ i2
        ·exact eqOb_eq (List.all_eq_true.1 w1 j hj)
        ·simp only [List.mem_append, not_or] at hj
         rw [c2 j hj.1, d2 j hj.2]
       have hnext : s1.2.1.next = s2.2.1.next := c3.trans d3.symm
       have hreg : ∀ d, jah s1.1.tm d = jah s2.1.tm d := fun d => by
        by_cases hd : ∃ i ∈ la ++ lb, ∃ o, ops.toList[i]? = some o ∧ o.dst = some d
        ·obtain ⟨i, hi, o, ho, hdd⟩ := hd
         have := List.all_eq_true.1 w2 i hi
         simp only [ho, hdd] at this
         exact jjO this
        ·rw [c4 d fun i hi o ho hdd => hd ⟨i, hi, o, ho, hdd⟩, d4 d fun i hi o ho hdd => hd ⟨i, by simp only [List.mem_append] at hi ⊢; exact hi.symm, o, ho, hdd⟩]
       obtain ⟨n1, n2, n3⟩ := jes D1 T1 ops.size (Nat.le_refl _)
       obtain ⟨n4, n5, n6⟩ := jes D2 T2 ops.size (Nat.le_refl _)
       rw [q1, z1] at n1 n2 n3
       rw [q2, z2] at n4 n5 n6
       have hr1 : Rel J μ { w with drawn := w.drawn + 1 } := hr.heap rfl
       have hfalse : ∀ i, (Array.replicate ops.size false).getD i false = true → False := fun i hi => by
        simp only [Array.getD_eq_getD_getElem?, Array.getElem?_replicate] at hi
        split at hi <;> simp at hi
       have fin : ∀ J2 a2 w2, Rel J2 s1.2.1 w2 → RgRel J2 rd s1.1 a2 → Step J μ { w with drawn := w.drawn + 1 } J2 s1.2.1 w2 → Q .normal a2 w2 := fun J2 a2 w2 g1 g2 g3 =>
        hk J2 a2 w2 g1 g2 ⟨g3.at_, g3.dead, g3.unborn, g3.born, g3.next, g3.gone_, g3.size, g3.frame, g3.os, g3.tape, g3.output⟩
       refine wpIn_region_any hm ?_
       refine jiL hN hX hF hR D1 D2 T1 T2 hS01 hS02 (by rw [z1]) (by rw [z2]) (Nat.le_refl _) hr1 hfg hfs hgs L1 L2 ?_ (n := n) (Q := Q) ?_ ?_ (fun q hq => (p2 q hq).trans (p1 q hq).symm)
        (fun i hi k => (hm1 i hi k).symm.trans (hm2 i hi k)) (fun hh => (hnp f hh).1 rfl) (fun hh => (hnp g hh).2 rfl) ?_ ?_ ops.size (Array.replicate ops.size false) (by simp) (by omega) J a _ 0 (inv_start D1 T1 z1 hr hB hg) (fun i hi => (hfalse i hi).elim)
       ·intro i o hip ho hif hig
        have hlt : i < ops.size := (Array.getElem?_eq_some_iff.1 ho).1
        have hmem : i ∈ pre ++ (la ++ lb) := D1.all i (by simpa using hlt)
        have hit : i ∈ la ++ lb := (List.mem_append.1 hmem).resolve_left hip
        have := List.all_eq_true.1 k4 i hit
        simp only [Bool.or_eq_true] at this
        rcases this with e | e | e
        ·exact absurd (rzD e) hif
        ·exact absurd (rzD e) hig
        ·unfold jjx at e
         have ho' : ops.toList[i]? = some o := by simpa using ho
         rw [ho'] at e
         simpa using e
       ·intro J2 a2 w2 g1 g2 g3
        rw [q1] at g1 g2 g3
        exact fin J2 a2 w2 g1 g2 g3
       ·intro J2 a2 w2 g1 g2 g3
        rw [q2] at g1 g2 g3
        refine fin J2 a2 w2 (g1.same hget hnext) ⟨?_, fun d => ?_, ?_, ?_⟩ (g3.same hget hnext)
        ·rw [n1, ← n4]; exact g2.size
        ·rw [hreg d]; exact g2.regs d
        ·rw [n2, ← n5]; exact g2.ds
        ·rw [n3, ← n6]; exact g2.rd
       ·intro i hlt hip hig k hkp
        have hmem : i ∈ pre ++ (la ++ lb) := D1.all i (by simpa using hlt)
        have hit : i ∈ la ++ lb := (List.mem_append.1 hmem).resolve_left hip
        rw [jee hig]
        exact List.all_eq_true.1 (List.all_eq_true.1 k3 i hit) k hkp
       ·intro k hkp
        rw [jee (fun e => hfg e.symm)]
        exact List.all_eq_true.1 (List.all_eq_true.1 k3 g (by simp [hgm])) k hkp
      ·cases h
end
noncomputable section
variable {P : Program} {J : Nat → Loc}
theorem jks {n : Nat} : ∀ (ps : List Nat) (vs vs' : List Value) (tm tm' : T Value) (tmps : Array Value), jcy n ps vs tm = some tm' → vs.length = vs'.length →
  (∀ (i : Nat) a b, vs[i]? = some a → vs'[i]? = some b → VRel J a b) → tmps.size = n → RegRel J tm tmps →
  ps.length = vs'.length ∧ ((ps.zip vs').foldl (fun (tmps : Array Value) (p : Nat × Value) => tmps.setIfInBounds p.1 p.2) tmps).size = n ∧ RegRel J tm' ((ps.zip vs').foldl (fun (tmps : Array Value) (p : Nat × Value) => tmps.setIfInBounds p.1 p.2) tmps) := by
 intro ps
 induction ps with
 | nil =>
   intro vs vs' tm tm' tmps h hl hv hs hr
   cases vs with
   | nil =>
     simp only [jcy] at h
     cases h
     have : vs' = [] := List.length_eq_zero_iff.1 (by simpa using hl.symm)
     subst this
     exact ⟨rfl, hs, hr⟩
   | cons v vs => simp [jcy] at h
 | cons p ps ih =>
   intro vs vs' tm tm' tmps h hl hv hs hr
   cases vs with
   | nil => simp [jcy] at h
   | cons v vs =>
     cases vs' with
     | nil => simp at hl
     | cons v' vs' =>
       simp only [jcy] at h
       split at h
       ·rename_i hp
        have hp' : p < n := by simpa using hp
        have hvv : VRel J v v' := hv 0 v v' rfl rfl
        have := ih vs vs' (tm.set p v) tm' (tmps.setIfInBounds p v') h (by simpa using hl) (fun i a b ha hb => hv (i + 1) a b (by simpa using ha) (by simpa using hb)) (by simpa using hs) (fun t => by
         rw [jaq]
         simp only [Array.getD_eq_getD_getElem?, Array.getElem?_setIfInBounds]
         by_cases e : t = p
         ·subst e
          rw [if_pos rfl, if_pos rfl, if_pos (by omega)]
          exact hvv
         ·rw [if_neg e, if_neg (fun x => e x.symm)]
          have := hr t
          simpa only [Array.getD_eq_getD_getElem?] using this)
        refine ⟨by simp [this.1], ?_, ?_⟩
        ·simpa using this.2.1
        ·simpa using this.2.2
       ·cases h
theorem jiy {μ : Mem} {w : World} (hr : Rel J μ w) {l b : Nat} (hl : Lives J l b) {st : LoopState} {pe : Option Code} {ps : Array Tmp} {asg body : Code} {n : Nat} {tm : T Value} {d : Nat}
  (ho : μ.obs.get l = some (.loop st pe ps asg body n tm d)) : ∃ s, J l = .at b s ∧ ObRel J w b s (.loop st pe ps asg body n tm d) := by
 obtain ⟨b', s, hb, hob⟩ := hr.obj l _ ho (by simp)
 rcases hl with ⟨s2, e⟩ | e
 ·rw [e] at hb; cases hb; exact ⟨s, e, hob⟩
 ·rw [e] at hb; cases hb
theorem jdN {μ μ' : Mem} {w : World} {l b : Nat} {st : LoopState} {pe : Option Code} (h : jcc μ l st pe = some μ') (hr : Rel J μ w) (hl : Lives J l b) :
  ∃ L : Loop, w.heap[b]? = some (.loop L) ∧
   (∀ st0 pe0 ps asg body n tm d, μ.obs.get l = some (.loop st0 pe0 ps asg body n tm d) → L.state = st0 ∧ L.pending = pe0) ∧
   ∀ L' : Loop, L'.state = st → L'.pending = pe → L'.params = L.params → L'.assign = L.assign → L'.body = L.body → L'.tmps = L.tmps → L'.defers = L.defers →
    Rel J μ' (w.putObj b (.loop L')) ∧ Step J μ w J μ' (w.putObj b (.loop L')) := by
 unfold jcc at h
 split at h
 ·rename_i st0 pe0 ps asg body n tm d ho
  cases h
  obtain ⟨s, hb, L, h1, h2, h3, h4, h5, h6, h7, h8, h9⟩ := jiy hr hl ho
  have hlt : b < w.heap.size := (Array.getElem?_eq_some_iff.1 h1).1
  refine ⟨L, h1, fun a1 a2 a3 a4 a5 a6 a7 a8 e => by rw [ho] at e; cases e; exact ⟨h2, h3⟩, fun L' k1 k2 k3 k4 k5 k6 k7 => ?_⟩
  have hsz : (w.putObj b (.loop L')).heap.size = w.heap.size := World.putObj_size
  have hoth : ∀ c, c ≠ b → (w.putObj b (.loop L')).heap[c]? = w.heap[c]? := fun c hc => World.putObj_heap_other hc
  have hself : (w.putObj b (.loop L')).heap[b]? = some (.loop L') := by simp [World.putObj, hlt]
  refine ⟨hr.update hb _ hsz hoth ⟨L', hself, k1, k2, k3.trans h4, k4.trans h5, k5.trans h6, by rw [k6]; exact h7, by rw [k6]; exact h8, by rw [k7]; exact h9⟩,
   Step.update hb (fun hg => by have := hg _ ho; cases this) _ hsz hoth rfl rfl rfl⟩
 ·cases h
theorem round_ok {ev : ET} (hE : EvOk P ev) : jck P (jcm ev) := by
 intro l args μ v μ' h J w b args' hr hB hl ha
 unfold jcm at h
 split at h
 ·rename_i st0 pe0 ps asg body n tm d ho
  obtain ⟨s, hJ, L, h1, h2, h3, h4, h5, h6, h7, h8, h9⟩ := jiy hr hl ho
  split at h
  ·cases h
  ·rename_i tm' hp
   obtain ⟨p1, p2, p3⟩ := jks ps.toList args args'.toList tm tm' L.tmps hp (by simpa using ha.size) (fun i a b hia hib => ha.at_ i a b (by simpa using hia) (by simpa using hib)) h7 h8
   have hsz : args'.size = L.params.size := by rw [h4]; simpa using p1.symm
   have hfold : ((L.params.zip args').foldl (fun tmps (t, a) => tmps.setIfInBounds t a) L.tmps) = ((ps.toList.zip args'.toList).foldl (fun (tmps : Array Value) (p : Nat × Value) => tmps.setIfInBounds p.1 p.2) L.tmps) := by
    rw [h4, ← Array.foldl_toList, Array.toList_zip]
   split at h
   ·rename_i r1 μ1 hev1
    split at h
    ·rename_i ps1 asg1 body1 n1 tm1 d1 ho1
     split at h
     ·cases h
     ·rename_i μ2 hset1
      split at h
      ·cases h
      ·rename_i x r2 μ3 hev2
       have main : ∀ (stE : LoopState) (peE : Option Code) (vb : Bool) (μ4 : Mem), jcc μ3 l stE peE = some μ4 → (∀ (n' : Nat) (R : Ending → World → Prop) a3 w3 (L3 : Loop), w3.heap[b]? = some (.loop L3) →
         R (.returned (.bool vb)) (w3.putObj b (.loop { L3 with state := stE, pending := peE })) → roundPost P b R (jeH x) a3 w3) →
         ∃ f tmps asg body, (Instr.yield b args').run P w = .ok (.round b f tmps asg body) w ∧
          ∀ n (R : Ending → World → Prop), (∀ J' v' w', VRel J' (.bool vb) v' → Rel J' μ4 w' → Step J μ w J' μ4 w' → R (.returned v') w') → RoundIn Fence.wide n P b f tmps asg body w R := by
        intro stE peE vb μ4 hset3 hpost
        refine ⟨L.fn, _, L.assign, L.body, run_yield h1 hsz, fun n' R hR => ?_⟩
        rw [hfold, h5, h6]
        refine roundIn_of_wpIn trivial ?_
        refine hE asg _ μ .normal r1 μ1 hev1 J _ w (some b) n' _ hr hB ⟨p2, p3, .nil, .some hl⟩ fun J1 a1 w1 g1 g2 g3 => ?_
        have hl1 := hl.mono g3.ext
        obtain ⟨L1, hL1, hf1, hput1⟩ := jdN hset1 g1 hl1
        obtain ⟨e1, e2⟩ := hf1 _ _ _ _ _ _ _ _ ho1
        obtain ⟨k1, k2⟩ := hput1 { L1 with state := .busy } rfl e2 rfl rfl rfl rfl rfl
        refine ⟨_, run_beginRound hL1 e1, ?_⟩
        refine hE body r1 μ2 x r2 μ3 hev2 J1 a1 _ (some b) n' _ k1 (hB.mono g3.ext) g2 fun J3 a3 w3 m1 m2 m3 => ?_
        obtain ⟨L3, hL3, _, hput3⟩ := jdN hset3 m1 (hl1.mono m3.ext)
        obtain ⟨q1, q2⟩ := hput3 { L3 with state := stE, pending := peE } rfl rfl rfl rfl rfl rfl rfl
        exact hpost n' R a3 w3 L3 hL3 (hR J3 _ _ (.bool vb) q1 (g3.trans hr (k2.trans g1 (m3.trans k1 q2))))
       split at h
       ·split at h
        ·split at h
         ·rename_i μ4 hset3
          cases h
          exact main .ready none true μ' hset3 fun n' R a3 w3 L3 hL3 hRR => ⟨_, _, run_endRound none hL3, hRR⟩
         ·cases h
        ·split at h
         ·rename_i μ4 hset3
          cases h
          exact main .done (some .ret) false μ' hset3 fun n' R a3 w3 L3 hL3 hRR => ⟨_, _, run_endRound (some .ret) hL3, hRR⟩
         ·cases h
        ·rename_i id
         split at h
         ·rename_i μ4 hset3
          cases h
          exact main .done (some (.exit id)) false μ' hset3 fun n' R a3 w3 L3 hL3 hRR => ⟨_, _, run_endRound (some (.exit id)) hL3, hRR⟩
         ·cases h
        ·cases h
       ·cases h
    ·cases h
   ·cases h
 ·cases h
theorem jf4 {ev : ET} (hN : jcQ P) (hE : EvOk P ev) {f : Value} {l b : Nat} {r r' : Rg} {μ μ' : Mem} {x : Ax} (h : jde P ev f l r μ = some (x, r', μ')) {w : World} {a0 a : Act} {rd : Option Nat}
  (hr : Rel J μ w) (hB : Base P J) (hg : RgRel J rd r a) (hl : ∃ s, J l = .at b s) {g : Operand} (hf : VRel J f (a0.eval g)) {n : Nat} {Q : Exit → Act → World → Prop}
  (hk : ∀ J' a' w', Rel J' μ' w' → RgRel J' rd r' a' → Step J μ w J' μ' w' → Q (jeH x) a' w') :
  ∃ (d : Deferred) (w₁' : World) (fi : FuncId) (args : Array Value) (w₂ : World), (resolve a0.eval (rangeCall g b) 0).run P w = .ok d w₁' ∧ (invoke d.target d.args).run P w₁' = .ok (.enter fi args) w₂ ∧
   CallsIn (fen rd) (n - 1) P fi args w₂ (rangePost (fen rd) n P b Q a) := by
 unfold jde at h
 split at h
 ·rename_i gf fi ca
  split at h
  ·cases h
  ·rename_i fn hfn
   split at h
   ·cases h
   ·rename_i c hc
    split at h
    ·cases h
    ·rename_i v0 μ2 hfun
     split at h
     ·cases h
     ·rename_i st pe ps asg body n0 tm d hnb ho
      split at h
      ·cases h
      ·rename_i μ3 hset
       cases hq : a0.eval g with
       | func fn' fi' ca' =>
         rw [hq] at hf
         cases hf with
         | func hfn' q1 q2 q3 q4 =>
         cases hfn'
         obtain ⟨s, hs⟩ := hl
         have hy : VRel J (.func (.yield l) #[] #[]) (.func (.yield b) #[] #[]) := .func (.yield hs) rfl (fun i a b ha => by simp at ha) rfl (fun i a b ha => by simp at ha)
         refine ⟨{ target := .fn (.func gf) ca', args := fi' ++ #[.func (.yield b) #[] #[]] }, w, gf, fi' ++ #[.func (.yield b) #[] #[]] ++ ca', w, ?_, ?_, ?_⟩
         ·have e0 : resolve a0.eval (rangeCall g b) 0 = Deferred.ofValue (a0.eval g) #[.func (.yield b) #[] #[]] := by
           simp only [resolve, rangeCall, List.map_toArray, List.map_cons, List.map_nil]
           rfl
          rw [e0, hq]
          rfl
         ·simp only [invoke]
          exact run_callFunc_enter hfn (hN gf fn hfn) hc _ w
         ·have hargs : ARel J (fi.toList ++ (.func (.yield l) #[] #[] :: ca.toList)).toArray (fi' ++ #[.func (.yield b) #[] #[]] ++ ca') := by
           rw [Array.append_assoc]
           exact (jc1 q1 q2).app (jfE hy (jc1 q3 q4))
          have hres := jhL hE gf _ μ v0 μ2 hfun J w _ hr hB hargs (n - 1) (rangePost (fen rd) n P b Q a) (fun J2 v' w2 m1 m2 m3 => ?_)
          ·exact hres
          ·have hl2 : Lives J2 l b := Lives.mono m3.ext (.inl ⟨s, hs⟩)
           obtain ⟨L2, hL2, hf2, hput2⟩ := jdN hset m2 hl2
           obtain ⟨e1, e2⟩ := hf2 _ _ _ _ _ _ _ _ ho
           obtain ⟨k1, k2⟩ := hput2 { L2 with state := .exhausted } rfl e2 rfl rfl rfl rfl rfl
           have hnb' : L2.state ≠ .busy := by rw [e1]; intro e; exact hnb e
           refine ⟨pe, _, (by rw [← e2]; exact run_endLoop hL2 hnb'), ?_⟩
           cases pe with
           | none =>
             cases h
             exact hk J2 a _ k1 (hg.mono m3.ext) (m3.trans hr k2)
           | some c' =>
             simp only at h ⊢
             exact hE c' r μ3 x r' μ' h J2 a _ rd n Q k1 (hB.mono m3.ext) (hg.mono m3.ext) fun J4 a4 w4 g1 g2 g3 => hk J4 a4 w4 g1 g2 (m3.trans hr (k2.trans m2 g3))
       | _ => rw [hq] at hf; cases hf
     ·cases h
 ·cases h
theorem range_ok {ev : ET} (hN : jcQ P) (hE : EvOk P ev) {f : Operand} {ps : Array Tmp} {asg body : Code} {r r' : Rg} {μ μ' : Mem} {x : Ax}
  (h : (match r.rd with
   | none => jde P ev (aev P r f) (Nat.add μ.next 1) { r with ds := μ.next :: r.ds }
     ⟨(μ.obs.set μ.next .deferred).set (Nat.add μ.next 1) (.loop .ready none ps asg body r.n r.tm μ.next), Nat.add μ.next 2⟩
   | some l0 => match μ.obs.get l0 with
     | some (.loop _ _ _ _ _ _ _ d) => jde P ev (aev P r f) μ.next r ⟨μ.obs.set μ.next (.loop .ready none ps asg body r.n r.tm d), Nat.add μ.next 1⟩
     | _ => none) = some (x, r', μ')) {w : World} {a : Act} {rd : Option Nat} (hr : Rel J μ w) (hB : Base P J) (hg : RgRel J rd r a) {n : Nat} {Q : Exit → Act → World → Prop}
  (hk : ∀ J' a' w', Rel J' μ' w' → RgRel J' rd r' a' → Step J μ w J' μ' w' → Q (jeH x) a' w') : (Code.rangeFunc f ps asg body).wpIn (fen rd) n P Q a w := by
 have hv : VRel J (aev P r f) (a.eval f) := jgR hB fun d _ => hg.regs d
 have hrd := hg.rd
 refine wpIn_rangeFunc fun fn _ => ?_
 cases hrr : r.rd with
 | none =>
   rw [hrr] at h hrd
   cases hrd
   have hJ0 : J μ.next = .unborn := hr.fresh _ (Nat.le_refl _)
   have r1 := hr.alloc (i := μ.next) (nx := μ.next + 1) 0 .deferred (.deferred (some [])) hJ0 (Nat.lt_succ_self _) (Nat.le_succ _) (heap_alloc_new w _)
   have s1 := Step.alloc hr (i := μ.next) (nx := μ.next + 1) 0 .deferred (.deferred (some [])) (Nat.le_refl _) (Nat.lt_succ_self _) (Nat.le_succ _)
   generalize hJ1 : upd J μ.next (.at w.heap.size 0) = J1 at r1 s1
   have hJ1n : J1 μ.next = .at w.heap.size 0 := by rw [← hJ1, upd_same]
   have hx1 := s1.ext
   generalize hw1 : w.alloc (.deferred (some [])) = w1 at r1 s1
   have hw1s : w1.heap.size = w.heap.size + 1 := by rw [← hw1, World.size_alloc]
   let L : Loop := { state := .ready, pending := none, fn := fn, tmps := a.tmps, params := ps, assign := asg, body := body, defers := w.heap.size }
   have hJ2 : J1 (μ.next + 1) = .unborn := r1.fresh _ (Nat.le_refl _)
   have hx2 : Ext J1 (upd J1 (μ.next + 1) (.at w1.heap.size 0)) := jda _ hJ2
   have r2 := r1.alloc (i := μ.next + 1) (nx := μ.next + 2) 0 (.loop .ready none ps asg body r.n r.tm μ.next) (.loop L) hJ2 (by omega) (by show μ.next + 1 ≤ _; omega)
    ⟨L, heap_alloc_new w1 _, rfl, rfl, rfl, rfl, rfl, hg.size, (fun t => ((hg.regs t).mono hx1).mono hx2), .inl ⟨0, by rw [jav (by omega)]; exact hJ1n⟩⟩
   have s2 := Step.alloc r1 (i := μ.next + 1) (nx := μ.next + 2) 0 (.loop .ready none ps asg body r.n r.tm μ.next) (.loop L) (Nat.le_refl _) (by omega) (by show μ.next + 1 ≤ _; omega)
   have hxx := hx1.trans hx2
   have hst := s1.trans hr s2
   obtain ⟨d, w1', fi, args, w2, k1, k2, k3⟩ := jf4 (n := n) (Q := Q) (a0 := a) (a := { a with defers := [{ target := .collected w.heap.size, args := #[] }] ++ a.defers }) hN hE h r2 (hB.mono hxx)
    ⟨hg.size, fun t => (hg.regs t).mono hxx, .cons (.inl ⟨0, by rw [jav (by omega)]; exact hJ1n⟩) (hg.ds.mono hxx), .none⟩
    ⟨0, upd_same _ _ _⟩ (hv.mono hxx) (fun J' a' w' g1 g2 g3 => hk J' a' w' g1 g2 (hst.trans hr g3))
   refine ⟨w.heap.size + 1, [{ target := .collected w.heap.size, args := #[] }], w1.alloc (.loop L), d, w1', fi, args, w2, ?_, ?_, fun _ _ => trivial, k2, fun hh => by simp [fen] at hh, ?_⟩
   ·rw [← hw1]; exact run_enterLoop_outer fn a.tmps ps asg body
   ·rw [← hw1s]; exact k1
   ·rw [← hw1s]; exact k3
 | some l0 =>
   rw [hrr] at h hrd
   cases hrd with
   | some hl0 =>
   rename_i b0
   simp only at h
   split at h
   ·rename_i st0 pe0 ps0 asg0 body0 n0 tm0 d0 ho
    obtain ⟨s, hJ, L0, h1, h2, h3, h4, h5, h6, h7, h8, h9⟩ := jiy hr hl0 ho
    let L : Loop := { state := .ready, pending := none, fn := fn, tmps := a.tmps, params := ps, assign := asg, body := body, defers := L0.defers }
    have hJ2 : J μ.next = .unborn := hr.fresh _ (Nat.le_refl _)
    have hx2 : Ext J (upd J μ.next (.at w.heap.size 0)) := jda _ hJ2
    have r2 := hr.alloc (i := μ.next) (nx := μ.next + 1) 0 (.loop .ready none ps asg body r.n r.tm d0) (.loop L) hJ2 (Nat.lt_succ_self _) (Nat.le_succ _)
     ⟨L, heap_alloc_new w _, rfl, rfl, rfl, rfl, rfl, hg.size, (fun t => (hg.regs t).mono hx2), Lives.mono hx2 h9⟩
    have s2 := Step.alloc hr (i := μ.next) (nx := μ.next + 1) 0 (.loop .ready none ps asg body r.n r.tm d0) (.loop L) (Nat.le_refl _) (Nat.lt_succ_self _) (Nat.le_succ _)
    obtain ⟨d, w1', fi, args, w2, k1, k2, k3⟩ := jf4 (n := n) (Q := Q) (a0 := a) (a := { a with defers := [] ++ a.defers }) hN hE h r2 (hB.mono hx2)
     ⟨hg.size, fun t => (hg.regs t).mono hx2, hg.ds.mono hx2, hg.rd.mono hx2⟩
     ⟨0, upd_same _ _ _⟩ (hv.mono hx2) (fun J' a' w' g1 g2 g3 => hk J' a' w' g1 g2 (s2.trans hr g3))
    exact ⟨w.heap.size, [], w.alloc (.loop L), d, w1', fi, args, w2, run_enterLoop_inner h1 fn a.tmps ps asg body, k1, fun _ _ => trivial, k2, fun hh => by simp [fen] at hh, k3⟩
   ·cases h
end
noncomputable section
variable {P : Program}
structure Same (W W' : World) : Prop where
 os : W'.os = W.os
 output : W'.output = W.output
 size : W.heap.size ≤ W'.heap.size
 heap : ∀ b : Nat, b < W.heap.size → W'.heap[b]? = W.heap[b]?
 tape : W'.tape = W.tape
structure RomAt (W : World) (x : Nat × List Value × TypeId) : Prop where
 known : jfm x.2.1 = false → W.heap[x.1]? = some (.cells x.2.1.toArray x.2.2 (0, 0))
 opn : jfm x.2.1 = true → ∃ m, W.heap[x.1]? = some (.cells #[.int .i64 m] x.2.2 (0, 0))
def KOk (P : Program) (g : FuncId) : LK → Prop
 | .alive roms => (∀ x ∈ roms, x.1 < P.globals.size) ∧
   ∀ (w : World) (n : Nat) (R : Ending → World → Prop), (∀ x ∈ roms, RomAt w x) → (∀ w', Same w w' → R (.returned (.bool true)) w') → CallsIn Fence.wide n P g #[] w R
 | .fields g0 t => g0 < P.globals.size ∧ ∀ (s : ByteArray) (w : World), s.size < 4294967281 → (∀ (j : Nat) b, s.data.toList[j]? = some b → b.toNat < 128) →
   (∀ c : Nat, c < 256 → w.cell? ⟨g0, c, none⟩ = some (.int .u8 (if Lib.isSp (UInt8.ofNat c) then 1 else 0))) →
   Calls P g #[.string s] w fun e w' => e = .returned (.slice (some ⟨w.heap.size, 0, none⟩) (Lib.fields s.data.toList).length (Lib.fields s.data.toList).length) ∧
    w' = w.alloc (.cells ((Lib.fields s.data.toList).map fun l => Value.string ⟨l.toArray⟩).toArray t)
 | .contains g1 => g1 < P.globals.size ∧ ∀ (s u : ByteArray) (m : Int) (w : World), s.size < 4294967281 → w.cell? ⟨g1, 0, none⟩ = some (.int .i64 m) →
   Calls P g #[.string s, .string u] w fun e w' => e = .returned (.bool (Lib.contains s.data.toList u.data.toList)) ∧ w' = w
 | .plain f => ∀ (args : List Value) (v : Value), f args = some v → args.all (jaw 5) = true → jaw 5 v = true → ∀ (w : World) (n : Nat) (R : Ending → World → Prop), (∀ w', Same w w' → R (.returned v) w') → CallsIn Fence.wide n P g args.toArray w R
def SumsOk (P : Program) (S : List (FuncId × LK)) : Prop := ∀ x ∈ S, KOk P x.1 x.2
theorem SumsOk.none (P : Program) : SumsOk P [] := fun x h => by cases h
theorem SumsOk.cons {g : FuncId} {k : LK} {S : List (FuncId × LK)} (h : KOk P g k) (hS : SumsOk P S) : SumsOk P ((g, k) :: S) := fun x hx => by
 rcases List.mem_cons.1 hx with e | e
 ·subst e; exact h
 ·exact hS x e
theorem lkOf_mem : ∀ {S : List (FuncId × LK)} {g : FuncId} {k : LK}, lkOf S g = some k → (g, k) ∈ S := by
 intro S
 induction S with
 | nil => intro g k h; cases h
 | cons x S ih =>
   intro g k h
   obtain ⟨f, k'⟩ := x
   unfold lkOf at h
   split at h
   ·rename_i e
    cases h
    have : f = g := rzD e
    subst this
    exact List.mem_cons_self
   ·exact List.mem_cons_of_mem _ (ih h)
theorem spN_all : ∀ n : Fin 256, spN n.1 = Lib.isSp (UInt8.ofNat n.1) := by decide +kernel
theorem spN_eq (b : UInt8) : spN b.toNat = Lib.isSp b := by
 have h := spN_all ⟨b.toNat, UInt8.toNat_lt b⟩
 simpa using h
theorem jkJ : ∀ (l cur : List UInt8), fieldsB cur l = Lib.fieldsGo cur.reverse l := by
 intro l
 induction l with
 | nil => intro cur; cases cur <;> simp [fieldsB, Lib.fieldsGo]
 | cons b l ih =>
   intro cur
   simp only [fieldsB, Lib.fieldsGo]
   rw [spN_eq]
   cases h : Lib.isSp b with
   | true =>
     cases cur with
     | nil => simp [ih]
     | cons c r => simp [ih]
   | false => simp [ih]
theorem preB_eq : ∀ (x y : List UInt8), preB x y = x.isPrefixOf y := by
 intro x
 induction x with
 | nil => intro y; cases y <;> rfl
 | cons a x ih =>
   intro y
   cases y with
   | nil => rfl
   | cons b y =>
     simp only [preB, List.isPrefixOf]
     cases h : Nat.beq a.toNat b.toNat with
     | true =>
       have : a = b := UInt8.toNat_inj.1 (rzD h)
       subst this
       simp [ih]
     | false =>
       have : a ≠ b := fun e => rzF h (by rw [e])
       simp [this]
theorem hasB_eq (u : List UInt8) : ∀ s : List UInt8, hasB u s = Lib.contains s u := by
 intro s
 induction s with
 | nil => cases u <;> simp [hasB, Lib.contains, Lib.index]
 | cons b l ih =>
   unfold Lib.contains at ih ⊢
   simp only [hasB, Lib.index]
   have hge := Lib.index_ge l u
   cases h : preB u (b :: l) with
   | true => rw [preB_eq] at h; simp [h]
   | false =>
     rw [preB_eq] at h
     simp only [h, Bool.false_eq_true, if_false, ih]
     by_cases h1 : Lib.index l u = -1
     ·simp [h1]
     ·have h2 : (Lib.index l u == -1) = false := by simpa using h1
      simp only [h2, Bool.false_eq_true, if_false]
      have h3 : 0 ≤ Lib.index l u := by omega
      simp [h3]; omega
theorem tabB_spec : ∀ (l : List Value) (c : Nat), tabB c l = true → l.length + c = 256 ∧ ∀ j, j < l.length → l[j]? = some (.int .u8 (if Lib.isSp (UInt8.ofNat (c + j)) then 1 else 0)) := by
 intro l
 induction l with
 | nil => intro c h; exact ⟨by have := rzD h; simpa using this, fun j hj => by simp at hj⟩
 | cons v l ih =>
   intro c h
   unfold tabB at h
   split at h
   ·rename_i m
    split at h
    ·rename_i hm
     obtain ⟨h1, h2⟩ := ih (Nat.succ c) h
     refine ⟨by simp; omega, fun j hj => ?_⟩
     match j with
     | 0 =>
       have hm' := rzD hm
       have hc : c < 256 := by omega
       have := spN_all ⟨c, hc⟩
       simp only at this
       simp only [List.getElem?_cons_zero, Nat.add_zero, ← this]
       cases hs : spN c with
       | true => rw [hs] at hm'; subst hm'; rfl
       | false => rw [hs] at hm'; subst hm'; rfl
     | j + 1 =>
       have := h2 j (by simpa using hj)
       rw [List.getElem?_cons_succ, this, show Nat.succ c + j = c + (j + 1) from by omega]
    ·cases h
   ·cases h
theorem lowB_spec : ∀ (l : List UInt8), lowB l = true → ∀ (j : Nat) b, l[j]? = some b → b.toNat < 128 := by
 intro l
 induction l with
 | nil => intro _ j b h; simp at h
 | cons a l ih =>
   intro h j b hb
   unfold lowB at h
   split at h
   ·rename_i ha
    match j with
    | 0 => simp at hb; subst hb; simpa using ha
    | j + 1 => exact ih h j b (by simpa using hb)
   ·cases h
theorem jef {J : Nat → Loc} {v : Value} {args' : Array Value} (h : ARel J [v].toArray args') : ∃ v', args' = #[v'] ∧ VRel J v v' := by
 have hs : args'.size = 1 := by simpa using h.size.symm
 refine ⟨args'[0], ?_, h.at_ 0 _ _ (by simp) (rzJ (by omega))⟩
 apply Array.ext
 ·simp [hs]
 ·intro i h1 h2
  have : i = 0 := by omega
  subst this
  rfl
theorem jjW {J : Nat → Loc} {u v : Value} {args' : Array Value} (h : ARel J [u, v].toArray args') : ∃ u' v', args' = #[u', v'] ∧ VRel J u u' ∧ VRel J v v' := by
 have hs : args'.size = 2 := by simpa using h.size.symm
 refine ⟨args'[0], args'[1], ?_, h.at_ 0 _ _ (by simp) (rzJ (by omega)), h.at_ 1 _ _ (by simp) (rzJ (by omega))⟩
 apply Array.ext
 ·simp [hs]
 ·intro i h1 h2
  match i with
  | 0 => rfl
  | 1 => rfl
  | i + 2 => simp at h2; omega
theorem jgG {J : Nat → Loc} {μ : Mem} {w : World} (hr : Rel J μ w) (hB : Base P J) {g : Nat} (hg : g < P.globals.size) {o : Ob} (ho : μ.obs.get g = some o) (hd : o ≠ .dead) : ∃ s, J g = .at g s ∧ ObRel J w g s o := by
 obtain ⟨b, s, hb, hob⟩ := hr.obj _ _ ho hd
 rcases hB.glob g hg with ⟨s2, e⟩ | e
 ·rw [e] at hb; cases hb; exact ⟨_, e, hob⟩
 ·rw [e] at hb; cases hb
theorem jhq {J : Nat → Loc} {μ : Mem} {w : World} (hr : Rel J μ w) (hB : Base P J) {roms : List (Nat × List Value × TypeId)} (hlt : ∀ x ∈ roms, x.1 < P.globals.size) (hk : jff μ roms = true) :
  ∀ x ∈ roms, RomAt w x := by
 intro x hx
 have := List.all_eq_true.1 hk x hx
 split at this
 ·rename_i l t hob
  split at this
  ·cases this
  ·rename_i hno
   simp only [Bool.and_eq_true] at this
   have e1 : l = x.2.1 := je6 (jfX 5) _ _ this.1
   have e2 : t = x.2.2 := rzD this.2
   subst e1 e2
   obtain ⟨s, _, hc, _⟩ := jgG hr hB (hlt x hx) hob (by simp)
   exact ⟨fun _ => hc, fun h => absurd (h.symm.trans hno) (by simp)⟩
 ·rename_i t hob
  simp only [Bool.and_eq_true] at this
  have e2 : t = x.2.2 := rzD this.2
  subst e2
  obtain ⟨s, _, hc⟩ := jgG hr hB (hlt x hx) hob (by simp)
  exact ⟨fun h => absurd (h.symm.trans this.1) (by simp), fun _ => ⟨_, hc⟩⟩
 ·cases this
theorem Same.rel {J : Nat → Loc} {μ : Mem} {w w' : World} (hr : Rel J μ w) (hs : Same w w') : Rel J μ w' :=
 ⟨hr.inj, fun i b s e => Nat.lt_of_lt_of_le (hr.bnd i b s e) hs.size, hr.fresh, fun i o ho hd => by
  obtain ⟨b, s, hb, hob⟩ := hr.obj i o ho hd
  exact ⟨b, s, hb, hob.keep (Ext.refl J) (hs.heap b (hr.bnd i b s hb))⟩⟩
theorem Same.step {J : Nat → Loc} {μ : Mem} {w w' : World} (hs : Same w w') : Step J μ w J μ w' :=
 ⟨fun i b s e => .inl e, fun i e => e, fun i _ e => e, fun i b s e e2 => (by rw [e] at e2; cases e2), Nat.le_refl _, fun i _ hg => hg, hs.size, fun b hb _ => hs.heap b hb, hs.os, hs.tape, hs.output⟩
theorem jkq {J : Nat → Loc} {args : List Value} {args' : Array Value} (ha : ARel J args.toArray args') (hp : args.all (jaw 5) = true) : args' = args.toArray := by
 apply Array.ext
 ·exact ha.size.symm
 ·intro i h1 h2
  have := ha.at_ i _ _ (rzJ h2) (rzJ h1)
  refine jeW 5 (List.all_eq_true.1 hp _ ?_) this
  simp
theorem lk_ok {g : FuncId} {k : LK} (hK : KOk P g k) {args : List Value} {μ μ' : Mem} {v : Value} (h : aLK k args μ = some (v, μ')) {J : Nat → Loc} {w : World} {args' : Array Value} (hr : Rel J μ w) (hB : Base P J)
  (ha : ARel J args.toArray args') (n : Nat) (R : Ending → World → Prop) (hR : ∀ J' v' w', VRel J' v v' → Rel J' μ' w' → Step J μ w J' μ' w' → R (.returned v') w') : CallsIn Fence.wide n P g args' w R := by
 cases k with
 | alive roms =>
   unfold aLK at h
   simp only at h
   split at h
   ·split at h
    ·rename_i hk
     cases h
     have hargs : args' = #[] := by
      have := ha.size
      simp at this
      exact Array.eq_empty_of_size_eq_zero this.symm
     subst hargs
     exact hK.2 w n R (jhq hr hB hK.1 hk) fun w' hs => hR J (.bool true) w' (.bool true) (hs.rel hr) hs.step
    ·cases h
   ·cases h
 | fields g0 t =>
   unfold aLK at h
   simp only at h
   split at h
   ·rename_i s
    split at h
    ·rename_i l t' hob
     split at h
     ·rename_i htab
      split at h
      ·rename_i hlow
       split at h
       ·rename_i hsz
        cases h
        obtain ⟨v', rfl, hv⟩ := jef ha
        rw [jbb hv]
        obtain ⟨hl1, hl2⟩ := tabB_spec _ _ htab
        obtain ⟨s0, hJ, hc, _⟩ := jgG hr hB hK.1 hob (by simp)
        have hF : fieldsB [] s.data.toList = Lib.fields s.data.toList := jkJ _ _
        rw [hF] at hR
        refine callsIn_wide.2 ((hK.2 s w (by simpa using hsz) (lowB_spec _ hlow) (fun c hc2 => ?_)).mono fun e w' ⟨he, hw⟩ => ?_)
        ·have := hl2 c (by omega)
         rw [Nat.zero_add] at this
         rw [← this]
         simp [World.cell?, hc]
        ·subst he hw
         have hn : Nat.mul 2 (Lib.fields s.data.toList).length = 2 * (Lib.fields s.data.toList).length := rfl
         refine hR (upd J μ.next (.at w.heap.size (Lib.fields s.data.toList).length)) _ _ (.slice (upd_same _ _ _) (.inl ⟨by rw [hn]; omega, by rw [hn]; omega⟩)) ?_ ?_
         ·refine Rel.alloc hr _ _ _ (hr.fresh _ (Nat.le_refl _)) (Nat.lt_succ_self _) (Nat.le_succ _) ?_
          refine ⟨_, (0, 0), heap_alloc_new w _, by simp, Nat.le_refl _, fun _ => rfl, fun i hi => ?_, .inl rfl⟩
          refine ⟨Value.string ⟨((Lib.fields s.data.toList)[i]).toArray⟩, by simp [hi], ?_⟩
          have : cellAt ((Lib.fields s.data.toList).map fun l => Value.string ⟨l.toArray⟩).toArray T.e i = Value.string ⟨((Lib.fields s.data.toList)[i]).toArray⟩ := by
           have hm : Nat.mod i ((Lib.fields s.data.toList).map fun l => Value.string ⟨l.toArray⟩).toArray.size = i := by show i % _ = i; rw [Nat.mod_eq_of_lt]; simpa using hi
           simp only [cellAt, T.get_e, hm]
           simp [Array.getD, hi]
          rw [this]
          exact .string _
         ·exact Step.alloc hr _ _ _ (Nat.le_refl _) (Nat.lt_succ_self _) (Nat.le_succ _)
       ·cases h
      ·cases h
     ·cases h
    ·cases h
   ·cases h
 | contains g1 =>
   unfold aLK at h
   simp only at h
   split at h
   ·rename_i s u
    split at h
    ·rename_i t' hob
     split at h
     ·rename_i hsz
      cases h
      obtain ⟨v1, v2, rfl, hv1, hv2⟩ := jjW ha
      rw [jbb hv1, jbb hv2]
      obtain ⟨s0, hJ, hc⟩ := jgG hr hB hK.1 hob (by simp)
      refine callsIn_wide.2 ((hK.2 s u (deZ s0) w (by simpa using hsz) (by show w.cell? ⟨g1, 0, none⟩ = _; unfold World.cell?; rw [show w.heap[g1]? = _ from hc]; rfl)).mono fun e w' ⟨he, hw⟩ => ?_)
      subst he hw
      rw [← hasB_eq]
      exact hR J _ _ (.bool _) hr (Step.refl _ _ _)
     ·cases h
    ·cases h
   ·cases h
 | plain f =>
   unfold aLK at h
   simp only at h
   split at h
   ·rename_i v1 hf
    split at h
    ·rename_i hp
     split at h
     ·rename_i hv
      cases h
      rw [jkq ha hp]
      exact hK args _ hf hp hv w n R fun w' hs => hR J v w' (ja1 5 hv) (hs.rel hr) hs.step
     ·cases h
    ·cases h
   ·cases h
theorem calls_ok {ev : ET} {S : List (FuncId × LK)} (hE : EvOk P ev) (hS : SumsOk P S) : jeh P (jbs P ev S) := by
 intro g args μ v μ' h J w args' hr hB ha n R hR
 unfold jbs at h
 split at h
 ·rename_i k hk
  exact lk_ok (hS _ (lkOf_mem hk)) h hr hB ha n R hR
 ·exact jhL hE g args μ v μ' h J w args' hr hB ha n R hR
end
noncomputable section
variable {P : Program}
def inScope (F : Fence) (n : Nat) (P : Program) (c : Code) (Q : Exit → Act → World → Prop) : Exit → Act → World → Prop
 | .goto l, a, w => ∃ rest, findLabel c l = some rest ∧ rest.wpIn F n P (Exit.noGoto Q) a w
 | e, a, w => Q e a w
theorem jbN {P : Program} {b : Frame} {a : Act} {k : List Item} {cs : List Frame} {w : World} {c : Code} : step P (lone (b.atR a (.code (.scope c) :: k)) cs w) = .next (lone (b.atR a (.code c :: .inScope c :: k)) cs w) :=
 step_lone_go (by simp [stepG, stepG.exec, Frame.atR])
theorem jdX {P : Program} {b : Frame} {a : Act} {k : List Item} {cs : List Frame} {w : World} {c : Code} : step P (lone (b.atR a (.inScope c :: k)) cs w) = .next (lone (b.atR a k) cs w) :=
 step_lone_go (by simp [stepG, stepG.exec, Frame.atR])
theorem jdg {F : Fence} {n : Nat} {P : Program} {Q : Exit → Act → World → Prop} {a : Act} {w : World} {c : Code} (h : c.wpIn F n P (inScope F n P c Q) a w) : (Code.scope c).wpIn F n P Q a w := by
 intro b k cs hro hb hr
 have h0 : (lone (b.atR a (.code (.scope c) :: k)) cs w).fenced P F := fenced_calm hb hr rfl
 have hx : ∀ id, exitTo id (.inScope c :: k) = exitTo id k := fun id => by simp [exitTo]
 obtain ⟨e, a₁, w₁, hq, harr⟩ := h b (.inScope c :: k) cs hro hb hr
 cases e with
 | normal => exact ⟨.normal, a₁, w₁, hq, .head h0 jbN (StepsIn.trans harr (.one (fenced_calm hb hr rfl) jdX))⟩
 | exit id => exact ⟨.exit id, a₁, w₁, hq, fun k' hk => .head h0 jbN (harr.1 k' (by rw [hx]; exact hk)),
   fun hr' hk => let ⟨k₁, h1, h2⟩ := harr.2 hr' (by rw [hx]; exact hk); ⟨k₁, h1, .head h0 jbN h2⟩⟩
 | goto l =>
   obtain ⟨rest, hf, hw⟩ := hq
   have hg : gotoIn l (.inScope c :: k) = some (.code rest :: .inScope c :: k) := by simp [gotoIn, hf]
   obtain ⟨e₂, a₂, w₂, hq₂, harr₂⟩ := hw b (.inScope c :: k) cs hro hb hr
   have go : StepsIn (Machine.fenced P F) P (lone (b.atR a (.code (.scope c) :: k)) cs w) (lone (b.atR a₁ (.code rest :: .inScope c :: k)) cs w₁) := .head h0 jbN (harr.1 _ hg)
   cases e₂ with
   | normal => exact ⟨.normal, a₂, w₂, hq₂, StepsIn.trans go (StepsIn.trans harr₂ (.one (fenced_calm hb hr rfl) jdX))⟩
   | exit id => exact ⟨.exit id, a₂, w₂, hq₂, fun k' hk => StepsIn.trans go (harr₂.1 k' (by rw [hx]; exact hk)),
     fun hr' hk => let ⟨k₁, h1, h2⟩ := harr₂.2 hr' (by rw [hx]; exact hk); ⟨k₁, h1, StepsIn.trans go h2⟩⟩
   | goto l => exact hq₂.elim
   | ret => exact ⟨_, a₂, w₂, hq₂, .of_steps go harr₂⟩
   | panic ch => exact ⟨_, a₂, w₂, hq₂, .of_steps go harr₂⟩
   | outgrown => exact ⟨_, a₂, w₂, hq₂, .of_steps go harr₂⟩
 | ret => exact ⟨_, a₁, w₁, hq, .of_steps (.one h0 jbN) harr⟩
 | panic ch => exact ⟨_, a₁, w₁, hq, .of_steps (.one h0 jbN) harr⟩
 | outgrown => exact ⟨_, a₁, w₁, hq, .of_steps (.one h0 jbN) harr⟩
def LoopOk (P : Program) (ev : ET) (k : Nat) : Prop :=
 ∀ c r μ x r' μ', ev (.loop c) r μ = some (x, r', μ') → ∀ J a w rd n (Q : Exit → Act → World → Prop), Rel J μ w → Base P J → RgRel J rd r a →
  (∀ J' a' w', Rel J' μ' w' → RgRel J' rd r' a' → Step J μ w J' μ' w' → Q (jeH x) a' w') → Code.roundsIn (fen rd) n P c Q k a w
theorem jiT {X : XT} (hN : jcQ P) (hX : XOk P X) (hm : P.follows .mixedOrders = true) {S : List (FuncId × LK)} (hS : SumsOk P S) : ∀ k, EvOk P (jai P X S k) ∧ LoopOk P (jai P X S k) k := by
 intro k
 induction k with
 | zero => exact ⟨fun c r μ x r' μ' h => by simp [jgl] at h, fun c r μ x r' μ' h => by simp [jgl] at h⟩
 | succ k ih =>
   obtain ⟨ihE, ihL⟩ := ih
   have hF := calls_ok ihE hS
   have hRo := round_ok ihE
   have loop : LoopOk P (jai P X S (k + 1)) (k + 1) := by
    intro c r μ x r' μ' h J a w rd n Q hr hB hg hk
    simp only [jaA, jbB] at h
    rw [roundsIn_succ]
    split at h
    ·rename_i r1 μ1 h1
     refine ihE c r μ _ r1 μ1 h1 J a w rd n _ hr hB hg fun J1 a1 w1 g1 g2 g3 => ?_
     exact ihL c r1 μ1 x r' μ' h J1 a1 w1 rd n Q g1 (hB.mono g3.ext) g2 fun J2 a2 w2 k1 k2 k3 => hk J2 a2 w2 k1 k2 (g3.trans hr k3)
    ·rename_i hno
     refine ihE c r μ x r' μ' h J a w rd n _ hr hB hg fun J1 a1 w1 g1 g2 g3 => ?_
     have := hk J1 a1 w1 g1 g2 g3
     cases x with
     | normal => exact absurd h (hno r' μ')
     | exit id => exact this
     | ret => exact this
     | goto l => exact this
   refine ⟨?_, loop⟩
   intro c r μ x r' μ' h J a w rd n Q hr hB hg hk
   cases c with
   | loop c => exact wpIn_loop_rounds (k + 1) (loop c r μ x r' μ' h J a w rd n Q hr hB hg hk)
   | skip => simp only [jaA, jbB] at h; cases h; exact wpIn_skip (hk J a w hr hg (Step.refl _ _ _))
   | label l => simp only [jaA, jbB] at h; cases h; exact wpIn_label (hk J a w hr hg (Step.refl _ _ _))
   | ret => simp only [jaA, jbB] at h; cases h; exact wpIn_ret (hk J a w hr hg (Step.refl _ _ _))
   | exit id => simp only [jaA, jbB] at h; cases h; exact wpIn_exit (hk J a w hr hg (Step.refl _ _ _))
   | goto l => simp only [jaA, jbB] at h; cases h; exact wpIn_goto (hk J a w hr hg (Step.refl _ _ _))
   | scope c =>
     simp only [jaA, jbB] at h
     split at h
     ·rename_i l r1 μ1 h1
      split at h
      ·rename_i rest hf
       refine jdg ?_
       refine ihE c r μ _ r1 μ1 h1 J a w rd n _ hr hB hg fun J1 a1 w1 g1 g2 g3 => ?_
       refine ⟨rest, hf, ?_⟩
       split at h
       ·cases h
       ·rename_i hno
        refine ihE rest r1 μ1 x r' μ' h J1 a1 w1 rd n _ g1 (hB.mono g3.ext) g2 fun J2 a2 w2 k1 k2 k3 => ?_
        have := hk J2 a2 w2 k1 k2 (g3.trans hr k3)
        cases x with
        | normal => exact this
        | exit id => exact this
        | ret => exact this
        | goto l => exact absurd h (hno l r' μ')
      ·cases h
     ·rename_i hno
      refine jdg ?_
      refine ihE c r μ x r' μ' h J a w rd n _ hr hB hg fun J1 a1 w1 g1 g2 g3 => ?_
      have := hk J1 a1 w1 g1 g2 g3
      cases x with
      | normal => exact this
      | exit id => exact this
      | ret => exact this
      | goto l => exact absurd h (hno l r' μ')
   | region id ops draw =>
     cases draw with
     | false =>
       simp only [jaA, jbB, jgU] at h
       split at h
       ·rename_i r1 μ1 h1
        cases h
        exact wpIn_region_list (jk3 hN hX hF hRo ops.toList r μ r' μ' h1 J a w hr hB hg hk)
       ·cases h
     | true =>
       simp only [jaA, jbB] at h
       split at h
       ·exact jil hN hX hF hRo hm h hr hB hg hk
       ·rename_i hd
        split at h
        ·rename_i r1 μ1 sn h1
         cases h
         exact jkN hN hX hF hRo hm hd h1 hr hB hg hk
        ·cases h
   | seq c d =>
     simp only [jaA, jbB] at h
     refine wpIn_seq ?_
     split at h
     ·rename_i r1 μ1 h1
      refine ihE c r μ _ r1 μ1 h1 J a w rd n _ hr hB hg fun J1 a1 w1 g1 g2 g3 => ?_
      exact ihE d r1 μ1 x r' μ' h J1 a1 w1 rd n Q g1 (hB.mono g3.ext) g2 fun J2 a2 w2 k1 k2 k3 => hk J2 a2 w2 k1 k2 (g3.trans hr k3)
     ·rename_i hno
      refine ihE c r μ x r' μ' h J a w rd n _ hr hB hg fun J1 a1 w1 g1 g2 g3 => ?_
      have := hk J1 a1 w1 g1 g2 g3
      cases x with
      | normal => exact absurd h (hno r' μ')
      | exit id => exact this
      | ret => exact this
      | goto l => exact this
   | cond o c d =>
     simp only [jaA, jbB] at h
     have hv : VRel J (aev P r o) (a.eval o) := jgR hB fun d _ => hg.regs d
     split at h
     ·rename_i e
      rw [e] at hv
      exact wpIn_cond_true (jed hv) (ihE c r μ x r' μ' h J a w rd n Q hr hB hg hk)
     ·rename_i e
      rw [e] at hv
      exact wpIn_cond_false (jed hv) (ihE d r μ x r' μ' h J a w rd n Q hr hB hg hk)
     ·cases h
   | block id c =>
     simp only [jaA, jbB] at h
     refine wpIn_block ?_
     split at h
     ·rename_i id' r1 μ1 h1
      split at h
      ·rename_i hid
       cases h
       refine ihE c r μ _ r' μ' h1 J a w rd n _ hr hB hg fun J1 a1 w1 g1 g2 g3 => ?_
       have e : id' = id := rzD hid
       subst e
       simp only [jeH, Exit.inBlock, if_true]
       exact hk J1 a1 w1 g1 g2 g3
      ·rename_i hid
       cases h
       refine ihE c r μ _ r' μ' h1 J a w rd n _ hr hB hg fun J1 a1 w1 g1 g2 g3 => ?_
       have e : id' ≠ id := rzF hid
       simp only [jeH, Exit.inBlock, if_neg e]
       exact hk J1 a1 w1 g1 g2 g3
     ·rename_i hno
      refine ihE c r μ x r' μ' h J a w rd n _ hr hB hg fun J1 a1 w1 g1 g2 g3 => ?_
      have := hk J1 a1 w1 g1 g2 g3
      cases x with
      | exit id' => exact absurd h (hno id' r' μ')
      | normal => exact this
      | ret => exact this
      | goto l => exact this
   | rangeFunc f ps asg body =>
     simp only [jaA, jbB] at h
     exact range_ok hN ihE h hr hB hg hk
   | _ => simp [jaA, jbB] at h
end
noncomputable section
variable {P : Program}
inductive XK where
 | f64bits
 | f64from
 | same
 | noZero (e : TypeId)
 | indexByte
def XK.sem (k : XK) (fn : Func) : Array Value → Sem Value := match k with
 | .f64bits => Extern.MathFloatBits.float64bits
 | .f64from => Extern.MathFloatBits.float64frombits
 | .same => Extern.AbiNoEscape.same
 | .noZero _ => Extern.BytealgMakeNoZero.makeNoZero fn.params fn.resultTypes
 | .indexByte => Extern.BytealgIndexByte.indexByte
def jg1 (μ : Mem) (v : Value) : Option (List UInt8) :=
 match v with
 | .string s => some s.data.toList
 | .slice none _ _ => some []
 | .slice (some ⟨i, o, none⟩) len _ => match μ.obs.get i with
   | some (.cells n _ zero over _ _ _ _) => match Nat.ble (Nat.add o len) n with
     | true => bytesOf (jat zero over o len)
     | false => none
   | _ => none
 | _ => none
theorem run_loadBytes {J : Nat → Loc} {w : World} {zero : Array Value} {over : T Value} {b : Nat} : ∀ (n o : Nat) (acc : ByteArray) (l : List UInt8), (∀ k, k < n → ∃ x, w.cell? ⟨b, o + k, none⟩ = some x ∧ VRel J (cellAt zero over (o + k)) x) →
  bytesOf (jat zero over o n) = some l → (Extern.Bytes.loadBytes ⟨b, o, none⟩ n acc).run P w = .ok ⟨(acc.data.toList ++ l).toArray⟩ w := by
 intro n
 induction n with
 | zero =>
   intro o acc l _ h
   simp only [jat, bytesOf] at h
   cases h
   simp [Extern.Bytes.loadBytes, rzC]
 | succ n ih =>
   intro o acc l hc h
   simp only [jat] at h
   obtain ⟨x, hx, hv⟩ := hc 0 (by omega)
   rw [Nat.add_zero] at hx hv
   unfold bytesOf at h
   split at h
   ·rename_i e; cases e
   ·rename_i k r e
    injection e with e1 e2
    rw [e1] at hv
    split at h
    ·rename_i l2 hl2
     cases h
     rw [ja4 hv] at hx
     simp only [Extern.Bytes.loadBytes, rzB, run_load hx, rzA, jgi]
     rw [ih (o + 1) _ l2 (fun j hj => by
      have := hc (j + 1) (by omega)
      rw [show o + (j + 1) = o + 1 + j by omega] at this
      exact this) (by rw [e2]; exact hl2)]
     simp [ByteArray.push]
    ·cases h
   ·cases h
theorem jkj {J : Nat → Loc} {μ : Mem} {w : World} (h : Rel J μ w) {v v' : Value} {l : List UInt8} (hv : VRel J v v') (hl : jg1 μ v = some l) : (Extern.Bytes.bytesOf v').run P w = .ok ⟨l.toArray⟩ w := by
 unfold jg1 at hl
 split at hl
 ·cases hl
  rw [jbb hv]
  rfl
 ·cases hl
  cases hv
  rfl
 ·rename_i i o len c
  split at hl
  ·rename_i n te zero over lo hi fx sh hob
   split at hl
   ·rename_i hle
    have hle' : o + len ≤ n := rzE hle
    obtain ⟨b, s, hb, _, hc⟩ := cell_of h hob
    obtain ⟨a', c', hx', _, hcase⟩ := jbi hv
    have ha' : a' = ⟨b, o, none⟩ := by
     rcases hcase with ⟨i2, o2, b2, s2, e1, e2, e3, _⟩ | ⟨e1, _⟩
     ·cases e1; rw [hb] at e3; cases e3; exact e2
     ·rw [show J i = _ from hb] at e1; cases e1
    rw [hx', ha']
    have := run_loadBytes (P := P) len o .empty l (fun k hk => hc (o + k) (by omega)) hl
    simpa [Extern.Bytes.bytesOf] using this
   ·cases hl
  ·cases hl
 ·cases hl
def jcz (l : List UInt8) (c : UInt8) : Value :=
 match (List.range l.length).find? fun i => (ByteArray.mk l.toArray)[i]! == c with
 | some i => .int .i64 (Int.ofNat i)
 | none => .int .i64 (-1)
def aK (k : XK) (args : List Value) (μ : Mem) : Option (Value × Mem) :=
 match k with
 | .f64bits => match args with
   | [.float .f64 b] => some (.int .u64 (Int.ofNat b), μ)
   | _ => none
 | .f64from => match args with
   | [.int .u64 (.ofNat n)] => some (.float .f64 n, μ)
   | _ => none
 | .same => match args with
   | [x] => some (x, μ)
   | _ => none
 | .noZero e => match args with
   | [.int .i64 (.ofNat n)] => match Nat.ble n 281474976710656 with
     | true => some (.slice (some ⟨μ.next, 0, none⟩) n 3, ⟨μ.obs.set μ.next (.cells n e #[.chan none] .e 0 0 true false), Nat.add μ.next 1⟩)
     | false => none
   | _ => none
 | .indexByte => match args with
   | [x, .int .u8 c] => match jg1 μ x with
     | some l => some (jcz l c.toNat.toUInt8, μ)
     | none => none
   | _ => none
def aExt (xs : List (FuncId × XK)) (g : FuncId) (args : List Value) (μ : Mem) : Option (Value × Mem) :=
 match xs.find? (fun x => Nat.beq x.1 g) with
 | none => none
 | some x => aK x.2 args μ
structure XRow (P : Program) (g : FuncId) (k : XK) (fn : Func) : Prop where
 row : P.funcs[g]? = some fn
 name : (fn.name == "runtime.NumGoroutine") = false
 body : fn.body.isNone = true
 next : Extern.findNext fn = none
 find : Extern.find fn = some (k.sem fn)
 ty : ∀ e, k = .noZero e → ∃ t, fn.resultTypes = #[t] ∧ P.underlying t = some (.slice e)
theorem jja {xs : List (FuncId × XK)} (hx : ∀ x ∈ xs, ∃ fn, XRow P x.1 x.2 fn) : XOk P (aExt xs) := by
 intro g args μ v μ' fn hfn hb h J w args' hr ha
 unfold aExt at h
 split at h
 ·cases h
 ·rename_i x hf
  have hmem := List.mem_of_find?_eq_some hf
  have hg : x.1 = g := by
   have := List.find?_some hf
   exact rzD this
  obtain ⟨fn', R⟩ := hx x hmem
  have hee : fn' = fn := by have := R.row; rw [hg, hfn] at this; cases this; rfl
  subst hee
  subst hg
  have hrun := fun (args' : Array Value) => run_callFunc_extern R.row R.name R.body R.next R.find args' w
  unfold aK at h
  split at h
  ·rename_i hk
   split at h
   ·cases h
    obtain ⟨v', rfl, hv⟩ := jef ha
    cases hv
    exact ⟨J, _, w, by rw [hrun, hk]; rfl, .int _ _, hr, Step.refl _ _ _⟩
   ·cases h
  ·rename_i hk
   split at h
   ·cases h
    obtain ⟨v', rfl, hv⟩ := jef ha
    cases hv
    exact ⟨J, _, w, by rw [hrun, hk]; rfl, .float _ _, hr, Step.refl _ _ _⟩
   ·cases h
  ·rename_i hk
   split at h
   ·cases h
    obtain ⟨v', rfl, hv⟩ := jef ha
    exact ⟨J, v', w, by rw [hrun, hk]; rfl, hv, hr, Step.refl _ _ _⟩
   ·cases h
  ·rename_i e hk
   split at h
   ·rename_i n
    split at h
    ·rename_i hle
     cases h
     have hle' : n ≤ 281474976710656 := rzE hle
     obtain ⟨v', rfl, hv⟩ := jef ha
     cases hv
     obtain ⟨t, ht, hu⟩ := R.ty e hk
     obtain ⟨cs, hcs, hn, _⟩ := Lib.run_makeNoZero (P := P) w fn'.params t e hu n hle'
     have hJ : J μ.next = .unborn := hr.fresh _ (Nat.le_refl _)
     have hr1 : Rel J μ w.drew.drew := hr.heap rfl
     have hob : ObRel (upd J μ.next (.at w.drew.drew.heap.size cs.size)) (w.drew.drew.alloc (.cells cs e)) w.drew.drew.heap.size cs.size (.cells n e #[.chan none] .e 0 0 true false) := by
      refine ⟨cs, (0, 0), heap_alloc_new _ _, rfl, hn, (fun h => by cases h), fun i hi => ⟨cs[i], rzJ (by omega), ?_⟩, .inl rfl⟩
      have : cellAt #[.chan none] T.e i = .chan none := by
       simp only [cellAt, T.get_e]
       have : Nat.mod i (#[Value.chan none] : Array Value).size = 0 := by show i % 1 = 0; omega
       rw [this]; rfl
      rw [this]
      exact .any _ _
     refine ⟨upd J μ.next (.at w.drew.drew.heap.size cs.size), .slice (some ⟨w.heap.size, 0, none⟩) n cs.size, w.drew.drew.alloc (.cells cs e), ?_, ?_, ?_, ?_⟩
     ·rw [hrun, hk]
      simp only [XK.sem, ht]
      erw [hcs]
      rfl
     ·exact .slice (upd_same _ _ _) (.inr ⟨rfl, hn, by show 0 + cs.size * (3 / 2) ≤ cs.size; omega⟩)
     ·exact hr1.alloc cs.size _ _ hJ (Nat.lt_succ_self _) (Nat.le_succ _) hob
     ·have st := Step.alloc hr1 (i := μ.next) (nx := μ.next + 1) cs.size (.cells n e #[.chan none] .e 0 0 true false) (.cells cs e) (Nat.le_refl _) (Nat.lt_succ_self _) (Nat.le_succ _)
      exact ⟨st.at_, st.dead, st.unborn, st.born, st.next, st.gone_, st.size, st.frame, st.os, st.tape, st.output⟩
    ·cases h
   ·cases h
  ·rename_i hk
   split at h
   ·rename_i x c
    split at h
    ·rename_i l hl
     cases h
     obtain ⟨u', v', rfl, hu, hv⟩ := jjW ha
     rw [ja4 hv] at *
     have hb := jkj (P := P) hr hu hl
     have hfin : (Extern.BytealgIndexByte.indexByte #[u', .int .u8 c]).run P w = .ok (jcz l c.toNat.toUInt8) w := by
      have e0 : Extern.BytealgIndexByte.indexByte #[u', .int .u8 c] = (do
        let b ← Extern.Bytes.bytesOf u'
        let c ← Extern.Bytes.asByte (.int .u8 c)
        match (List.range b.size).find? fun i => b[i]! == c with
        | some i => pure (goInt i)
        | none => pure (goInt (-1))) := rfl
      rw [e0]
      simp only [rzB, hb, rzA, Extern.Bytes.asByte, rzC]
      have hsz : (ByteArray.mk l.toArray).size = l.length := by simp [ByteArray.size]
      unfold jcz
      rw [hsz]
      cases (List.range l.length).find? fun i => (ByteArray.mk l.toArray)[i]! == c.toNat.toUInt8 with
      | none => rfl
      | some i => rfl
     refine ⟨J, _, w, by rw [hrun, hk]; simp only [XK.sem]; rw [hfin]; rfl, ?_, hr, Step.refl _ _ _⟩
     unfold jcz
     cases (List.range l.length).find? fun i => (ByteArray.mk l.toArray)[i]! == c.toNat.toUInt8 with
     | none => exact .int _ _
     | some i => exact .int _ _
    ·cases h
   ·cases h
end
noncomputable section
variable {P : Program}
theorem named_of {P : Program} (h : (P.funcs.toList.all fun fn => !(fn.name == "runtime.NumGoroutine")) = true) : jcQ P := fun g fn hf => by
 have := List.all_eq_true.1 h fn (by simpa using Array.mem_of_getElem? hf)
 simpa using this
theorem Same.kept {W W' : World} (h : Same W W') (may : MemPlace → Prop) : W.keptBut W' may := by
 refine ⟨h.os, h.output, fun i hi => ?_⟩
 rw [h.heap i hi]
 cases W.heap[i]? with
 | none => rfl
 | some o => cases o <;> first | rfl | exact ⟨rfl, rfl, rfl, fun _ _ => rfl⟩ | exact .inr ⟨rfl, rfl⟩
def jbr (nx : Nat) : Nat → Loc := fun i => if i < nx then .dead else .unborn
end
noncomputable section
variable {P : Program}
def flatL : Nat → DataW Unit → Option (List Value)
 | 0, _ => none
 | _ + 1, .lit l => some [l.value]
 | n + 1, .agg ds => go n ds
 | _ + 1, _ => none
 where
 go (n : Nat) : List (DataW Unit) → Option (List Value)
  | [] => some []
  | d :: r => match flatL n d with
    | none => none
    | some x => match go n r with
      | none => none
      | some y => some (x ++ y)
def je3 (P : Program) (g : TypeId → Bool) : Nat → List Field → Bool
 | _, [] => true
 | i, f :: r => (Nat.beq f.offset i && (Nat.beq (P.cellsOf f.type) 1 && g f.type)) && je3 P g (Nat.add i 1) r
theorem jgK {g : TypeId → Bool} : ∀ (fs : List Field) (i : Nat), je3 P g i fs = true → ∀ (j : Nat) f, fs[j]? = some f → f.offset = i + j ∧ P.cellsOf f.type = 1 ∧ g f.type = true := by
 intro fs
 induction fs with
 | nil => intro i _ j f h; simp at h
 | cons x fs ih =>
   intro i h j f hj
   simp only [je3, Bool.and_eq_true] at h
   obtain ⟨⟨h1, h2, h3⟩, h4⟩ := h
   match j with
   | 0 => simp at hj; subst hj; exact ⟨by have := rzD h1; omega, rzD h2, h3⟩
   | j + 1 =>
     obtain ⟨a, b, c⟩ := ih (i + 1) h4 j f (by simpa using hj)
     exact ⟨by omega, b, c⟩
def jiK (P : Program) : Nat → TypeId → Bool
 | 0, _ => false
 | k + 1, t => match P.underlying t with
   | some (.int _) => true
   | some .bool => true
   | some .string => true
   | some (.float _) => true
   | some (.array n e) => Nat.beq (P.cellsOf t) (Nat.mul n (P.cellsOf e)) && jiK P k e
   | some (.struct fs) => Nat.beq (P.cellsOf t) fs.toList.length && je3 P (jiK P k) 0 fs.toList
   | _ => false
theorem jjK {n : Nat} : ∀ (ds : List (DataW Unit)) (vs : List Value), flatL.go n ds = some vs → ∃ vss : List (List Value), vs = vss.flatten ∧ vss.length = ds.length ∧ ∀ (i : Nat) d, ds[i]? = some d → ∃ x, vss[i]? = some x ∧ flatL n d = some x := by
 intro ds
 induction ds with
 | nil => intro vs h; simp only [flatL.go] at h; cases h; exact ⟨[], rfl, rfl, fun i d h => by simp at h⟩
 | cons d ds ih =>
   intro vs h
   simp only [flatL.go] at h
   split at h
   ·cases h
   ·rename_i x hx
    split at h
    ·cases h
    ·rename_i y hy
     cases h
     obtain ⟨vss, e1, e2, e3⟩ := ih y hy
     refine ⟨x :: vss, by simp [e1], by simp [e2], fun i d2 hi => ?_⟩
     match i with
     | 0 => simp at hi; subst hi; exact ⟨x, rfl, hx⟩
     | i + 1 => exact e3 i d2 (by simpa using hi)
theorem chunks {c : Nat} : ∀ (vss : List (List Value)) (cs : List Value), cs.length = vss.length * c → (∀ (i : Nat) x, vss[i]? = some x → (cs.drop (i * c)).take c = x) → cs = vss.flatten := by
 intro vss
 induction vss with
 | nil => intro cs h _; simp at h; simp [h]
 | cons x vss ih =>
   intro cs h hall
   have h0 := hall 0 x rfl
   simp at h0
   have := ih (cs.drop c) (by simp at h ⊢; rw [h, Nat.succ_mul]; omega) (fun i y hy => by
    have := hall (i + 1) y (by simpa using hy)
    rw [List.drop_drop]
    rw [show c + i * c = (i + 1) * c by rw [Nat.succ_mul]; omega]
    exact this)
   rw [List.flatten_cons, ← this, ← h0, List.take_append_drop]
theorem jej {H : Type} {enc : TypeId × Value → H} {w : World} {base fuel : Nat} {sp : Nat → Bool} {held : Bool} {t : TypeId} {k : FloatKind} {cs : List Value} {x : DataW H × List MemPlace} (ht : P.underlying t = some (.float k)) (h : DataW.trod enc P w base sp held fuel t cs = some x) : ∃ b, cs = [.float k b] ∧ x = (.lit (.float k b), []) ∧ (Lit.float k b).wf = true := by
 cases fuel with
 | zero => simp [DataW.trod] at h
 | succ n =>
   unfold DataW.trod at h
   rw [ht] at h
   split at h <;> simp_all
theorem jhO {w : World} {base : Nat} {sp : Nat → Bool} : ∀ (k : Nat) (t : TypeId) (f m : Nat) (cs vs : List Value) (d : DataW Unit) (p : List MemPlace), jiK P k t = true → DataW.trod (fun _ => ()) P w base sp false f t cs = some (d, p) →
  flatL m d = some vs → cs = vs := by
 intro k
 induction k with
 | zero => intro t f m cs vs d p h; simp [jiK] at h
 | succ k ih =>
   intro t f m cs vs d p h hd hv
   unfold jiK at h
   split at h
   ·rename_i kd hu
    obtain ⟨n, rfl, e, _⟩ := DataW.trod_int hu hd
    cases e
    cases m with
    | zero => simp [flatL] at hv
    | succ m => simp only [flatL] at hv; cases hv; rfl
   ·rename_i hu
    obtain ⟨b, rfl, e⟩ := DataW.trod_bool hu hd
    cases e
    cases m with
    | zero => simp [flatL] at hv
    | succ m => simp only [flatL] at hv; cases hv; rfl
   ·rename_i hu
    obtain ⟨b, rfl, e, _⟩ := DataW.trod_string hu hd
    cases e
    cases m with
    | zero => simp [flatL] at hv
    | succ m => simp only [flatL] at hv; cases hv; simp [Lit.value]
   ·rename_i kd hu
    obtain ⟨n, rfl, e, _⟩ := jej hu hd
    cases e
    cases m with
    | zero => simp [flatL] at hv
    | succ m => simp only [flatL] at hv; cases hv; rfl
   ·rename_i n e hu
    simp only [Bool.and_eq_true] at h
    obtain ⟨h1, h2⟩ := h
    have hsz : P.cellsOf t = n * P.cellsOf e := rzD h1
    obtain ⟨xs, g, rfl, hx, hl, hxl, hall⟩ := DataW.trod_array hu hd
    cases hx
    cases m with
    | zero => simp [flatL] at hv
    | succ m =>
      simp only [flatL] at hv
      obtain ⟨vss, e1, e2, e3⟩ := jjK _ _ hv
      rw [e1]
      have hlen : vss.length = n := by rw [e2]; simpa using hxl
      refine chunks (c := P.cellsOf e) vss cs (by rw [hl, hsz, hlen]) fun i x hi => ?_
      have hin : i < n := by have := (List.getElem?_eq_some_iff.1 hi).1; omega
      have hxi : xs[i]? = some xs[i] := rzK (by omega)
      obtain ⟨y, hy1, hy2⟩ := e3 i (xs[i]).1 (by simp [hxi])
      rw [hi] at hy1; cases hy1
      have := hall i hin
      rw [hxi] at this
      exact ih e g m _ x (xs[i]).1 (xs[i]).2 h2 this hy2
   ·rename_i fs hu
    simp only [Bool.and_eq_true] at h
    obtain ⟨h1, h2⟩ := h
    have hsz : P.cellsOf t = fs.size := by have := rzD h1; simpa using this
    obtain ⟨xs, g, rfl, hx, hl, hxl, hall⟩ := DataW.trod_struct hu hd
    cases hx
    cases m with
    | zero => simp [flatL] at hv
    | succ m =>
      simp only [flatL] at hv
      obtain ⟨vss, e1, e2, e3⟩ := jjK _ _ hv
      rw [e1]
      have hlen : vss.length = fs.size := by rw [e2]; simpa using hxl
      refine chunks (c := 1) vss cs (by rw [hl, hsz, hlen, Nat.mul_one]) fun i x hi => ?_
      have hin : i < fs.size := by have := (List.getElem?_eq_some_iff.1 hi).1; omega
      obtain ⟨o1, o2, o3⟩ := jgK fs.toList 0 h2 i fs[i] (by simp [hin])
      have hxi : xs[i]? = some xs[i] := rzK (by omega)
      obtain ⟨y, hy1, hy2⟩ := e3 i (xs[i]).1 (by simp [hxi])
      rw [hi] at hy1; cases hy1
      have := hall i fs[i] (by simp [hin])
      rw [hxi, o1, o2, Nat.zero_add] at this
      rw [Nat.mul_one]
      exact ih _ g m _ x (xs[i]).1 (xs[i]).2 o3 this hy2
   ·cases h
def romOb (l : List Value) (t : TypeId) : Ob := match jfm l with
 | true => .opn t
 | false => .rom l t
def jeL : List (Nat × List Value × TypeId) → T Ob
 | [] => .e
 | (g, l, t) :: r => (jeL r).set g (romOb l t)
def jdi (nx : Nat) (roms : List (Nat × List Value × TypeId)) (ι : Nat → Nat) : Nat → Loc := fun i => match roms.find? (fun x => Nat.beq x.1 i) with
 | some x => .at x.1 (ι x.1)
 | none => jbr nx i
def jgD (roms : List (Nat × List Value × TypeId)) (x : Option (Value × Mem)) : Bool := match x with
 | some (.bool b, μ) => b && jff μ roms
 | _ => false
theorem jkl : ∀ (roms : List (Nat × List Value × TypeId)) (i : Nat), (jeL roms).get i = match roms.find? (fun x => Nat.beq x.1 i) with
 | some x => some (romOb x.2.1 x.2.2)
 | none => none := by
 intro roms
 induction roms with
 | nil => intro i; simp [jeL, T.get_e]
 | cons x r ih =>
   intro i
   obtain ⟨g, l, t⟩ := x
   simp only [jeL, T.get_set, List.find?_cons]
   by_cases h : i = g
   ·subst h; simp
   ·have : Nat.beq g i = false := by
     cases hb : Nat.beq g i with
     | false => rfl
     | true => exact absurd (rzD hb).symm h
    rw [if_neg h, this]
    simp only
    exact ih i
theorem rom_calls {X : XT} (hN : jcQ P) (hX : XOk P X) (hm : P.follows .mixedOrders = true) {S : List (FuncId × LK)} (hS : SumsOk P S) {k : Nat} {g : FuncId} {nx : Nat} (hnx : P.globals.size < nx)
  (roms : List (Nat × List Value × TypeId)) (hlt : roms.all (fun x => Nat.blt x.1 P.globals.size && (jfm x.2.1 || x.2.1.all (jaw 5))) = true) {W : World} (hW : ∀ x ∈ roms, RomAt W x)
  (h : jgD roms (aFun P (jai P X S k) g [] ⟨jeL roms, nx⟩) = true) (n : Nat) (R : Ending → World → Prop) (hR : ∀ W', Same W W' → R (.returned (.bool true)) W') : CallsIn Fence.wide n P g #[] W R := by
 unfold jgD at h
 split at h
 ·rename_i b μ' hrun
  simp only [Bool.and_eq_true] at h
  obtain ⟨hb, hkept⟩ := h
  subst hb
  obtain ⟨ι, hι0⟩ : ∃ ι : Nat → Nat, ∀ (i s : Nat) (t : TypeId), W.heap[i]? = some (Obj.cells #[.int .i64 (deZ s)] t (0, 0)) → W.heap[i]? = some (Obj.cells #[.int .i64 (deZ (ι i))] t (0, 0)) := by
   have hk : ∀ i : Nat, ∃ k : Nat, ∀ (s : Nat) (t : TypeId), W.heap[i]? = some (Obj.cells #[.int .i64 (deZ s)] t (0, 0)) → W.heap[i]? = some (Obj.cells #[.int .i64 (deZ k)] t (0, 0)) := fun i => by
    by_cases h : ∃ (s : Nat) (t : TypeId), W.heap[i]? = some (Obj.cells #[.int .i64 (deZ s)] t (0, 0))
    ·obtain ⟨s, t, e⟩ := h
     refine ⟨s, fun s2 t2 e2 => ?_⟩
     rw [e] at e2 ⊢
     injection e2 with e2
     injection e2 with e3 e4
     rw [e4]
    ·exact ⟨0, fun s t e => absurd ⟨s, t, e⟩ h⟩
   exact ⟨fun i => Classical.choose (hk i), fun i => Classical.choose_spec (hk i)⟩
  have hι : ∀ x ∈ roms, jfm x.2.1 = true → W.heap[x.1]? = some (Obj.cells #[.int .i64 (deZ (ι x.1))] x.2.2 (0, 0)) := fun x hx ho => by
   obtain ⟨m, hm2⟩ := (hW x hx).opn ho
   obtain ⟨s, hs⟩ := deZ_onto m
   exact hι0 x.1 s x.2.2 (by rw [hs]; exact hm2)
  have hfind : ∀ {i : Nat} {x : Nat × List Value × TypeId}, roms.find? (fun x => Nat.beq x.1 i) = some x → x ∈ roms ∧ x.1 = i := fun {i x} hf => by
   have := List.find?_some hf
   exact ⟨List.mem_of_find?_eq_some hf, rzD (by simpa using this)⟩
  have hloc : ∀ i b s, jdi nx roms ι i = .at b s → ∃ x ∈ roms, x.1 = i ∧ b = i ∧ s = ι x.1 ∧ roms.find? (fun x => Nat.beq x.1 i) = some x := fun i b s e => by
   unfold jdi at e
   split at e
   ·rename_i x hf
    obtain ⟨h1, h2⟩ := hfind hf
    cases e
    exact ⟨x, h1, h2, h2, rfl, hf⟩
   ·unfold jbr at e; split at e <;> cases e
  have hglob : ∀ x ∈ roms, x.1 < P.globals.size ∧ (jfm x.2.1 = false → ∀ v ∈ x.2.1, jaw 5 v = true) := fun x hx => by
   have := List.all_eq_true.1 hlt x hx
   simp only [Bool.and_eq_true, Bool.or_eq_true] at this
   refine ⟨by simpa using this.1, fun hno v hv => ?_⟩
   rcases this.2 with h1 | h1
   ·rw [hno] at h1; cases h1
   ·exact List.all_eq_true.1 h1 v hv
  have hsize : ∀ x ∈ roms, x.1 < W.heap.size := fun x hx => by
   cases ho : jfm x.2.1 with
   | true => exact (Array.getElem?_eq_some_iff.1 (hι x hx ho)).1
   | false => exact (Array.getElem?_eq_some_iff.1 ((hW x hx).known ho)).1
  have hnf : ∀ i, P.globals.size ≤ i → roms.find? (fun x => Nat.beq x.1 i) = none := fun i hi => by
   cases hf : roms.find? (fun x => Nat.beq x.1 i) with
   | none => rfl
   | some x =>
     obtain ⟨h1, h2⟩ := hfind hf
     have := (hglob x h1).1
     omega
  have hr : Rel (jdi nx roms ι) ⟨jeL roms, nx⟩ W := by
   refine ⟨fun i j b s t e1 e2 => ?_, fun i b s e => ?_, fun i hi => ?_, fun i o ho _ => ?_⟩
   ·obtain ⟨_, _, _, h1, _⟩ := hloc i b s e1
    obtain ⟨_, _, _, h2, _⟩ := hloc j b t e2
    omega
   ·obtain ⟨x, hx, h1, h2, _⟩ := hloc i b s e
    have := hsize x hx
    omega
   ·show jdi nx roms ι i = .unborn
    have hi' : nx ≤ i := hi
    unfold jdi
    rw [hnf i (by omega)]
    exact if_neg (by omega)
   ·simp only [jkl] at ho
    split at ho
    ·rename_i x hf
     cases ho
     obtain ⟨h1, h2⟩ := hfind hf
     refine ⟨i, ι x.1, ?_, ?_⟩
     ·unfold jdi; rw [hf]; simp only [h2]
     ·unfold romOb
      cases hop : jfm x.2.1 with
      | true =>
        show W.heap[i]? = _
        rw [← h2]
        exact hι x h1 hop
      | false => exact ⟨by rw [← h2]; exact (hW x h1).known hop, fun v hv => ja1 5 ((hglob x h1).2 hop v hv)⟩
    ·cases ho
  have hB : Base P (jdi nx roms ι) := by
   refine ⟨fun g hg => ?_, ?_⟩
   ·unfold Lives jdi
    cases hf : roms.find? (fun x => Nat.beq x.1 g) with
    | some x =>
      obtain ⟨h1, h2⟩ := hfind hf
      exact .inl ⟨ι x.1, by simp only [h2]⟩
    | none => exact .inr (if_pos (Nat.lt_trans hg hnx))
   ·unfold jdi
    rw [hnf _ (Nat.le_refl _)]
    exact if_pos hnx
  refine jhL (jiT hN hX hm hS k).1 g [] _ _ μ' hrun _ W #[] hr hB ⟨rfl, fun i a b ha => by simp at ha⟩ n R fun J' v' w' h1 h2 h3 => ?_
  have hv : v' = .bool true := by cases h1; rfl
  subst hv
  refine hR w' ⟨h3.os, h3.output, h3.size, fun b hb => ?_, h3.tape⟩
  by_cases hbr : ∃ x ∈ roms, x.1 = b
  ·obtain ⟨x, hx, hxb⟩ := hbr
   have hk := List.all_eq_true.1 hkept x hx
   have hJ0 : jdi nx roms ι x.1 = .at x.1 (ι x.1) := by
    unfold jdi
    cases hf : roms.find? (fun y => Nat.beq y.1 x.1) with
    | some y => simp only [(hfind hf).2]
    | none =>
      have := List.find?_eq_none.1 hf x hx
      simp at this
   have hJ1 : ∀ {o : Ob}, μ'.obs.get x.1 = some o → o ≠ .dead → ObRel J' w' x.1 (ι x.1) o := fun {o} ho hd => by
    obtain ⟨b2, s2, hJ, hob⟩ := h2.obj _ _ ho hd
    rcases h3.at_ _ _ _ hJ0 with e | ⟨e, _⟩
    ·rw [e] at hJ; cases hJ; exact hob
    ·rw [e] at hJ; cases hJ
   split at hk
   ·rename_i l t hob
    split at hk
    ·cases hk
    ·rename_i hno
     simp only [Bool.and_eq_true] at hk
     have e1 : l = x.2.1 := je6 (jfX 5) _ _ hk.1
     have e2 : t = x.2.2 := rzD hk.2
     subst e1 e2
     obtain ⟨hc, _⟩ := hJ1 hob (by simp)
     rw [← hxb, hc, (hW x hx).known hno]
   ·rename_i t hob
    simp only [Bool.and_eq_true] at hk
    have e2 : t = x.2.2 := rzD hk.2
    subst e2
    have hc : w'.heap[x.1]? = _ := hJ1 hob (by simp)
    rw [← hxb, hc, hι x hx hk.1]
   ·cases hk
  ·exact h3.frame b hb fun i s e => by
    obtain ⟨x, hx, e1, e2, _⟩ := hloc i b s e
    exact absurd ⟨x, hx, by omega⟩ hbr
 ·cases h
theorem sum_of {X : XT} (hN : jcQ P) (hX : XOk P X) (hm : P.follows .mixedOrders = true) {S : List (FuncId × LK)} (hS : SumsOk P S) {k : Nat} {g : FuncId} {nx : Nat} (hnx : P.globals.size < nx)
  (roms : List (Nat × List Value × TypeId)) (hlt : roms.all (fun x => Nat.blt x.1 P.globals.size && (jfm x.2.1 || x.2.1.all (jaw 5))) = true)
  (h : jgD roms (aFun P (jai P X S k) g [] ⟨jeL roms, nx⟩) = true) : KOk P g (.alive roms) := by
 refine ⟨fun x hx => ?_, fun w n R hw hR => rom_calls hN hX hm hS hnx roms hlt hw h n R hR⟩
 have := List.all_eq_true.1 hlt x hx
 simp only [Bool.and_eq_true] at this
 simpa using this.1
end
noncomputable section
variable {P : Program}
end
noncomputable section
variable {P : Program} {X : XT} {S : List (FuncId × LK)}
theorem jaN (n : Nat) (tm : T Value) (ds : List Nat) (rd : Option Nat) (d : Nat) (v : Value) : aput ⟨n, tm, ds, rd⟩ (some d) v = if d < n then some ⟨n, tm.set d v, ds, rd⟩ else none := by
 cases h : Nat.blt d n with
 | true =>
   have : d < n := by simpa using h
   simp only [aput, h, if_pos this]
 | false =>
   have : ¬ d < n := fun hh => by rw [show Nat.blt d n = true from by simpa using hh] at h; cases h
   simp only [aput, h, if_neg this]
theorem jbX (r : Rg) (v : Value) : aput r none v = some r := rfl
def Ends (x : Option (Rg × Mem)) (Q : Rg → Mem → Prop) : Prop := ∃ r μ, x = some (r, μ) ∧ Q r μ
theorem jaB {r : Rg} {μ : Mem} {Q : Rg → Mem → Prop} : Ends (some (r, μ)) Q = Q r μ := by
 apply propext
 constructor
 ·rintro ⟨r', μ', h, hq⟩; cases h; exact hq
 ·intro h; exact ⟨r, μ, rfl, h⟩
def run1 (P : Program) (X callF : XT) (roundF : NT) : List Oper → Rg → Mem → Option (Rg × Mem)
 | [], r, μ => some (r, μ)
 | o :: rest, r, μ => match aOne P X callF roundF r μ o with
   | none => none
   | some (v, μ') => match aput r o.dst v with
     | some r' => run1 P X callF roundF rest r' μ'
     | none => none
theorem aOps_run1 {callF : XT} {roundF : NT} (ops : List Oper) : ∀ (l : List Oper) (r : Rg) (μ : Mem), l.all (fun o => o.guard.isNone) = true →
  aOps P X callF roundF ops l r μ = run1 P X callF roundF l r μ := by
 intro l
 induction l with
 | nil => intro r μ _; rfl
 | cons o rest ih =>
   intro r μ h
   simp only [List.all_cons, Bool.and_eq_true] at h
   have hg : o.guard = none := by cases e : o.guard with
    | none => rfl
    | some x => rw [e] at h; simp at h
   simp only [aOps, run1, jca, hg]
   cases aOne P X callF roundF r μ o with
   | none => rfl
   | some x =>
     obtain ⟨v, μ'⟩ := x
     simp only
     cases aput r o.dst v with
     | none => rfl
     | some r' => exact ih r' μ' h.2
section
variable {callF : XT} {roundF : NT} {r : Rg} {μ μ' : Mem} {o : Oper} {v : Value}
end
def EndsC (x : Option (Ax × Rg × Mem)) (Q : Ax → Rg → Mem → Prop) : Prop := ∃ a r μ, x = some (a, r, μ) ∧ Q a r μ
theorem jab {k id : Nat} {ops : Array Oper} {r : Rg} {μ : Mem} {Q : Ax → Rg → Mem → Prop} (hg : ops.toList.all (fun o => o.guard.isNone) = true)
  (h : Ends (run1 P X (jbs P (jai P X S k) S) (jcm (jai P X S k)) ops.toList r μ) (Q .normal)) : EndsC (jai P X S (k + 1) (.region id ops false) r μ) Q := by
 obtain ⟨r', μ', h1, h2⟩ := h
 refine ⟨.normal, r', μ', ?_, h2⟩
 simp only [jaA, jbB, jgU, aOps_run1 _ _ _ _ hg, h1]
def jik (k : Nat) (P : Program) (X : XT) (S : List (FuncId × LK)) (b : Code) (Q : Ax → Rg → Mem → Prop) : Ax → Rg → Mem → Prop
 | .normal, r, μ => EndsC (jai P X S k b r μ) Q
 | .exit id, r, μ => Q (.exit id) r μ
 | .ret, r, μ => Q .ret r μ
 | .goto l, r, μ => Q (.goto l) r μ
theorem jag {k : Nat} {b : Code} {r : Rg} {μ : Mem} {Q : Ax → Rg → Mem → Prop} : jik k P X S b Q .normal r μ = EndsC (jai P X S k b r μ) Q := rfl
theorem jgo {k : Nat} {b : Code} {r : Rg} {μ : Mem} {Q : Ax → Rg → Mem → Prop} : jik k P X S b Q .ret r μ = Q .ret r μ := rfl
theorem jcp {k id : Nat} {b : Code} {r : Rg} {μ : Mem} {Q : Ax → Rg → Mem → Prop} : jik k P X S b Q (.exit id) r μ = Q (.exit id) r μ := rfl
theorem jaf {k : Nat} {a b : Code} {r : Rg} {μ : Mem} {Q : Ax → Rg → Mem → Prop} (h : EndsC (jai P X S k a r μ) (jik k P X S b Q)) : EndsC (jai P X S (k + 1) (.seq a b) r μ) Q := by
 obtain ⟨x, r', μ', h1, h2⟩ := h
 cases x with
 | normal =>
   obtain ⟨y, r2, μ2, h3, h4⟩ := h2
   exact ⟨y, r2, μ2, by simp only [jaA, jbB, h1, h3], h4⟩
 | exit id => exact ⟨_, r', μ', by simp only [jaA, jbB, h1], h2⟩
 | ret => exact ⟨_, r', μ', by simp only [jaA, jbB, h1], h2⟩
 | goto l => exact ⟨_, r', μ', by simp only [jaA, jbB, h1], h2⟩
theorem jaG {k : Nat} {c : Operand} {a b : Code} {r : Rg} {μ : Mem} {Q : Ax → Rg → Mem → Prop} (hc : aev P r c = .bool true) (h : EndsC (jai P X S k a r μ) Q) : EndsC (jai P X S (k + 1) (.cond c a b) r μ) Q := by
 obtain ⟨x, r', μ', h1, h2⟩ := h
 exact ⟨x, r', μ', by simp only [jaA, jbB, hc, h1], h2⟩
theorem jan {k : Nat} {c : Operand} {a b : Code} {r : Rg} {μ : Mem} {Q : Ax → Rg → Mem → Prop} (hc : aev P r c = .bool false) (h : EndsC (jai P X S k b r μ) Q) : EndsC (jai P X S (k + 1) (.cond c a b) r μ) Q := by
 obtain ⟨x, r', μ', h1, h2⟩ := h
 exact ⟨x, r', μ', by simp only [jaA, jbB, hc, h1], h2⟩
def jbI (id : Nat) (Q : Ax → Rg → Mem → Prop) : Ax → Rg → Mem → Prop
 | .normal, r, μ => Q .normal r μ
 | .exit id', r, μ => if id' = id then Q .normal r μ else Q (.exit id') r μ
 | .ret, r, μ => Q .ret r μ
 | .goto l, r, μ => Q (.goto l) r μ
theorem jaR {k id : Nat} {c : Code} {r : Rg} {μ : Mem} {Q : Ax → Rg → Mem → Prop} (h : EndsC (jai P X S k c r μ) (jbI id Q)) : EndsC (jai P X S (k + 1) (.block id c) r μ) Q := by
 obtain ⟨x, r', μ', h1, h2⟩ := h
 cases x with
 | normal => exact ⟨_, r', μ', by simp only [jaA, jbB, h1], h2⟩
 | ret => exact ⟨_, r', μ', by simp only [jaA, jbB, h1], h2⟩
 | goto l => exact ⟨_, r', μ', by simp only [jaA, jbB, h1], h2⟩
 | exit id' =>
   by_cases e : id' = id
   ·subst e
    have h2' : Q .normal r' μ' := by simpa [jbI] using h2
    exact ⟨.normal, r', μ', by simp only [jaA, jbB, h1, show Nat.beq id' id' = true from by simp], h2'⟩
   ·have h2' : Q (.exit id') r' μ' := by simpa [jbI, e] using h2
    have hb : Nat.beq id' id = false := by
     cases hb : Nat.beq id' id with
     | false => rfl
     | true => exact absurd (rzD hb) e
    exact ⟨.exit id', r', μ', by simp only [jaA, jbB, h1, hb], h2'⟩
theorem jam {k : Nat} {c : Code} {r : Rg} {μ : Mem} {Q : Ax → Rg → Mem → Prop} (h : EndsC (jai P X S k c r μ) (jik k P X S (.loop c) Q)) : EndsC (jai P X S (k + 1) (.loop c) r μ) Q := by
 obtain ⟨x, r', μ', h1, h2⟩ := h
 cases x with
 | normal =>
   obtain ⟨y, r2, μ2, h3, h4⟩ := h2
   exact ⟨y, r2, μ2, by simp only [jaA, jbB, h1, h3], h4⟩
 | exit id => exact ⟨_, r', μ', by simp only [jaA, jbB, h1], h2⟩
 | ret => exact ⟨_, r', μ', by simp only [jaA, jbB, h1], h2⟩
 | goto l => exact ⟨_, r', μ', by simp only [jaA, jbB, h1], h2⟩
theorem jae {k : Nat} {r : Rg} {μ : Mem} {Q : Ax → Rg → Mem → Prop} (h : Q .ret r μ) : EndsC (jai P X S (k + 1) .ret r μ) Q := ⟨.ret, r, μ, rfl, h⟩
theorem jaD {k : Nat} {r : Rg} {μ : Mem} {Q : Ax → Rg → Mem → Prop} (h : Q .normal r μ) : EndsC (jai P X S (k + 1) .skip r μ) Q := ⟨.normal, r, μ, rfl, h⟩
theorem jkR {k l : Nat} {r : Rg} {μ : Mem} {Q : Ax → Rg → Mem → Prop} (h : Q .normal r μ) : EndsC (jai P X S (k + 1) (.label l) r μ) Q := ⟨.normal, r, μ, rfl, h⟩
theorem jcZ {k id : Nat} {r : Rg} {μ : Mem} {Q : Ax → Rg → Mem → Prop} (h : Q (.exit id) r μ) : EndsC (jai P X S (k + 1) (.exit id) r μ) Q := ⟨.exit id, r, μ, rfl, h⟩
theorem EndsC.mono {x : Option (Ax × Rg × Mem)} {Q R : Ax → Rg → Mem → Prop} (h : EndsC x Q) (hm : ∀ a r μ, Q a r μ → R a r μ) : EndsC x R := by
 obtain ⟨a, r, μ, h1, h2⟩ := h
 exact ⟨a, r, μ, h1, hm _ _ _ h2⟩
def EndsF (x : Option (Value × Mem)) (Q : Value → Mem → Prop) : Prop := ∃ v μ, x = some (v, μ) ∧ Q v μ
def retQ (P : Program) (fn : Func) (Q : Value → Mem → Prop) : Ax → Rg → Mem → Prop
 | .exit _, _, _ => False
 | .goto _, _, _ => False
 | _, r, μ => r.ds = [] ∧ ∃ v, jcI P μ r fn = some v ∧ Q v μ
theorem jac {ev : ET} {g : FuncId} {args : List Value} {μ : Mem} {fn : Func} {c : Code} {n : Nat} {Q : Value → Mem → Prop} (hf : P.funcs[g]? = some fn) (hb : fn.body = some c) (hn : fn.ntmps = n) (ha : args.length ≤ n)
  (h : EndsC (ev c ⟨n, T.e.lay 0 args, [], none⟩ μ) (retQ P fn Q)) : EndsF (aFun P ev g args μ) Q := by
 obtain ⟨x, r, μ1, h1, h2⟩ := h
 have hle : Nat.ble args.length n = true := Nat.ble_eq_true_of_le ha
 cases x with
 | exit id => exact h2.elim
 | goto l => exact h2.elim
 | normal =>
   obtain ⟨hd, v, hv, hq⟩ := h2
   refine ⟨v, μ1, ?_, hq⟩
   unfold aFun
   simp only [hf, hb, hn, hle, h1, hd, jdI, hv]
 | ret =>
   obtain ⟨hd, v, hv, hq⟩ := h2
   refine ⟨v, μ1, ?_, hq⟩
   unfold aFun
   simp only [hf, hb, hn, hle, h1, hd, jdI, hv]
theorem EndsF.mono {x : Option (Value × Mem)} {Q R : Value → Mem → Prop} (h : EndsF x Q) (hm : ∀ v μ, Q v μ → R v μ) : EndsF x R := by
 obtain ⟨v, μ, h1, h2⟩ := h
 exact ⟨v, μ, h1, hm _ _ h2⟩
theorem jax {P : Program} {s : TypeId} {fields : Array Field} {f : Nat} {ft off : Nat} {inf : TypeInfo} (hu : P.underlying s = some (.struct fields)) (hf : (fields[f]?).map (fun fd => (fd.type, fd.offset)) = some (ft, off)) (hi : P.info? ft = some inf) (hz : Nat.beq inf.size 0 = false) (ρ : Operand → Value) (x : Operand) :
  jaL P ρ s x f = (match ρ x with | .pointer (some a) => some (.pointer (some (a.add off))) | _ => none) := by
 cases hfd : fields[f]? with
 | none => rw [hfd] at hf; simp at hf
 | some fd =>
   rw [hfd] at hf
   simp only [Option.map_some, Option.some.injEq, Prod.mk.injEq] at hf
   obtain ⟨h1, h2⟩ := hf
   unfold jaL
   cases ρ x with
   | pointer a => cases a with
     | none => rfl
     | some a => simp only [hu, hfd, h1, hi, hz, h2]
   | _ => rfl
def jad (μ : Mem) (i o : Nat) : Option Value := match jbk (μ.obs.get i) with
 | some (n, zero, over) => if o < n then some (cellAt zero over o) else none
 | none => none
def flatTy : TypeDesc → Bool
 | .struct _ => false
 | .array _ _ => false
 | _ => true
theorem jbx {P : Program} {t : TypeId} {d : TypeDesc} (hu : P.underlying t = some d) (hd : flatTy d = true) (μ : Mem) (i o : Nat) : jbZ P μ t (.pointer (some ⟨i, o, none⟩)) = jad μ i o := by
 unfold jbZ jad
 simp only [hu]
 cases jbk (μ.obs.get i) with
 | none => rfl
 | some x =>
   obtain ⟨n, z, ov⟩ := x
   have : (match Nat.blt o n with | true => some (cellAt z ov o) | false => none) = if o < n then some (cellAt z ov o) else none := by
    cases h : Nat.blt o n with
    | true => rw [if_pos (by simpa using h)]
    | false => rw [if_neg (fun hh => by rw [show Nat.blt o n = true from by simpa using hh] at h; cases h)]
   cases d <;> first | exact this | cases hd
theorem jbw {μ : Mem} {i o n : Nat} {z : Array Value} {ov : T Value} (h : jbk (μ.obs.get i) = some (n, z, ov)) (ho : o < n) : jad μ i o = some (cellAt z ov o) := by
 unfold jad; rw [h]; simp only [if_pos ho]
end
noncomputable section
variable {P : Program}
theorem jge : (true == false) = false := rfl
theorem jgf : (false == true) = false := rfl
theorem jao (n : Nat) : (n : Int) = Int.ofNat n := rfl
theorem jap (a b : Nat) : ilt (.ofNat a) (.ofNat b) = decide (a < b) := by
 rw [jf9, Bool.eq_iff_iff]; simp
theorem jbG (a b : Nat) : ieq (.ofNat a) (.ofNat b) = decide (a = b) := by
 rw [jhH, Bool.eq_iff_iff]; simp; omega
theorem jaT (a b : Nat) (h : a + b < 4611686018427387904) : jak .i64 (Int.add (.ofNat a) (.ofNat b)) = .ofNat (a + b) := by
 rw [jbq]
 have : Int.add (.ofNat a) (.ofNat b) = ((a + b : Nat) : Int) := rfl
 rw [this, IntWalk.i64_in _ (by omega)]
 rfl
theorem jjS (a b : ByteArray) : jcw a.data.toList b.data.toList = decide (a = b) := by
 rw [jdA, Bool.eq_iff_iff]
 simp only [beq_iff_eq, decide_eq_true_eq]
 constructor
 ·intro h
  cases a; cases b
  congr 1
  exact Array.ext' h
 ·intro h; rw [h]
def GoodSl (μ : Mem) (e : TypeId) (v : Value) (xs : List Value) : Prop :=
 (v = .slice none 0 0 ∧ xs = []) ∨ ∃ i m z ov fx sh c, v = .slice (some ⟨i, 0, none⟩) xs.length c ∧ μ.obs.get i = some (.cells m e z ov 0 0 fx sh) ∧ xs.length ≤ m ∧
  (∀ k (h : k < xs.length), cellAt z ov k = xs[k]) ∧ ((c % 2 = 0 ∧ c / 2 = xs.length) ∨ (c % 2 = 1 ∧ c / 2 = 1))
theorem jbe {z : Array Value} {ov : T Value} : ∀ (n o : Nat) (xs : List Value), xs.length = n → (∀ k (h : k < xs.length), cellAt z ov (o + k) = xs[k]) → jat z ov o n = xs := by
 intro n
 induction n with
 | zero => intro o xs h _; cases xs with
   | nil => rfl
   | cons a b => simp at h
 | succ n ih =>
   intro o xs h hk
   cases xs with
   | nil => simp at h
   | cons a xs =>
     simp only [jat]
     rw [ih (Nat.add o 1) xs (by simpa using h) (fun k hk2 => by
      have := hk (k + 1) (by simp; omega)
      simp only [List.getElem_cons_succ] at this
      rw [← this]
      congr 1
      show o + 1 + k = o + (k + 1); omega)]
     have := hk 0 (by simp)
     simp only [Nat.add_zero, List.getElem_cons_zero] at this
     rw [this]
theorem ja3 (xs : List Value) (k : Nat) (h : k < xs.length) : cellAt xs.toArray .e k = xs[k] := by
 have hm : Nat.mod k xs.toArray.size = k := by show k % _ = k; rw [Nat.mod_eq_of_lt]; simpa using h
 simp only [cellAt, T.get_e, hm]
 simp [Array.getD, h]
def SlAt (v : Value) (i : Nat) : Prop := ∃ l c, v = .slice (some ⟨i, 0, none⟩) l c
theorem jk0 {st e : TypeId} {inf : TypeInfo} {z0 : Value} (hu : P.underlying st = some (.slice e)) (hi : P.info? e = some inf) (hsz : inf.size = 1) (hby : Nat.ble inf.bytes 4096 = true) (hz : jaO P e = some z0) (hzl : (jaS z0).length = 1)
  {μ : Mem} {v x : Value} {xs : List Value} {q : Nat} (hg : GoodSl μ e v xs) (hq : μ.obs.get q = some (.cells 1 e #[x] .e 0 0 false false)) (hn : xs.length < 2000000) (hs : scalar x = true) :
  ∃ v' μ', jaM P μ st st v (.slice (some ⟨q, 0, none⟩) 1 2) = some (v', μ') ∧ GoodSl μ' e v' (xs ++ [x]) ∧ μ'.next = μ.next + 1 ∧ SlAt v' μ.next ∧ ∀ i, i ≠ μ.next → ¬ SlAt v i → μ'.obs.get i = μ.obs.get i := by
 have hsrc : jaU μ inf.size 1 (.slice (some ⟨q, 0, none⟩) 1 2) = some [x] := by
  unfold jaU
  simp only [hsz, hq]
  rfl
 have hA : jaM P μ st st v (.slice (some ⟨q, 0, none⟩) 1 2) = ja8 P μ e 1 1 [x] v := by
  unfold jaM
  simp only [hu, hi, hby, hz, hzl, hsz, lenV, hsz ▸ hsrc]
  rfl
 rw [hA]
 have grow : ∀ ys : List Value, ys.length = xs.length → ys = xs → GoodSl (jcl μ e 1 (xs.length + 1) (ys ++ [x]) 0 0 false).2 e (jcl μ e 1 (xs.length + 1) (ys ++ [x]) 0 0 false).1 (xs ++ [x]) := by
  intro ys _ hy
  subst hy
  refine .inr ⟨μ.next, _, _, _, true, false, 3, ?_, by rw [jcl, T.get_set, if_pos rfl], by simp, fun k hk => ja3 _ k hk, .inr ⟨rfl, rfl⟩⟩
  simp [jcl]
 rcases hg with ⟨hv, hx⟩ | ⟨i, m, z, ov, fx, sh, c, hv, hob, hm, hcell, hc⟩
 ·subst hv hx
  refine ⟨_, _, rfl, ?_, rfl, ⟨_, _, rfl⟩, fun i hi _ => ?_⟩
  ·exact grow [] rfl rfl
  ·simp only [jcl, T.get_set, if_neg hi]
 ·subst hv
  have hle : Nat.ble (Nat.add xs.length 1) 67108864 = true := Nat.ble_eq_true_of_le (by show xs.length + 1 ≤ _; omega)
  rcases hc with ⟨hc1, hc2⟩ | ⟨hc1, hc2⟩
  ·have e1 : Nat.beq (Nat.mod c 2) 0 = true := by rw [show Nat.mod c 2 = 0 from hc1]; rfl
   have e2 : Nat.ble (Nat.add xs.length 1) (Nat.div c 2) = false := by
    rw [show Nat.div c 2 = xs.length from hc2]
    cases hb : Nat.ble (Nat.add xs.length 1) xs.length with
    | false => rfl
    | true => have : xs.length + 1 ≤ xs.length := rzE hb; omega
   have e3 : jaU μ 1 xs.length (.slice (some ⟨i, 0, none⟩) xs.length c) = some xs := by
    unfold jaU
    simp only [Nat.mul_eq, Nat.mul_one]
    cases hl : xs.length with
    | zero => simp only; congr 1; exact (List.eq_nil_of_length_eq_zero hl).symm
    | succ n =>
      simp only [hob]
      have : Nat.ble (Nat.add 0 (n + 1)) m = true := Nat.ble_eq_true_of_le (by show 0 + (n + 1) ≤ m; omega)
      rw [this]
      simp only
      rw [jbe (n + 1) 0 xs hl (fun k hk => by rw [Nat.zero_add]; exact hcell k hk)]
   refine ⟨_, _, ?_, grow xs rfl rfl, rfl, ⟨_, _, rfl⟩, fun j hj _ => ?_⟩
   ·unfold ja8
    simp only [hle, e1, e2, e3]
   ·simp only [jcl, T.get_set, if_neg hj]
  ·have e1 : Nat.beq (Nat.mod c 2) 0 = false := by rw [show Nat.mod c 2 = 1 from hc1]; rfl
   have e2 : Nat.beq (Nat.div c 2) 1 = true := by rw [show Nat.div c 2 = 1 from hc2]; rfl
   have e3 : Nat.beq e e = true := by simp
   have e4 : Nat.ble (Nat.mul xs.length 1) m = true := Nat.ble_eq_true_of_le (by show xs.length * 1 ≤ m; omega)
   have e5 : jdU 0 0 (Nat.mul xs.length 1) (Nat.mul (Nat.add xs.length 1) 1) = true := rfl
   have e6 : scalars [x] = true := by simp only [scalars, hs]
   have e7 : jat z ov 0 (Nat.mul xs.length 1) = xs := by
    rw [show Nat.mul xs.length 1 = xs.length from Nat.mul_one _]
    exact jbe xs.length 0 xs rfl (fun k hk => by rw [Nat.zero_add]; exact hcell k hk)
   refine ⟨.slice (some ⟨μ.next, 0, none⟩) (xs.length + 1) c, ⟨(μ.obs.set i .dead).set μ.next (.cells (xs ++ [x]).length e (xs ++ [x]).toArray .e 0 0 true sh), μ.next + 1⟩, ?_, ?_, rfl, ⟨_, _, rfl⟩, fun j hj hns => ?_⟩
   ·unfold ja8
    simp only [hle, e1, hob, e2, e3, e4, e5, e6, e7, Nat.add_eq]
   ·exact .inr ⟨μ.next, (xs ++ [x]).length, (xs ++ [x]).toArray, .e, true, sh, c, by simp, by simp only [T.get_set, if_pos], by simp, fun k hk => ja3 _ k hk, .inr ⟨hc1, hc2⟩⟩
   ·simp only [T.get_set, if_neg hj]
    rw [if_neg]
    intro e8
    subst e8
    exact hns ⟨_, _, rfl⟩
theorem GoodSl.keep {μ μ' : Mem} {e : TypeId} {v : Value} {xs : List Value} (h : GoodSl μ e v xs) (hk : ∀ i, SlAt v i → μ'.obs.get i = μ.obs.get i) : GoodSl μ' e v xs := by
 rcases h with h | ⟨i, m, z, ov, fx, sh, c, hv, hob, hr⟩
 ·exact .inl h
 ·exact .inr ⟨i, m, z, ov, fx, sh, c, hv, (hk i ⟨_, _, hv⟩).trans hob, hr⟩
end
noncomputable section
variable {P : Program} {X : XT} {S : List (FuncId × LK)}
def gOf (ops : List Oper) (o : Oper) : Option (Option (Nat × Bool)) := match o.guard with
 | none => some none
 | some (j, want) => match ops[j]? with
   | none => none
   | some oj => match oj.dst with
     | none => none
     | some d => some (some (d, want))
def wanted (r : Rg) (g : Option (Nat × Bool)) : Option Bool := match g with
 | none => some true
 | some (d, want) => if d < r.n then (match jah r.tm d with
   | .bool b => some (b == want)
   | .chan _ => none
   | _ => some false) else some false
theorem jg6 {ops : List Oper} {o : Oper} {g : Option (Nat × Bool)} (h : gOf ops o = some g) (r : Rg) : jca ops r o = wanted r g := by
 unfold gOf at h
 unfold jca
 split at h
 ·rename_i e; cases h; (try rw [e]); rfl
 ·rename_i j want e
  try rw [e]
  split at h
  ·cases h
  ·rename_i oj e2
   split at h
   ·cases h
   ·rename_i d e3
    cases h
    simp only [ayield, e2, e3, wanted]
    cases hb : Nat.blt d r.n with
    | true => rw [if_pos (by simpa using hb)] <;> rfl
    | false => rw [if_neg (fun hh => by rw [show Nat.blt d r.n = true from by simpa using hh] at hb; cases hb)]
def run2 (P : Program) (X callF : XT) (roundF : NT) : List (Oper × Option (Nat × Bool)) → Rg → Mem → Option (Rg × Mem)
 | [], r, μ => some (r, μ)
 | (o, g) :: rest, r, μ => match wanted r g with
   | none => none
   | some false => match aput r o.dst undef with
     | some r' => run2 P X callF roundF rest r' μ
     | none => none
   | some true => match aOne P X callF roundF r μ o with
     | none => none
     | some (v, μ') => match aput r o.dst v with
       | some r' => run2 P X callF roundF rest r' μ'
       | none => none
def gsOf (ops : List Oper) : List Oper → Option (List (Oper × Option (Nat × Bool)))
 | [] => some []
 | o :: rest => match gOf ops o with
   | none => none
   | some g => match gsOf ops rest with
     | none => none
     | some l => some ((o, g) :: l)
theorem aOps_run2 {callF : XT} {roundF : NT} (ops : List Oper) : ∀ (l : List Oper) (gs : List (Oper × Option (Nat × Bool))) (r : Rg) (μ : Mem), gsOf ops l = some gs →
  aOps P X callF roundF ops l r μ = run2 P X callF roundF gs r μ := by
 intro l
 induction l with
 | nil => intro gs r μ h; simp only [gsOf] at h; cases h; rfl
 | cons o rest ih =>
   intro gs r μ h
   simp only [gsOf] at h
   split at h
   ·cases h
   ·rename_i g hg
    split at h
    ·cases h
    ·rename_i l hl
     cases h
     simp only [aOps, run2, jg6 hg]
     cases wanted r g with
     | none => rfl
     | some b => cases b with
       | false =>
         simp only
         cases aput r o.dst undef with
         | none => rfl
         | some r' => exact ih l r' μ hl
       | true =>
         simp only
         cases aOne P X callF roundF r μ o with
         | none => rfl
         | some x =>
           obtain ⟨v, μ'⟩ := x
           simp only
           cases aput r o.dst v with
           | none => rfl
           | some r' => exact ih l r' μ' hl
theorem jbP {k id : Nat} {ops : Array Oper} {gs : List (Oper × Option (Nat × Bool))} {r : Rg} {μ : Mem} {Q : Ax → Rg → Mem → Prop} (hg : gsOf ops.toList ops.toList = some gs)
  (h : Ends (run2 P X (jbs P (jai P X S k) S) (jcm (jai P X S k)) gs r μ) (Q .normal)) : EndsC (jai P X S (k + 1) (.region id ops false) r μ) Q := by
 obtain ⟨r', μ', h1, h2⟩ := h
 refine ⟨.normal, r', μ', ?_, h2⟩
 simp only [jaA, jbB, jgU, aOps_run2 _ _ _ _ _ hg, h1]
def dRun (P : Program) (X callF : XT) (roundF : NT) (ms : List Nat) (base : Nat) :
  List (Nat × Oper × Option (Nat × Bool)) → Rg × Mem × List (Nat × Mem) → Option (Rg × Mem × List (Nat × Mem))
 | [], s => some s
 | (i, o, g) :: rest, s => match wanted s.1 g with
   | none => none
   | some false => match aput s.1 o.dst undef with
     | some r' => dRun P X callF roundF ms base rest (r', s.2)
     | none => none
   | some true => match jaV P X callF roundF ms base i o s.1 s.2.1 s.2.2 with
     | none => none
     | some (v, x) => match aput s.1 o.dst v with
       | some r' => dRun P X callF roundF ms base rest (r', x)
       | none => none
def dsOf (ops : List Oper) : List Nat → Option (List (Nat × Oper × Option (Nat × Bool)))
 | [] => some []
 | i :: rest => match ops[i]? with
   | none => none
   | some o => match gOf ops o with
     | none => none
     | some g => match dsOf ops rest with
       | none => none
       | some l => some ((i, o, g) :: l)
theorem jh8 {callF : XT} {roundF : NT} (ops : List Oper) (ms : List Nat) (base : Nat) : ∀ (l : List Nat) (ds : List (Nat × Oper × Option (Nat × Bool))) (s : Rg × Mem × List (Nat × Mem)), dsOf ops l = some ds →
  jcP P X callF roundF ops ms base l s = dRun P X callF roundF ms base ds s := by
 intro l
 induction l with
 | nil => intro ds s h; simp only [dsOf] at h; cases h; rfl
 | cons i rest ih =>
   intro ds s h
   simp only [dsOf] at h
   split at h
   ·cases h
   ·rename_i o ho
    split at h
    ·cases h
    ·rename_i g hg
     split at h
     ·cases h
     ·rename_i l hl
      cases h
      simp only [jcP, jcj, dRun, ho, jg6 hg]
      cases wanted s.1 g with
      | none => rfl
      | some b => cases b with
        | false =>
          simp only
          cases aput s.1 o.dst undef with
          | none => rfl
          | some r' => exact ih l (r', s.2) hl
        | true =>
          simp only
          cases jaV P X callF roundF ms base i o s.1 s.2.1 s.2.2 with
          | none => rfl
          | some x =>
            obtain ⟨v, y⟩ := x
            simp only
            cases aput s.1 o.dst v with
            | none => rfl
            | some r' => exact ih l (r', y) hl
def jk7 (x : Option (Rg × Mem × List (Nat × Mem))) (Q : Rg → Mem → Prop) : Prop := ∃ r μ sn, x = some (r, μ, sn) ∧ Q r μ
theorem jaK {r : Rg} {μ : Mem} {sn : List (Nat × Mem)} {Q : Rg → Mem → Prop} : jk7 (some (r, μ, sn)) Q = Q r μ := by
 apply propext
 constructor
 ·rintro ⟨r', μ', sn', h, hq⟩; cases h; exact hq
 ·intro h; exact ⟨r, μ, sn, rfl, h⟩
theorem jaY {k id n : Nat} {ops : Array Oper} {ms ord : List Nat} {ds : List (Nat × Oper × Option (Nat × Bool))} {r : Rg} {μ : Mem} {Q : Ax → Rg → Mem → Prop} (hd : drawOk ops.toList = true) (hm : masks ops.toList = ms) (ho : alap ops.toList = ord)
  (hds : dsOf ops.toList ord = some ds) (hn : ops.toList.length = n)
  (h : jk7 (dRun P X (jbs P (jai P X S k) S) (jcm (jai P X S k)) ms μ.next ds (r, ⟨μ.obs, μ.next + n⟩, [(n, ⟨μ.obs, μ.next + n⟩)])) (Q .normal)) : EndsC (jai P X S (k + 1) (.region id ops true) r μ) Q := by
 obtain ⟨r', μ', sn, h1, h2⟩ := h
 refine ⟨.normal, r', μ', ?_, h2⟩
 have e : jcP P X (jbs P (jai P X S k) S) (jcm (jai P X S k)) ops.toList (masks ops.toList) μ.next (alap ops.toList) (r, ⟨μ.obs, Nat.add μ.next ops.toList.length⟩, [(ops.toList.length, ⟨μ.obs, Nat.add μ.next ops.toList.length⟩)]) = some (r', μ', sn) := by
  rw [hm, ho, jh8 _ _ _ _ _ _ hds, hn]
  exact h1
 simp only [jaA, jbB, hd, e]
theorem ja5 {callF : XT} {roundF : NT} {ms : List Nat} {base i : Nat} {o : Oper} {g : Option (Nat × Bool)} {rest : List (Nat × Oper × Option (Nat × Bool))} {r r' : Rg} {μ μ' : Mem} {sn sn' : List (Nat × Mem)} {v : Value} {Q : Rg → Mem → Prop}
  (hw : wanted r g = some true) (h1 : jaV P X callF roundF ms base i o r μ sn = some (v, μ', sn')) (h2 : aput r o.dst v = some r') (h : jk7 (dRun P X callF roundF ms base rest (r', μ', sn')) Q) : jk7 (dRun P X callF roundF ms base ((i, o, g) :: rest) (r, μ, sn)) Q := by
 simp only [dRun, hw, h1, h2]; exact h
theorem ja0 {callF : XT} {roundF : NT} {ms : List Nat} {base i : Nat} {o : Oper} {g : Option (Nat × Bool)} {rest : List (Nat × Oper × Option (Nat × Bool))} {r r' : Rg} {μ : Mem} {sn : List (Nat × Mem)} {Q : Rg → Mem → Prop}
  (hw : wanted r g = some false) (h2 : aput r o.dst undef = some r') (h : jk7 (dRun P X callF roundF ms base rest (r', μ, sn)) Q) : jk7 (dRun P X callF roundF ms base ((i, o, g) :: rest) (r, μ, sn)) Q := by
 simp only [dRun, hw, h2]; exact h
theorem jfs {callF : XT} {g : FuncId} {fn : Func} {args : List Value} {μ : Mem} (hf : P.funcs[g]? = some fn) (hb : fn.body.isSome = true) : aGo P X callF g args μ = callF g args μ := by
 unfold aGo
 rw [hf]
 cases h : fn.body with
 | none => rw [h] at hb; cases hb
 | some c => simp only [h]
theorem call_body {ev : ET} {g : FuncId} {args : List Value} {μ : Mem} (hS : lkOf S g = none) : jbs P ev S g args μ = aFun P ev g args μ := by
 unfold jbs
 rw [hS]
def jdo : Code → List Code
 | .seq a b => jdo a ++ jdo b
 | .cond _ a b => jdo a ++ jdo b
 | .block _ c => jdo c
 | .scope c => jdo c
 | .loop c => c :: jdo c
 | _ => []
def jjD (fn : Func) (i : Nat) : Code := match fn.body with
 | some c => ((jdo c)[i]?).getD .skip
 | none => .skip
end
noncomputable section
variable {P : Program}
def one : Value → Bool
 | .agg _ => false
 | .tuple _ => false
 | .chan _ => false
 | _ => true
theorem jdl {v : Value} (h : one v = true) : jaS v = [v] := by cases v <;> first | rfl | cases h
theorem jdy {v : Value} (h : one v = true) : jfg v = true := by cases v <;> first | rfl | cases h
theorem jep {v : Value} (h : one v = true) : scalar v = true := by cases v <;> first | rfl | cases h
theorem jcM {ρ : Operand → Value} {t e : TypeId} {inf : TypeInfo} {z0 v : Value} {x : Operand} (hu : P.underlying t = some (.slice e)) (hi : P.info? e = some inf) (hsz : inf.size = 1) (hz : jaO P e = some z0) (hzl : one z0 = true) (hx : ρ x = v) (hv : one v = true) :
  jas P ρ t 1 #[(0, x)] = some (.cells 1 e #[v] .e 0 0 false false, fun id => .slice (some ⟨id, 0, none⟩) 1 2) := by
 unfold jas
 simp only [hu, hi, hsz, hz, jdl hzl]
 have e1 : jcC (fun i => some (Nat.mul i 1, 1)) (tile [z0] (Nat.mul 1 1)) (#[(0, x)].toList.map fun p => (p.1, ρ p.2)) = some [v] := by
  simp only [List.map_cons, List.map_nil, hx]
  unfold jcC
  simp only [jdl hv, jdy hv]
  rfl
 rw [e1]
 rfl
theorem jec {t e : TypeId} {inf : TypeInfo} {z0 : Value} (hu : P.underlying t = some (.slice e)) (hi : P.info? e = some inf) (hsz : inf.size = 1) (hz : jaO P e = some z0) (hzl : one z0 = true) (ρ : Operand → Value) (x : Operand) (hv : one (ρ x) = true) :
  jas P ρ t 1 #[(0, x)] = some (.cells 1 e #[ρ x] .e 0 0 false false, fun id => .slice (some ⟨id, 0, none⟩) 1 2) := jcM hu hi hsz hz hzl rfl hv
theorem jhi {t : TypeId} {inf : TypeInfo} {v : Value} {μ : Mem} {i o n te : Nat} {zero : Array Value} {over : T Value} {fx sh : Bool} (hi : P.info? t = some inf) (hsz : inf.size = 1) (hv : one v = true) (hob : μ.obs.get i = some (.cells n te zero over 0 0 fx sh)) (ho : o < n) :
  jbu P μ t (.pointer (some ⟨i, o, none⟩)) v = some (undef, ⟨μ.obs.set i (.cells n te zero (over.set o v) 0 0 fx sh), μ.next⟩) := by
 unfold jbu
 have e1 : jbL n 0 0 o 1 = true := by
  unfold jbL
  rw [show Nat.ble (Nat.add o 1) n = true from Nat.ble_eq_true_of_le (by show o + 1 ≤ n; omega)]
  rfl
 have e2 : scalars [v] = true := by simp only [scalars, jep hv]
 simp only [hob, jdy hv, hi, hsz, jdl hv, List.length_cons, List.length_nil, Nat.zero_add, e1, e2, T.lay]
theorem jkU (z : Array Value) (ov : T Value) (o k : Nat) (v : Value) : cellAt z (ov.set o v) k = if k = o then v else cellAt z ov k := by
 unfold cellAt
 rw [T.get_set]
 by_cases h : k = o
 ·rw [if_pos h, if_pos h]
 ·rw [if_neg h, if_neg h]
theorem jaF {ρ : Operand → Value} {t e : TypeId} {inf : TypeInfo} {x y : Operand} {i o n c m : Nat} {kd : IntKind} (hu : P.underlying t = some (.slice e)) (hi : P.info? e = some inf) (hsz : inf.size = 1) (hx : ρ x = .slice (some ⟨i, o, none⟩) n c) (hy : ρ y = .int kd (.ofNat m)) (hm : m < n) :
  jal P ρ t x y = some (.pointer (some ⟨i, o + m, none⟩)) := by
 unfold jal
 simp only [hx, hy, hu, aIdx, hi, hsz]
 rw [show Nat.blt m n = true from by simpa using hm]
 simp only [Addr.add, Nat.mul_eq, Nat.mul_one]
 by_cases h0 : m = 0
 ·subst h0; rfl
 ·rw [if_neg h0]
theorem jfY {ρ : Operand → Value} {t e : TypeId} {inf : TypeInfo} {x y : Operand} {a : Addr} {n c i : Nat} {kd : IntKind} (hu : P.underlying t = some (.slice e)) (hi : P.info? e = some inf) (hx : ρ x = .slice (some a) n (2 * c)) (hy : ρ y = .int kd (.ofNat i)) (hic : i ≤ c) :
  jaJ P ρ t x none (some y) none = some (.slice (some a) i (2 * c)) := by
 unfold jaJ
 have e1 : Nat.beq (Nat.mod (2 * c) 2) 0 = true := by rw [show Nat.mod (2 * c) 2 = 0 from Nat.mul_mod_right 2 c]; rfl
 have e2 : Nat.div (2 * c) 2 = c := by show 2 * c / 2 = c; omega
 have e3 : Nat.ble i c = true := Nat.ble_eq_true_of_le hic
 simp only [hx, hu, hi, e1, e2, ja2, jbl, hy, e3]
 have e4 : a.add (Nat.mul 0 inf.size) = a := by rw [show Nat.mul 0 inf.size = 0 from Nat.zero_mul _]; rfl
 cases Nat.beq c 0
 ·simp only [e4]; rfl
 ·rfl
theorem jhT {μ : Mem} {e : TypeId} {v : Value} {xs : List Value} (h : GoodSl μ e v xs) {i l c k : Nat} (hv : v = .slice (some ⟨i, 0, none⟩) l c) (hk : k < xs.length) : jad μ i k = some xs[k] := by
 rcases h with ⟨h1, h2⟩ | ⟨i', m, z, ov, fx, sh, c', h1, hob, hm, hc, _⟩
 ·subst h2; simp at hk
 ·rw [hv] at h1
  cases h1
  rw [jbw (n := m) (z := z) (ov := ov) (by rw [hob]; rfl) (by omega), hc k hk]
theorem jjJ {μ : Mem} {e : TypeId} {v : Value} {xs : List Value} (h : GoodSl μ e v xs) : ∃ a c, v = .slice a xs.length c ∧ (0 < xs.length → ∃ i, a = some ⟨i, 0, none⟩) := by
 rcases h with ⟨h1, h2⟩ | ⟨i', m, z, ov, fx, sh, c', h1, _⟩
 ·subst h2; exact ⟨none, 0, h1, fun h => by simp at h⟩
 ·exact ⟨_, _, h1, fun _ => ⟨_, rfl⟩⟩
theorem jkt (x : Array Value) : jfg (.agg x) = true := rfl
theorem jfc : ∀ (vs : List Value), vs.all one = true → scalars vs = true := by
 intro vs
 induction vs with
 | nil => intro _; rfl
 | cons v r ih => intro h; simp only [List.all_cons, Bool.and_eq_true] at h; simp only [scalars, jep h.1, ih h.2]
theorem jdv {t : TypeId} {inf : TypeInfo} {vs : List Value} {μ : Mem} {i o n te : Nat} {zero : Array Value} {over : T Value} {fx sh : Bool} (hi : P.info? t = some inf) (hsz : inf.size = vs.length) (hv : vs.all one = true) (hob : μ.obs.get i = some (.cells n te zero over 0 0 fx sh)) (ho : o + vs.length ≤ n) :
  jbu P μ t (.pointer (some ⟨i, o, none⟩)) (.agg vs.toArray) = some (undef, ⟨μ.obs.set i (.cells n te zero (over.lay o vs) 0 0 fx sh), μ.next⟩) := by
 unfold jbu
 have e1 : jbL n 0 0 o vs.length = true := by
  unfold jbL
  rw [show Nat.ble (Nat.add o vs.length) n = true from Nat.ble_eq_true_of_le ho]
  rfl
 have e3 : jaS (.agg vs.toArray) = vs := rfl
 have e4 : Nat.beq vs.length vs.length = true := by simp
 simp only [hob, jkt, hi, hsz, e3, e4, e1, jfc vs hv]
theorem jb7 {t : TypeId} {fields : Array Field} {inf : TypeInfo} {μ : Mem} {i o n : Nat} {z : Array Value} {ov : T Value} (hu : P.underlying t = some (.struct fields)) (hi : P.info? t = some inf) (hob : jbk (μ.obs.get i) = some (n, z, ov)) (ho : o + inf.size ≤ n) :
  jbZ P μ t (.pointer (some ⟨i, o, none⟩)) = some (.agg (jat z ov o inf.size).toArray) := by
 unfold jbZ
 simp only [hob, hu, hi]
 rw [show Nat.ble (Nat.add o inf.size) n = true from Nat.ble_eq_true_of_le ho]
theorem go_call {X : XT} {ev : ET} {S : List (FuncId × LK)} {g : FuncId} {fn : Func} (hf : P.funcs[g]? = some fn) (hb : fn.body.isSome = true) (hS : lkOf S g = none) (args : List Value) (μ : Mem) :
  aGo P X (jbs P ev S) g args μ = aFun P ev g args μ := (jfs hf hb).trans (call_body hS)
theorem jba {ρ : Operand → Value} {t : TypeId} {parts : Array (Nat × Operand)} {fields : Array Field} {z : Value} {pl : List (Nat × Nat)} {cs : List Value} (hz : jaO P t = some z) (hu : P.underlying t = some (.struct fields)) (hp : jcO P fields.toList = some pl)
  (hf : jcC (fun i => pl[i]?) (jaS z) (parts.toList.map fun p => (p.1, ρ p.2)) = some cs) : jbF P ρ t parts = some (.agg cs.toArray) := by
 unfold jbF
 simp only [hz, hu, hp, hf]
theorem jbK {place : Nat → Option (Nat × Nat)} {cs : List Value} {i off : Nat} {v : Value} {r : List (Nat × Value)} (hp : place i = some (off, 1)) (hv : one v = true) (ho : off < cs.length) :
  jcC place cs ((i, v) :: r) = jcC place (cs.set off v) r := by
 have e0 : setL cs off [v] = cs.set off v := by
  unfold setL
  show cs.take off ++ ([v] ++ cs.drop (off + 1)) = cs.set off v
  rw [List.set_eq_take_append_cons_drop, if_pos ho]
  rfl
 rw [jcC]
 simp only [hp, jdy hv, jdl hv, List.length_cons, List.length_nil, Nat.zero_add, e0]
 rw [show Nat.ble (Nat.add off 1) cs.length = true from Nat.ble_eq_true_of_le ho]
def domOk (run : List Value → Option (Value × Mem)) (f : List Value → Option Value) (dom : List (List Value)) : Bool := dom.all fun args => match f args with
 | none => true
 | some v => match run args with
   | some (v', _) => veq 5 v' v
   | none => false
theorem plain_dom {X : XT} (hN : jcQ P) (hX : XOk P X) (hm : P.follows .mixedOrders = true) {S : List (FuncId × LK)} (hS : SumsOk P S) {k : Nat} {g : FuncId} {nx : Nat} (hnx : P.globals.size < nx)
  (f : List Value → Option Value) (dom : List (List Value)) (hdom : ∀ args v, f args = some v → args ∈ dom) (h : domOk (fun args => aFun P (jai P X S k) g args ⟨.e, nx⟩) f dom = true) : KOk P g (.plain f) := by
 intro args v hf hp hv W n R hR
 have h2 := List.all_eq_true.1 h args (hdom args v hf)
 rw [hf] at h2
 simp only at h2
 split at h2
 ·rename_i v1 μ' hrun
  have hv1 : v1 = v := jfX 5 _ _ h2
  subst hv1
  have hnone : ∀ i b s, jbr nx i ≠ .at b s := fun i b s e => by unfold jbr at e; split at e <;> cases e
  have hr : Rel (jbr nx) ⟨.e, nx⟩ W := ⟨fun i j b s t e _ => absurd e (hnone _ _ _), fun i b s e => absurd e (hnone _ _ _), fun i hi => if_neg (Nat.not_lt.2 hi), fun i o ho _ => by simp [T.get_e] at ho⟩
  have hB : Base P (jbr nx) := ⟨fun g hg => .inr (if_pos (Nat.lt_trans hg hnx)), if_pos hnx⟩
  have ha : ARel (jbr nx) args.toArray args.toArray := ⟨rfl, fun i a b ha hb => by
   rw [ha] at hb; cases hb
   refine ja1 5 (List.all_eq_true.1 hp _ ?_)
   have := Array.mem_of_getElem? ha
   simpa using this⟩
  refine jhL (jiT hN hX hm hS k).1 g args _ v1 μ' hrun _ W _ hr hB ha n R fun J' v' w' h1 h2 h3 => ?_
  rw [jeW 5 hv h1]
  exact hR w' ⟨h3.os, h3.output, h3.size, fun b hb => h3.frame b hb (fun i s e => absurd e (hnone _ _ _)), h3.tape⟩
 ·cases h2
end
noncomputable section
variable {P : Program} {X : XT}
theorem jau {x : Option (Value × Mem)} {v : Value} {μ : Mem} (h : EndsF x fun v' μ' => v' = v ∧ μ' = μ) : x = some (v, μ) := by
 obtain ⟨v', μ', h1, rfl, rfl⟩ := h; exact h1
theorem q64 (m : Nat) (h : m < 9223372036854775808) : jak .i64 (.ofNat m) = .ofNat m := by
 unfold jak
 simp only
 rw [show Nat.blt m 9223372036854775808 = true from by simpa using h]
theorem qu64 (m : Nat) (h : m < 18446744073709551616) : jak .u64 (.ofNat m) = .ofNat m := by
 unfold jak
 simp only
 rw [show Nat.blt m 18446744073709551616 = true from by simpa using h]
theorem jaZ (a b : Nat) (h : b ≤ a) (h1 : a < 4611686018427387904) : jak .i64 (Int.sub (.ofNat a) (.ofNat b)) = .ofNat (a - b) := by
 rw [show Int.sub (.ofNat a) (.ofNat b) = .ofNat (a - b) from by show (a : Int) - (b : Int) = _; simp only [Int.ofNat_eq_natCast]; omega]
 exact q64 _ (by omega)
theorem jc7 (a b : Nat) (h : a * b < 4611686018427387904) : jak .i64 (Int.mul (.ofNat a) (.ofNat b)) = .ofNat (a * b) := q64 (a * b) (by omega)
def Grow (μ μ' : Mem) : Prop := μ.next ≤ μ'.next ∧ ∀ i, i < μ.next → μ'.obs.get i = μ.obs.get i
theorem Grow.refl (μ : Mem) : Grow μ μ := ⟨Nat.le_refl _, fun _ _ => rfl⟩
theorem Grow.trans {a b c : Mem} (h : Grow a b) (g : Grow b c) : Grow a c := ⟨Nat.le_trans h.1 g.1, fun i hi => (g.2 i (Nat.lt_of_lt_of_le hi h.1)).trans (h.2 i hi)⟩
theorem jbc (μ : Mem) (o1 : Ob) : Grow μ ⟨μ.obs.set μ.next o1, μ.next + 1⟩ := ⟨Nat.le_succ _, fun i hi => by show T.get _ i = _; rw [T.get_set, if_neg (by omega)]⟩
theorem jcu (μ : Mem) (d : Nat) : Grow μ ⟨μ.obs, μ.next + d⟩ := ⟨Nat.le_add_right _ _, fun _ _ => rfl⟩
def Blk (μ : Mem) (i n t : Nat) : Prop := ∃ z ov fx sh, μ.obs.get i = some (.cells n t z ov 0 0 fx sh)
def putL (μ : Mem) (i o : Nat) (vs : List Value) : Mem := match μ.obs.get i with
 | some (.cells n t z ov a b fx sh) => ⟨μ.obs.set i (.cells n t z (ov.lay o vs) a b fx sh), μ.next⟩
 | _ => μ
theorem jaE (μ : Mem) (i o : Nat) (vs : List Value) : (putL μ i o vs).next = μ.next := by
 unfold putL; split <;> rfl
theorem jaX (μ : Mem) (i o : Nat) (vs : List Value) {j : Nat} (h : j ≠ i) : (putL μ i o vs).obs.get j = μ.obs.get j := by
 unfold putL; split
 ·show T.get _ j = _; rw [T.get_set, if_neg h]
 ·rfl
theorem Blk.put {μ : Mem} {i j m s : Nat} (o : Nat) (vs : List Value) (g : Blk μ j m s) : Blk (putL μ i o vs) j m s := by
 by_cases e : j = i
 ·subst e
  obtain ⟨z, ov, fx, sh, hz⟩ := g
  refine ⟨z, ov.lay o vs, fx, sh, ?_⟩
  unfold putL; rw [hz]; show T.get _ j = _; rw [T.get_set, if_pos rfl]
 ·unfold Blk; rw [jaX _ _ _ _ e]; exact g
theorem jb9 (z : Array Value) (ov : T Value) (o k : Nat) (vs : List Value) : cellAt z (ov.lay o vs) k = if h : o ≤ k ∧ k < o + vs.length then vs[k - o]'(by omega) else cellAt z ov k := by
 unfold cellAt
 rw [T.get_lay]
 by_cases h : o ≤ k ∧ k < o + vs.length
 ·rw [if_pos h, dif_pos h, rzK (by omega)]
 ·rw [if_neg h, dif_neg h]
theorem jaP {μ : Mem} {i n t o j p : Nat} {vs : List Value} (h : Blk μ i n t) (ho : o + vs.length ≤ n) : jad (putL μ i o vs) j p = if h : j = i ∧ o ≤ p ∧ p < o + vs.length then some (vs[p - o]'(by omega)) else jad μ j p := by
 obtain ⟨z, ov, fx, sh, hz⟩ := h
 by_cases e : j = i
 ·subst e
  have e1 : jbk ((putL μ j o vs).obs.get j) = some (n, z, ov.lay o vs) := by
   unfold putL; rw [hz]; show jbk (T.get _ j) = _; rw [T.get_set, if_pos rfl]; rfl
  have e2 : jbk (μ.obs.get j) = some (n, z, ov) := by rw [hz]; rfl
  unfold jad
  rw [e1, e2]
  simp only
  rw [jb9]
  by_cases e3 : o ≤ p ∧ p < o + vs.length
  ·rw [dif_pos e3, dif_pos ⟨trivial, e3⟩, if_pos (by omega)]
  ·rw [dif_neg e3, dif_neg (fun x => e3 x.2)]
 ·rw [dif_neg (fun x => e x.1)]
  unfold jad; rw [jaX _ _ _ _ e]
theorem jfx {μ : Mem} {i o j p : Nat} {vs : List Value} (h : j ≠ i) : jad (putL μ i o vs) j p = jad μ j p := by
 unfold jad; rw [jaX _ _ _ _ h]
theorem jaW {t : TypeId} {inf : TypeInfo} {v : Value} {μ : Mem} {i o n te : Nat} (hi : P.info? t = some inf) (hsz : inf.size = 1) (hv : one v = true) (h : Blk μ i n te) (ho : o < n) :
  jbu P μ t (.pointer (some ⟨i, o, none⟩)) v = some (undef, putL μ i o [v]) := by
 obtain ⟨z, ov, fx, sh, hz⟩ := h
 rw [jhi hi hsz hv hz ho]
 unfold putL; rw [hz]; rfl
theorem jcR {t : TypeId} {inf : TypeInfo} {vs : List Value} {μ : Mem} {i o n te : Nat} (hi : P.info? t = some inf) (hsz : inf.size = vs.length) (hv : vs.all one = true) (h : Blk μ i n te) (ho : o + vs.length ≤ n) :
  jbu P μ t (.pointer (some ⟨i, o, none⟩)) (.agg vs.toArray) = some (undef, putL μ i o vs) := by
 obtain ⟨z, ov, fx, sh, hz⟩ := h
 rw [jdv (vs := vs) hi hsz hv hz ho]
 unfold putL; rw [hz]
theorem jdK {μ : Mem} {i n t a b o : Nat} {z : Array Value} {ov : T Value} {fx sh : Bool} {vs : List Value} (h : μ.obs.get i = some (.cells n t z ov a b fx sh)) : (putL μ i o vs).obs.get i = some (.cells n t z (ov.lay o vs) a b fx sh) := by
 unfold putL; rw [h]; show T.get _ _ = _; rw [T.get_set, if_pos rfl]
def Has (μ : Mem) (i o : Nat) (l : List Value) : Prop := ∃ n z ov, jbk (μ.obs.get i) = some (n, z, ov) ∧ o + l.length ≤ n ∧ ∀ k (h : k < l.length), cellAt z ov (o + k) = l[k]
theorem Has.cell {μ : Mem} {i o : Nat} {l : List Value} (h : Has μ i o l) (k : Nat) (hk : k < l.length) : jad μ i (o + k) = some l[k] := by
 obtain ⟨n, z, ov, h1, h2, h3⟩ := h
 unfold jad
 rw [h1]
 show (if o + k < n then _ else _) = _
 rw [if_pos (by omega), h3 k hk]
theorem Has.keep {μ μ' : Mem} {i o : Nat} {l : List Value} (h : Has μ i o l) (g : μ'.obs.get i = μ.obs.get i) : Has μ' i o l := by
 unfold Has; rw [g]; exact h
theorem Has.load {μ : Mem} {i o : Nat} {l : List Value} {t : TypeId} {fields : Array Field} {inf : TypeInfo} (h : Has μ i o l) (hu : P.underlying t = some (.struct fields)) (hi : P.info? t = some inf) (hl : inf.size = l.length) : jbZ P μ t (.pointer (some ⟨i, o, none⟩)) = some (.agg l.toArray) := by
 obtain ⟨n, z, ov, h1, h2, h3⟩ := h
 rw [jb7 hu hi h1 (by rw [hl]; exact h2), hl, jbe l.length o l rfl h3]
theorem Has.put {μ : Mem} {i o n t p j : Nat} {l vs : List Value} (h : Has μ i o l) (hb : Blk μ j n t) (hd : i ≠ j ∨ p + vs.length ≤ o ∨ o + l.length ≤ p) : Has (putL μ j p vs) i o l := by
 by_cases e : i = j
 ·subst e
  obtain ⟨z, ov, fx, sh, hz⟩ := hb
  obtain ⟨n', z', ov', h1, h2, h3⟩ := h
  rw [hz] at h1
  cases h1
  refine ⟨n, z, ov.lay p vs, by rw [jdK hz]; rfl, h2, fun k hk => ?_⟩
  rw [jb9, dif_neg (by omega)]
  exact h3 k hk
 ·exact h.keep (jaX _ _ _ _ e)
theorem Has.of_put {μ : Mem} {i o n t : Nat} {vs : List Value} (hb : Blk μ i n t) (ho : o + vs.length ≤ n) : Has (putL μ i o vs) i o vs := by
 obtain ⟨z, ov, fx, sh, hz⟩ := hb
 refine ⟨n, z, ov.lay o vs, by rw [jdK hz]; rfl, ho, fun k hk => ?_⟩
 rw [jb9, dif_pos ⟨by omega, by omega⟩]
 simp
theorem Has.new {μ : Mem} {i t : Nat} {fx sh : Bool} {l : List Value} (h : μ.obs.get i = some (.cells l.length t l.toArray .e 0 0 fx sh)) : Has μ i 0 l :=
 ⟨_, _, _, by rw [h]; rfl, by omega, fun k hk => by rw [Nat.zero_add]; exact ja3 l k hk⟩
theorem Has.part {μ : Mem} {i o : Nat} {l a b c : List Value} (h : Has μ i o l) (e : l = a ++ (b ++ c)) : Has μ i (o + a.length) b := by
 subst e
 obtain ⟨n, z, ov, h1, h2, h3⟩ := h
 refine ⟨n, z, ov, h1, by simp only [List.length_append] at h2; omega, fun k hk => ?_⟩
 have := h3 (a.length + k) (by simp only [List.length_append]; omega)
 rw [← Nat.add_assoc] at this
 rw [this]
 simp [hk]
theorem Has.set {μ : Mem} {i o k n t : Nat} {l : List Value} {v : Value} (h : Has μ i o l) (hb : Blk μ i n t) (hk : k < l.length) : Has (putL μ i (o + k) [v]) i o (l.set k v) := by
 obtain ⟨z, ov, fx, sh, hz⟩ := hb
 obtain ⟨n', z', ov', h1, h2, h3⟩ := h
 rw [hz] at h1
 cases h1
 refine ⟨n, z, ov.lay (o + k) [v], by rw [jdK hz]; rfl, by rw [List.length_set]; exact h2, fun j hj => ?_⟩
 rw [List.length_set] at hj
 rw [jb9, List.getElem_set]
 by_cases e : k = j
 ·subst e
  rw [if_pos rfl, dif_pos ⟨Nat.le_refl _, by show o + k < o + k + 1; omega⟩]
  simp
 ·rw [if_neg e, dif_neg (by rintro ⟨g1, g2⟩; simp only [List.length_cons, List.length_nil] at g2; omega)]
  exact h3 j hj
theorem Grow.put_new {a b : Mem} (h : Grow a b) {i o : Nat} {vs : List Value} (hi : a.next ≤ i) : Grow a (putL b i o vs) := ⟨by rw [jaE]; exact h.1, fun j hj => by rw [jaX _ _ _ _ (by omega)]; exact h.2 j hj⟩
theorem Blk.of_get {μ μ' : Mem} {i n t : Nat} (h : Blk μ i n t) (g : μ'.obs.get i = μ.obs.get i) : Blk μ' i n t := by unfold Blk; rw [g]; exact h
theorem box_one (t : TypeId) {v : Value} (h : one v = true) : aBox t v = some (.cells 1 t #[v] .e 0 0 false false, fun id => .pointer (some ⟨id, 0, none⟩)) := by
 unfold aBox
 rw [jdy h]
 simp only [jdl h]
 rfl
theorem jdp {ρ : Operand → Value} {t e : TypeId} {inf : TypeInfo} {x y : Operand} {i o n c m : Nat} {kd : IntKind} (hu : P.underlying t = some (.slice e)) (hi : P.info? e = some inf) (hx : ρ x = .slice (some ⟨i, o, none⟩) n c) (hy : ρ y = .int kd (.ofNat m)) (hm : m < n) :
  jal P ρ t x y = some (.pointer (some ⟨i, o + m * inf.size, none⟩)) := by
 unfold jal
 simp only [hx, hy, hu, aIdx, hi]
 rw [show Nat.blt m n = true from by simpa using hm]
 simp only [Addr.add, Nat.mul_eq]
 by_cases h0 : m * inf.size = 0
 ·rw [if_pos h0, h0]; rfl
 ·rw [if_neg h0]
end
end Go.Proofs.YtdmfakpngnlokaaGreatDoor.Ev
