/-
  The evaluator, part S: an activation held against the walk's; operations read only their operands.
-/
import Derived.Test.YtnafmgiaifbhgaaGreatDoorEvR
import Derived.CallsIn
import Derived.Orders
set_option linter.unusedSimpArgs false
set_option linter.unusedVariables false
namespace Go.Proofs.YtnafmgiaifbhgaaGreatDoor.Ev
noncomputable section
variable {P : Program} {J : Nat → Loc}
section
variable {ρ τ : Operand → Value} {o : Oper}
theorem opsOf_sub {op : Op} {l : List Operand} (h : opsOf op = some l) : ∀ x ∈ l, x ∈ op.operands := by
 unfold opsOf at h
 split at h <;> first | (cases h; done) | skip
 all_goals
  cases h
  exact fun x hx => by simpa [Op.operands] using hx
theorem jgZ {l : List Operand} (h : ∀ x ∈ l, ρ x = τ x) : jbV ρ l = jbV τ l := by
 induction l with
 | nil => rfl
 | cons x l ih => simp only [jbV, h x (by simp)]; rw [ih fun y hy => h y (by simp [hy])]
theorem jhv (h : ∀ x ∈ o.op.operands, ρ x = τ x) : jaT P ρ o = jaT P τ o := by
 unfold jaT
 cases hl : opsOf o.op with
 | none => rfl
 | some l =>
   dsimp only
   rw [jgZ fun x hx => h x (opsOf_sub hl x hx), execOp_congr o (jg4 hl).1 h]
theorem aP_congr (h : ∀ x ∈ o.op.operands, ρ x = τ x) : aP P ρ o = aP P τ o := by
 have hpl := jhv (P := P) h
 obtain ⟨dst, op, type, pos, after, guard⟩ := o
 cases op with
 | makeFunc fn x y =>
   simp only [aP, jbK]
   rw [List.map_congr_left (l := x.toList) fun a ha => h a (by simp only [Op.operands, Array.mem_append]; exact .inl (by simpa using ha)),
    List.map_congr_left (l := y.toList) fun a ha => h a (by simp only [Op.operands, Array.mem_append]; exact .inr (by simpa using ha))]
 | build t ps =>
   simp only [aP, jcc]
   rw [List.map_congr_left (l := ps.toList) (g := fun p => (p.1, τ p.2)) fun a ha => by
    rw [h a.2 (by simp only [Op.operands, List.mem_toArray, List.mem_map]; exact ⟨a, ha, rfl⟩)]]
 | slice t x lo hi mx =>
   have hx : ρ x = τ x := h x (by simp [Op.operands])
   have h1 : ∀ y, lo = some y → ρ y = τ y := fun y e => h y (by simp [Op.operands, e])
   have h2 : ∀ y, hi = some y → ρ y = τ y := fun y e => h y (by simp [Op.operands, e])
   have h3 : ∀ y, mx = some y → ρ y = τ y := fun y e => h y (by simp [Op.operands, e])
   have hb : ∀ l c, jbp ρ l c lo hi mx = jbp τ l c lo hi mx := fun l c => by
    cases lo <;> cases hi <;> cases mx <;> simp_all [jbp, jb0]
   have hb' : ∀ l c, jbp ρ l c lo hi none = jbp τ l c lo hi none := fun l c => by
    cases lo <;> cases hi <;> simp_all [jbp, jb0]
   simp only [aP, jbg, hx, hb, hb', hpl]
 | call c =>
   cases hc : c.callee with
   | builtin b =>
     have ha : ∀ x ∈ c.args.toList, ρ x = τ x := fun x hx => h x (by simp only [Op.operands, Call.operands, hc]; simpa using hx)
     simp only [aP, hc]
     unfold jaa
     split <;> first
      | rfl
      | (split <;> first | rfl | (rename_i e _; rw [e] at ha; simp at ha; simp only [ha]) | (rename_i e; rw [e] at ha; simp at ha; simp only [ha]))
   | value f => simp only [aP, hc]
   | invoke a b => simp only [aP, hc]
 | typeAssert x a b c => simp only [aP, jgH, h x (by simp [Op.operands]), hpl]
 | binOp => simp [Op.operands] at h; simp only [aP, h, aBin, hpl]
 | unOp u t x => cases u with
   | not => simp [Op.operands] at h; simp only [aP, h]
   | _ => exact hpl
 | convert => simp [Op.operands] at h; simp only [aP, h, hpl]
 | _ => first
   | rfl
   | (simp [Op.operands] at h; simp only [aP, h, jaL, jas, aPick, jeg, jdu, jbv, jiW, ja3]; done)
theorem jeu {c : Call} (ho : o.op = .call c) (h : ∀ x ∈ o.op.operands, ρ x = τ x) : ∀ x ∈ c.args.toList, ρ x = τ x :=
 fun x hx => h x (by rw [ho]; simp only [Op.operands, Call.operands]; cases c.callee <;> simp <;> first | exact hx | (right; simpa using hx) | simpa using hx)
theorem aR_congr {μ : Mem} (h : ∀ x ∈ o.op.operands, ρ x = τ x) : aR P μ ρ o = aR P μ τ o := by
 cases ho : o.op with
 | call c =>
   have ha := jeu ho h
   simp only [aR, ho]
   cases c.callee with
   | builtin b => cases b <;> first | rfl | (dsimp only; split <;> first | rfl | (rename_i e _; rw [e] at ha; simp at ha; simp only [ha]))
   | _ => rfl
 | load => simp [ho, Op.operands] at h; simp only [aR, ho, h]
 | convert => simp [ho, Op.operands] at h; simp only [aR, ho, h]
 | lookup => simp [ho, Op.operands] at h; simp only [aR, ho, h]
 | binOp b => simp [ho, Op.operands] at h; cases b <;> simp only [aR, ho, h]
 | _ => simp only [aR, ho]
theorem aA_congr (h : ∀ x ∈ o.op.operands, ρ x = τ x) : aA P ρ o = aA P τ o := by
 obtain ⟨dst, op, type, pos, after, guard⟩ := o
 cases op with
 | box => simp [Op.operands] at h; simp only [aA, h]
 | convert => simp [Op.operands] at h; simp only [aA, h]
 | makeSlice => simp [Op.operands] at h; simp only [aA, h]
 | range => simp [Op.operands] at h; simp only [aA, h]
 | buildSlice t n ps =>
   simp only [aA, jbd]
   rw [List.map_congr_left (l := ps.toList) (g := fun p => (p.1, τ p.2)) fun a ha => by
    rw [h a.2 (by simp only [Op.operands, List.mem_toArray, List.mem_map]; exact ⟨a, ha, rfl⟩)]]
 | makeMap t r => cases r <;> rfl
 | _ => rfl
theorem aT_congr {μ : Mem} (h : ∀ x ∈ o.op.operands, ρ x = τ x) : aT P μ ρ o = aT P μ τ o := by
 cases ho : o.op with
 | call c =>
   have ha := jeu ho h
   simp only [aT, ho]
   cases c.callee with
   | builtin b =>
     cases b <;> first
      | rfl
      | (dsimp only; split <;> first | rfl | (rename_i e _; rw [e] at ha; simp at ha; simp only [ha]))
   | _ => rfl
 | store => simp [ho, Op.operands] at h; simp only [aT, ho, h]
 | convert => simp [ho, Op.operands] at h; simp only [aT, ho, h]
 | mapUpdate => simp [ho, Op.operands] at h; simp only [aT, ho, h]
 | insert => simp [ho, Op.operands] at h; simp only [aT, ho, h]
 | mapEntry => simp [ho, Op.operands] at h; simp only [aT, ho, h]
 | entryStore => simp [ho, Op.operands] at h; simp only [aT, ho, h]
 | next x b => simp [ho, Op.operands] at h; cases b <;> simp only [aT, ho, h]
 | _ => simp only [aT, ho]
theorem jim {X : FuncId → List Value → Mem → Option (Value × Mem)} {callF : FuncId → List Value → Mem → Option (Value × Mem)} {roundF : Nat → List Value → Mem → Option (Value × Mem)} {μ : Mem}
  (h : ∀ x ∈ o.op.operands, ρ x = τ x) : jew P X callF roundF ρ μ o = jew P X callF roundF τ μ o := by
 cases ho : o.op with
 | call c =>
   have ha := jeu ho h
   have hm : c.args.toList.map ρ = c.args.toList.map τ := List.map_congr_left ha
   simp only [jew, ho]
   cases hc : c.callee with
   | builtin b => rfl
   | value f => simp only [hm, h f (by rw [ho]; simp [Op.operands, Call.operands, hc])]
   | invoke rv nm => simp only [hm, h rv (by rw [ho]; simp [Op.operands, Call.operands, hc])]
 | _ => simp only [jew, ho]
end
def fen (rd : Option Nat) : Fence := { fn := fun _ => True, depth := none, alive := false, round := rd }
def Lives (J : Nat → Loc) (i b : Nat) : Prop := (∃ s, J i = .at b s) ∨ J i = .dead
theorem Lives.mono {J J' : Nat → Loc} (he : Ext J J') {i b : Nat} (h : Lives J i b) : Lives J' i b := by
 rcases h with ⟨s, h⟩ | h
 ·rcases he.at_ _ _ _ h with h | h
  ·exact .inl ⟨s, h⟩
  ·exact .inr h
 ·exact .inr (he.dead _ h)
structure Base (P : Program) (J : Nat → Loc) : Prop where
 glob : ∀ g, g < P.globals.size → Lives J g g
 stop : J P.globals.size = .dead
theorem Base.mono {J' : Nat → Loc} (h : Base P J) (he : Ext J J') : Base P J' := ⟨fun g hg => (h.glob g hg).mono he, he.dead _ h.stop⟩
inductive Marks (J : Nat → Loc) : List Nat → List Deferred → Prop where
 | nil : Marks J [] []
 | cons {i b : Nat} {is : List Nat} {ds : List Deferred} (h : Lives J i b) (t : Marks J is ds) : Marks J (i :: is) ({ target := .collected b, args := #[] } :: ds)
theorem Marks.mono {J J' : Nat → Loc} (he : Ext J J') {is : List Nat} {ds : List Deferred} (h : Marks J is ds) : Marks J' is ds := by
 induction h with
 | nil => exact .nil
 | cons h _ ih => exact .cons (h.mono he) ih
inductive RdRel (J : Nat → Loc) : Option Nat → Option Nat → Prop where
 | none : RdRel J none none
 | some {l b : Nat} (h : Lives J l b) : RdRel J (some l) (some b)
theorem RdRel.mono {J J' : Nat → Loc} (he : Ext J J') {l b : Option Nat} (h : RdRel J l b) : RdRel J' l b := by
 cases h with
 | none => exact .none
 | some h => exact .some (h.mono he)
structure RgRel (J : Nat → Loc) (rd : Option Nat) (r : Rg) (a : Act) : Prop where
 size : a.tmps.size = r.n
 regs : ∀ d, VRel J (jam r.tm d) (a.tmps.getD d undef)
 ds : Marks J r.ds a.defers
 rd : RdRel J r.rd rd
theorem RgRel.mono {J J' : Nat → Loc} (he : Ext J J') {rd : Option Nat} {r : Rg} {a : Act} (h : RgRel J rd r a) : RgRel J' rd r a :=
 ⟨h.size, fun d => (h.regs d).mono he, h.ds.mono he, h.rd.mono he⟩
theorem jgx (hB : Base P J) {r : Rg} {a : Act} {x : Operand} (h : ∀ d, x = .tmp d → VRel J (jam r.tm d) (a.tmps.getD d undef)) : VRel J (aev P r x) (a.eval x) := by
 cases x with
 | tmp t => exact h t rfl
 | const v =>
   simp only [aev, Act.eval]
   split
   ·rename_i e; exact jbr 5 e
   ·exact .any _ _
 | global g =>
   simp only [aev, Act.eval]
   split
   ·rename_i e
    have e' : g < P.globals.size := by simpa using e
    rcases hB.glob g e' with ⟨s, hs⟩ | hs
    ·exact .ptr hs
    ·exact .ptrDead _ hs
   ·exact .any _ _
 | func f => exact .func (.func f) rfl (fun i a b ha => by simp at ha) rfl (fun i a b ha => by simp at ha)
theorem jcM {tm : T Value} {d e : Nat} {v : Value} : jam (tm.set d v) e = if e = d then v else jam tm e := by
 simp only [jam, T.get_set]
 by_cases h : e = d
 ·simp [h]
 ·simp [h]
theorem put_rel {r r' : Rg} {a : Act} {d : Option Nat} {v v' : Value} (hs : a.tmps.size = r.n) (hp : aput r d v = some r') :
  (a.put d v').tmps.size = r'.n ∧ r'.n = r.n ∧ r'.ds = r.ds ∧ r'.rd = r.rd ∧ (a.put d v').defers = a.defers ∧
  ∀ e, (d = some e ∧ jam r'.tm e = v ∧ (a.put d v').tmps.getD e undef = v') ∨ (d ≠ some e ∧ jam r'.tm e = jam r.tm e ∧ (a.put d v').tmps.getD e undef = a.tmps.getD e undef) := by
 unfold aput at hp
 cases d with
 | none => cases hp; exact ⟨hs, rfl, rfl, rfl, rfl, fun e => .inr ⟨by simp, rfl, rfl⟩⟩
 | some d =>
   simp only at hp
   split at hp
   ·rename_i hd
    have hd' : d < r.n := by simpa using hd
    cases hp
    refine ⟨by simp [Act.put, hs], rfl, rfl, rfl, rfl, fun e => ?_⟩
    by_cases he : e = d
    ·subst he
     refine .inl ⟨rfl, by simp [jcM], ?_⟩
     simp [Act.put, Array.getD, hs, hd']
    ·refine .inr ⟨by simp; exact fun h => he h.symm, by simp [jcM, he], ?_⟩
     simp only [Act.put, Array.getD_eq_getD_getElem?, Array.getElem?_setIfInBounds]
     rw [if_neg (fun h => he h.symm)]
   ·cases hp
theorem RgRel.put {rd : Option Nat} {r r' : Rg} {a : Act} {d : Option Nat} {v v' : Value} (h : RgRel J rd r a) (hp : aput r d v = some r') (hv : VRel J v v') : RgRel J rd r' (a.put d v') := by
 obtain ⟨h1, h2, h3, h4, h5, h6⟩ := put_rel (v' := v') h.size hp
 refine ⟨h1, fun e => ?_, by rw [h3, h5]; exact h.ds, by rw [h4]; exact h.rd⟩
 rcases h6 e with ⟨_, e1, e2⟩ | ⟨_, e1, e2⟩
 ·rw [e1, e2]; exact hv
 ·rw [e1, e2]; exact h.regs e
theorem jei {ops : Array Oper} {r : Rg} {a : Act} {o : Oper} {b : Bool} (hs : a.tmps.size = r.n)
  (h : ∀ j w oj d, o.guard = some (j, w) → ops[j]? = some oj → oj.dst = some d → VRel J (jam r.tm d) (a.tmps.getD d undef)) (hw : jcp ops.toList r o = some b) :
  Region.wanted o (yielded ops a.tmps) = b := by
 unfold jcp at hw
 unfold Region.wanted
 split at hw
 ·rename_i e; cases hw; rw [e]
 ·rename_i j want e
  rw [e]
  dsimp only
  unfold ayield at hw
  unfold yielded
  rw [Array.getElem?_toList] at hw
  cases hj : ops[j]? with
  | none => rw [hj] at hw; cases hw; simp
  | some oj =>
    rw [hj] at hw
    simp only [Option.bind_some] at hw ⊢
    cases hd : oj.dst with
    | none => rw [hd] at hw; cases hw; simp
    | some d =>
      rw [hd] at hw
      simp only [Option.bind_some] at hw ⊢
      split at hw
      ·rename_i hlt
       cases hw
       have hlt' : ¬ d < r.n := fun hh => by rw [show Nat.blt d r.n = true from by simpa using hh] at hlt; cases hlt
       rw [Array.getElem?_eq_none (by rw [hs]; exact Nat.le_of_not_lt hlt')]
       simp
      ·rename_i hlt
       have hlt' : d < r.n := by simpa using hlt
       have hrel := h j want oj d e hj hd
       have hget : a.tmps[d]? = some (a.tmps.getD d undef) := by rw [Array.getElem?_eq_getElem (by rw [hs]; exact hlt')]; simp [Array.getD, hs, hlt']
       rw [hget]
       generalize jam r.tm d = va at hw hrel
       generalize a.tmps.getD d undef = vc at hrel ⊢
       split at hw
       ·cases hrel; cases hw
        rename_i b' ; cases b' <;> cases want <;> rfl
       ·cases hw
       ·rename_i h1 h2
        cases hw
        cases hrel <;> first
         | rfl
         | exact absurd rfl (h1 _)
         | exact absurd rfl (h2 _)
end
end Go.Proofs.YtnafmgiaifbhgaaGreatDoor.Ev
