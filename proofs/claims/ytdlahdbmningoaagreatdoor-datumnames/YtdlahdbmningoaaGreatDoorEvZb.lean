/-
  The evaluator, part Zb: functions without a body.
-/
import Derived.Test.YtdlahdbmningoaaGreatDoorEvZa
import Derived.Laws.Externs
import Derived.Lib.MakeNoZero
set_option linter.unusedSimpArgs false
set_option linter.unusedVariables false
namespace Go.Proofs.YtdlahdbmningoaaGreatDoor.Ev
variable {P : Program}

inductive XK where
  | f64bits
  | f64from
  | same
  | noZero (e : TypeId)

def XK.sem (k : XK) (fn : Func) : Array Value → Sem Value := match k with
  | .f64bits => Extern.MathFloatBits.float64bits
  | .f64from => Extern.MathFloatBits.float64frombits
  | .same => Extern.AbiNoEscape.same
  | .noZero _ => Extern.BytealgMakeNoZero.makeNoZero fn.params fn.resultTypes

def aK (k : XK) (args : List Value) (μ : Mem) : Option (Value × Mem) :=
  match k with
  | .f64bits => match args with
    | [.float .f64 b] => some (.int .u64 (Int.ofNat b), μ)
    | _ => none
  | .f64from => match args with
    | [.int .u64 (.ofNat n)] => some (.float .f64 n, μ)
    | _ => none
  | .same => match args with
    | [x] => some (x, μ)
    | _ => none
  | .noZero e => match args with
    | [.int .i64 (.ofNat n)] => match Nat.ble n 281474976710656 with
      | true => some (.slice (some ⟨μ.next, 0, none⟩) n 3, ⟨μ.obs.set μ.next (.cells n e #[.chan none] .e 0 0 true false), Nat.add μ.next 1⟩)
      | false => none
    | _ => none

def aExt (xs : List (FuncId × XK)) (g : FuncId) (args : List Value) (μ : Mem) : Option (Value × Mem) :=
  match xs.find? (fun x => Nat.beq x.1 g) with
  | none => none
  | some x => aK x.2 args μ

structure XRow (P : Program) (g : FuncId) (k : XK) (fn : Func) : Prop where
  row : P.funcs[g]? = some fn
  name : (fn.name == "runtime.NumGoroutine") = false
  body : fn.body.isNone = true
  next : Extern.findNext fn = none
  find : Extern.find fn = some (k.sem fn)
  ty : ∀ e, k = .noZero e → ∃ t, fn.resultTypes = #[t] ∧ P.underlying t = some (.slice e)

theorem args_one {J : Nat → Loc} {v : Value} {args' : Array Value} (h : ARel J [v].toArray args') : ∃ v', args' = #[v'] ∧ VRel J v v' := by
  have hs : args'.size = 1 := by simpa using h.size.symm
  refine ⟨args'[0], ?_, h.at_ 0 _ _ (by simp) (Array.getElem?_eq_getElem (by omega))⟩
  apply Array.ext
  · simp [hs]
  · intro i h1 h2
    have : i = 0 := by omega
    subst this
    rfl

theorem aExt_ok {xs : List (FuncId × XK)} (hx : ∀ x ∈ xs, ∃ fn, XRow P x.1 x.2 fn) : XOk P (aExt xs) := by
  intro g args μ v μ' fn hfn hb h J w args' hr ha
  unfold aExt at h
  split at h
  · cases h
  · rename_i x hf
    have hmem := List.mem_of_find?_eq_some hf
    have hg : x.1 = g := by
      have := List.find?_some hf
      exact Nat.eq_of_beq_eq_true this
    obtain ⟨fn', R⟩ := hx x hmem
    have hee : fn' = fn := by have := R.row; rw [hg, hfn] at this; cases this; rfl
    subst hee
    subst hg
    have hrun := fun (args' : Array Value) => run_callFunc_extern R.row R.name R.body R.next R.find args' w
    unfold aK at h
    split at h
    · rename_i hk
      split at h
      · cases h
        obtain ⟨v', rfl, hv⟩ := args_one ha
        cases hv
        exact ⟨J, _, w, by rw [hrun, hk]; rfl, .int _ _, hr, Step.refl _ _ _⟩
      · cases h
    · rename_i hk
      split at h
      · cases h
        obtain ⟨v', rfl, hv⟩ := args_one ha
        cases hv
        exact ⟨J, _, w, by rw [hrun, hk]; rfl, .float _ _, hr, Step.refl _ _ _⟩
      · cases h
    · rename_i hk
      split at h
      · cases h
        obtain ⟨v', rfl, hv⟩ := args_one ha
        exact ⟨J, v', w, by rw [hrun, hk]; rfl, hv, hr, Step.refl _ _ _⟩
      · cases h
    · rename_i e hk
      split at h
      · rename_i n
        split at h
        · rename_i hle
          cases h
          have hle' : n ≤ 281474976710656 := Nat.le_of_ble_eq_true hle
          obtain ⟨v', rfl, hv⟩ := args_one ha
          cases hv
          obtain ⟨t, ht, hu⟩ := R.ty e hk
          obtain ⟨cs, hcs, hn, _⟩ := Lib.run_makeNoZero (P := P) w fn'.params t e hu n hle'
          have hJ : J μ.next = .unborn := hr.fresh _ (Nat.le_refl _)
          have hr1 : Rel J μ w.drew.drew := hr.heap rfl
          have hob : ObRel (upd J μ.next (.at w.drew.drew.heap.size cs.size)) (w.drew.drew.alloc (.cells cs e)) w.drew.drew.heap.size cs.size (.cells n e #[.chan none] .e 0 0 true false) := by
            refine ⟨cs, (0, 0), heap_alloc_new _ _, rfl, hn, (fun h => by cases h), fun i hi => ⟨cs[i], Array.getElem?_eq_getElem (by omega), ?_⟩, .inl rfl⟩
            have : cellAt #[.chan none] T.e i = .chan none := by
              simp only [cellAt, T.get]
              have : Nat.mod i (#[Value.chan none] : Array Value).size = 0 := by show i % 1 = 0; omega
              rw [this]; rfl
            rw [this]
            exact .any _ _
          refine ⟨upd J μ.next (.at w.drew.drew.heap.size cs.size), .slice (some ⟨w.heap.size, 0, none⟩) n cs.size, w.drew.drew.alloc (.cells cs e), ?_, ?_, ?_, ?_⟩
          · rw [hrun, hk]
            simp only [XK.sem, ht]
            erw [hcs]
            rfl
          · exact .slice (upd_same _ _ _) (.inr ⟨rfl, hn, by show 0 + cs.size * (3 / 2) ≤ cs.size; omega⟩)
          · exact hr1.alloc cs.size _ _ hJ (Nat.lt_succ_self _) (Nat.le_succ _) hob
          · have st := Step.alloc hr1 (i := μ.next) (nx := μ.next + 1) cs.size (.cells n e #[.chan none] .e 0 0 true false) (.cells cs e) (Nat.le_refl _) (Nat.lt_succ_self _) (Nat.le_succ _)
            exact ⟨st.at_, st.dead, st.unborn, st.born, st.next, st.gone_, st.size, st.frame, st.os, st.tape, st.output⟩
        · cases h
      · cases h
end Go.Proofs.YtdlahdbmningoaaGreatDoor.Ev
